/-
  Ranging over a map that is known whole: the iterator in memory ('It': which entries have come), its step, whatever order is drawn. Nothing of the program in it.
-/
import Derived.Test.YtckkccnebjacdaaGreatMgOwn
import Derived.Maps.RangeRun
namespace Go.Proofs.YtckkccnebjacdaaGreat
open Go.RowKit
open Go.ChangeMaps (setBlock)
set_option linter.unusedVariables false
set_option linter.unusedSimpArgs false
set_option linter.unusedSectionVars false
set_option maxRecDepth 100000

section
variable {K V : Type}
/-- An iterator (block r) over the map m, that holds l: 'done' has come. -/
def It (w : World) (r m : Nat) (ek : K → Value) (ev : V → Value) (l done : List (K × V)) : Prop :=
  ∃ (es : Array MapEntry) (clock since : Nat) (seen : Array Nat) (c0 : Nat), w.heap[r]? = some (.mapIter (some m) since seen c0) ∧ w.heap[m]? = some (.map es clock) ∧ es.toList.map (fun e => (e.key, e.val)) = l.map (fun p => (ek p.1, ev p.2)) ∧
    (∀ e ∈ es.toList, e.born < since) ∧ since ≤ c0 ∧ since ≤ clock ∧ (es.toList.map (·.born)).Nodup ∧ (l.map (·.1)).Nodup ∧
    (∀ (i : Nat) (x : MapEntry) (p : K × V), es.toList[i]? = some x → l[i]? = some p → (seen.contains x.born = true ↔ p ∈ done)) ∧ (∀ p ∈ done, p ∈ l) ∧ (done.map (·.1)).Nodup ∧ seen.size = done.length
variable {w w' : World} {r m : Nat} {ek : K → Value} {ev : V → Value} {l done : List (K × V)}
theorem It.kept {F : Nat → Prop} (h : It w r m ek ev l done) (f : Fr F w w') (h1 : ¬ F r) (h2 : ¬ F m) : It w' r m ek ev l done := by
  obtain ⟨es, clock, since, seen, c0, hr, hm, q⟩ := h
  exact ⟨es, clock, since, seen, c0, (f.block r (Array.getElem?_eq_some_iff.1 hr).1 h1).trans hr, (f.block m (Array.getElem?_eq_some_iff.1 hm).1 h2).trans hm, q⟩
theorem It.lt (h : It w r m ek ev l done) : r < w.heap.size ∧ m < w.heap.size := by
  obtain ⟨es, clock, since, seen, c0, hr, hm, q⟩ := h
  exact ⟨(Array.getElem?_eq_some_iff.1 hr).1, (Array.getElem?_eq_some_iff.1 hm).1⟩
theorem It.sub (h : It w r m ek ev l done) : ∀ p ∈ done, p ∈ l := by
  obtain ⟨es, clock, since, seen, c0, hr, hm, _, _, _, _, _, _, _, q, _⟩ := h; exact q
theorem It.nodup (h : It w r m ek ev l done) : (done.map (·.1)).Nodup := by
  obtain ⟨es, clock, since, seen, c0, hr, hm, _, _, _, _, _, _, _, _, q, _⟩ := h; exact q
theorem It.count (h : It w r m ek ev l done) : (w.iterSeen r).size = done.length := by
  obtain ⟨es, clock, since, seen, c0, hr, hm, _, _, _, _, _, _, _, _, _, q⟩ := h
  unfold World.iterSeen; rw [hr]; exact q
theorem It.len [DecidableEq K] (h : It w r m ek ev l done) : done.length ≤ l.length := by
  have h1 := h.nodup
  have h2 := h.sub
  have : (done.map (·.1)).length ≤ (l.map (·.1)).length := h1.length_le_of_subset (fun k hk => by
    obtain ⟨p, hp, rfl⟩ := List.mem_map.1 hk
    exact List.mem_map_of_mem (h2 p hp))
  simpa using this
/-- 'range m'. -/
theorem It.start (h : MapAt w m ek ev l) : It (w.alloc (.mapIter (some m) (Classical.choose (Classical.choose_spec h)) #[] (Classical.choose (Classical.choose_spec h)))) w.heap.size m ek ev l [] := by
  have q := Classical.choose_spec (Classical.choose_spec h)
  generalize Classical.choose (Classical.choose_spec h) = clock at q ⊢
  generalize Classical.choose h = es at q
  obtain ⟨hb, hkv, hborn, hnd, hkn⟩ := q
  exact ⟨es, clock, clock, #[], clock, heap_alloc_new w _, (heap_alloc_old w _ (Array.getElem?_eq_some_iff.1 hb).1).trans hb, hkv, hborn, Nat.le_refl _, Nat.le_refl _, hnd, hkn, fun i x p _ _ => by simp, fun p hp => by simp at hp, List.nodup_nil, rfl⟩
theorem run_range_at {P : Program} {t kt et : TypeId} (h : MapAt w m ek ev l) (ht : P.underlying t = some (.map kt et)) : ∃ o, (Instr.range t (.map (some m))).run P w = .ok (.pointer (some ⟨w.heap.size, 0, none⟩)) (w.alloc o) ∧ It (w.alloc o) w.heap.size m ek ev l [] := by
  have q := Classical.choose_spec (Classical.choose_spec h)
  exact ⟨_, run_range_map w t kt et m _ _ ht q.1, It.start h⟩
theorem Fr.setBlock (F : Nat → Prop) (w : World) (b : Nat) (o : Obj) (h : b < w.heap.size → F b) : Fr F w (setBlock w b o) := by
  refine ⟨rfl, rfl, rfl, by simp [Go.ChangeMaps.setBlock], fun k hk hn => ?_⟩
  show (w.heap.setIfInBounds b o)[k]? = _
  rw [Array.getElem?_setIfInBounds, if_neg (fun e => hn (by subst e; exact h hk))]
/-- The step. -/
theorem It.next {P : Program} (h : It w r m ek ev l done) (hrm : r ≠ m) :
    ((∀ p ∈ l, p ∈ done) ∧ ∀ ty, (Instr.next (.pointer (some ⟨r, 0, none⟩)) false ty).run P w = .ok (.tuple #[.bool false]) w) ∨
    ∃ p w', p ∈ l ∧ p ∉ done ∧ (∀ ty, (Instr.next (.pointer (some ⟨r, 0, none⟩)) false ty).run P w = .ok (.tuple #[.bool true, ek p.1, ev p.2]) w') ∧ It w' r m ek ev l (done ++ [p]) ∧ Fr (one r) w w' ∧ (Instr.entry (.pointer (some ⟨r, 0, none⟩))).run P w' = .ok (.tuple #[ek p.1, ev p.2]) w' := by
  obtain ⟨es, clock, since, seen, c0, hr, hm, hkv, hborn, hsc, hsk, hnd, hkn, hseen, hsub, hdn, hsz⟩ := h
  have hlen : es.toList.length = l.length := by have := congrArg List.length hkv; simpa using this
  rcases run_next_at (P := P) w 0 r m since c0 seen es clock hr hm hborn hsc with ⟨h0, hrun⟩ | ⟨e, he, w1, hw1, hrun⟩
  · left
    refine ⟨fun p hp => ?_, fun _ => hrun⟩
    obtain ⟨i, hi⟩ := List.getElem?_of_mem hp
    have hil : i < l.length := (List.getElem?_eq_some_iff.1 hi).1
    have hx : es.toList[i]? = some (es.toList[i]'(by omega)) := List.getElem?_eq_getElem _
    exact (hseen i _ p hx hi).1 (all_seen es seen h0 _ (List.mem_of_getElem? hx))
  · right
    obtain ⟨hem, hns⟩ := mem_left he
    obtain ⟨i, hi⟩ := List.getElem?_of_mem hem
    have hil : i < l.length := by rw [← hlen]; exact (List.getElem?_eq_some_iff.1 hi).1
    have hp : l[i]? = some (l[i]'hil) := List.getElem?_eq_getElem _
    generalize l[i]'hil = p at hp
    have hkp : (e.key, e.val) = (ek p.1, ev p.2) := by
      have h1 : (es.toList.map (fun e => (e.key, e.val)))[i]? = some (e.key, e.val) := by rw [List.getElem?_map, hi]; rfl
      rw [hkv, List.getElem?_map, hp] at h1
      exact (Option.some.inj h1).symm
    have hk : e.key = ek p.1 := (Prod.mk.inj hkp).1
    have hv : e.val = ev p.2 := (Prod.mk.inj hkp).2
    have hpd : p ∉ done := fun q => by
      have := (hseen i e p hi hp).2 q
      rw [hns] at this; cases this
    have hr1 : r < w1.heap.size := by
      have := (Array.getElem?_eq_some_iff.1 hr).1
      rcases hw1 with rfl | rfl <;> exact this
    have hf1 : Fr (one r) w w1 := by rcases hw1 with rfl | rfl; exact Fr.refl _ _; exact Fr.drew _ _
    have hf : Fr (one r) w (setBlock w1 r (.mapIter (some m) since (seen.push e.born) clock)) := hf1.trans (Fr.setBlock _ _ _ _ (fun _ => rfl))
    have hr' : (setBlock w1 r (.mapIter (some m) since (seen.push e.born) clock)).heap[r]? = some (.mapIter (some m) since (seen.push e.born) clock) := by
      show (w1.heap.setIfInBounds r _)[r]? = _
      rw [Array.getElem?_setIfInBounds, if_pos rfl, if_pos hr1]
    have hm' : (setBlock w1 r (.mapIter (some m) since (seen.push e.born) clock)).heap[m]? = some (.map es clock) := (hf.block m (Array.getElem?_eq_some_iff.1 hm).1 (fun q => hrm q.symm)).trans hm
    refine ⟨p, _, List.mem_of_getElem? hp, hpd, fun ty => by rw [← hk, ← hv]; exact hrun, ⟨es, clock, since, seen.push e.born, clock, hr', hm', hkv, hborn, hsk, hsk, hnd, hkn, fun j x q hx hq => ?_, fun q hq => ?_, ?_, by rw [Array.size_push, List.length_append, hsz]; rfl⟩, hf, ?_⟩
    · rw [contains_push]
      have hb : (x.born == e.born) = true ↔ q = p := by
        constructor
        · intro hb
          have hxe : x = e := born_inj hnd (List.mem_of_getElem? hx) hem (by simpa using hb)
          subst hxe
          have hij : i = j := by
            have hnn : es.toList.Nodup := List.Pairwise.of_map (S := (· ≠ ·)) (f := (·.born)) (fun a b h e => h (by rw [e])) hnd
            exact (List.getElem?_inj (by rw [hlen]; exact hil) hnn).1 (hi.trans hx.symm)
          subst hij
          rw [hp] at hq; exact (Option.some.inj hq).symm
        · intro hq'
          subst hq'
          have hll : l.Nodup := List.Pairwise.of_map (S := (· ≠ ·)) (f := (·.1)) (fun a b h e => h (by rw [e])) hkn
          have hij : i = j := (List.getElem?_inj hil hll).1 (hp.trans hq.symm)
          subst hij
          rw [hi] at hx; cases hx
          simp
      rw [Bool.or_eq_true, hb, hseen j x q hx hq, List.mem_append, List.mem_singleton]
    · rcases List.mem_append.1 hq with q' | q'
      · exact hsub q q'
      · rw [List.mem_singleton] at q'; subst q'; exact List.mem_of_getElem? hp
    · rw [List.map_append, List.nodup_append]
      refine ⟨hdn, by simp, fun a ha b hb e => ?_⟩
      simp at hb
      subst hb
      obtain ⟨q, hq, hqa⟩ := List.mem_map.1 ha
      have h1 := hsub q hq
      have : q = p := by
        obtain ⟨j, hj⟩ := List.getElem?_of_mem h1
        have hjl : j < l.length := (List.getElem?_eq_some_iff.1 hj).1
        have e1 : (l.map (·.1))[j]? = some q.1 := by rw [List.getElem?_map, hj]; rfl
        have e2 : (l.map (·.1))[i]? = some p.1 := by rw [List.getElem?_map, hp]; rfl
        have hij : j = i := (List.getElem?_inj (by simpa using hjl) hkn).1 (by rw [e1, e2, hqa, e])
        subst hij
        rw [hj] at hp; exact Option.some.inj hp
      subst this
      exact hpd hq
    · have := run_entry_at (P := P) _ r m since seen es clock e hr' hm' hem hnd
      rw [this, hk, hv]
end
end Go.Proofs.YtckkccnebjacdaaGreat
