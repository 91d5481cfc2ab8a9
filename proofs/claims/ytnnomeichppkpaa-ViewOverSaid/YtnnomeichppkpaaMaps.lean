/-
  What Go does to a map that is known whole ('MapAt'): look-up, store, delete, length; keys that are integers. Nothing of the program in it.
-/
import Derived.Test.YtnnomeichppkpaaOwn
import Derived.Maps.OwnSet
namespace Go.Proofs.Ytnnomeichppkpaa
open Go.RowKit
set_option linter.unusedSectionVars false
set_option linter.unusedVariables false
set_option linter.unusedSimpArgs false

section plain
variable {K V : Type} [DecidableEq K]
theorem kvGet_nil (k : K) : kvGet ([] : List (K × V)) k = none := rfl
theorem kvGet_cons (p : K × V) (r : List (K × V)) (k : K) : kvGet (p :: r) k = if p.1 = k then some p.2 else kvGet r k := by
  unfold kvGet
  rw [List.find?_cons]
  by_cases h : p.1 = k <;> simp [h]
theorem kvGet_put (l : List (K × V)) (k : K) (v : V) (x : K) : kvGet (kvPut l k v) x = if k = x then some v else kvGet l x := by
  induction l with
  | nil => simp [kvPut, kvGet_cons, kvGet_nil]
  | cons p r ih =>
    unfold kvPut
    by_cases h : p.1 = k
    · rw [if_pos h, kvGet_cons, kvGet_cons]
      by_cases e : k = x
      · simp [e]
      · have e' : p.1 ≠ x := fun q => e (h.symm.trans q)
        simp [e, e']
    · rw [if_neg h, kvGet_cons, kvGet_cons, ih]
      by_cases e : p.1 = x
      · have : k ≠ x := fun q => h (e.trans q.symm)
        simp [e, this]
      · simp [e]
theorem kvGet_del (l : List (K × V)) (k x : K) : kvGet (kvDel l k) x = if k = x then none else kvGet l x := by
  induction l with
  | nil => simp [kvDel, kvGet_nil]
  | cons p r ih =>
    unfold kvDel at ih ⊢
    by_cases h : p.1 = k
    · have hf : List.filter (fun p : K × V => decide (p.1 ≠ k)) (p :: r) = List.filter (fun p : K × V => decide (p.1 ≠ k)) r := by simp [h]
      rw [hf, ih, kvGet_cons]
      by_cases e : k = x
      · simp [e]
      · have e' : p.1 ≠ x := fun q => e (h.symm.trans q)
        simp [e, e']
    · have hf : List.filter (fun p : K × V => decide (p.1 ≠ k)) (p :: r) = p :: List.filter (fun p : K × V => decide (p.1 ≠ k)) r := by simp [h]
      rw [hf, kvGet_cons, kvGet_cons, ih]
      by_cases e : p.1 = x
      · have : k ≠ x := fun q => h (e.trans q.symm)
        simp [e, this]
      · simp [e]
theorem kvPut_keys (l : List (K × V)) (k : K) (v : V) : (kvPut l k v).map (·.1) = if (kvGet l k).isSome then l.map (·.1) else l.map (·.1) ++ [k] := by
  induction l with
  | nil => simp [kvPut, kvGet_nil]
  | cons p r ih =>
    unfold kvPut
    rw [kvGet_cons]
    by_cases h : p.1 = k
    · simp [h]
    · simp only [if_neg h, List.map_cons, ih]
      split <;> simp
theorem kvGet_none {l : List (K × V)} {k : K} : kvGet l k = none ↔ k ∉ l.map (·.1) := by
  induction l with
  | nil => simp [kvGet_nil]
  | cons p r ih =>
    rw [kvGet_cons]
    by_cases h : p.1 = k
    · simp [h]
    · simp only [if_neg h, ih, List.map_cons, List.mem_cons, not_or]
      exact ⟨fun q => ⟨fun e => h e.symm, q⟩, fun q => q.2⟩
theorem kvPut_length (l : List (K × V)) (k : K) (v : V) : (kvPut l k v).length = if (kvGet l k).isSome then l.length else l.length + 1 := by
  have h := congrArg List.length (kvPut_keys l k v)
  rw [List.length_map] at h
  rw [h]; split <;> simp
theorem kvPut_nodup {l : List (K × V)} (h : (l.map (·.1)).Nodup) (k : K) (v : V) : ((kvPut l k v).map (·.1)).Nodup := by
  rw [kvPut_keys]
  split
  · exact h
  · rename_i hn
    have hk : k ∉ l.map (·.1) := kvGet_none.1 (by simpa using hn)
    rw [List.nodup_append]
    refine ⟨h, by simp, ?_⟩
    intro a ha b hb e
    simp only [List.mem_singleton] at hb
    exact hk (hb ▸ e ▸ ha)
theorem kvDel_nodup {l : List (K × V)} (h : (l.map (·.1)).Nodup) (k : K) : ((kvDel l k).map (·.1)).Nodup := by
  have hs : ((kvDel l k).map (·.1)).Sublist (l.map (·.1)) := (List.filter_sublist (l := l)).map _
  exact hs.nodup h
theorem kvDel_length {l : List (K × V)} (h : (l.map (·.1)).Nodup) (k : K) : (kvDel l k).length = if (kvGet l k).isSome then l.length - 1 else l.length := by
  induction l with
  | nil => simp [kvDel, kvGet_nil]
  | cons p r ih =>
    simp only [List.map_cons, List.nodup_cons] at h
    have ih := ih h.2
    rw [kvGet_cons]
    unfold kvDel at ih ⊢
    by_cases e : p.1 = k
    · have hk : kvGet r k = none := kvGet_none.2 (e ▸ h.1)
      rw [hk] at ih
      simp [e] at ih ⊢
      exact ih
    · rw [if_neg e, List.filter_cons, if_pos (by simpa using e), List.length_cons, ih, List.length_cons]
      by_cases hs : (kvGet r k).isSome = true
      · have : r.length ≠ 0 := by
          intro h0
          have : r = [] := List.eq_nil_of_length_eq_zero h0
          rw [this] at hs; simp [kvGet_nil] at hs
        rw [if_pos hs, if_pos hs]; omega
      · rw [if_neg hs, if_neg hs]
end plain

section heap
variable {K V : Type} [DecidableEq K]
theorem zip_of_map {es : List MapEntry} {l : List (K × V)} {ek : K → Value} {ev : V → Value} (h : es.map (fun e => (e.key, e.val)) = l.map (fun p => (ek p.1, ev p.2))) :
    es.map (·.key) = (l.map (·.1)).map ek ∧ es.map (·.val) = (l.map (·.2)).map ev := by
  constructor
  · have := congrArg (List.map Prod.fst) h
    simpa [List.map_map, Function.comp_def] using this
  · have := congrArg (List.map Prod.snd) h
    simpa [List.map_map, Function.comp_def] using this

theorem find_get {es : List MapEntry} {l : List (K × V)} {ek : K → Value} {ev : V → Value} (h : es.map (fun e => (e.key, e.val)) = l.map (fun p => (ek p.1, ev p.2))) (k : K) :
    ((((l.map (·.1)).findIdx? (fun x => decide (x = k))).bind fun i => (es[i]?).map fun e => (i, e.val)).map (·.2)) = (kvGet l k).map ev := by
  induction l generalizing es with
  | nil =>
    simp at h; subst h; simp [kvGet_nil]
  | cons p r ih =>
    cases es with
    | nil => simp at h
    | cons e es =>
      simp only [List.map_cons, List.cons.injEq, Prod.mk.injEq] at h
      have ih := ih h.2
      rw [kvGet_cons, List.map_cons, List.findIdx?_cons]
      by_cases hk : p.1 = k
      · simp [hk, h.1.2]
      · simp only [hk, decide_false, Bool.false_eq_true, if_false]
        rw [← ih]
        cases hf : (r.map (·.1)).findIdx? (fun x => decide (x = k)) with
        | none => simp
        | some i => cases hg : es[i]? <;> simp [hg]

theorem run_lookup_at {P : Program} {w : World} {m : Nat} {ek : K → Value} {ev : V → Value} {l : List (K × V)} (h : MapAt w m ek ev l) {t kt et : TypeId} (ht : P.underlying t = some (.map kt et)) (KT : KeyT P kt ek)
    {z : Value} (hz : (zeroValue et).run P w = .ok z w) (k : K) (c : Bool) :
    (Instr.lookup t (.map (some m)) (ek k) c).run P w = .ok (if c then .tuple #[((kvGet l k).map ev).getD z, .bool (kvGet l k).isSome] else ((kvGet l k).map ev).getD z) w := by
  obtain ⟨es, clock, hb, hkv, _, _, _⟩ := h
  have hf := KT.find k es.toList (l.map (·.1)) (zip_of_map hkv).1 w
  have hg := find_get hkv k
  have hc := KT.check es.isEmpty k w
  unfold Instr.lookup
  simp only [Sem.run_bind, run_underlying ht, Result.andThen_ok]
  have hobj : (getObj m).run P w = .ok (.map es clock) w := by simp [getObj, Sem.run, hb]
  simp only [Sem.run_bind, hobj, Result.andThen_ok, Sem.run_pure, hc, hf]
  cases hr : (((l.map (·.1)).findIdx? (fun x => decide (x = k))).bind fun i => (es.toList[i]?).map fun e => (i, e.val)) with
  | none =>
    rw [hr] at hg
    have hn : kvGet l k = none := by
      cases hh : kvGet l k with
      | none => rfl
      | some v => rw [hh] at hg; simp at hg
    simp [hn, hz, Sem.run_bind]
  | some iv =>
    rw [hr] at hg
    cases hh : kvGet l k with
    | none => rw [hh] at hg; simp at hg
    | some v =>
      rw [hh] at hg
      simp at hg
      simp [hg]

theorem modify_map (es : Array MapEntry) (i : Nat) (f : MapEntry → MapEntry) {β : Type} (g : MapEntry → β) (hg : ∀ e, g (f e) = g e) : (es.modify i f).toList.map g = es.toList.map g := by
  apply List.ext_getElem?
  intro j
  simp only [List.getElem?_map, Array.toList_modify, List.getElem?_modify]
  by_cases h : i = j
  · subst h; cases es.toList[i]? <;> simp [hg]
  · simp [h]

theorem put_modify {es : List MapEntry} {l : List (K × V)} {ek : K → Value} {ev : V → Value} (h : es.map (fun e => (e.key, e.val)) = l.map (fun p => (ek p.1, ev p.2))) (k : K) (v : V) (i : Nat) (e0 : MapEntry)
    (hi : (l.map (·.1)).findIdx? (fun x => decide (x = k)) = some i) (he : es[i]? = some e0) :
    (es.modify i fun (e : MapEntry) => { e with key := ek k, val := ev v }).map (fun e => (e.key, e.val)) = (kvPut l k v).map (fun p => (ek p.1, ev p.2)) ∧ (kvGet l k).isSome = true ∧ e0.key = ek k := by
  induction l generalizing es i with
  | nil => simp at hi
  | cons p r ih =>
    cases es with
    | nil => simp at h
    | cons e es =>
      simp only [List.map_cons, List.cons.injEq, Prod.mk.injEq] at h
      rw [List.map_cons, List.findIdx?_cons] at hi
      rw [kvGet_cons]
      unfold kvPut
      by_cases hk : p.1 = k
      · simp only [hk, decide_true, if_true, Option.some.injEq] at hi
        subst hi
        simp only [List.getElem?_cons_zero, Option.some.injEq] at he
        subst he
        refine ⟨?_, by simp [hk], by rw [h.1.1, hk]⟩
        rw [if_pos hk]
        simp [h.2]
      · simp only [hk, decide_false, Bool.false_eq_true, if_false] at hi
        cases hf : (r.map (·.1)).findIdx? (fun x => decide (x = k)) with
        | none => simp [hf] at hi
        | some j =>
          simp only [hf, Option.map_some, Option.some.injEq] at hi
          subst hi
          simp only [List.getElem?_cons_succ] at he
          have ih := ih h.2 j hf he
          simp only [List.modify_succ_cons, List.map_cons, if_neg hk, ih.1, h.1.1, h.1.2]
          exact ⟨trivial, ih.2⟩

theorem put_push {es : List MapEntry} {l : List (K × V)} {ek : K → Value} {ev : V → Value} (h : es.map (fun e => (e.key, e.val)) = l.map (fun p => (ek p.1, ev p.2))) (k : K) (v : V) (b : Nat)
    (hi : kvGet l k = none) :
    (es ++ [({ key := ek k, val := ev v, born := b } : MapEntry)]).map (fun e => (e.key, e.val)) = (kvPut l k v).map (fun p => (ek p.1, ev p.2)) := by
  induction l generalizing es with
  | nil => simp at h; subst h; simp [kvPut]
  | cons p r ih =>
    cases es with
    | nil => simp at h
    | cons e es =>
      simp only [List.map_cons, List.cons.injEq, Prod.mk.injEq] at h
      rw [kvGet_cons] at hi
      by_cases hk : p.1 = k
      · simp [hk] at hi
      · rw [if_neg hk] at hi
        have ih := ih h.2 hi
        unfold kvPut
        rw [if_neg hk]
        simp only [List.cons_append, List.map_cons, ih, h.1.1, h.1.2]

theorem findIdx_get {l : List (K × V)} {k : K} : ((l.map (·.1)).findIdx? (fun x => decide (x = k))).isSome = (kvGet l k).isSome := by
  induction l with
  | nil => simp [kvGet_nil]
  | cons p r ih =>
    rw [kvGet_cons, List.map_cons, List.findIdx?_cons]
    by_cases hk : p.1 = k
    · simp [hk]
    · simp only [hk, decide_false, Bool.false_eq_true, if_false, ← ih]
      cases (r.map (·.1)).findIdx? (fun x => decide (x = k)) <;> simp

theorem findIdx_lt {l : List K} {k : K} {i : Nat} (h : l.findIdx? (fun x => decide (x = k)) = some i) : i < l.length ∧ l[i]? = some k := by
  induction l generalizing i with
  | nil => simp at h
  | cons x r ih =>
    rw [List.findIdx?_cons] at h
    by_cases hk : x = k
    · simp [hk] at h; subst h; simp [hk]
    · simp only [hk, decide_false, Bool.false_eq_true, if_false] at h
      cases hf : r.findIdx? (fun x => decide (x = k)) with
      | none => simp [hf] at h
      | some j =>
        simp [hf] at h; subst h
        have := ih hf
        exact ⟨by simp [this.1], by rw [List.getElem?_cons_succ]; exact this.2⟩

/-- What became of a map's block, of all else nothing. -/
theorem Fr.setObj {F : Nat → Prop} {w : World} {m : Nat} (o : Obj) (hF : F m) : Fr F w { w with heap := w.heap.setIfInBounds m o } := by
  refine ⟨rfl, rfl, rfl, by simp, fun k hk hn => ?_⟩
  have e : m ≠ k := fun e => hn (e ▸ hF)
  simp [Array.getElem?_setIfInBounds, e]

theorem run_update_at {P : Program} {w : World} {m : Nat} {ek : K → Value} {ev : V → Value} {l : List (K × V)} (h : MapAt w m ek ev l) {t kt et : TypeId} (ht : P.underlying t = some (.map kt et)) (KT : KeyT P kt ek) (k : K) (v : V) :
    ∃ w', (Instr.mapUpdate t (.map (some m)) (ek k) (ev v)).run P w = .ok () w' ∧ MapAt w' m ek ev (kvPut l k v) ∧ Fr (one m) w w' := by
  have hlt := h.lt
  obtain ⟨es, clock, hb, hkv, hborn, hnd, hkn⟩ := h
  have hf := KT.find k es.toList (l.map (·.1)) (zip_of_map hkv).1 w
  have hc := KT.check false k w
  have hobj : (getObj m).run P w = .ok (.map es clock) w := by simp [getObj, Sem.run, hb]
  have hset : ∀ o, (setObj m o).run P w = .ok () { w with heap := w.heap.setIfInBounds m o } := by intro o; simp [setObj, Sem.run, hb]
  have hmod : ∀ e : MapEntry, ({ e with key := ek k, val := ev v } : MapEntry).born = e.born := fun _ => rfl
  have hheap : ∀ o, ({ w with heap := w.heap.setIfInBounds m o } : World).heap[m]? = some o := by
    intro o; simp [Array.getElem?_setIfInBounds, hlt]
  unfold Instr.mapUpdate
  simp only [Sem.run_bind, run_underlying ht, Result.andThen_ok, hobj, hc, hf]
  cases hi : (l.map (·.1)).findIdx? (fun x => decide (x = k)) with
  | none =>
    have hn : kvGet l k = none := by
      have := findIdx_get (l := l) (k := k); rw [hi] at this
      cases hh : kvGet l k with
      | none => rfl
      | some _ => rw [hh] at this; simp at this
    refine ⟨_, ?_, ⟨_, _, hheap (.map (es.push { key := ek k, val := ev v, born := clock }) (clock + 1)), ?_, ?_, ?_, kvPut_nodup hkn k v⟩, Fr.setObj _ rfl⟩
    · simp [hset]
    · rw [Array.toList_push]; exact put_push hkv k v clock hn
    · intro e he
      rw [Array.toList_push, List.mem_append] at he
      rcases he with he | he
      · have := hborn e he; omega
      · simp at he; subst he; simp
    · rw [Array.toList_push, List.map_append, List.nodup_append]
      refine ⟨hnd, by simp, ?_⟩
      intro a ha b hb' e
      simp at hb'
      obtain ⟨x, hx, rfl⟩ := List.mem_map.1 ha
      have := hborn x hx; omega
  | some i =>
    have hil := findIdx_lt hi
    have hlen : es.toList.length = l.length := by
      have := congrArg List.length hkv; simpa using this
    obtain ⟨e0, he0⟩ : ∃ e0, es.toList[i]? = some e0 := by
      rw [List.getElem?_eq_some_iff.2 ⟨by rw [hlen]; simpa using hil.1, rfl⟩]; exact ⟨_, rfl⟩
    have hpm := put_modify hkv k v i e0 hi he0
    have he0' : es[i]? = some e0 := by rw [← Array.getElem?_toList]; exact he0
    refine ⟨_, ?_, ⟨_, _, hheap (.map (es.modify i fun (e : MapEntry) => { e with key := ek k, val := ev v }) clock), ?_, ?_, ?_, kvPut_nodup hkn k v⟩, Fr.setObj _ rfl⟩
    · simp [he0, he0', Instr.keyThatStays, hpm.2.2, KT.same, hset]
    · rw [Array.toList_modify]; exact hpm.1
    · intro e he
      have hmm := modify_map es i (fun (e : MapEntry) => { e with key := ek k, val := ev v }) (fun (e : MapEntry) => e.born) (fun _ => rfl)
      have : e.born ∈ es.toList.map (·.born) := by rw [← hmm]; exact List.mem_map_of_mem he
      obtain ⟨x, hx, hxe⟩ := List.mem_map.1 this
      have := hborn x hx; omega
    · rw [modify_map es i (fun (e : MapEntry) => { e with key := ek k, val := ev v }) (fun (e : MapEntry) => e.born) (fun _ => rfl)]; exact hnd

theorem del_erase {es : List MapEntry} {l : List (K × V)} {ek : K → Value} {ev : V → Value} (h : es.map (fun e => (e.key, e.val)) = l.map (fun p => (ek p.1, ev p.2))) (hn : (l.map (·.1)).Nodup) (k : K) (i : Nat)
    (hi : (l.map (·.1)).findIdx? (fun x => decide (x = k)) = some i) :
    (es.eraseIdx i).map (fun e => (e.key, e.val)) = (kvDel l k).map (fun p => (ek p.1, ev p.2)) := by
  induction l generalizing es i with
  | nil => simp at hi
  | cons p r ih =>
    cases es with
    | nil => simp at h
    | cons e es =>
      simp only [List.map_cons, List.cons.injEq, Prod.mk.injEq] at h
      simp only [List.map_cons, List.nodup_cons] at hn
      rw [List.map_cons, List.findIdx?_cons] at hi
      by_cases hk : p.1 = k
      · simp only [hk, decide_true, if_true, Option.some.injEq] at hi
        subst hi
        have hd : kvDel (p :: r) k = r := by
          unfold kvDel
          rw [List.filter_cons, if_neg (by simp [hk])]
          apply List.filter_eq_self.2
          intro q hq
          have : q.1 ∈ r.map (·.1) := List.mem_map_of_mem hq
          simp only [ne_eq, decide_not, Bool.not_eq_true', decide_eq_false_iff_not]
          intro e; exact hn.1 (hk ▸ e ▸ this)
        rw [hd]; simpa using h.2
      · simp only [hk, decide_false, Bool.false_eq_true, if_false] at hi
        cases hf : (r.map (·.1)).findIdx? (fun x => decide (x = k)) with
        | none => simp [hf] at hi
        | some j =>
          simp only [hf, Option.map_some, Option.some.injEq] at hi
          subst hi
          have ih := ih h.2 hn.2 j hf
          have hd : kvDel (p :: r) k = p :: kvDel r k := by
            unfold kvDel
            rw [List.filter_cons, if_pos (by simpa using hk)]
          rw [hd]
          simp only [List.eraseIdx_cons_succ, List.map_cons, ih, h.1.1, h.1.2]

theorem kvDel_none {l : List (K × V)} {k : K} (h : kvGet l k = none) : kvDel l k = l := by
  have h := kvGet_none.1 h
  unfold kvDel
  apply List.filter_eq_self.2
  intro q hq
  have : q.1 ∈ l.map (·.1) := List.mem_map_of_mem hq
  simp only [ne_eq, decide_not, Bool.not_eq_true', decide_eq_false_iff_not]
  intro e; exact h (e ▸ this)

theorem run_delete_at {P : Program} {w : World} {m : Nat} {ek : K → Value} {ev : V → Value} {l : List (K × V)} (h : MapAt w m ek ev l) {t kt et : TypeId} (ht : P.underlying t = some (.map kt et)) (KT : KeyT P kt ek) (k : K) (t2 ty : TypeId) :
    ∃ w', (Builtin.delete_ #[t, t2] ty #[.map (some m), ek k]).run P w = .ok (.tuple #[]) w' ∧ MapAt w' m ek ev (kvDel l k) ∧ Fr (one m) w w' := by
  have hlt := h.lt
  obtain ⟨es, clock, hb, hkv, hborn, hnd, hkn⟩ := h
  have hf := KT.find k es.toList (l.map (·.1)) (zip_of_map hkv).1 w
  have hc := KT.check es.isEmpty k w
  have hobj : (getObj m).run P w = .ok (.map es clock) w := by simp [getObj, Sem.run, hb]
  have hset : ∀ o, (setObj m o).run P w = .ok () { w with heap := w.heap.setIfInBounds m o } := by intro o; simp [setObj, Sem.run, hb]
  have hheap : ∀ o, ({ w with heap := w.heap.setIfInBounds m o } : World).heap[m]? = some o := by
    intro o; simp [Array.getElem?_setIfInBounds, hlt]
  unfold Builtin.delete_
  simp only [List.getElem?_toArray, List.getElem?_cons_zero, List.getElem?_cons_succ, Sem.run_bind, run_underlying ht, Result.andThen_ok, hobj, hc, hf]
  cases hi : (l.map (·.1)).findIdx? (fun x => decide (x = k)) with
  | none =>
    have hn : kvGet l k = none := by
      have := findIdx_get (l := l) (k := k); rw [hi] at this
      cases hh : kvGet l k with
      | none => rfl
      | some _ => rw [hh] at this; simp at this
    refine ⟨_, ?_, ⟨_, _, hheap (.map es clock), ?_, hborn, hnd, kvDel_nodup hkn k⟩, Fr.setObj _ rfl⟩
    · simp [hset]
    · rw [kvDel_none hn]; exact hkv
  | some i =>
    have hil := findIdx_lt hi
    have hlen : es.toList.length = l.length := by
      have := congrArg List.length hkv; simpa using this
    have hi' : i < es.toList.length := by rw [hlen]; simpa using hil.1
    obtain ⟨e0, he0⟩ : ∃ e0, es.toList[i]? = some e0 := ⟨_, List.getElem?_eq_some_iff.2 ⟨hi', rfl⟩⟩
    have her : (es.eraseIdxIfInBounds i).toList = es.toList.eraseIdx i := by
      unfold Array.eraseIdxIfInBounds
      rw [dif_pos (by simpa using hi')]; simp
    refine ⟨_, ?_, ⟨_, _, hheap (.map (es.eraseIdxIfInBounds i) clock), ?_, ?_, ?_, kvDel_nodup hkn k⟩, Fr.setObj _ rfl⟩
    · have he0' : es[i]? = some e0 := by rw [← Array.getElem?_toList]; exact he0
      simp [he0, he0', hset]
    · rw [her]; exact del_erase hkv hkn k i hi
    · rw [her]; intro e he; exact hborn e (List.mem_of_mem_eraseIdx he)
    · rw [her]; exact ((List.eraseIdx_sublist es.toList i).map _).nodup hnd

theorem run_len_at {P : Program} {w : World} {m : Nat} {ek : K → Value} {ev : V → Value} {l : List (K × V)} (h : MapAt w m ek ev l) {t kt et : TypeId} (ht : P.underlying t = some (.map kt et)) (ty : TypeId) :
    (Builtin.len_ #[t] ty #[.map (some m)]).run P w = .ok (.int .i64 l.length) w := by
  obtain ⟨es, clock, hb, hkv, hborn, hnd, hkn⟩ := h
  have hlen : es.size = l.length := by
    have := congrArg List.length hkv; simpa using this
  have hobj : (getObj m).run P w = .ok (.map es clock) w := by simp [getObj, Sem.run, hb]
  unfold Builtin.len_
  simp [run_underlying ht, hobj, goInt, hlen]
end heap

/-! ### keys that are integers; strings -/
theorem KeyT.int {P : Program} {kt : TypeId} {q : IntKind} (h : P.underlying kt = some (.int q)) : KeyT P kt (fun n : Int => Value.int q n) where
  check := by
    intro b k w
    unfold Instr.checkKey
    simp [run_underlying h]
  find := by
    intro k es l hkv w
    have key : ∀ (es : List MapEntry) (l : List Int) (j : Nat), es.map (·.key) = l.map (fun n : Int => Value.int q n) →
        Instr.findNow (.int q) (.int q k) es j = some ((l.findIdx? (fun x => decide (x = k))).bind fun i => (es[i]?).map fun e => (j + i, e.val)) := by
      intro es
      induction es with
      | nil => intro l j h; cases l <;> simp at h; simp [Instr.findNow]
      | cons e es ih =>
        intro l j h
        cases l with
        | nil => simp at h
        | cons x r =>
          simp only [List.map_cons, List.cons.injEq] at h
          unfold Instr.findNow
          rw [h.1]
          simp only [Instr.sameNow, if_true]
          rw [List.findIdx?_cons]
          by_cases hx : k = x
          · simp [hx]
          · have hx' : ¬ x = k := fun e => hx e.symm
            have : (k == x) = false := by simpa using hx
            rw [this, ih r (j + 1) h.2]
            simp only [hx', decide_false, Bool.false_eq_true, if_false]
            cases r.findIdx? (fun x => decide (x = k)) with
            | none => simp
            | some i => cases hg : es[i]? <;> simp [hg]; omega
    unfold Instr.findKey
    simp only [Sem.run_bind, run_underlying h, Result.andThen_ok, key es l 0 hkv]
    simp
  same := by intro k; simp [Instr.sameBits]

theorem bytes_beq (a b : ByteArray) : (a == b) = decide (a = b) := by
  have : ∀ a b : ByteArray, (a == b) = (a.data == b.data) := fun a b => rfl
  rw [this, Bool.eq_iff_iff]
  simp only [beq_iff_eq, decide_eq_true_eq]
  exact ⟨fun h => ByteArray.ext h, fun h => by rw [h]⟩

theorem KeyT.string {P : Program} {kt : TypeId} (h : P.underlying kt = some .string) : KeyT P kt (fun s : ByteArray => Value.string s) where
  check := by
    intro b k w
    unfold Instr.checkKey
    simp [run_underlying h]
  find := by
    intro k es l hkv w
    have key : ∀ (es : List MapEntry) (l : List ByteArray) (j : Nat), es.map (·.key) = l.map (fun n : ByteArray => Value.string n) →
        Instr.findNow .string (.string k) es j = some ((l.findIdx? (fun x => decide (x = k))).bind fun i => (es[i]?).map fun e => (j + i, e.val)) := by
      intro es
      induction es with
      | nil => intro l j h; cases l <;> simp at h; simp [Instr.findNow]
      | cons e es ih =>
        intro l j h
        cases l with
        | nil => simp at h
        | cons x r =>
          simp only [List.map_cons, List.cons.injEq] at h
          unfold Instr.findNow
          rw [h.1]
          simp only [Instr.sameNow]
          rw [List.findIdx?_cons]
          rw [bytes_beq]
          by_cases hx : k = x
          · simp [hx]
          · have hx' : ¬ x = k := fun e => hx e.symm
            have : decide (k = x) = false := by simpa using hx
            rw [this]
            simp only []
            rw [ih r (j + 1) h.2]
            simp only [hx', decide_false, Bool.false_eq_true, if_false]
            cases r.findIdx? (fun x => decide (x = k)) with
            | none => simp
            | some i => cases hg : es[i]? <;> simp [hg]; omega
    unfold Instr.findKey
    simp only [Sem.run_bind, run_underlying h, Result.andThen_ok, key es l 0 hkv]
    simp
  same := by intro k; simp [Instr.sameBits, bytes_beq]

/-! ### at the operation, for the walk -/
section arms
variable {K V : Type} [DecidableEq K] {P : Program} {w : World} {ops : Array Oper} {rest : List Oper} {o : Oper} {a : Act} {Q : Exit → Act → World → Prop} {m : Nat} {ek : K → Value} {ev : V → Value} {l : List (K × V)}
theorem wpList_go (hg : Region.wanted o (yielded ops a.tmps) = true) (h : ∀ K : Act → World → Prop, (∀ a w, wpList P ops Q rest a w → K a w) → o.wp P a w K Q) : wpList P ops Q (o :: rest) a w :=
  wpList_step fun K hK => by simp only [hg, if_true]; exact h K hK
theorem wpMapUpdate (hg : Region.wanted o (yielded ops a.tmps) = true) (mo xo vo : Operand) (t : TypeId) (hop : o.op = Op.mapUpdate t mo xo vo) (kt et : TypeId) (h : MapAt w m ek ev l) (ht : P.underlying t = some (.map kt et)) (KT : KeyT P kt ek) (k : K) (v : V)
    (hm : a.eval mo = .map (some m)) (hx : a.eval xo = ek k) (hv : a.eval vo = ev v)
    (hK : ∀ w', MapAt w' m ek ev (kvPut l k v) → Fr (one m) w w' → wpList P ops Q rest (a.put o.dst undef) w') : wpList P ops Q (o :: rest) a w := by
  refine wpList_go hg fun K' hK' => ?_
  obtain ⟨w', hrun, r1, r2⟩ := run_update_at h ht KT k v
  unfold Oper.wp
  simp [execOp, hop, hm, hx, hv, hrun, Result.andThen]
  exact hK' _ _ (hK w' r1 r2)
theorem wpDelete (hg : Region.wanted o (yielded ops a.tmps) = true) (mo xo : Operand) (t t2 : TypeId) (hop : o.op = Op.call { callee := Callee.builtin Builtin.delete, args := #[mo, xo], argTypes := #[t, t2] }) (kt et : TypeId) (h : MapAt w m ek ev l) (ht : P.underlying t = some (.map kt et)) (KT : KeyT P kt ek) (k : K)
    (hm : a.eval mo = .map (some m)) (hx : a.eval xo = ek k)
    (hK : ∀ w', MapAt w' m ek ev (kvDel l k) → Fr (one m) w w' → wpList P ops Q rest (a.put o.dst (.tuple #[])) w') : wpList P ops Q (o :: rest) a w := by
  refine wpList_go hg fun K' hK' => ?_
  obtain ⟨w', hrun, r1, r2⟩ := run_delete_at h ht KT k t2 o.type
  unfold Oper.wp
  simp [execOp, hop, resolve, invoke, builtin, hm, hx, hrun, Result.andThen]
  exact hK' _ _ (hK w' r1 r2)
theorem wpLookup (hg : Region.wanted o (yielded ops a.tmps) = true) (mo xo : Operand) (t : TypeId) (c : Bool) (hop : o.op = Op.lookup t mo xo c) (kt et : TypeId) (h : MapAt w m ek ev l) (ht : P.underlying t = some (.map kt et)) (KT : KeyT P kt ek) (z : Value) (hz : (zeroValue et).run P w = .ok z w) (k : K)
    (hm : a.eval mo = .map (some m)) (hx : a.eval xo = ek k)
    (hK : wpList P ops Q rest (a.put o.dst (if c then .tuple #[((kvGet l k).map ev).getD z, .bool (kvGet l k).isSome] else ((kvGet l k).map ev).getD z)) w) : wpList P ops Q (o :: rest) a w := by
  refine wpList_go hg fun K' hK' => ?_
  have hrun := run_lookup_at h ht KT hz k c
  unfold Oper.wp
  simp [execOp, hop, hm, hx, hrun, Result.andThen]
  exact hK' _ _ hK
def unitV : Unit → Value := fun _ => .agg #[]
theorem wpLookupSet {l : List (K × Unit)} (hg : Region.wanted o (yielded ops a.tmps) = true) (mo xo : Operand) (t : TypeId) (hop : o.op = Op.lookup t mo xo true) (kt et : TypeId) (h : MapAt w m ek unitV l) (ht : P.underlying t = some (.map kt et)) (KT : KeyT P kt ek) (hz : (zeroValue et).run P w = .ok (.agg #[]) w) (k : K)
    (hm : a.eval mo = .map (some m)) (hx : a.eval xo = ek k)
    (hK : wpList P ops Q rest (a.put o.dst (.tuple #[.agg #[], .bool (kvGet l k).isSome])) w) : wpList P ops Q (o :: rest) a w := by
  refine wpLookup hg mo xo t true hop kt et h ht KT _ hz k hm hx ?_
  have : ((kvGet l k).map unitV).getD (.agg #[]) = .agg #[] := by cases kvGet l k <;> rfl
  rw [this]; exact hK
end arms
end Go.Proofs.Ytnnomeichppkpaa
