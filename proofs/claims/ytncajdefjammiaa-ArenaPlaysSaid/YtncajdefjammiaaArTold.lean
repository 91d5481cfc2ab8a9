/-
  What a step does to an arena, in one word ('DoesR'), and what holds of the handles that were told ('Told'). Of states alone.
-/
import Derived.Test.YtncajdefjammiaaArBound
namespace Go.Proofs.Ytncajdefjammiaa
open Go.RowKit
set_option linter.unusedVariables false
set_option linter.unusedSimpArgs false
set_option maxRecDepth 100000

def usedAt (s : AS) (n : Nat) : Nat := ((s.pages[n]?).map PS.used).getD 0

/-- A handle more. -/
structure NewR (s : AS) (H : Nat) (t : AS) : Prop where
  lt : H < 18446744073709551616
  find : ∀ y, y < 18446744073709551616 → aFind t y = if y = H then some (zeros s.slot) else aFind s y
  was : hG H = s.genOf (hN H) (hO H) + 1
  gen : ∀ n o, n < 65536 → o < 65536 → t.genOf n o = if n = hN H ∧ o = hO H then hG H else s.genOf n o
  used : t.used = s.used + 1
  at_ : ∀ n, usedAt t n = usedAt s n + if n = hN H then 1 else 0
  fulls : ∀ n, n < hN H → usedAt t n = 4096 / s.slot
  len : hN H < t.pages.length ∧ (t.pages.length = s.pages.length ∨ t.pages.length = s.pages.length + 1 ∧ s.used = s.pages.length * (4096 / s.slot))
  off : hO H % s.slot = 0 ∧ hO H + s.slot ≤ 4096

/-- No handle more; h: what was given back, or written over. -/
structure OldR (s : AS) (h : Nat) (v : Option (Option (List UInt8))) (t : AS) : Prop where
  find : ∀ y, aFind t y = if y = h ∧ (aFind s h).isSome = true ∧ v.isSome = true then v.getD none else aFind s y
  gen : ∀ n o, t.genOf n o = s.genOf n o
  used : t.used + (if v = some none ∧ (aFind s h).isSome = true then 1 else 0) = s.used
  at_ : ∀ n, usedAt t n + (if n = hN h ∧ v = some none ∧ (aFind s h).isSome = true then 1 else 0) = usedAt s n
  len : t.pages.length = s.pages.length

theorem OldR.same {s t : AS} (hp : t.pages = s.pages) (hg : t.gen = s.gen) (hu : t.used = s.used) (h : Nat) : OldR s h none t :=
  ⟨fun y => by unfold aFind AS.genOf; rw [hp, hg]; simp, fun n o => by unfold AS.genOf; rw [hg], by simp [hu], fun n => by unfold usedAt; rw [hp]; simp, by rw [hp]⟩

theorem used_sum_full {l : List PS} {e : Nat} (h : ∀ p ∈ l, p.used = e) : (l.map PS.used).sum = l.length * e := by
  induction l with
  | nil => simp
  | cons p r ih =>
    rw [List.map_cons, List.sum_cons, ih (fun q hq => h q (List.mem_cons_of_mem _ hq)), h p (by simp), List.length_cons, Nat.add_mul]; omega

theorem aAlloc_new {N : Nat} {s : AS} (h : Upto N s) (hN' : N < 4294967295) : (aAlloc s).2.1 = 0 ∧ NewR s (aAlloc s).1 (aAlloc s).2.2 ∨ (aAlloc s).2.1 = 41 ∧ (aAlloc s).1 = 0 ∧ s.pages.length = 4096 ∧ adv s.slot s.pages s.first = 4096 ∧ (aAlloc s).2.2 = { s with first := adv s.slot s.pages s.first } := by
  have hw := h.wf
  rcases aAlloc_cases hw with ⟨h1, h2, e⟩ | ⟨f, k, q, q', h1, h2, h3, h4, h5, h6, h7, h8, e⟩
  · right; rw [e]; exact ⟨rfl, rfl, h1, h2, rfl⟩
  · left
    rw [e]
    refine ⟨rfl, ?_⟩
    obtain ⟨w1, w2, w3, w4, w5⟩ := h4.alloc h6
    rw [h5] at w2 w3 w4
    have hlo := hw.lo
    have ho : k * s.slot < 65536 := by omega
    have hgb : s.genOf f (k * s.slot) + 1 < 4294967296 := by have := h.gen f (k * s.slot); omega
    have e1 : hN (mkH f (k * s.slot) (s.genOf f (k * s.slot) + 1)) = f := hN_mk ho hgb
    have e2 : hO (mkH f (k * s.slot) (s.genOf f (k * s.slot) + 1)) = k * s.slot := hO_mk ho hgb
    have e3 : hG (mkH f (k * s.slot) (s.genOf f (k * s.slot) + 1)) = s.genOf f (k * s.slot) + 1 := hG_mk ho hgb
    have hfl := (List.getElem?_eq_some_iff.1 h3).1
    have hle := adv_le (slot := s.slot) (pages := s.pages) hw.first
    rw [← h2] at hle
    have hpg : ∀ n, (s.giveAt f k q').pages[n]? = if n = f then some q' else s.pages[n]? := by
      intro n
      show (s.grown.set f q')[n]? = _
      by_cases en : n = f
      · subst en; rw [if_pos rfl, List.getElem?_set_self hfl]
      · rw [if_neg en, List.getElem?_set_ne (Ne.symm en), h8 n en]
    have hqu : usedAt s f = q.used := by
      unfold usedAt
      by_cases el : f = s.pages.length
      · have hg : s.grown = s.pages ++ [PS.new s.slot] := by unfold AS.grown; rw [← h2, if_pos el]
        rw [hg, el, List.getElem?_append_right (Nat.le_refl _)] at h3
        simp at h3
        rw [el, List.getElem?_eq_none (Nat.le_refl _), ← h3]; rfl
      · have hg : s.grown = s.pages := by unfold AS.grown; rw [← h2, if_neg el]
        rw [hg] at h3
        rw [h3]; rfl
    have hfulls : ∀ n, n < f → ∀ p, s.pages[n]? = some p → p.used = 4096 / s.slot := by
      intro n hn p hp
      have : full s.slot p = true := by
        by_cases h9 : n < s.first
        · exact hw.fulls n p h9 hp
        · exact adv_full (slot := s.slot) (f := s.first) (by omega) (by omega) hp
      exact of_decide_eq_true this
    refine ⟨?_, fun y hy => aAlloc_find hw h1 h3 h4 h5 h6 h7 h8 hgb y hy, ?_, ?_, rfl, ?_, ?_, ?_, ?_⟩
    · unfold mkH; omega
    · rw [e1, e2, e3]
    · intro n o hn hoo
      rw [e1, e2, e3]
      exact genOf_put s _ (by omega) ho hn hoo _ rfl
    · intro n
      rw [e1]
      unfold usedAt
      rw [hpg]
      by_cases en : n = f
      · subst en
        rw [if_pos rfl, if_pos rfl]
        unfold usedAt at hqu
        rw [hqu]; exact w5
      · rw [if_neg en, if_neg en]; rfl
    · intro n hn
      rw [e1] at hn
      unfold usedAt
      rw [hpg, if_neg (by omega)]
      have hl : n < s.pages.length := by omega
      rw [List.getElem?_eq_getElem hl]
      exact hfulls n hn _ (List.getElem?_eq_getElem hl)
    · have hgl : (s.giveAt f k q').pages.length = s.grown.length := by show (s.grown.set f q').length = _; rw [List.length_set]
      rw [e1, hgl]
      refine ⟨hfl, ?_⟩
      by_cases el : f = s.pages.length
      · right
        have hg : s.grown = s.pages ++ [PS.new s.slot] := by unfold AS.grown; rw [← h2, if_pos el]
        refine ⟨by rw [hg]; simp, ?_⟩
        rw [hw.used]
        refine used_sum_full fun p hp => ?_
        obtain ⟨i, hi, rfl⟩ := List.getElem_of_mem hp
        exact hfulls i (by omega) _ (List.getElem?_eq_getElem hi)
      · left
        have hg : s.grown = s.pages := by unfold AS.grown; rw [← h2, if_neg el]
        rw [hg]
    · rw [e2]
      exact ⟨Nat.mul_mod_left _ _, w4⟩

theorem set_used {l : List PS} {i : Nat} {a b : PS} (h : l[i]? = some a) (n : Nat) : (((l.set i b)[n]?).map PS.used).getD 0 = if n = i then b.used else ((l[n]?).map PS.used).getD 0 := by
  by_cases e : n = i
  · subst e
    rw [if_pos rfl, List.getElem?_set_self (List.getElem?_eq_some_iff.1 h).1]; rfl
  · rw [if_neg e, List.getElem?_set_ne (Ne.symm e)]

theorem aFree_old {s : AS} (hw : s.WF) (h : Nat) : OldR s h (some none) (aFree s h).2 := by
  obtain ⟨w1, w2, w3, w4⟩ := aFree_all hw h
  by_cases hf : (aFind s h).isSome = true
  · obtain ⟨bs, hb⟩ := Option.isSome_iff_exists.1 hf
    obtain ⟨g1, q, g2, g3⟩ := find_parts hb
    obtain ⟨q1, q2⟩ := PS.at_some g3
    have hqw := hw.pages q (List.mem_of_getElem? g2)
    rw [hqw.2] at q1 q2
    obtain ⟨f1, f2, f3⟩ := hqw.1.free q2
    have hm := mod_set g2 (fun p => p.free (hO h / s.slot))
    have hs := sum_set g2 (q.free (hO h / s.slot))
    have hu := hw.used
    have hfe : (aFree s h).2 = { s with pages := s.pages.set (hN h) (q.free (hO h / s.slot)), used := s.used - 1, first := min s.first (hN h) } := by
      unfold aFree; rw [if_pos hf, hm]
    have hmem : 1 ≤ (s.pages.map PS.used).sum := by omega
    refine ⟨fun y => ?_, fun n o => by unfold AS.genOf; rw [w3], ?_, ?_, ?_⟩
    · rw [w4 hf y]
      by_cases e : y = h
      · rw [if_pos e, if_pos ⟨e, hf, rfl⟩]; rfl
      · rw [if_neg e, if_neg (fun q => e q.1)]
    · rw [hfe, if_pos ⟨rfl, hf⟩]
      show s.used - 1 + 1 = s.used
      omega
    · intro n
      rw [hfe]
      unfold usedAt
      show (((s.pages.set (hN h) (q.free (hO h / s.slot)))[n]?).map PS.used).getD 0 + _ = _
      rw [set_used g2]
      by_cases e : n = hN h
      · rw [if_pos e, if_pos ⟨e, rfl, hf⟩, e, g2]; exact f3
      · rw [if_neg e, if_neg (fun q => e q.1)]; rfl
    · rw [hfe]; exact List.length_set
  · have hfe : (aFree s h).2 = s := by unfold aFree; rw [if_neg hf]
    rw [hfe]
    exact ⟨fun y => by rw [if_neg (fun q => hf q.2.1)], fun _ _ => rfl, by rw [if_neg (fun q => hf q.2)]; rfl, fun n => by rw [if_neg (fun q => hf q.2.2)]; rfl, rfl⟩

theorem aWrite_old {s : AS} (hw : s.WF) (h : Nat) (b : ByteArray) : OldR s h (if b.size ≤ s.slot then some (some (newBytes s.slot b)) else none) (aWrite s h b).2 := by
  obtain ⟨w1, w2, w3, w4⟩ := aWrite_all hw h b
  have hpg : (aWrite s h b).2.used = s.used ∧ ∀ n, usedAt (aWrite s h b).2 n = usedAt s n ∧ (aWrite s h b).2.pages.length = s.pages.length := by
    unfold aWrite
    by_cases hf : (aFind s h).isSome = true
    · rw [if_pos hf]
      by_cases hb : b.size ≤ s.slot
      · rw [if_pos hb]
        refine ⟨rfl, fun n => ?_⟩
        obtain ⟨bs, hbs⟩ := Option.isSome_iff_exists.1 hf
        obtain ⟨g1, q, g2, g3⟩ := find_parts hbs
        obtain ⟨q1, q2⟩ := PS.at_some g3
        have hqw := hw.pages q (List.mem_of_getElem? g2)
        rw [hqw.2] at q1 q2
        obtain ⟨f1, f2, f3⟩ := hqw.1.write q2 b (by rw [hqw.2]; exact hb)
        have hm := mod_set g2 (fun p => p.write (hO h / s.slot) b)
        unfold usedAt
        simp only
        rw [hm, set_used g2]
        refine ⟨?_, List.length_set⟩
        by_cases e : n = hN h
        · rw [if_pos e, e, g2]; exact f3
        · rw [if_neg e]
      · rw [if_neg hb]; exact ⟨rfl, fun n => ⟨rfl, rfl⟩⟩
    · rw [if_neg hf]; exact ⟨rfl, fun n => ⟨rfl, rfl⟩⟩
  have hv : ¬ (if b.size ≤ s.slot then some (some (newBytes s.slot b)) else none) = some (none : Option (List UInt8)) := by split <;> simp
  refine ⟨fun y => ?_, fun n o => by unfold AS.genOf; rw [w3], by rw [if_neg (fun q => hv q.1)]; exact hpg.1, fun n => by rw [if_neg (fun q => hv q.2.1)]; exact (hpg.2 n).1, (hpg.2 0).2⟩
  rw [w4 y]
  by_cases hb : b.size ≤ s.slot
  · rw [if_pos hb]
    by_cases e : y = h ∧ (aFind s h).isSome = true
    · rw [if_pos ⟨e.1, e.2, hb⟩, if_pos ⟨e.1, e.2, rfl⟩]; rfl
    · rw [if_neg (fun q => e ⟨q.1, q.2.1⟩), if_neg (fun q => e ⟨q.1, q.2.1⟩)]
  · rw [if_neg hb, if_neg (fun q => hb q.2.2), if_neg (by simp)]

/-- What a step does: a handle more, or none. -/
inductive DoesR (x : StepV) (told : List Nat) (s : AS) : Prop where
  | more (h0 : x.what = 0) (hb : (x.does told s).2.1 = true) (hr : NewR s (x.does told s).1 (x.does told s).2.2)
  | less (h v) (hv : v = some none ∧ x.what = 1 ∨ (v = if x.s.size ≤ s.slot then some (some (newBytes s.slot x.s)) else none) ∧ x.what = 2 ∨ v = none ∧ x.what ≠ 2) (hh : h = x.ofH told) (hb : (x.does told s).2.1 = false) (hz : (x.does told s).1 = 0) (hr : OldR s h v (x.does told s).2.2)

theorem does_all {N : Nat} {s : AS} (h : Upto N s) (hN' : N < 4294967295) (x : StepV) (told : List Nat) : DoesR x told s := by
  by_cases k0 : x.what = 0
  · have e : x.does told s = ((aAlloc s).1, decide ((aAlloc s).2.1 = 0), (aAlloc s).2.2) := by unfold StepV.does; rw [if_pos k0]
    rcases aAlloc_new h hN' with ⟨h1, h2⟩ | ⟨h1, h1', h2, h3, h4⟩
    · exact .more k0 (by rw [e]; simp [h1]) (by rw [e]; exact h2)
    · exact .less _ none (Or.inr (Or.inr ⟨rfl, by omega⟩)) rfl (by rw [e]; simp [h1]) (by rw [e]; exact h1') (by rw [e]; simp only; rw [h4]; refine OldR.same ?_ ?_ ?_ _ <;> rfl)
  by_cases k1 : x.what = 1
  · have e : x.does told s = (0, false, (aFree s (x.ofH told)).2) := by unfold StepV.does; rw [if_neg k0, if_pos k1]
    exact .less _ (some none) (Or.inl ⟨rfl, k1⟩) rfl (by rw [e]) (by rw [e]) (by rw [e]; exact aFree_old h.wf _)
  by_cases k2 : x.what = 2
  · have e : x.does told s = (0, false, (aWrite s (x.ofH told) x.s).2) := by unfold StepV.does; rw [if_neg k0, if_neg k1, if_pos k2]
    exact .less _ _ (Or.inr (Or.inl ⟨rfl, k2⟩)) rfl (by rw [e]) (by rw [e]) (by rw [e]; exact aWrite_old h.wf _ _)
  · have e : x.does told s = (0, false, s) := by unfold StepV.does; rw [if_neg k0, if_neg k1, if_neg k2]
    exact .less _ none (Or.inr (Or.inr ⟨rfl, k2⟩)) rfl (by rw [e]) (by rw [e]) (by rw [e]; exact OldR.same rfl rfl rfl _)

theorem does_slot {N : Nat} {s : AS} (h : Upto N s) (x : StepV) (told : List Nat) : (x.does told s).2.2.slot = s.slot := by
  unfold StepV.does
  split
  · exact (aAlloc_wf h.wf).2
  · split
    · exact (aFree_all h.wf _).2.1
    · split
      · exact (aWrite_all h.wf _ _).2.1
      · rfl

/-! ### the handles that were told -/
def more (told : List Nat) (r : Nat × Bool × AS) : List Nat := if r.2.1 = true then told ++ [r.1] else told
def named (s : AS) (h : Nat) : Bool := (aFind s h).isSome
structure Told (s : AS) (told : List Nat) : Prop where
  lt : ∀ h ∈ told, h < 18446744073709551616
  nodup : told.Nodup
  gen : ∀ h ∈ told, 1 ≤ hG h ∧ hG h ≤ s.genOf (hN h) (hO h)
  found : ∀ h, h < 18446744073709551616 → named s h = true → h ∈ told
  tot : told.countP (named s) = s.used
  cnt : ∀ n, told.countP (fun h => decide (hN h = n) && named s h) = usedAt s n

theorem hN_lt' {h : Nat} (hh : h < 18446744073709551616) : hN h < 65536 := by unfold hN; omega
theorem hO_lt' (h : Nat) : hO h < 65536 := by unfold hO; omega

theorem countP_one {l : List Nat} (hn : l.Nodup) {h : Nat} (hm : h ∈ l) {P Q : Nat → Bool} (hP : P h = true) (hQ : ∀ x, x ∈ l → Q x = if x = h then false else P x) : l.countP Q + 1 = l.countP P := by
  induction l with
  | nil => simp at hm
  | cons y r ih =>
    rw [List.nodup_cons] at hn
    rw [List.countP_cons, List.countP_cons]
    have hy := hQ y (by simp)
    by_cases e : y = h
    · subst e
      rw [if_pos rfl] at hy
      rw [hy, hP]
      have : r.countP Q = r.countP P := by
        apply List.countP_congr
        intro x hx
        rw [hQ x (by simp [hx]), if_neg (show ¬ x = y from fun e => hn.1 (e ▸ hx))]
      simp [this]
    · rw [if_neg e] at hy
      rw [hy]
      have := ih hn.2 (by rcases List.mem_cons.1 hm with q | q; exact absurd q.symm e; exact q) (fun x hx => hQ x (by simp [hx]))
      omega

theorem Told.new (slot : Nat) : Told (AS.new slot) [] :=
  ⟨by simp, by simp, by simp, fun h _ hf => by
    unfold named aFind at hf
    split at hf
    · simp [AS.new] at hf
    · simp at hf, by simp [AS.new], fun n => by simp [usedAt, AS.new]⟩

theorem NewR.fresh {s t : AS} {H : Nat} {told : List Nat} (r : NewR s H t) (h : Told s told) : H ∉ told := by
  intro hm
  have := (h.gen H hm).2
  have := r.was
  omega

theorem Told.push {s t : AS} {H : Nat} {told : List Nat} (h : Told s told) (r : NewR s H t) : Told t (told ++ [H]) := by
  have hf := r.fresh h
  have hn : named t H = true := by unfold named; rw [r.find H r.lt, if_pos rfl]; rfl
  have hs : ∀ x ∈ told, named t x = named s x := by
    intro x hx
    unfold named
    rw [r.find x (h.lt x hx), if_neg (show ¬ x = H from fun e => hf (e ▸ hx))]
  refine ⟨?_, ?_, ?_, ?_, ?_, ?_⟩
  · intro x hx
    rcases List.mem_append.1 hx with hx | hx
    · exact h.lt x hx
    · simp at hx; subst hx; exact r.lt
  · rw [List.nodup_append]
    refine ⟨h.nodup, by simp, ?_⟩
    intro a ha b hb e
    simp at hb; subst hb; subst e; exact hf ha
  · intro x hx
    rcases List.mem_append.1 hx with hx | hx
    · have hg := h.gen x hx
      rw [r.gen _ _ (hN_lt' (h.lt x hx)) (hO_lt' x)]
      split
      · rename_i e
        have := r.was
        rw [← e.1, ← e.2] at this
        omega
      · exact hg
    · simp at hx; subst hx
      rw [r.gen _ _ (hN_lt' r.lt) (hO_lt' x), if_pos ⟨rfl, rfl⟩]
      have := r.was
      omega
  · intro x hx hnx
    unfold named at hnx
    rw [r.find x hx] at hnx
    by_cases e : x = H
    · subst e; simp
    · rw [if_neg e] at hnx
      exact List.mem_append_left _ (h.found x hx hnx)
  · rw [List.countP_append, List.countP_congr (q := named s) (fun x hx => by rw [hs x hx]), h.tot, r.used]
    simp [hn]
  · intro n
    rw [List.countP_append, List.countP_congr (q := fun h => decide (hN h = n) && named s h) (fun x hx => by rw [hs x hx]), h.cnt, r.at_]
    by_cases e : hN H = n
    · simp [hn, e]
    · simp [e, Ne.symm e]

theorem Told.old {s t : AS} {h0 : Nat} {v : Option (Option (List UInt8))} {told : List Nat} (h : Told s told) (hh : h0 < 18446744073709551616) (r : OldR s h0 v t) : Told t told := by
  have hgen : ∀ x ∈ told, 1 ≤ hG x ∧ hG x ≤ t.genOf (hN x) (hO x) := fun x hx => by rw [r.gen]; exact h.gen x hx
  by_cases hc : v = some none ∧ named s h0 = true
  · have hm := h.found h0 hh hc.2
    have hnm : ∀ x, named t x = if x = h0 then false else named s x := by
      intro x
      unfold named
      rw [r.find x]
      by_cases e : x = h0
      · rw [if_pos e, if_pos ⟨e, hc.2, by rw [hc.1]; rfl⟩, hc.1]; rfl
      · rw [if_neg e, if_neg (fun q => e q.1)]
    refine ⟨h.lt, h.nodup, hgen, ?_, ?_, ?_⟩
    · intro x hx hnx
      rw [hnm] at hnx
      split at hnx
      · cases hnx
      · exact h.found x hx hnx
    · have := countP_one h.nodup hm hc.2 (fun x _ => hnm x)
      have h1 := r.used
      rw [if_pos (show v = some none ∧ (aFind s h0).isSome = true from hc)] at h1
      have := h.tot
      omega
    · intro n
      have h1 := r.at_ n
      have h2 := h.cnt n
      by_cases e : n = hN h0
      · rw [if_pos (show n = hN h0 ∧ v = some none ∧ (aFind s h0).isSome = true from ⟨e, hc⟩)] at h1
        have := countP_one (P := fun h => decide (hN h = n) && named s h) (Q := fun h => decide (hN h = n) && named t h) h.nodup hm (by simp [e, hc.2]) (fun x _ => by
          simp only [hnm]
          split <;> simp)
        omega
      · rw [if_neg (fun q => e q.1)] at h1
        have : told.countP (fun h => decide (hN h = n) && named t h) = told.countP (fun h => decide (hN h = n) && named s h) := by
          apply List.countP_congr
          intro x hx
          simp only [hnm]
          by_cases ex : x = h0
          · subst ex; simp [Ne.symm e]
          · rw [if_neg ex]
        omega
  · have hnm : ∀ x, named t x = named s x := by
      intro x
      unfold named
      rw [r.find x]
      split
      · rename_i e
        obtain ⟨rfl, e2, e3⟩ := e
        cases v with
        | none => simp at e3
        | some u =>
          cases u with
          | none => exact absurd ⟨rfl, e2⟩ hc
          | some b => simp [e2]
      · rfl
    refine ⟨h.lt, h.nodup, hgen, fun x hx hnx => h.found x hx (by rw [← hnm]; exact hnx), ?_, ?_⟩
    · rw [List.countP_congr (q := named s) (fun x hx => by rw [hnm x]), h.tot]
      have h1 := r.used
      rw [if_neg (show ¬ (v = some none ∧ (aFind s h0).isSome = true) from hc)] at h1
      omega
    · intro n
      have h1 := r.at_ n
      rw [if_neg (show ¬ (n = hN h0 ∧ v = some none ∧ (aFind s h0).isSome = true) from fun q => hc q.2)] at h1
      have e : told.countP (fun h => decide (hN h = n) && named t h) = told.countP (fun h => decide (hN h = n) && named s h) := by
        apply List.countP_congr
        intro x hx
        simp only [hnm]
      have := h.cnt n
      omega

theorem Told.does {N : Nat} {s : AS} {told : List Nat} (h : Told s told) (hu : Upto N s) (hN' : N < 4294967295) (x : StepV) (hx : x.Ok) : Told (x.does told s).2.2 (more told (x.does told s)) := by
  unfold more
  cases does_all hu hN' x told with
  | more h0 hb hr => rw [if_pos hb]; exact h.push hr
  | less h1 v hv hh hb hz hr => rw [hb, if_neg (by simp)]; exact h.old (by rw [hh]; exact ofH_lt hx h.lt) hr

/-- What is not found is not found behind a step, if it was told. -/
theorem gone_stays {N : Nat} {s : AS} {told : List Nat} (h : Told s told) (hu : Upto N s) (hN' : N < 4294967295) (x : StepV) {y : Nat} (hy : y ∈ told) (hn : named s y = false) : named (x.does told s).2.2 y = false := by
  cases does_all hu hN' x told with
  | more h0 hb hr =>
    unfold named at hn ⊢
    rw [hr.find y (h.lt y hy), if_neg (show ¬ y = (x.does told s).1 from fun e => hr.fresh h (e ▸ hy))]; exact hn
  | less h1 v hv hh hb hz hr =>
    unfold named at hn ⊢
    rw [hr.find y]
    split
    · rename_i e
      rw [e.1] at hn; rw [e.2.1] at hn; cases hn
    · exact hn

/-- 0 is no handle. -/
theorem Told.zero {s : AS} {told : List Nat} (h : Told s told) : named s 0 = false := by
  cases hn : named s 0 with
  | false => rfl
  | true =>
    have := (h.gen 0 (h.found 0 (by omega) hn)).1
    unfold hG at this; omega
end Go.Proofs.Ytncajdefjammiaa
