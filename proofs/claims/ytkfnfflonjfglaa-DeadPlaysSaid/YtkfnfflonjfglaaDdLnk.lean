/-
  The reference's row of times and the dead's counts: the same, told in two ways (plain).
-/
import Derived.Test.YtkfnfflonjfglaaDdRef3
namespace Go.Proofs.Ytkfnfflonjfglaa
open Go.RowKit
set_option linter.unusedVariables false
set_option linter.unusedSimpArgs false
set_option maxRecDepth 100000

def expL (c : List (Int × Nat)) : List Int := c.flatMap (fun p => List.replicate p.2 p.1)
theorem expL_append (a b : List (Int × Nat)) : expL (a ++ b) = expL a ++ expL b := by unfold expL; rw [List.flatMap_append]
theorem expL_len (c : List (Int × Nat)) : (expL c).length = tot c := by
  induction c with
  | nil => rfl
  | cons p r ih =>
    unfold expL tot at ih ⊢
    rw [List.flatMap_cons, List.length_append, ih, List.length_replicate, List.map_cons, List.sum_cons]
theorem expL_succ (c : List (Int × Nat)) (k : Nat) (p : Int × Nat) (h : c[k]? = some p) : expL (c.take (k + 1)) = expL (c.take k) ++ List.replicate p.2 p.1 := by
  rw [take_succ_get2 c k p h, expL_append]; simp [expL]
theorem expL_at (c : List (Int × Nat)) (k j : Nat) (p : Int × Nat) (h : c[k]? = some p) (hj : j < p.2) : (expL c)[tot (c.take k) + j]? = some p.1 := by
  have h2 : expL c = expL (c.take (k + 1)) ++ expL (c.drop (k + 1)) := by rw [← expL_append, List.take_append_drop]
  have hl := expL_len (c.take k)
  rw [h2, expL_succ c k p h, List.append_assoc, List.getElem?_append_right (by omega), List.getElem?_append_left (by rw [List.length_replicate]; omega), List.getElem?_replicate, if_pos (by omega)]
theorem tot_succ (c : List (Int × Nat)) (k : Nat) (p : Int × Nat) (h : c[k]? = some p) : tot (c.take (k + 1)) = tot (c.take k) + p.2 := by
  rw [take_succ_get2 _ _ _ h]; unfold tot; rw [List.map_append, List.sum_append]; simp
theorem expL_count (f : Int → Nat) (t : Int) : ∀ ks : List Int, ks.Nodup → (expL (ks.map fun k => (k, f k))).count t = if t ∈ ks then f t else 0 := by
  intro ks
  induction ks with
  | nil => intro _; rfl
  | cons k r ih =>
    intro hn
    rw [List.nodup_cons] at hn
    have ih := ih hn.2
    unfold expL at ih ⊢
    rw [List.map_cons, List.flatMap_cons, List.count_append, ih, List.count_replicate]
    by_cases e : k = t
    · subst e
      rw [if_neg hn.1, if_pos (by simp), if_pos (by simp)]; rfl
    · rw [if_neg (by simpa using e)]
      by_cases m : t ∈ r
      · rw [if_pos m, if_pos (by simp [m])]; omega
      · rw [if_neg m, if_neg (by simp [m]; exact fun q => e q.symm)]
theorem expL_mem {c : List (Int × Nat)} {t : Int} (h : t ∈ expL c) : t ∈ c.map (·.1) := by
  unfold expL at h
  rw [List.mem_flatMap] at h
  obtain ⟨p, hp, hm⟩ := h
  rw [List.mem_replicate] at hm
  rw [hm.2]
  exact List.mem_map_of_mem hp
theorem expL_sorted (f : Int → Nat) : ∀ ks : List Int, ks.Pairwise (fun a b => a ≤ b) → (expL (ks.map fun k => (k, f k))).Pairwise (fun a b => a ≤ b) := by
  intro ks
  induction ks with
  | nil => intro _; exact List.Pairwise.nil
  | cons k r ih =>
    intro hn
    rw [List.pairwise_cons] at hn
    have ih := ih hn.2
    have e : expL ((k :: r).map fun k => (k, f k)) = List.replicate (f k) k ++ expL (r.map fun k => (k, f k)) := by unfold expL; rw [List.map_cons, List.flatMap_cons]
    rw [e, List.pairwise_append]
    refine ⟨?_, ih, ?_⟩
    · rw [List.pairwise_replicate]; right; omega
    · intro a ha b hb
      rw [List.mem_replicate] at ha
      have hb := expL_mem hb
      rw [List.map_map] at hb
      obtain ⟨q, hq, rfl⟩ := List.mem_map.1 hb
      rw [ha.2]
      exact hn.1 q hq

structure Lnk (s : DS) (l : List Int) : Prop where
  wf : s.WF
  cnt : ∀ k, l.count k = s.cnt k
  srt : l.Pairwise (fun a b => a ≤ b)
theorem exp_cnt {s : DS} (h : s.WF) (t : Int) : (expL s.counts).count t = s.cnt t := by
  unfold DS.counts
  rw [expL_count _ _ _ (keys_nodup h)]
  by_cases m : t ∈ s.keys
  · rw [if_pos m]
  · rw [if_neg m]
    exact (Classical.byContradiction fun q => m ((mem_keys h t).2 (fun e => q e.symm)))
theorem Lnk.eq {s : DS} {l : List Int} (h : Lnk s l) : l = expL s.counts := by
  have hp : l.Perm (expL s.counts) := List.perm_iff_count.2 (fun k => by rw [h.cnt, exp_cnt h.wf])
  exact List.Perm.eq_of_pairwise (le := fun a b : Int => a ≤ b) (fun a b _ _ h1 h2 => by omega) h.srt (expL_sorted _ _ (keys_sorted s)) hp
theorem Lnk.len {s : DS} {l : List Int} (h : Lnk s l) : l.length = s.all := by
  rw [h.eq, expL_len, counts_sum h.wf]
theorem Lnk.new : Lnk ⟨[], 0⟩ [] := ⟨WF_new, fun k => rfl, List.Pairwise.nil⟩
theorem insT_sorted (t : Int) (l : List Int) (h : l.Pairwise (fun a b => a ≤ b)) : (insT t l).Pairwise (fun a b => a ≤ b) := by
  induction l with
  | nil => simp [insT]
  | cons x r ih =>
    have h0 := h
    rw [List.pairwise_cons] at h
    unfold insT
    by_cases e : t < x
    · rw [if_pos e, List.pairwise_cons]
      refine ⟨?_, h0⟩
      intro a ha
      rcases List.mem_cons.1 ha with rfl | ha
      · omega
      · have := h.1 a ha; omega
    · rw [if_neg e, List.pairwise_cons]
      refine ⟨?_, ih h.2⟩
      intro a ha
      rcases List.mem_cons.1 ((insT_perm t r).mem_iff.1 ha) with rfl | ha
      · omega
      · exact h.1 a ha
def rAdd (l : List Int) (t : Int) : Nat × List Int := if t < 1 ∨ 1048576 < t then (1, l) else if 64 ≤ l.length then (41, l) else (0, insT t l)
theorem Lnk.add {s : DS} {l : List Int} (h : Lnk s l) (t : Int) : (dAdd s t).1 = (rAdd l t).1 ∧ Lnk (dAdd s t).2 (rAdd l t).2 := by
  have hl := h.len
  have hm := h.wf.max
  obtain ⟨a, b, c, d⟩ := add_law h.wf t
  unfold dAdd at a c ⊢
  unfold rAdd
  by_cases h1 : t < 1 ∨ 1048576 < t
  · rw [if_pos h1, if_pos h1]; exact ⟨rfl, h⟩
  · rw [if_neg h1] at a c ⊢
    rw [if_neg h1]
    by_cases h2 : s.all = 64
    · rw [if_pos h2, if_pos (by omega)]; exact ⟨rfl, h⟩
    · rw [if_neg h2] at a c ⊢
      rw [if_neg (by omega)]
      refine ⟨rfl, a, fun k => ?_, insT_sorted t l h.srt⟩
      rw [c k, (insT_perm t l).count_eq, List.count_cons, h.cnt]
      by_cases e : k = t
      · subst e; simp
      · rw [if_neg (by simpa using fun q => e q.symm), if_neg (fun q => e q.1)]
theorem Lnk.less {s : DS} {l : List Int} (h : Lnk s l) (t : Int) : (dLess s t).1 = decide (t ∈ l) ∧ Lnk (dLess s t).2 (l.erase t) := by
  obtain ⟨a, b, c, d⟩ := less_law h.wf t
  refine ⟨?_, a, fun k => ?_, h.srt.sublist List.erase_sublist⟩
  · have hm : t ∈ l ↔ s.cnt t ≠ 0 := by rw [← h.cnt, ← List.count_pos_iff]; omega
    cases hd : (dLess s t).1 with
    | true => exact (decide_eq_true (hm.2 (b.1 hd))).symm
    | false =>
      refine (decide_eq_false (fun q => ?_)).symm
      have := b.2 (hm.1 q)
      rw [hd] at this; cases this
  · rw [c k, List.count_erase, h.cnt]
    by_cases e : k = t
    · subst e; simp
    · rw [if_neg e, if_neg (by simpa using fun q => e q.symm)]; omega
theorem count_above (fl t : Int) (l : List Int) : (l.filter (fun t => decide (fl < t))).count t = if t ≤ fl then 0 else l.count t := by
  by_cases e : t ≤ fl
  · rw [if_pos e]
    refine List.count_eq_zero.2 (fun q => ?_)
    have := (List.mem_filter.1 q).2
    have := of_decide_eq_true this
    omega
  · rw [if_neg e, List.count_filter (by simp; omega)]
theorem Lnk.pass {s : DS} {l : List Int} (h : Lnk s l) (fl : Int) : ((dPass s fl).1 : Int) = (l.length : Int) - ((l.filter (fun t => decide (fl < t))).length : Int) ∧ Lnk (dPass s fl).2 (l.filter (fun t => decide (fl < t))) := by
  obtain ⟨a, b, c⟩ := pass_law h.wf fl
  have h2 : Lnk (dPass s fl).2 (l.filter (fun t => decide (fl < t))) := ⟨a, fun k => by rw [b k, count_above, h.cnt], h.srt.sublist List.filter_sublist⟩
  refine ⟨?_, h2⟩
  rw [h2.len, h.len]
  omega
end Go.Proofs.Ytkfnfflonjfglaa
