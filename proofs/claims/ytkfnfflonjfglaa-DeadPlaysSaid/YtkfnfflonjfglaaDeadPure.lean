/-
  The dead, of states alone: what each doing makes of the counts.
-/
import Derived.Test.YtkfnfflonjfglaaDeadCounts
namespace Go.Proofs.Ytkfnfflonjfglaa
open Go.RowKit
set_option linter.unusedVariables false
set_option linter.unusedSimpArgs false

def tot (l : List (Int × Nat)) : Nat := (l.map (·.2)).sum
structure DS.WF (s : DS) : Prop where
  nodup : (s.of.map (·.1)).Nodup
  pos : ∀ p ∈ s.of, 1 ≤ p.2
  sum : tot s.of = s.all
  max : s.all ≤ 64
  rng : ∀ p ∈ s.of, 1 ≤ p.1 ∧ p.1 ≤ 1048576

theorem tot_put (l : List (Int × Nat)) (k : Int) (v : Nat) : tot (kvPut l k v) + (kvGet l k).getD 0 = tot l + v := by
  induction l with
  | nil => simp [kvPut, tot, kvGet_nil]
  | cons p r ih =>
    unfold kvPut
    rw [kvGet_cons]
    by_cases h : p.1 = k
    · rw [if_pos h, if_pos h]
      simp only [tot, List.map_cons, List.sum_cons, Option.getD_some]
      omega
    · rw [if_neg h, if_neg h]
      simp only [tot, List.map_cons, List.sum_cons] at ih ⊢
      omega
theorem tot_del {l : List (Int × Nat)} (h : (l.map (·.1)).Nodup) (k : Int) : tot (kvDel l k) + (kvGet l k).getD 0 = tot l := by
  induction l with
  | nil => simp [kvDel, tot, kvGet_nil]
  | cons p r ih =>
    simp only [List.map_cons, List.nodup_cons] at h
    have ih := ih h.2
    rw [kvGet_cons]
    unfold kvDel at ih ⊢
    by_cases e : p.1 = k
    · have hk : kvGet r k = none := kvGet_none.2 (e ▸ h.1)
      rw [hk] at ih
      rw [if_pos e, List.filter_cons, if_neg (by simp [e])]
      simp only [tot, List.map_cons, List.sum_cons, Option.getD_some, Option.getD_none] at ih ⊢
      omega
    · rw [if_neg e, List.filter_cons, if_pos (by simp [e])]
      simp only [tot, List.map_cons, List.sum_cons] at ih ⊢
      omega
theorem mem_put {l : List (Int × Nat)} {k : Int} {v : Nat} {p : Int × Nat} (h : p ∈ kvPut l k v) : p = (k, v) ∨ p ∈ l := by
  induction l with
  | nil => simp [kvPut] at h; exact Or.inl h
  | cons q r ih =>
    unfold kvPut at h
    by_cases e : q.1 = k
    · rw [if_pos e] at h
      rcases List.mem_cons.1 h with h | h
      · exact Or.inl h
      · exact Or.inr (List.mem_cons_of_mem _ h)
    · rw [if_neg e] at h
      rcases List.mem_cons.1 h with h | h
      · exact Or.inr (by rw [h]; simp)
      · rcases ih h with h | h
        · exact Or.inl h
        · exact Or.inr (List.mem_cons_of_mem _ h)
theorem get_mem {l : List (Int × Nat)} {k : Int} {v : Nat} (h : kvGet l k = some v) : (k, v) ∈ l := by
  induction l with
  | nil => simp [kvGet_nil] at h
  | cons p r ih =>
    rw [kvGet_cons] at h
    by_cases e : p.1 = k
    · rw [if_pos e] at h
      cases h
      rw [← e]; simp
    · rw [if_neg e] at h
      exact List.mem_cons_of_mem _ (ih h)
theorem mem_get {l : List (Int × Nat)} (hn : (l.map (·.1)).Nodup) {p : Int × Nat} (h : p ∈ l) : kvGet l p.1 = some p.2 := by
  induction l with
  | nil => simp at h
  | cons q r ih =>
    simp only [List.map_cons, List.nodup_cons] at hn
    rw [kvGet_cons]
    rcases List.mem_cons.1 h with rfl | h
    · rw [if_pos rfl]
    · have : q.1 ≠ p.1 := fun e => hn.1 (e ▸ List.mem_map_of_mem h)
      rw [if_neg this]
      exact ih hn.2 h

namespace DS.WF
variable {s : DS}
theorem le_all (h : s.WF) (t : Int) : s.cnt t ≤ s.all := by
  have := tot_del h.nodup t
  rw [h.sum] at this
  unfold DS.cnt; omega
theorem le64 (h : s.WF) (t : Int) : s.cnt t ≤ 64 := Nat.le_trans (h.le_all t) h.max
theorem len (h : s.WF) : s.of.length ≤ 64 := by
  have hp := h.pos
  have hs : s.of.length ≤ tot s.of := by
    generalize s.of = l at hp
    induction l with
    | nil => simp
    | cons p r ih =>
      have h1 := hp p (by simp)
      have h2 := ih (fun q hq => hp q (List.mem_cons_of_mem _ hq))
      simp only [tot, List.map_cons, List.sum_cons, List.length_cons] at h2 ⊢
      omega
  have := h.sum
  have := h.max
  omega
theorem key (h : s.WF) (t : Int) : t ∈ s.of.map (·.1) ↔ s.cnt t ≠ 0 := by
  unfold DS.cnt
  cases hg : kvGet s.of t with
  | none => simp [kvGet_none.1 hg]
  | some v =>
    have hm := get_mem hg
    have := h.pos _ hm
    simp only [Option.getD_some]
    constructor
    · intro _; simp only at this; omega
    · intro _; exact List.mem_map.2 ⟨_, hm, rfl⟩
theorem in_rng (h : s.WF) {t : Int} (ht : s.cnt t ≠ 0) : 1 ≤ t ∧ t ≤ 1048576 := by
  obtain ⟨p, hp, rfl⟩ := List.mem_map.1 ((h.key t).2 ht)
  exact h.rng p hp
theorem wfk (h : s.WF) : ∀ p ∈ s.of, (Lit.int .i64 p.1).wf = true := by
  intro p hp
  have := h.rng p hp
  unfold Lit.wf
  simp only [Bool.and_eq_true, decide_eq_true_eq]
  constructor
  · show -9223372036854775808 ≤ p.1; omega
  · show p.1 ≤ 9223372036854775807; omega
end DS.WF

theorem WF_new : DS.WF ⟨[], 0⟩ := ⟨by simp, by simp, by simp [tot], by simp, by simp⟩
theorem add_law {s : DS} (h : s.WF) (t : Int) : (dAdd s t).2.WF ∧ ((dAdd s t).1 = 0 ↔ (1 ≤ t ∧ t ≤ 1048576 ∧ s.all ≠ 64)) ∧
    (∀ k, (dAdd s t).2.cnt k = s.cnt k + if k = t ∧ (dAdd s t).1 = 0 then 1 else 0) ∧ (dAdd s t).2.all = s.all + (if (dAdd s t).1 = 0 then 1 else 0) := by
  unfold dAdd
  by_cases h1 : t < 1 ∨ 1048576 < t
  · rw [if_pos h1]
    exact ⟨h, by simp; omega, fun k => by simp, by simp⟩
  · rw [if_neg h1]
    by_cases h2 : s.all = 64
    · rw [if_pos h2]
      exact ⟨h, by simp; omega, fun k => by simp, by simp⟩
    · rw [if_neg h2]
      have hs := tot_put s.of t (s.cnt t + 1)
      have hm := h.max
      refine ⟨⟨kvPut_nodup h.nodup _ _, ?_, ?_, by simp only; omega, ?_⟩, by simp; omega, ?_, by simp⟩
      · intro p hp
        rcases mem_put hp with rfl | hp
        · simp
        · exact h.pos p hp
      · have := h.sum
        simp only
        unfold DS.cnt at hs ⊢
        omega
      · intro p hp
        rcases mem_put hp with rfl | hp
        · simp only; omega
        · exact h.rng p hp
      · intro k
        show (kvGet (kvPut s.of t (s.cnt t + 1)) k).getD 0 = _
        rw [kvGet_put]
        by_cases e : t = k
        · subst e; simp
        · rw [if_neg e, if_neg (fun q => e q.1.symm)]; rfl
theorem take_law {s : DS} (h : s.WF) {t : Int} {n : Nat} (hn : n ≤ s.cnt t) (h0 : s.cnt t ≠ 0) : (dTake s t n).WF ∧ (∀ k, (dTake s t n).cnt k = if k = t then s.cnt t - n else s.cnt k) ∧ (dTake s t n).all = s.all - n := by
  have hs := tot_put s.of t (s.cnt t - n)
  have hsum := h.sum
  have hle := h.le_all t
  have hmax := h.max
  have hr := h.in_rng h0
  have hc : (kvGet s.of t).getD 0 = s.cnt t := rfl
  rw [hc] at hs
  unfold dTake
  by_cases hz : s.cnt t - n = 0
  · rw [if_pos hz]
    have hd := tot_del (kvPut_nodup h.nodup t (s.cnt t - n)) t
    rw [kvGet_put, if_pos rfl] at hd
    simp only [Option.getD_some] at hd
    have hmem : ∀ p ∈ kvDel (kvPut s.of t (s.cnt t - n)) t, p ∈ s.of := by
      intro p hp
      unfold kvDel at hp
      rw [List.mem_filter] at hp
      rcases mem_put hp.1 with rfl | h
      · simp at hp
      · exact h
    refine ⟨⟨kvDel_nodup (kvPut_nodup h.nodup _ _) _, fun p hp => h.pos p (hmem p hp), by simp only; omega, by simp only; omega, fun p hp => h.rng p (hmem p hp)⟩, ?_, rfl⟩
    intro k
    show (kvGet (kvDel (kvPut s.of t (s.cnt t - n)) t) k).getD 0 = _
    rw [kvGet_del, kvGet_put]
    by_cases e : t = k
    · subst e; simp [hz]
    · rw [if_neg e, if_neg e, if_neg (Ne.symm e)]; rfl
  · rw [if_neg hz]
    refine ⟨⟨kvPut_nodup h.nodup _ _, ?_, by simp only; omega, by simp only; omega, ?_⟩, ?_, rfl⟩
    · intro p hp
      rcases mem_put hp with rfl | hp
      · simp only; omega
      · exact h.pos p hp
    · intro p hp
      rcases mem_put hp with rfl | hp
      · exact hr
      · exact h.rng p hp
    · intro k
      show (kvGet (kvPut s.of t (s.cnt t - n)) k).getD 0 = _
      rw [kvGet_put]
      by_cases e : t = k
      · subst e; simp
      · rw [if_neg e, if_neg (Ne.symm e)]; rfl
theorem less_law {s : DS} (h : s.WF) (t : Int) : (dLess s t).2.WF ∧ ((dLess s t).1 = true ↔ s.cnt t ≠ 0) ∧ (∀ k, (dLess s t).2.cnt k = if k = t then s.cnt t - 1 else s.cnt k) ∧ (dLess s t).2.all + (if (dLess s t).1 = true then 1 else 0) = s.all := by
  unfold dLess
  by_cases h0 : s.cnt t = 0
  · rw [if_pos h0]
    refine ⟨h, by simp [h0], fun k => ?_, by simp⟩
    by_cases e : k = t
    · rw [if_pos e, e, h0]
    · rw [if_neg e]
  · rw [if_neg h0]
    obtain ⟨a, b, c⟩ := take_law h (t := t) (n := 1) (by omega) h0
    have := h.le_all t
    exact ⟨a, by simp [h0], b, by simp only [if_true]; rw [c]; omega⟩

/-! keys, rising -/
theorem keys_nodup {s : DS} (h : s.WF) : s.keys.Nodup := by
  unfold DS.keys sortK
  exact (List.mergeSort_perm _ _).nodup_iff.2 h.nodup
theorem keys_sorted (s : DS) : s.keys.Pairwise (fun a b => a ≤ b) := by
  unfold DS.keys sortK
  refine (List.pairwise_mergeSort (le := fun x y => decide (x ≤ y)) (fun a b c h1 h2 => ?_) (fun a b => ?_) (s.of.map (·.1))).imp (fun h => of_decide_eq_true h)
  · have := of_decide_eq_true h1; have := of_decide_eq_true h2; exact decide_eq_true (by omega)
  · simp; omega
theorem mem_keys {s : DS} (h : s.WF) (t : Int) : t ∈ s.keys ↔ s.cnt t ≠ 0 := by rw [keys_mem, h.key]
theorem keys_ext {s t : DS} (hs : s.WF) (ht : t.WF) (h : ∀ k, s.cnt k = t.cnt k) : s.keys = t.keys := by
  have hp : s.keys.Perm t.keys := (List.perm_ext_iff_of_nodup (keys_nodup hs) (keys_nodup ht)).2 (fun k => by rw [mem_keys hs, mem_keys ht, h k])
  exact List.Perm.eq_of_pairwise (le := fun a b : Int => a ≤ b) (fun a b _ _ h1 h2 => by omega) (keys_sorted s) (keys_sorted t) hp
theorem counts_ext {s t : DS} (hs : s.WF) (ht : t.WF) (h : ∀ k, s.cnt k = t.cnt k) : s.counts = t.counts := by
  unfold DS.counts
  rw [keys_ext hs ht h]
  apply List.map_congr_left
  intro k _
  rw [h k]
theorem counts_sum {s : DS} (h : s.WF) : tot s.counts = s.all := by
  rw [← h.sum]
  unfold tot DS.counts
  rw [List.map_map]
  have hp : (s.keys.map ((·.2) ∘ fun k => (k, s.cnt k))).Perm ((s.of.map (·.1)).map s.cnt) := by
    unfold DS.keys sortK
    exact (List.mergeSort_perm _ _).map _
  rw [hp.sum_nat, List.map_map]
  congr 1
  apply List.map_congr_left
  intro p hp
  simp only [Function.comp_apply]
  unfold DS.cnt
  rw [mem_get h.nodup hp]; rfl
theorem all_ext {s t : DS} (hs : s.WF) (ht : t.WF) (h : ∀ k, s.cnt k = t.cnt k) : s.all = t.all := by
  rw [← counts_sum hs, ← counts_sum ht, counts_ext hs ht h]

/-! Pass -/
theorem counts_get {s : DS} {k : Nat} {t : Int} (h : s.keys[k]? = some t) : s.counts[k]? = some (t, s.cnt t) := by
  unfold DS.counts; rw [List.getElem?_map, h]; rfl
theorem pass_inv {s : DS} (h : s.WF) (floor : Int) : ∀ k, k ≤ s.keys.length → (passTo s floor (s.counts.take k)).2.WF ∧ (∀ t, (passTo s floor (s.counts.take k)).2.cnt t = if t ∈ s.keys.take k ∧ t ≤ floor then 0 else s.cnt t) ∧ (passTo s floor (s.counts.take k)).1 + (passTo s floor (s.counts.take k)).2.all = s.all := by
  intro k
  induction k with
  | zero => intro _; exact ⟨h, fun t => by simp [passTo], by simp [passTo]⟩
  | succ k ih =>
    intro hk
    obtain ⟨i1, i2, i3⟩ := ih (by omega)
    have ht : s.keys[k]? = some s.keys[k] := List.getElem?_eq_getElem (by omega)
    generalize s.keys[k] = t at ht
    have hcg := counts_get ht
    have hpt : passTo s floor (s.counts.take (k + 1)) = if t ≤ floor then ((passTo s floor (s.counts.take k)).1 + s.cnt t, dTake (passTo s floor (s.counts.take k)).2 t (s.cnt t)) else passTo s floor (s.counts.take k) := by
      rw [take_succ_get2 _ _ _ hcg]
      unfold passTo
      rw [List.foldl_append]; rfl
    have hkt := take_succ_get2 _ _ _ ht
    have hnd := keys_nodup h
    have hnot : t ∉ s.keys.take k := by
      intro hm
      obtain ⟨j, hj, e⟩ := List.getElem_of_mem hm
      rw [List.length_take] at hj
      have h1 : s.keys[j]? = some t := by
        rw [List.getElem_take] at e
        rw [← e]; exact List.getElem?_eq_getElem (by omega)
      have h2 := (List.getElem?_inj (by omega) hnd).1 (h1.trans ht.symm)
      omega
    rw [hpt, hkt]
    by_cases hf : t ≤ floor
    · rw [if_pos hf]
      have hc : (passTo s floor (s.counts.take k)).2.cnt t = s.cnt t := by rw [i2, if_neg (fun q => hnot q.1)]
      have h0 : s.cnt t ≠ 0 := (mem_keys h t).1 (List.mem_of_getElem? ht)
      obtain ⟨a, b, c⟩ := take_law i1 (t := t) (n := s.cnt t) (by omega) (by omega)
      have hla := i1.le_all t
      refine ⟨a, fun x => ?_, by simp only; omega⟩
      rw [b x]
      by_cases e : x = t
      · rw [if_pos e, if_pos ⟨by simp [e], by omega⟩]; omega
      · rw [if_neg e, i2]
        have : (x ∈ s.keys.take k ++ [t] ∧ x ≤ floor) ↔ (x ∈ s.keys.take k ∧ x ≤ floor) := by simp [e]
        simp only [this]
    · rw [if_neg hf]
      refine ⟨i1, fun x => ?_, i3⟩
      rw [i2]
      have : (x ∈ s.keys.take k ++ [t] ∧ x ≤ floor) ↔ (x ∈ s.keys.take k ∧ x ≤ floor) := by
        constructor
        · rintro ⟨h1, h2⟩
          rcases List.mem_append.1 h1 with h1 | h1
          · exact ⟨h1, h2⟩
          · simp at h1; omega
        · rintro ⟨h1, h2⟩; exact ⟨List.mem_append_left _ h1, h2⟩
      simp only [this]
theorem pass_law {s : DS} (h : s.WF) (floor : Int) : (dPass s floor).2.WF ∧ (∀ t, (dPass s floor).2.cnt t = if t ≤ floor then 0 else s.cnt t) ∧ (dPass s floor).1 + (dPass s floor).2.all = s.all := by
  have hl : s.counts.length = s.keys.length := by unfold DS.counts; rw [List.length_map]
  have hi := pass_inv h floor s.keys.length (Nat.le_refl _)
  have ht : s.counts.take s.keys.length = s.counts := List.take_of_length_le (by omega)
  rw [ht] at hi
  refine ⟨hi.1, fun t => ?_, hi.2.2⟩
  have := hi.2.1 t
  unfold dPass
  rw [this, List.take_of_length_le (Nat.le_refl _)]
  by_cases hf : t ≤ floor
  · rw [if_pos hf]
    by_cases hm : t ∈ s.keys
    · rw [if_pos ⟨hm, hf⟩]
    · rw [if_neg (fun q => hm q.1)]
      exact Classical.byContradiction fun q => hm ((mem_keys h t).2 q)
  · rw [if_neg hf, if_neg (fun q => hf q.2)]
end Go.Proofs.Ytkfnfflonjfglaa
