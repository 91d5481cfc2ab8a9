/-
  Package dead: Counts, Pass, Copy.
-/
import Derived.Test.YtkfnfflonjfglaaDead
import Derived.Test.YtkfnfflonjfglaaSortedKeys
import Derived.Deep.RegionHeld3
import Derived.Shelf.SlMaps.Clone
namespace Go.Proofs.Ytkfnfflonjfglaa
open Go.RowKit
set_option linter.unusedVariables false
set_option linter.unusedSimpArgs false
set_option maxRecDepth 100000

/-- Counts, one behind the other, in two cells each. -/
def flat2 : List (Int × Nat) → List Value
  | [] => []
  | p :: r => .int .i64 p.1 :: .int .i64 (p.2 : Int) :: flat2 r
theorem flat2_length (l : List (Int × Nat)) : (flat2 l).length = l.length * 2 := by
  induction l with
  | nil => rfl
  | cons p r ih => simp only [flat2, List.length_cons, ih]; omega
theorem flat2_append (a b : List (Int × Nat)) : flat2 (a ++ b) = flat2 a ++ flat2 b := by
  induction a with
  | nil => rfl
  | cons p r ih => simp only [List.cons_append, flat2, ih]
theorem flat2_get {l : List (Int × Nat)} {i : Nat} {p : Int × Nat} (h : l[i]? = some p) : (flat2 l)[i * 2]? = some (.int .i64 p.1) ∧ (flat2 l)[i * 2 + 1]? = some (.int .i64 (p.2 : Int)) := by
  induction l generalizing i with
  | nil => simp at h
  | cons q r ih =>
    cases i with
    | zero => simp at h; subst h; simp [flat2]
    | succ i =>
      simp only [List.getElem?_cons_succ] at h
      have := ih h
      have e : (i + 1) * 2 = i * 2 + 1 + 1 := by omega
      rw [e]
      simpa [flat2] using this
def DS.keys (s : DS) : List Int := sortK (s.of.map (·.1))
def DS.counts (s : DS) : List (Int × Nat) := s.keys.map fun k => (k, s.cnt k)
theorem keys_length (s : DS) : s.keys.length = s.of.length := by unfold DS.keys sortK; rw [List.length_mergeSort, List.length_map]
theorem keys_mem (s : DS) (k : Int) : k ∈ s.keys ↔ k ∈ s.of.map (·.1) := by unfold DS.keys sortK; exact List.mem_mergeSort

theorem count_info : (Try.prog.info? 45).map (fun i => (i.zero, i.size, i.bytes)) = some (some (.agg #[.int .i64 0, .int .i64 0]), 2, 16) := by kernel_rfl
theorem two_cells (u v : Value) (w : World) (b : Nat) (h0 : w.cell? ⟨b, 0, none⟩ = some u) (h1 : w.cell? ⟨b, 1, none⟩ = some v) : ∀ (j : Nat) (x : Value), ([u, v] : List Value)[j]? = some x → w.cell? ((⟨b, 0, none⟩ : Addr).add j) = some x := by
  intro j x hx
  rw [Addr.add_lit, Nat.zero_add]
  match j, hx with
  | 0, hx => simp at hx; subst hx; exact h0
  | 1, hx => simp at hx; subst hx; exact h1
  | j + 2, hx => simp at hx

/-- The loop's world. -/
structure CtRel (w0 : World) (d m : Nat) (s : DS) (ka : Option Addr) (n kc : Nat) (k : Nat) (a : Option Addr) (cap : Nat) (wr : World) : Prop where
  dead : DeadAt wr d m s
  ks : SlAt wr ka n kc 3 1 (s.keys.map (Value.int .i64))
  out : SlAt wr a k cap 45 2 (flat2 (s.counts.take k))
  fr : Fr none_ w0 wr
  own : ∀ j, blk a j → w0.heap.size ≤ j
  ap : ∀ j, blk ka j → ¬ blk a j
theorem take_succ_get2 {α : Type} (l : List α) (k : Nat) (x : α) (h : l[k]? = some x) : l.take (k + 1) = l.take k ++ [x] := by
  rw [List.take_add_one, h]; rfl

set_option maxHeartbeats 2000000 in
theorem Dead_Counts {w : World} {d m : Nat} {s : DS} (h : DeadAt w d m s) (hk : ∀ p ∈ s.of, (Lit.int .i64 p.1).wf = true) (hn : s.of.length ≤ 1000) (hc : ∀ t, s.cnt t ≤ 64) :
    Calls Try.prog 19 #[.pointer (some ⟨d, 0, none⟩)] w fun e w' => ∃ a cap, e = .returned (.slice a s.of.length cap) ∧ SlAt w' a s.of.length cap 45 2 (flat2 s.counts) ∧ Fr none_ w w' ∧ ∀ k, blk a k → w.heap.size ≤ k := by
  have c0 := h.c0
  have hkc := keys_call w m
  obtain ⟨w1, hw1⟩ : ∃ w1, w1 = w.alloc (.cells #[.map (some m)] 48) := ⟨_, rfl⟩
  have f1 : Fr none_ w w1 := by rw [hw1]; exact Fr.alloc _ _ _
  have hsc := sorted_call h.map hk (by omega) w1 hw1
  rw [← hw1] at hkc
  have H := Lib.hid h
  have HKC := Lib.hid hkc
  have HSC := Lib.hid hsc
  have F1 := Lib.hid f1
  have HC := Lib.hid hc
  have hkl := keys_length s
  have HKL := Lib.hid hkl
  clear hkc hsc hw1 f1 h hc hkl
  go_enter Try.func19, Try.ntmps19
  go_wp2_with fail
  refine HKC.out.mono ?_
  rintro e w2 ⟨rfl, rfl⟩
  go_wp2_with fail
  refine HSC.out.mono ?_
  rintro e w3 ⟨ka, n, kc, rfl, hnl, hsl, f3, hb3⟩
  have HNL := Lib.hid hnl
  have fr3 := F1.out.trans f3
  have hr0 : CtRel w d m s ka n kc 0 none 0 w3 := ⟨H.out.kept0 fr3, hsl, SlAt.empty _ _ _, fr3, fun j hj => absurd hj (blk_none j), fun j _ => blk_none j⟩
  have hnb : n ≤ 1000 := by omega
  clear hnl hsl f3 fr3 c0
  go_wp2_with fail
  go_loopw [3, 15] (fun u i wr => ∃ (k cap : Nat) (a : Option Addr), Hid (k ≤ n) ∧ i = .int .i64 k ∧ u = .slice a k cap ∧ CtRel w d m s ka n kc k a cap wr) (fun _ i _ => n - (intOf i).toNat)
  case atStart => exact ⟨0, 0, none, Nat.zero_le _, rfl, rfl, hr0⟩
  case round =>
    obtain ⟨k, cap, a, hk', rfl, rfl, hr⟩ := hrel
    clear hr0
    by_cases hlt : k < n
    · obtain ⟨t, ht⟩ : ∃ t, s.keys[k]? = some t := ⟨s.keys[k]'(by rw [HKL.out, ← HNL.out]; exact hlt), List.getElem?_eq_getElem _⟩
      obtain ⟨g, rfl⟩ := hr.ks.isAddr (by omega)
      have ck := hr.ks.cell (i := k) (v := .int .i64 t) (by rw [List.getElem?_map, ht]; rfl)
      have c0 := hr.dead.c0
      have lk := hr.dead.look t
      have hct := HC.out t
      have hcc : s.counts[k]? = some (t, s.cnt t) := by unfold DS.counts; rw [List.getElem?_map, ht]; rfl
      have HCC := Lib.hid hcc
      generalize s.cnt t = cn at lk hct HCC
      clear ht hcc
      go_wp2_with (at_builtin; refine wpAppend rfl _ _ _ rfl 45 (.agg #[.int .i64 0, .int .i64 0]) 2 16 Try.underlying39 count_info rfl (hr.out.kept0 (Fr.alloc _ _ _)) rfl ⟨wr.heap.size, 0, none⟩ 1 1 [.int .i64 t, .int .i64 (cn : Int)] rfl rfl (two_cells _ _ _ _ (by simp) (by simp)) (by simp [Value.oneCell']) (by omega) (by simp [maxLen]; omega) (by omega) ?_; intro a2 cap2 w6 hs6 f6 hb6)
      go_roundw
      case rel =>
        have hz := hr.fr.size
        have hF : Fr (blk a) wr w6 := (Fr.alloc none_ wr _).none.trans f6
        refine ⟨k + 1, cap2, a2, hlt, by go_num, rfl, ⟨hr.dead.kept hF (fun e => by have := hr.own d e; have := H.out.lt; omega) (fun e => by have := hr.own m e; have := H.out.lt; omega), ?_, ?_, hr.fr.step hF (fun i hi e => by have := hr.own i e; omega), ?_, ?_⟩⟩
        · exact hr.ks.kept hF (fun j hj e => hr.ap j hj e)
        · rw [take_succ_get2 _ _ _ HCC.out, flat2_append]; exact hs6
        · intro j hj
          rcases hb6 j hj with e | e
          · exact hr.own j e
          · simp at e; omega
        · intro j hj e
          rcases hb6 j e with q | q
          · exact hr.ap j hj q
          · have := hr.ks.lt j hj; simp at q; omega
      case measure => simp [intOf]; omega
    · have hke : k = n := by have := hk'.out; omega
      have HR := Lib.hid hr
      have HKE := Lib.hid hke
      clear hr hke
      go_wp2_with fail
      go_ret
      have hr := HR.out
      have e1 := HKE.out
      have e2 := HNL.out
      subst e1
      subst e2
      have ht : s.counts.take s.of.length = s.counts := List.take_of_length_le (by unfold DS.counts; rw [List.length_map, HKL.out]; exact Nat.le_refl _)
      refine ⟨a, cap, rfl, ?_, hr.fr, hr.own⟩
      have := hr.out
      rw [ht] at this; exact this

/-! ### Pass -/
/-- What has gone, and what is left, behind the first k of the counts. -/
def passTo (s : DS) (floor : Int) (l : List (Int × Nat)) : Nat × DS := l.foldl (fun st p => if p.1 ≤ floor then (st.1 + p.2, dTake st.2 p.1 p.2) else st) (0, s)
def dPass (s : DS) (floor : Int) : Nat × DS := passTo s floor s.counts
end Go.Proofs.Ytkfnfflonjfglaa
