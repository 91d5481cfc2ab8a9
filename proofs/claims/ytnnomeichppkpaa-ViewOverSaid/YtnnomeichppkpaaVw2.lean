/-
  Package view: Copy, Of, as the program computes them.
-/
import Derived.Test.YtnnomeichppkpaaVw
import Derived.Deep.RegionHeld3
import Derived.Test.YtnnomeichppkpaaAppendS
namespace Go.Proofs.Ytnnomeichppkpaa
open Go.RowKit Go.Sort
set_option linter.unusedVariables false
set_option linter.unusedSimpArgs false
set_option maxRecDepth 100000
set_option maxHeartbeats 1000000 in
theorem Copy_any (w : World) (own high : Int) (a : Option Addr) (n c : Nat) (l : List Int) (h : IntsAt w a l) (hn : n = l.length) (hb : n ≤ 1000000) :
    Calls Try.prog 13 #[.agg #[.int .i64 own, .int .i64 high, .slice a n c]] w fun e w' => ∃ a' cap', e = .returned (vwV own high a' n cap') ∧ SlAt w' a' n cap' 3 1 (l.map encI) ∧ Fr none_ w w' ∧ ∀ k, blk a' k → w.heap.size ≤ k := by
  have C := Lib.hid (fun w' (f : Fr none_ w w') => clone_any w' a n c l (h.kept0 f) hn hb)
  clear h hn hb
  go_enter Try.func13, Try.ntmps13
  go_wp2_with fail
  obtain ⟨w2, hw2⟩ : ∃ w2 : World, w2 = (w.alloc (.cells #[.int .i64 own, .int .i64 high, .slice a n c] 25)).alloc (.cells #[.int .i64 0, .int .i64 0, .slice none 0 0] 25) := ⟨_, rfl⟩
  have r1 : Row w2 w.heap.size #[.int .i64 own, .int .i64 high, .slice a n c] 25 := by rw [hw2]; exact (Row.new _ _ _).alloc _
  have r2 : Row w2 (w.heap.size + 1) #[.int .i64 0, .int .i64 0, .slice none 0 0] 25 := by
    rw [hw2]
    have := Row.new (w.alloc (.cells #[.int .i64 own, .int .i64 high, .slice a n c] 25)) #[.int .i64 0, .int .i64 0, .slice none 0 0] 25
    simpa using this
  have f2 : Fr none_ w w2 := by rw [hw2]; exact (Fr.alloc _ _ _).alloc_r _
  have z2 : w2.heap.size = w.heap.size + 2 := by rw [hw2]; simp
  rw [← hw2]
  have R1 := Lib.hid r1
  have R2 := Lib.hid r2
  have F2 := Lib.hid f2
  have Z2 := Lib.hid z2
  have c0 : w2.cell? ⟨w.heap.size, 0, none⟩ = some (.int .i64 own) := r1.cell 0
  have c1 : w2.cell? ⟨w.heap.size, 1, none⟩ = some (.int .i64 high) := r1.cell 1
  have c2 : w2.cell? ⟨w.heap.size, 2, none⟩ = some (.slice a n c) := r1.cell 2
  clear hw2 r1 r2 f2 z2
  have fS : Fr (one (w.heap.size + 1)) w2 w2 := Fr.refl _ _
  have FO : Hid (∀ w', Fr (one (w.heap.size + 1)) w2 w' → Fr none_ w w') := (fun w' f => F2.out.step f (fun i hi e => by unfold one at e; omega))
  go_region_held3 (fun w' => Fr (one (w.heap.size + 1)) w2 w' ∧ w'.cell? ⟨w.heap.size, 0, none⟩ = some (.int .i64 own) ∧ w'.cell? ⟨w.heap.size, 1, none⟩ = some (.int .i64 high) ∧ w'.cell? ⟨w.heap.size, 2, none⟩ = some (.slice a n c))
    (first | (go_split_ands; refine ⟨?_, ?_, ?_, ?_⟩; exact Fr.trans (by assumption) (Fr.none f5); all_goals exact Fr.keep f5 (by assumption)) | (go_split_ands; refine ⟨?_, ?_, ?_, ?_⟩; exact Fr.trans (by assumption) (Fr.drew _ _); all_goals assumption) | (go_split_ands; refine ⟨?_, ?_, ?_, ?_⟩; exact fr_set3 (by assumption) rfl; all_goals exact keep_set3 (by assumption) (by simp)) | go_keep)
    (first | (go_at_call 24; refine (C.out _ (Fr.trans F2.out (Fr.drew _ _))).mono ?_; rintro e w5 ⟨a', cap', rfl, hs0, f5, hk0⟩; have hs := Lib.hid hs0; have hk := Lib.hid hk0; clear hs0 hk0; have R5 := Lib.hid (R2.out.kept ((Fr.drew none_ w2).trans f5) (fun e => e)); have e0 : w5.cell? ⟨w.heap.size + 1, 0, none⟩ = some (.int .i64 0) := R5.out.cell 0; have e1 : w5.cell? ⟨w.heap.size + 1, 1, none⟩ = some (.int .i64 0) := R5.out.cell 1; have e2 : w5.cell? ⟨w.heap.size + 1, 2, none⟩ = some (.slice none 0 0) := R5.out.cell 2; have k0 : w5.frozen? ⟨w.heap.size + 1, 0, none⟩ = false := R5.out.free 0; have k1 : w5.frozen? ⟨w.heap.size + 1, 1, none⟩ = false := R5.out.free 1; have k2 : w5.frozen? ⟨w.heap.size + 1, 2, none⟩ = false := R5.out.free 2))
  have FT : Hid (Fr (one (w.heap.size + 1)) w5 (((w5.setCell ⟨w.heap.size + 1, 0, none⟩ (.int .i64 own)).setCell ⟨w.heap.size + 1, 1, none⟩ (.int .i64 high)).setCell ⟨w.heap.size + 1, 2, none⟩ (.slice a' n cap'))) := fr_set3 (Fr.refl _ _) rfl
  have F5 := Lib.hid ((Fr.drew none_ w2).trans f5)
  clear f5
  go_wp2
  have hkk : ∀ k, blk a' k → w.heap.size + 2 ≤ k := fun k hk' => by have h1 : w2.heap.size ≤ k := hk.out k hk'; have z := Z2.out; omega
  refine bodyPost_ret (v := vwV own high a' n cap') (by simp [results, Try.results13, go_sem, e0, e1, e2, vwV]) rfl ⟨_, _, rfl, hs.out.kept FT.out (fun k hk' e => by have := hkk k hk'; unfold one at e; omega), ?_, fun k hk' => by have := hkk k hk'; omega⟩
  exact (F2.out.trans F5.out).step FT.out (fun i hi e => by unfold one at e; omega)

theorem take_enc (xs : List Int) (m : Nat) (z : Int) : ((xs ++ List.replicate m z).map encI).take xs.length = xs.map encI := by
  rw [List.map_append]
  exact List.take_left' (by simp)
theorem of1_any (own high x : Int) (H O : Nat) (W : World) (hH : W.cell? ⟨H, 0, none⟩ = some (.int .i64 high)) (hO : W.cell? ⟨O, 0, none⟩ = some (.int .i64 own)) :
    Calls Try.prog 18 #[.int .i64 x, .pointer (some ⟨H, 0, none⟩), .pointer (some ⟨O, 0, none⟩)] W fun e w' => e = .returned (.bool (vwOut own high x)) ∧ W = w' := by
  by_cases h1 : x < 1
  · have e : vwOut own high x = true := by unfold vwOut; simp [h1]
    rw [e]; clear e
    go_enter Try.func18, Try.ntmps18
    go_wp2
    go_ret
    exact ⟨rfl, rfl⟩
  · by_cases h2 : high ≤ x
    · have e : vwOut own high x = true := by unfold vwOut; simp [h2]
      rw [e]; clear e
      go_enter Try.func18, Try.ntmps18
      go_wp2
      go_ret
      exact ⟨rfl, rfl⟩
    · have e : vwOut own high x = (x == own) := by unfold vwOut; simp [h1, h2]
      rw [e]; clear e
      cases hb : (x == own)
      all_goals
        go_enter Try.func18, Try.ntmps18
        go_wp2
        go_ret
        exact ⟨rfl, rfl⟩

theorem del_any {w : World} {g H O n : Nat} {own high : Int} {l : List Int} (h : SlAt w (some ⟨g, 0, none⟩) n n 3 1 (l.map encI)) (hn : n = l.length) (hb : n ≤ 1000000) (hH : w.cell? ⟨H, 0, none⟩ = some (.int .i64 high)) (hO : w.cell? ⟨O, 0, none⟩ = some (.int .i64 own)) (hHg : H ≠ g) (hOg : O ≠ g) :
    Calls Try.prog 17 #[.slice (some ⟨g, 0, none⟩) n n, .func (.func 18) #[] #[.pointer (some ⟨H, 0, none⟩), .pointer (some ⟨O, 0, none⟩)]] w fun e w' =>
      e = .returned (.slice (some ⟨g, 0, none⟩) (vwLeft own high l).length n) ∧ SlAt w' (some ⟨g, 0, none⟩) (vwLeft own high l).length n 3 1 ((vwLeft own high l).map encI) ∧ Fr (one g) w w' := by
  subst hn
  have hHl := World.block_lt_of_cell? w _ hH
  have hOl := World.block_lt_of_cell? w _ hO
  have hp : PredAt Try.prog 18 #[.pointer (some ⟨H, 0, none⟩), .pointer (some ⟨O, 0, none⟩)] (Value.int .i64) (vwOut own high) w := fun W x hbl =>
    (of1_any own high x H O W ((hbl.cell (p := ⟨H, 0, none⟩) hHl).trans hH) ((hbl.cell (p := ⟨O, 0, none⟩) hOl).trans hO)).mono fun e w' ⟨he, hw⟩ => ⟨he, 0, hw.symm⟩
  have hpo : PredOver Try.prog 18 #[.pointer (some ⟨H, 0, none⟩), .pointer (some ⟨O, 0, none⟩)] (Value.int .i64) (vwOut own high) g 0 l.toArray.size w := by
    intro q os dk x _
    have hc : ∀ (b : Nat) (v : Value), w.cell? ⟨b, 0, none⟩ = some v → b ≠ g → (sortWorld (Value.int .i64) w g 0 q dk os).cell? ⟨b, 0, none⟩ = some v := by
      intro b v hv hne
      have hbl := World.block_lt_of_cell? w _ hv
      unfold sortWorld
      rw [cell?_grow _ _ _ (by show b < (putRow _ _ _ _ _).heap.size; rw [size_putRow]; exact hbl), cell?_putRow_other _ _ g 0 _ _ (Or.inl hne)]
      exact hv
    exact (of1_any own high x H O _ (hc H _ hH hHg) (hc O _ hO hOg)).mono fun e w' ⟨he, hw⟩ => ⟨he, 0, hw.symm⟩
  have hc := AnyE.slices_DeleteFunc (P := Try.prog) delA (Value.int .i64) (fun _ => rfl) (vwOut own high) 18 #[.pointer (some ⟨H, 0, none⟩), .pointer (some ⟨O, 0, none⟩)] (enters_of Try.func18 (by kernel_rfl) rfl) 0 (fun w => by kernel_rfl) g 0 l.length l.toArray w hp hpo h.holds (by simp; omega) (by simp)
  change Calls Try.prog 17 _ _ _ at hc
  have e0 : l.toArray.size = l.length := by simp
  rw [e0] at hc
  refine hc.mono ?_
  rintro e w' ⟨rfl, q, rfl⟩
  have hle : (vwLeft own high l).length ≤ l.length := List.length_filter_le _ _
  refine ⟨rfl, ?_, Fr.putRow _ _ _ _ _ _⟩
  have hsl := h.putRow (enc := Value.int .i64) q ((vwLeft own high l) ++ List.replicate (l.length - (vwLeft own high l).length) 0).toArray (by simp; omega)
  have hcut := hsl.cut hle
  have hcut' : SlAt (putRow (Value.int .i64) (Sort.ahead w q) g 0 ((vwLeft own high l) ++ List.replicate (l.length - (vwLeft own high l).length) 0).toArray) (some ⟨g, 0, none⟩) (vwLeft own high l).length l.length 3 1 (((vwLeft own high l ++ List.replicate (l.length - (vwLeft own high l).length) 0).map encI).take (vwLeft own high l).length) := hcut
  rw [take_enc] at hcut'
  exact hcut'

theorem sort_any {w : World} {g n cap : Nat} {l : List Int} (h : SlAt w (some ⟨g, 0, none⟩) n cap 3 1 (l.map encI)) (hn : n = l.length) (hb : n ≤ 1000000) :
    Calls Try.prog 19 #[.slice (some ⟨g, 0, none⟩) n cap] w fun e w' => e = .returned (.tuple #[]) ∧ SlAt w' (some ⟨g, 0, none⟩) n cap 3 1 ((l.mergeSort fun x y => decide (x ≤ y)).map encI) ∧ Fr (one g) w w' := by
  subst hn
  refine (AnyM.slices_Sort_int sortA g 0 cap l w h.holds (h.lt g ⟨_, rfl, rfl⟩) (by omega)).mono ?_
  rintro e w' ⟨rfl, q, os, rfl⟩
  have hs := h.putRow (enc := Value.int .i64) q (l.mergeSort fun x y => decide (x ≤ y)).toArray (by simp [List.length_mergeSort])
  refine ⟨rfl, ?_, (Fr.putRow _ _ _ _ _ _).trans (Fr.none (Fr.grow _ _))⟩
  exact hs.kept0 (Fr.grow _ _)

theorem compact_any {w : World} {g n cap : Nat} {l : List Int} (h : SlAt w (some ⟨g, 0, none⟩) n cap 3 1 (l.map encI)) (hn : n = l.length) (hb : n ≤ 1000000) :
    Calls Try.prog 20 #[.slice (some ⟨g, 0, none⟩) n cap] w fun e w' => e = .returned (.slice (some ⟨g, 0, none⟩) (Lib.compact l).length cap) ∧ SlAt w' (some ⟨g, 0, none⟩) (Lib.compact l).length cap 3 1 ((Lib.compact l).map encI) ∧ Fr (one g) w w' := by
  subst hn
  refine (AnyG.slices_Compact_int compactA g 0 cap l w h.holds (by omega) h.2.1).mono ?_
  rintro e w' ⟨rfl, q, rfl⟩
  have hle : (Lib.compact l).length ≤ l.length := by
    unfold Lib.compact Lib.compactUpTo
    rw [List.length_map]
    exact Nat.le_trans (List.length_filter_le _ _) (by simp)
  refine ⟨rfl, ?_, Fr.putRow _ _ _ _ _ _⟩
  have hcut := (h.putRow (enc := Value.int .i64) q ((Lib.compact l) ++ List.replicate (l.length - (Lib.compact l).length) 0).toArray (by simp; omega)).cut hle
  have hcut' : SlAt (putRow (Value.int .i64) (Sort.ahead w q) g 0 ((Lib.compact l) ++ List.replicate (l.length - (Lib.compact l).length) 0).toArray) (some ⟨g, 0, none⟩) (Lib.compact l).length cap 3 1 (((Lib.compact l ++ List.replicate (l.length - (Lib.compact l).length) 0).map encI).take (Lib.compact l).length) := hcut
  rw [take_enc] at hcut'
  exact hcut'
end Go.Proofs.Ytnnomeichppkpaa
