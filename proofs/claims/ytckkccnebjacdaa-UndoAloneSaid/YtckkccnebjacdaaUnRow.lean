/-
  Package undo: Make, Row.
-/
import Derived.Test.YtckkccnebjacdaaUnAt
import Derived.Deep.RegionHeld3
namespace Go.Proofs.Ytckkccnebjacdaa
open Go.RowKit
set_option linter.unusedVariables false
set_option linter.unusedSimpArgs false
set_option maxRecDepth 100000
section
variable {w w' : World} {x a m N vl : Nat} {F G : Nat → Prop} {vs : List (Int × SgV)} {c : CfgV} {s : AS} {t : US}
theorem verL_one (w1 : World) (v : VerV) : LsAt (w1.alloc (.cells #[.int .i64 v.wr, .int .i64 v.ts, .bool v.tomb, .string v.val] 44)) (some ⟨w1.heap.size, 0, none⟩) 4 verL [v] := by
  refine Or.inr ⟨w1.heap.size, 0, rfl, by simp, fun i x hx j u hu => ?_⟩
  have hi : i = 0 := by have := (List.getElem?_eq_some_iff.1 hx).1; simp at this; omega
  subst hi
  simp at hx; subst hx
  have r := (Row.new w1 v.cells 44).cell j
  rw [Nat.zero_mul, Nat.add_zero, Nat.zero_add]
  refine r.trans ?_
  simpa [verL] using hu
theorem may_one {w : World} {x : Nat} (vl : Nat) (hvl : vl ≤ 256) (hcx : w.cell? ⟨x, 6, none⟩ = some (.int .i64 (vl : Int))) (v : VerV) (hs : v.val.size ≤ 140737488351232) :
    Calls Try.prog 36 #[.pointer (some ⟨x, 0, none⟩), .slice (some ⟨w.heap.size, 0, none⟩) 1 1] (w.alloc (.cells #[.int .i64 v.wr, .int .i64 v.ts, .bool v.tomb, .string v.val] 44)) fun e w' => e = .returned (.bool (v.umay vl)) ∧ Fr none_ w w' := by
  have f := Fr.alloc none_ w (.cells #[.int .i64 v.wr, .int .i64 v.ts, .bool v.tomb, .string v.val] 44)
  refine (Undo_may vl hvl (f.keep hcx) _ 1 1 [v] (verL_one w v) rfl (by omega) (by simpa using hs) (v.umay vl) (by simp)).mono ?_
  rintro e w1 ⟨he, f1⟩
  exact ⟨he, f.trans f1⟩
theorem ver_boxU {w w' : World} {v : VerV} {G : Nat → Prop} (f : Fr G (w.alloc (.cells v.cells 44)) w') (hn : ¬ G w.heap.size) : w'.cell? ⟨w.heap.size, 0, none⟩ = some (.int .i64 v.wr) ∧ w'.cell? ⟨w.heap.size, 1, none⟩ = some (.int .i64 v.ts) ∧ w'.cell? ⟨w.heap.size, 2, none⟩ = some (.bool v.tomb) ∧ w'.cell? ⟨w.heap.size, 3, none⟩ = some (.string v.val) := by
  have h := (Row.new w v.cells 44).kept f hn
  exact ⟨h.cell 0, h.cell 1, h.cell 2, h.cell 3⟩
set_option maxHeartbeats 4000000 in
theorem Undo_Make_bad (hcx : w.cell? ⟨x, 6, none⟩ = some (.int .i64 (vl : Int))) (hvl : vl ≤ 256) (v : VerV) (hs : v.val.size ≤ 140737488351232) (hm : v.umay vl = false) (nx : Int) :
    Calls Try.prog 20 #[.pointer (some ⟨x, 0, none⟩), .agg v.cells, .int .u64 nx] w fun e w' => e = .returned (.tuple #[.int .u64 0, .int .i64 1]) ∧ Fr none_ w w' := by
  have fB := Fr.alloc none_ w (.cells v.cells 44)
  have HM := may_one vl hvl (fB.keep hcx) v hs
  rw [hm, World.size_alloc] at HM
  have HM := Lib.hid HM
  obtain ⟨b0, b1, b2, b3⟩ := ver_boxU (w := w) (v := v) (Fr.refl none_ _) (fun e => e)
  have FB := Lib.hid fB
  unfold VerV.cells at HM FB b0 b1 b2 b3 ⊢
  obtain ⟨vw, vt, vtomb, vv⟩ := v
  simp only at HM FB b0 b1 b2 b3 ⊢
  clear hcx hs hm fB
  go_enter Try.func20, Try.ntmps20
  go_wp2_with fail
  refine HM.out.mono ?_
  rintro e w1 ⟨rfl, f1⟩
  have F1 := Lib.hid (FB.out.trans f1)
  clear f1
  go_wp2_with fail
  go_ret2
  exact ⟨rfl, F1.out⟩
set_option maxHeartbeats 4000000 in
theorem Undo_Make_ok (hcx : w.cell? ⟨x, 6, none⟩ = some (.int .i64 (vl : Int))) (hvl : vl ≤ 256) (v : VerV) (hs : v.val.size ≤ 140737488351232) (hm : v.umay vl = true) (hvw : v.wr < 9223372036854775808) {nx : Nat} (H E : Int) (R : World → Prop)
    (hP : ∀ w1, Fr none_ w w1 → Calls Try.prog 39 #[.pointer (some ⟨x, 0, none⟩), .agg (v.uv false nx).cells] w1 fun e w' => e = .returned (.tuple #[.int .u64 H, .int .i64 E]) ∧ R w') :
    Calls Try.prog 20 #[.pointer (some ⟨x, 0, none⟩), .agg v.cells, .int .u64 (nx : Int)] w fun e w' => e = .returned (.tuple #[.int .u64 H, .int .i64 E]) ∧ R w' := by
  have fB := Fr.alloc none_ w (.cells v.cells 44)
  have HM := may_one vl hvl (fB.keep hcx) v hs
  rw [hm, World.size_alloc] at HM
  have HM := Lib.hid HM
  have HB := Lib.hid (fun w' (f : Fr none_ (w.alloc (.cells v.cells 44)) w') => ver_boxU (w := w) (v := v) f (fun e => e))
  obtain ⟨b0, b1, b2, b3⟩ := HB.out _ (Fr.refl none_ _)
  have HO := Lib.hid (fun w' => Undo_of w' false v nx (VerV.umay_iff.1 hm).1 hvw)
  have HPP := Lib.hid hP
  have FB := Lib.hid fB
  generalize (v.uv false nx).cells = CS at HO HPP
  unfold VerV.cells at HM FB HB b0 b1 b2 b3 HO ⊢
  obtain ⟨vw, vt, vtomb, vv⟩ := v
  simp only at HM FB HB b0 b1 b2 b3 HO ⊢
  clear hcx hs hm fB hP
  go_enter Try.func20, Try.ntmps20
  go_wp2_with fail
  refine HM.out.mono ?_
  rintro e w1 ⟨rfl, f1⟩
  have F1 := Lib.hid f1
  clear b0 b1 b2 b3
  obtain ⟨b0, b1, b2, b3⟩ := HB.out _ F1.out
  clear f1
  go_wp2_with fail
  refine (HO.out _).mono ?_
  rintro e w2 ⟨rfl, f2⟩
  have P2 := Lib.hid (HPP.out w2 (FB.out.trans (F1.out.trans f2)))
  clear f2 b0 b1 b2 b3
  go_wp2_with fail
  refine P2.out.mono ?_
  rintro e w3 ⟨rfl, hr⟩
  have HR := Lib.hid hr
  clear hr
  go_wp2_with fail
  go_ret2
  exact ⟨rfl, HR.out⟩
def verZero : Array Value := #[.int .i64 0, .int .i64 0, .bool false, .string ⟨#[]⟩]
theorem four_cells {w : World} {b : Nat} {u0 u1 u2 u3 : Value} {t : TypeId} (h : Row w b #[u0, u1, u2, u3] t) : w.cell? ⟨b, 0, none⟩ = some u0 ∧ w.cell? ⟨b, 1, none⟩ = some u1 ∧ w.cell? ⟨b, 2, none⟩ = some u2 ∧ w.cell? ⟨b, 3, none⟩ = some u3 :=
  ⟨h.cell 0, h.cell 1, h.cell 2, h.cell 3⟩
set_option maxHeartbeats 4000000 in
theorem Undo_Row_no {h : Int} (HR : ∀ w1, Fr none_ w w1 → Calls Try.prog 27 #[.pointer (some ⟨x, 0, none⟩), .int .u64 h, .int .u8 1] w1 fun e w' => e = .returned (.tuple #[.agg slotZero, .bool false]) ∧ Fr none_ w1 w') :
    Calls Try.prog 53 #[.pointer (some ⟨x, 0, none⟩), .int .u64 h] w fun e w' => e = .returned (.tuple #[.agg verZero, .int .u64 0, .bool false]) ∧ Fr none_ w w' := by
  have HRR := Lib.hid (HR _ (Fr.alloc none_ w (.cells verZero 44)))
  have FA := Lib.hid (Fr.alloc none_ w (.cells verZero 44))
  have RA := Lib.hid (Row.new w verZero 44)
  unfold slotZero at HRR
  unfold verZero at HRR FA
  clear HR
  go_enter Try.func53, Try.ntmps53
  go_wp2_with fail
  refine HRR.out.mono ?_
  rintro e w1 ⟨rfl, f1⟩
  have R1 := Lib.hid ((RA.out.kept f1 (fun e => e)).kept (Fr.alloc none_ w1 (.cells #[.int .u8 0, .int .u8 0, .int .u64 0, .int .u64 0, .int .u64 0, .string ⟨#[]⟩] 70)) (fun e => e))
  have F1 := Lib.hid ((FA.out.trans f1).trans (Fr.alloc none_ w1 (.cells #[.int .u8 0, .int .u8 0, .int .u64 0, .int .u64 0, .int .u64 0, .string ⟨#[]⟩] 70)))
  obtain ⟨j0, j1, j2, j3⟩ := four_cells (u0 := .int .i64 0) (u1 := .int .i64 0) (u2 := .bool false) (u3 := .string ⟨#[]⟩) R1.out
  clear f1
  go_wp2_with ((with_reducible refine at_storeOf 44 ?_); refine wpStoreRow (cs' := verZero) rfl _ _ _ rfl R1.out rfl rfl (by kernel_rfl) rfl (by simp [verZero, Value.oneCell']) ?_; intro w2 R2 f2; obtain ⟨c0, c1, c2, c3⟩ := four_cells (u0 := .int .i64 0) (u1 := .int .i64 0) (u2 := .bool false) (u3 := .string ⟨#[]⟩) R2; have F2 := Lib.hid f2; clear f2 R2)
  refine bodyPost_ret (v := .tuple #[.agg verZero, .int .u64 0, .bool false]) (by simp [results, Try.results53, go_sem, c0, c1, c2, c3, verZero]) rfl ⟨rfl, ?_⟩
  exact F1.out.step F2.out (fun i hi e => by unfold one at e; omega)
theorem ver_set (W : World) (b : Nat) (v0 v1 v2 v3 : Value) : Fr (one b) W ((((W.setCell ⟨b, 0, none⟩ v0).setCell ⟨b, 1, none⟩ v1).setCell ⟨b, 2, none⟩ v2).setCell ⟨b, 3, none⟩ v3) :=
  (((Fr.setCell (one b) W ⟨b, 0, none⟩ v0 (fun _ => rfl)).setCell_r ⟨b, 1, none⟩ v1 (fun _ => rfl)).setCell_r ⟨b, 2, none⟩ v2 (fun _ => rfl)).setCell_r ⟨b, 3, none⟩ v3 (fun _ => rfl)
theorem ver_keep {W : World} {b k i : Nat} {v0 v1 v2 v3 v : Value} (h : ¬ k = b) (hc : W.cell? ⟨k, i, none⟩ = some v) : ((((W.setCell ⟨b, 0, none⟩ v0).setCell ⟨b, 1, none⟩ v1).setCell ⟨b, 2, none⟩ v2).setCell ⟨b, 3, none⟩ v3).cell? ⟨k, i, none⟩ = some v :=
  (ver_set W b v0 v1 v2 v3).keepF (fun e => h e) hc
theorem ver_row {W : World} {b : Nat} {u0 u1 u2 u3 : Value} {t : TypeId} {v0 v1 v2 v3 : Value} (h : Row W b #[u0, u1, u2, u3] t) : Row ((((W.setCell ⟨b, 0, none⟩ v0).setCell ⟨b, 1, none⟩ v1).setCell ⟨b, 2, none⟩ v2).setCell ⟨b, 3, none⟩ v3) b #[v0, v1, v2, v3] t :=
  (((h.set 0 v0).set 1 v1).set 2 v2).set 3 v3
set_option maxHeartbeats 8000000 in
theorem Undo_Row_yes {h : Int} (n : UV) (hk : n.rcd = false) (hw : n.wr < 9223372036854775808) (HR : ∀ w1, Fr none_ w w1 → Calls Try.prog 27 #[.pointer (some ⟨x, 0, none⟩), .int .u64 h, .int .u8 1] w1 fun e w' => e = .returned (.tuple #[.agg n.cells, .bool true]) ∧ Fr none_ w1 w') :
    Calls Try.prog 53 #[.pointer (some ⟨x, 0, none⟩), .int .u64 h] w fun e w' => e = .returned (.tuple #[.agg (OV.cells n.ov), .int .u64 (n.nx : Int), .bool true]) ∧ Fr none_ w w' := by
  have HRR := Lib.hid (HR _ (Fr.alloc none_ w (.cells verZero 44)))
  have FA := Lib.hid (Fr.alloc none_ w (.cells verZero 44))
  have RA := Lib.hid (Row.new w verZero 44)
  have HV := Lib.hid (fun w' => Undo_version w' n n.rest hw)
  have HOV := Lib.hid (show OV.cells n.ov = #[.int .i64 (n.wr : Int), .int .i64 0, .bool n.tomb, .string n.rest] from rfl)
  unfold UV.cells byteV at HRR HV
  unfold OV.cells at HV
  unfold verZero at HRR FA
  simp only at HV
  clear HR
  go_enter Try.func53, Try.ntmps53
  go_wp2_with fail
  refine HRR.out.mono ?_
  rintro e w1 ⟨rfl, f1⟩
  have fa1 := Fr.alloc none_ w1 (.cells #[.int .u8 (n.kind.toNat : Int), .int .u8 (n.tb.toNat : Int), .int .u64 (n.wr : Int), .int .u64 (n.nx : Int), .int .u64 (n.sg : Int), .string n.rest] 70)
  have R1 := Lib.hid ((RA.out.kept f1 (fun e => e)).kept fa1 (fun e => e))
  have F1 := Lib.hid ((FA.out.trans f1).trans fa1)
  obtain ⟨d0, d1, d2, d3, d4, d5⟩ := six_cells (Row.new w1 #[.int .u8 (n.kind.toNat : Int), .int .u8 (n.tb.toNat : Int), .int .u64 (n.wr : Int), .int .u64 (n.nx : Int), .int .u64 (n.sg : Int), .string n.rest] 70)
  have ne1 : ¬ w1.heap.size = w.heap.size := by have := f1.size; simp at this; omega
  obtain ⟨w2, hw2⟩ : ∃ w2, w2 = w1.alloc (.cells #[.int .u8 (n.kind.toNat : Int), .int .u8 (n.tb.toNat : Int), .int .u64 (n.wr : Int), .int .u64 (n.nx : Int), .int .u64 (n.sg : Int), .string n.rest] 70) := ⟨_, rfl⟩
  clear f1 fa1
  go_wp2_with fail
  rw [← hw2] at R1 F1 d0 d1 d2 d3 d4 d5 ⊢
  clear hw2
  go_region_held3 (fun w' => w'.cell? ⟨w1.heap.size, 0, none⟩ = some (.int .u8 (n.kind.toNat : Int)) ∧ w'.cell? ⟨w1.heap.size, 1, none⟩ = some (.int .u8 (n.tb.toNat : Int)) ∧ w'.cell? ⟨w1.heap.size, 2, none⟩ = some (.int .u64 (n.wr : Int)) ∧ w'.cell? ⟨w1.heap.size, 3, none⟩ = some (.int .u64 (n.nx : Int)) ∧ w'.cell? ⟨w1.heap.size, 4, none⟩ = some (.int .u64 (n.sg : Int)) ∧ w'.cell? ⟨w1.heap.size, 5, none⟩ = some (.string n.rest))
    (first | (go_split_ands; with_reducible refine ⟨?_, ?_, ?_, ?_, ?_, ?_⟩; all_goals with_reducible exact Fr.keep f5 (by assumption)) | (go_split_ands; with_reducible refine ⟨?_, ?_, ?_, ?_, ?_, ?_⟩; all_goals with_reducible assumption) | (go_split_ands; with_reducible refine ⟨?_, ?_, ?_, ?_, ?_, ?_⟩; all_goals with_reducible exact ver_keep ne1 (by assumption)) | go_keep)
    (first | (go_at_call 41; refine (HV.out _).mono ?_; rintro e w5 ⟨rfl, f5⟩; have R5 := Lib.hid (R1.out.drew.kept f5 (fun e => e)); have F5 := Lib.hid ((F1.out.trans (Fr.drew none_ w2)).trans f5); obtain ⟨j0, j1, j2, j3⟩ := four_cells (u0 := .int .i64 0) (u1 := .int .i64 0) (u2 := .bool false) (u3 := .string ⟨#[]⟩) R5.out; have z0 := R5.out.free 0; have z1 := R5.out.free 1; have z2 := R5.out.free 2; have z3 := R5.out.free 3))
  have R6 := ver_row (v0 := .int .i64 (n.wr : Int)) (v1 := .int .i64 0) (v2 := .bool n.tomb) (v3 := .string n.rest) R5.out
  have F6 := Lib.hid (F5.out.step (ver_set w5 w.heap.size (.int .i64 (n.wr : Int)) (.int .i64 0) (.bool n.tomb) (.string n.rest)) (fun i hi e => by unfold one at e; omega))
  obtain ⟨c0, c1, c2, c3⟩ := four_cells R6
  clear d0 d1 d2 d3 d4 d5 j0 j1 j2 j3 z0 z1 z2 z3
  go_wp2_with fail
  refine bodyPost_ret (v := .tuple #[.agg #[.int .i64 (n.wr : Int), .int .i64 0, .bool n.tomb, .string n.rest], .int .u64 (n.nx : Int), .bool true]) (by simp [results, Try.results53, go_sem, c0, c1, c2, c3]) rfl ⟨rfl, F6.out⟩
end
end Go.Proofs.Ytckkccnebjacdaa
