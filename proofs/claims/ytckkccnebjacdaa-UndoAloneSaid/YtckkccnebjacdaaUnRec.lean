/-
  Package undo: Record.
-/
import Derived.Test.YtckkccnebjacdaaUnRow
import Derived.Test.YtckkccnebjacdaaDelta2
namespace Go.Proofs.Ytckkccnebjacdaa
open Go.RowKit
set_option linter.unusedVariables false
set_option linter.unusedSimpArgs false
set_option maxRecDepth 100000
section
variable {w w' : World} {x a m N vl : Nat} {F G : Nat → Prop} {vs : List (Int × SgV)} {c : CfgV} {s : AS} {t : US}
/-- The two blocks that Record makes first: the newer version, what it hands back. -/
theorem rec_boxes (w : World) (v : VerV) : Row ((w.alloc (.cells v.cells 44)).alloc (.cells verZero 44)) w.heap.size v.cells 44 ∧ Row ((w.alloc (.cells v.cells 44)).alloc (.cells verZero 44)) (w.heap.size + 1) verZero 44 ∧ Fr none_ w ((w.alloc (.cells v.cells 44)).alloc (.cells verZero 44)) := by
  refine ⟨(Row.new w v.cells 44).alloc _, ?_, (Fr.alloc none_ w _).alloc_r _⟩
  have := Row.new (w.alloc (.cells v.cells 44)) verZero 44
  rw [World.size_alloc] at this
  exact this
set_option maxHeartbeats 4000000 in
theorem Undo_Record_no {h : Int} (v : VerV) (HR : ∀ w1, Fr none_ w w1 → Calls Try.prog 27 #[.pointer (some ⟨x, 0, none⟩), .int .u64 h, .int .u8 2] w1 fun e w' => e = .returned (.tuple #[.agg slotZero, .bool false]) ∧ Fr none_ w1 w') :
    Calls Try.prog 18 #[.pointer (some ⟨x, 0, none⟩), .int .u64 h, .agg v.cells] w fun e w' => e = .returned (.tuple #[.agg verZero, .int .u64 0, .bool false]) ∧ Fr none_ w w' := by
  obtain ⟨r0, r1, f0⟩ := rec_boxes w v
  have HRR := Lib.hid (HR _ f0)
  have FA := Lib.hid f0
  have RA := Lib.hid r1
  unfold slotZero at HRR
  unfold verZero at HRR FA RA
  unfold VerV.cells at HRR FA RA ⊢
  obtain ⟨vw, vt, vtomb, vv⟩ := v
  simp only at HRR FA RA ⊢
  clear HR r0 r1 f0
  go_enter Try.func18, Try.ntmps18
  go_wp2_with fail
  refine HRR.out.mono ?_
  rintro e w1 ⟨rfl, f1⟩
  have fa1 := Fr.alloc none_ w1 (.cells #[.int .u8 0, .int .u8 0, .int .u64 0, .int .u64 0, .int .u64 0, .string ⟨#[]⟩] 70)
  have R1 := Lib.hid ((RA.out.kept f1 (fun e => e)).kept fa1 (fun e => e))
  have F1 := Lib.hid ((FA.out.trans f1).trans fa1)
  obtain ⟨j0, j1, j2, j3⟩ := four_cells (u0 := .int .i64 0) (u1 := .int .i64 0) (u2 := .bool false) (u3 := .string ⟨#[]⟩) R1.out
  clear f1 fa1
  go_wp2_with ((with_reducible refine at_storeOf 44 ?_); refine wpStoreRow (cs' := verZero) rfl _ _ _ rfl R1.out rfl rfl (by kernel_rfl) rfl (by simp [verZero, Value.oneCell']) ?_; intro w2 R2 f2; obtain ⟨c0, c1, c2, c3⟩ := four_cells (u0 := .int .i64 0) (u1 := .int .i64 0) (u2 := .bool false) (u3 := .string ⟨#[]⟩) R2; have F2 := Lib.hid f2; clear f2 R2)
  refine bodyPost_ret (v := .tuple #[.agg verZero, .int .u64 0, .bool false]) (by simp [results, Try.results18, go_sem, c0, c1, c2, c3, verZero]) rfl ⟨rfl, ?_⟩
  exact F1.out.step F2.out (fun i hi e => by unfold one at e; omega)
set_option maxHeartbeats 8000000 in
theorem Undo_Record_yes {h : Int} (v : VerV) (hvs : v.val.size ≤ 140737488351232) (n : UV) (hw : n.wr < 9223372036854775808) (hns : n.rest.size ≤ 1000000) (HR : ∀ w1, Fr none_ w w1 → Calls Try.prog 27 #[.pointer (some ⟨x, 0, none⟩), .int .u64 h, .int .u8 2] w1 fun e w' => e = .returned (.tuple #[.agg n.cells, .bool true]) ∧ Fr none_ w1 w') :
    Calls Try.prog 18 #[.pointer (some ⟨x, 0, none⟩), .int .u64 h, .agg v.cells] w fun e w' => (e = match dApply v.val.data.toList n.rest.data.toList with
      | some u => .returned (.tuple #[.agg (OV.cells ⟨n.wr, n.tomb, strOf u⟩), .int .u64 (n.nx : Int), .bool true])
      | none => .returned (.tuple #[.agg verZero, .int .u64 0, .bool false])) ∧ Fr none_ w w' := by
  obtain ⟨r0, r1, f0⟩ := rec_boxes w v
  have HRR := Lib.hid (HR _ f0)
  have FA := Lib.hid f0
  have RA := Lib.hid r1
  have RV := Lib.hid r0
  have HV := Lib.hid (fun w' val => Undo_version w' n val hw)
  have HAP := Lib.hid (fun w' => Delta_Apply w' v.val n.rest hvs hns)
  unfold UV.cells byteV at HRR HV
  unfold OV.cells at HV ⊢
  unfold verZero at HRR FA RA RV
  unfold VerV.cells at HRR FA RA RV ⊢
  obtain ⟨vw, vt, vtomb, vv⟩ := v
  simp only at HV HRR FA RA RV HAP ⊢
  generalize dApply vv.data.toList n.rest.data.toList = AP at HAP ⊢
  clear HR r0 r1 f0
  go_enter Try.func18, Try.ntmps18
  go_wp2_with fail
  refine HRR.out.mono ?_
  rintro e w1 ⟨rfl, f1⟩
  have fa1 := Fr.alloc none_ w1 (.cells #[.int .u8 (n.kind.toNat : Int), .int .u8 (n.tb.toNat : Int), .int .u64 (n.wr : Int), .int .u64 (n.nx : Int), .int .u64 (n.sg : Int), .string n.rest] 70)
  have R1 := Lib.hid ((RA.out.kept f1 (fun e => e)).kept fa1 (fun e => e))
  have R0 := Lib.hid ((RV.out.kept f1 (fun e => e)).kept fa1 (fun e => e))
  have F1 := Lib.hid ((FA.out.trans f1).trans fa1)
  have RS := Lib.hid (Row.new w1 #[.int .u8 (n.kind.toNat : Int), .int .u8 (n.tb.toNat : Int), .int .u64 (n.wr : Int), .int .u64 (n.nx : Int), .int .u64 (n.sg : Int), .string n.rest] 70)
  obtain ⟨d0, d1, d2, d3, d4, d5⟩ := six_cells RS.out
  obtain ⟨b0, b1, b2, b3⟩ := four_cells (u0 := .int .i64 vw) (u1 := .int .i64 vt) (u2 := .bool vtomb) (u3 := .string vv) R0.out
  have ne1 : ¬ w1.heap.size = w.heap.size + 1 := by have := f1.size; simp at this; omega
  clear f1 fa1
  go_wp2_with fail
  refine (HAP.out _).mono ?_
  rintro e w2 ⟨ha, f2⟩
  have F2 := Lib.hid (F1.out.trans f2)
  have R2 := Lib.hid (R1.out.kept f2 (fun e => e))
  have RS2 := Lib.hid (RS.out.kept f2 (fun e => e))
  clear d0 d1 d2 d3 d4 d5 b0 b1 b2 b3 f2
  cases AP with
  | none =>
    obtain ⟨q, hq, rfl⟩ := ha
    obtain ⟨j0, j1, j2, j3⟩ := four_cells (u0 := .int .i64 0) (u1 := .int .i64 0) (u2 := .bool false) (u3 := .string ⟨#[]⟩) R2.out
    go_wp2_with ((with_reducible refine at_storeOf 44 ?_); refine wpStoreRow (cs' := verZero) rfl _ _ _ rfl R2.out rfl rfl (by kernel_rfl) rfl (by simp [verZero, Value.oneCell']) ?_; intro w3 R3 f3; obtain ⟨c0, c1, c2, c3⟩ := four_cells (u0 := .int .i64 0) (u1 := .int .i64 0) (u2 := .bool false) (u3 := .string ⟨#[]⟩) R3; have F3 := Lib.hid f3; clear f3 R3)
    refine bodyPost_ret (v := .tuple #[.agg verZero, .int .u64 0, .bool false]) (by simp [results, Try.results18, go_sem, c0, c1, c2, c3, verZero]) rfl ⟨rfl, ?_⟩
    exact F2.out.step F3.out (fun i hi e => by unfold one at e; omega)
  | some u =>
    have ha : e = .returned (.tuple #[.string (strOf u), .int .i64 0]) := ha
    subst ha
    obtain ⟨d0, d1, d2, d3, d4, d5⟩ := six_cells RS2.out
    go_wp2_with fail
    go_region_held3 (fun w' => w'.cell? ⟨w1.heap.size, 0, none⟩ = some (.int .u8 (n.kind.toNat : Int)) ∧ w'.cell? ⟨w1.heap.size, 1, none⟩ = some (.int .u8 (n.tb.toNat : Int)) ∧ w'.cell? ⟨w1.heap.size, 2, none⟩ = some (.int .u64 (n.wr : Int)) ∧ w'.cell? ⟨w1.heap.size, 3, none⟩ = some (.int .u64 (n.nx : Int)) ∧ w'.cell? ⟨w1.heap.size, 4, none⟩ = some (.int .u64 (n.sg : Int)) ∧ w'.cell? ⟨w1.heap.size, 5, none⟩ = some (.string n.rest))
      (first | (go_split_ands; with_reducible refine ⟨?_, ?_, ?_, ?_, ?_, ?_⟩; all_goals with_reducible exact Fr.keep f5 (by assumption)) | (go_split_ands; with_reducible refine ⟨?_, ?_, ?_, ?_, ?_, ?_⟩; all_goals with_reducible assumption) | (go_split_ands; with_reducible refine ⟨?_, ?_, ?_, ?_, ?_, ?_⟩; all_goals with_reducible exact ver_keep ne1 (by assumption)) | go_keep)
      (first | (go_at_call 41; refine (HV.out _ _).mono ?_; rintro e w5 ⟨rfl, f5⟩; have R5 := Lib.hid (R2.out.drew.kept f5 (fun e => e)); have F5 := Lib.hid ((F2.out.trans (Fr.drew none_ w2)).trans f5); obtain ⟨j0, j1, j2, j3⟩ := four_cells (u0 := .int .i64 0) (u1 := .int .i64 0) (u2 := .bool false) (u3 := .string ⟨#[]⟩) R5.out; have z0 := R5.out.free 0; have z1 := R5.out.free 1; have z2 := R5.out.free 2; have z3 := R5.out.free 3))
    have R6 := ver_row (v0 := .int .i64 (n.wr : Int)) (v1 := .int .i64 0) (v2 := .bool n.tomb) (v3 := .string (strOf u)) R5.out
    have F6 := Lib.hid (F5.out.step (ver_set w5 (w.heap.size + 1) (.int .i64 (n.wr : Int)) (.int .i64 0) (.bool n.tomb) (.string (strOf u))) (fun i hi e => by unfold one at e; omega))
    obtain ⟨c0, c1, c2, c3⟩ := four_cells R6
    clear d0 d1 d2 d3 d4 d5 j0 j1 j2 j3 z0 z1 z2 z3
    go_wp2_with fail
    refine bodyPost_ret (v := .tuple #[.agg #[.int .i64 (n.wr : Int), .int .i64 0, .bool n.tomb, .string (strOf u)], .int .u64 (n.nx : Int), .bool true]) (by simp [results, Try.results18, go_sem, c0, c1, c2, c3]) rfl ⟨rfl, F6.out⟩
end
end Go.Proofs.Ytckkccnebjacdaa
