/-
  Package undo: Change, Cut.
-/
import Derived.Test.YtckkccnebjacdaaUnRow
import Derived.Test.YtckkccnebjacdaaUnPut
namespace Go.Proofs.Ytckkccnebjacdaa
open Go.RowKit
set_option linter.unusedVariables false
set_option linter.unusedSimpArgs false
set_option maxRecDepth 100000
section
variable {w w' : World} {x a m N vl : Nat} {F G : Nat → Prop} {vs : List (Int × SgV)} {c : CfgV} {s : AS} {t : US}
set_option maxHeartbeats 4000000 in
theorem Undo_Change_bad (hcx : w.cell? ⟨x, 6, none⟩ = some (.int .i64 (vl : Int))) (hvl : vl ≤ 256) (v : VerV) (hs : v.val.size ≤ 140737488351232) (hm : v.umay vl = false) (h nx : Int) :
    Calls Try.prog 16 #[.pointer (some ⟨x, 0, none⟩), .int .u64 h, .agg v.cells, .int .u64 nx] w fun e w' => e = .returned (.int .i64 1) ∧ Fr none_ w w' := by
  have fB := Fr.alloc none_ w (.cells v.cells 44)
  have HM := may_one vl hvl (fB.keep hcx) v hs
  rw [hm, World.size_alloc] at HM
  have HM := Lib.hid HM
  obtain ⟨b0, b1, b2, b3⟩ := ver_boxU (w := w) (v := v) (Fr.refl none_ _) (fun e => e)
  have FB := Lib.hid fB
  unfold VerV.cells at HM FB b0 b1 b2 b3 ⊢
  obtain ⟨vw, vt, vtomb, vv⟩ := v
  simp only at HM FB b0 b1 b2 b3 ⊢
  clear hcx hs hm fB
  go_enter Try.func16, Try.ntmps16
  go_wp2_with fail
  refine HM.out.mono ?_
  rintro e w1 ⟨rfl, f1⟩
  have F1 := Lib.hid (FB.out.trans f1)
  clear f1
  go_wp2_with fail
  go_ret
  exact ⟨rfl, F1.out⟩
set_option maxHeartbeats 4000000 in
theorem Undo_Change_no (hcx : w.cell? ⟨x, 6, none⟩ = some (.int .i64 (vl : Int))) (hvl : vl ≤ 256) (v : VerV) (hs : v.val.size ≤ 140737488351232) (hm : v.umay vl = true) (h nx : Int)
    (HR : ∀ w1, Fr none_ w w1 → Calls Try.prog 27 #[.pointer (some ⟨x, 0, none⟩), .int .u64 h, .int .u8 1] w1 fun e w' => e = .returned (.tuple #[.agg slotZero, .bool false]) ∧ Fr none_ w1 w') :
    Calls Try.prog 16 #[.pointer (some ⟨x, 0, none⟩), .int .u64 h, .agg v.cells, .int .u64 nx] w fun e w' => e = .returned (.int .i64 5) ∧ Fr none_ w w' := by
  have fB := Fr.alloc none_ w (.cells v.cells 44)
  have HM := may_one vl hvl (fB.keep hcx) v hs
  rw [hm, World.size_alloc] at HM
  have HM := Lib.hid HM
  obtain ⟨b0, b1, b2, b3⟩ := ver_boxU (w := w) (v := v) (Fr.refl none_ _) (fun e => e)
  have FB := Lib.hid fB
  have HRR := Lib.hid HR
  unfold slotZero at HRR
  unfold VerV.cells at HM FB b0 b1 b2 b3 ⊢
  obtain ⟨vw, vt, vtomb, vv⟩ := v
  simp only at HM FB b0 b1 b2 b3 ⊢
  clear hcx hs hm fB HR
  go_enter Try.func16, Try.ntmps16
  go_wp2_with fail
  refine HM.out.mono ?_
  rintro e w1 ⟨rfl, f1⟩
  have F1 := Lib.hid (FB.out.trans f1)
  have H1 := Lib.hid (HRR.out w1 F1.out)
  clear f1
  go_wp2_with fail
  refine H1.out.mono ?_
  rintro e w2 ⟨rfl, f2⟩
  have F2 := Lib.hid (F1.out.trans f2)
  clear f2
  go_wp2_with fail
  go_ret
  exact ⟨rfl, F2.out.trans (Fr.alloc none_ w2 _)⟩
set_option maxHeartbeats 8000000 in
theorem Undo_Change_ok (hh : UnAt w x a m F vs c s) (hu : Upto N s) (hsl : s.slot = 32 + vl) (hvl : vl ≤ 256) (hc : c.valLen = vl) (v : VerV) (hs : v.val.size ≤ 140737488351232) (hm : v.umay vl = true) (hvw : v.wr < 9223372036854775808) {hd nx : Nat} (hhd : hd < 18446744073709551616) (hnx : nx < 18446744073709551616) (hf : (aFind s hd).isSome = true) (n : UV)
    (HR : ∀ w1, Fr none_ w w1 → Calls Try.prog 27 #[.pointer (some ⟨x, 0, none⟩), .int .u64 (hd : Int), .int .u8 1] w1 fun e w' => e = .returned (.tuple #[.agg n.cells, .bool true]) ∧ Fr none_ w1 w') :
    Calls Try.prog 16 #[.pointer (some ⟨x, 0, none⟩), .int .u64 (hd : Int), .agg v.cells, .int .u64 (nx : Int)] w fun e w' => e = .returned (.int .i64 0) ∧ UnAt w' x a m F vs c (aWrite s hd (strOf (v.uv false nx).enc)).2 ∧ Fr F w w' := by
  have hmay := VerV.umay_iff.1 hm
  have hok : (v.uv false nx).Ok vl := ⟨by unfold VerV.uv; simp only; omega, hnx, by unfold VerV.uv; simp, by unfold VerV.uv; simp only; exact hmay.2.1, fun _ => rfl⟩
  have fB := Fr.alloc none_ w (.cells v.cells 44)
  have hvl' := (hh.kept0 fB).vlen
  rw [hc] at hvl'
  have HM := may_one vl hvl hvl' v hs
  rw [hm, World.size_alloc] at HM
  have HM := Lib.hid HM
  have HB := Lib.hid (fun w' (G : Nat → Prop) (f : Fr G (w.alloc (.cells v.cells 44)) w') hn => ver_boxU (w := w) (v := v) f hn)
  obtain ⟨b0, b1, b2, b3⟩ := HB.out _ none_ (Fr.refl none_ _) (fun e => e)
  have HO := Lib.hid (fun w' => Undo_of w' false v nx hmay.1 hvw)
  have HWR := Lib.hid (fun w' (f : Fr none_ w w') => un_write (hh.kept0 f) hu hsl hhd hf (v.uv false nx) hok)
  have HBY := Lib.hid (fun w' => Slot_bytes w' (v.uv false nx) (by have := hok.wr; omega) hok.nx (by have := hok.sg; omega) (by have := hok.rest; split at this <;> omega))
  have HC := Lib.hid (fun w' (f : Fr none_ w w') => (hh.kept0 f).arena)
  have FB := Lib.hid fB
  have HNB := Lib.hid (show ¬ F w.heap.size from fun e => absurd (hh.ar.lt _ e) (Nat.lt_irrefl _))
  have HRR := Lib.hid HR
  unfold UV.cells byteV at HRR
  generalize (v.uv false nx).cells = CS at HO HBY
  generalize (v.uv false nx).enc = EN at HBY HWR ⊢
  generalize (aWrite s hd (strOf EN)).2 = s3 at HWR ⊢
  unfold VerV.cells at HM FB HB b0 b1 b2 b3 HO ⊢
  obtain ⟨vw, vt, vtomb, vv⟩ := v
  simp only at HM FB HB b0 b1 b2 b3 HO ⊢
  clear hh hu hsl hc hs hm hf HR hmay hok fB hvl'
  go_enter Try.func16, Try.ntmps16
  go_wp2_with fail
  refine HM.out.mono ?_
  rintro e w1 ⟨rfl, f1⟩
  have F1 := Lib.hid (FB.out.trans f1)
  have H1 := Lib.hid (HRR.out w1 F1.out)
  have FB1 := Lib.hid f1
  clear f1 b0 b1 b2 b3
  go_wp2_with fail
  refine H1.out.mono ?_
  rintro e w2 ⟨rfl, f2⟩
  have fa2 := Fr.alloc none_ w2 (.cells #[.int .u8 (n.kind.toNat : Int), .int .u8 (n.tb.toNat : Int), .int .u64 (n.wr : Int), .int .u64 (n.nx : Int), .int .u64 (n.sg : Int), .string n.rest] 70)
  have F2 := Lib.hid ((F1.out.trans f2).trans fa2)
  have FB2 := Lib.hid ((FB1.out.trans f2).trans fa2)
  obtain ⟨b0, b1, b2, b3⟩ := HB.out _ none_ FB2.out (fun e => e)
  have c8 := HC.out _ F2.out
  obtain ⟨w3, hw3⟩ : ∃ w3, w3 = w2.alloc (.cells #[.int .u8 (n.kind.toNat : Int), .int .u8 (n.tb.toNat : Int), .int .u64 (n.wr : Int), .int .u64 (n.nx : Int), .int .u64 (n.sg : Int), .string n.rest] 70) := ⟨_, rfl⟩
  clear f2 fa2
  go_wp2_with fail
  rw [← hw3] at F2 FB2 b0 b1 b2 b3 c8 ⊢
  have fS : Fr none_ w3 w3 := Fr.refl _ _
  clear hw3
  go_region_held3 (fun w' => w'.cell? ⟨x, 8, none⟩ = some (.pointer (some ⟨a, 0, none⟩)) ∧ w'.cell? ⟨w.heap.size, 0, none⟩ = some (.int .i64 vw) ∧ w'.cell? ⟨w.heap.size, 1, none⟩ = some (.int .i64 vt) ∧ w'.cell? ⟨w.heap.size, 2, none⟩ = some (.bool vtomb) ∧ w'.cell? ⟨w.heap.size, 3, none⟩ = some (.string vv))
    (first | (go_split_ands; with_reducible refine ⟨?_, ?_, ?_, ?_, ?_⟩; exact hA.arena; all_goals exact Fr.keepF f7 HNB.out (by assumption)) | (go_split_ands; with_reducible refine ⟨?_, ?_, ?_, ?_, ?_⟩; all_goals with_reducible exact Fr.keep f6 (by assumption)) | (go_split_ands; with_reducible refine ⟨?_, ?_, ?_, ?_, ?_⟩; all_goals with_reducible exact Fr.keep f5 (by assumption)) | (go_split_ands; with_reducible refine ⟨?_, ?_, ?_, ?_, ?_⟩; all_goals with_reducible assumption) | go_keep)
    (first
      | (go_at_call 37; refine (HO.out _).mono ?_; rintro e w5 ⟨rfl, f5⟩)
      | (go_at_call 29; refine (HBY.out _).mono ?_; rintro e w6 ⟨rfl, f6⟩)
      | (go_at_call 28; refine (HWR.out _ (F2.out.trans (((Fr.drew none_ w3).trans f5).trans f6))).mono ?_; rintro e w7 ⟨rfl, hA, f7⟩))
  clear b0 b1 b2 b3 c8
  go_wp2_with fail
  go_ret
  exact ⟨rfl, hA, (F2.out.trans (((Fr.drew none_ w3).trans f5).trans f6)).none.trans f7⟩
set_option maxHeartbeats 4000000 in
theorem Undo_Cut_no (h : Int)
    (HR : ∀ w1, Fr none_ w w1 → Calls Try.prog 27 #[.pointer (some ⟨x, 0, none⟩), .int .u64 h, .int .u8 2] w1 fun e w' => e = .returned (.tuple #[.agg slotZero, .bool false]) ∧ Fr none_ w1 w') :
    Calls Try.prog 9 #[.pointer (some ⟨x, 0, none⟩), .int .u64 h] w fun e w' => e = .returned (.int .i64 5) ∧ Fr none_ w w' := by
  have HRR := Lib.hid (HR w (Fr.refl none_ w))
  unfold slotZero at HRR
  clear HR
  go_enter Try.func9, Try.ntmps9
  go_wp2_with fail
  refine HRR.out.mono ?_
  rintro e w2 ⟨rfl, f2⟩
  have F2 := Lib.hid f2
  clear f2
  go_wp2_with fail
  go_ret
  exact ⟨rfl, F2.out.trans (Fr.alloc none_ w2 _)⟩
def UV.cutn (n : UV) : UV := { n with nx := 0 }
set_option maxHeartbeats 8000000 in
theorem Undo_Cut_ok (hh : UnAt w x a m F vs c s) (hu : Upto N s) (hsl : s.slot = 32 + vl) (hvl : vl ≤ 256) {hd : Nat} (hhd : hd < 18446744073709551616) (hf : (aFind s hd).isSome = true) (n : UV) (hn : n.Ok vl)
    (HR : ∀ w1, Fr none_ w w1 → Calls Try.prog 27 #[.pointer (some ⟨x, 0, none⟩), .int .u64 (hd : Int), .int .u8 2] w1 fun e w' => e = .returned (.tuple #[.agg n.cells, .bool true]) ∧ Fr none_ w1 w') :
    Calls Try.prog 9 #[.pointer (some ⟨x, 0, none⟩), .int .u64 (hd : Int)] w fun e w' => e = .returned (.int .i64 0) ∧ UnAt w' x a m F vs c (aWrite s hd (strOf n.cutn.enc)).2 ∧ Fr F w w' := by
  have hok : n.cutn.Ok vl := ⟨hn.wr, by unfold UV.cutn; simp, hn.sg, hn.rest, hn.row0⟩
  have HWR := Lib.hid (fun w' (f : Fr none_ w w') => un_write (hh.kept0 f) hu hsl hhd hf n.cutn hok)
  have HBY := Lib.hid (fun w' => Slot_bytes w' n.cutn (by have := hok.wr; omega) hok.nx (by have := hok.sg; omega) (by have := hok.rest; split at this <;> omega))
  have HC := Lib.hid (fun w' (f : Fr none_ w w') => (hh.kept0 f).arena)
  have HNB := Lib.hid (show ∀ k, w.heap.size ≤ k → ¬ F k from fun k hk e => by have := hh.ar.lt _ e; omega)
  have HRR := Lib.hid (HR w (Fr.refl none_ w))
  have hce : n.cutn.cells = #[.int .u8 (n.kind.toNat : Int), .int .u8 (n.tb.toNat : Int), .int .u64 (n.wr : Int), .int .u64 0, .int .u64 (n.sg : Int), .string n.rest] := rfl
  rw [hce] at HBY
  unfold UV.cells byteV at HRR
  generalize n.cutn.enc = EN at HBY HWR ⊢
  generalize (aWrite s hd (strOf EN)).2 = s3 at HWR ⊢
  clear hh hu hsl hf HR hok hn hce
  go_enter Try.func9, Try.ntmps9
  go_wp2_with fail
  refine HRR.out.mono ?_
  rintro e w2 ⟨rfl, f2⟩
  have fa2 := Fr.alloc none_ w2 (.cells #[.int .u8 (n.kind.toNat : Int), .int .u8 (n.tb.toNat : Int), .int .u64 (n.wr : Int), .int .u64 0, .int .u64 (n.sg : Int), .string n.rest] 70)
  have F2 := Lib.hid (f2.trans fa2)
  obtain ⟨d0, d1, d2, d3, d4, d5⟩ := six_cells (Row.new w2 #[.int .u8 (n.kind.toNat : Int), .int .u8 (n.tb.toNat : Int), .int .u64 (n.wr : Int), .int .u64 0, .int .u64 (n.sg : Int), .string n.rest] 70)
  have c8 := HC.out _ F2.out
  have nb := HNB.out w2.heap.size f2.size
  have HNB2 := Lib.hid nb
  obtain ⟨w3, hw3⟩ : ∃ w3, w3 = w2.alloc (.cells #[.int .u8 (n.kind.toNat : Int), .int .u8 (n.tb.toNat : Int), .int .u64 (n.wr : Int), .int .u64 0, .int .u64 (n.sg : Int), .string n.rest] 70) := ⟨_, rfl⟩
  clear f2 fa2 nb
  go_wp2_with fail
  rw [← hw3] at F2 d0 d1 d2 d3 d4 d5 c8 ⊢
  clear hw3
  go_region_held3 (fun w' => w'.cell? ⟨x, 8, none⟩ = some (.pointer (some ⟨a, 0, none⟩)) ∧ w'.cell? ⟨w2.heap.size, 0, none⟩ = some (.int .u8 (n.kind.toNat : Int)) ∧ w'.cell? ⟨w2.heap.size, 1, none⟩ = some (.int .u8 (n.tb.toNat : Int)) ∧ w'.cell? ⟨w2.heap.size, 2, none⟩ = some (.int .u64 (n.wr : Int)) ∧ w'.cell? ⟨w2.heap.size, 3, none⟩ = some (.int .u64 0) ∧ w'.cell? ⟨w2.heap.size, 4, none⟩ = some (.int .u64 (n.sg : Int)) ∧ w'.cell? ⟨w2.heap.size, 5, none⟩ = some (.string n.rest))
    (first | (go_split_ands; with_reducible refine ⟨?_, ?_, ?_, ?_, ?_, ?_, ?_⟩; exact hA.arena; all_goals exact Fr.keepF f7 HNB2.out (by assumption)) | (go_split_ands; with_reducible refine ⟨?_, ?_, ?_, ?_, ?_, ?_, ?_⟩; all_goals with_reducible exact Fr.keep f6 (by assumption)) | (go_split_ands; with_reducible refine ⟨?_, ?_, ?_, ?_, ?_, ?_, ?_⟩; all_goals with_reducible assumption) | go_keep)
    (first
      | (go_at_call 29; refine (HBY.out _).mono ?_; rintro e w6 ⟨rfl, f6⟩)
      | (go_at_call 28; refine (HWR.out _ (F2.out.trans ((Fr.drew none_ w3).trans f6))).mono ?_; rintro e w7 ⟨rfl, hA, f7⟩))
  clear d0 d1 d2 d3 d4 d5 c8
  go_wp2_with fail
  go_ret
  exact ⟨rfl, hA, (F2.out.trans ((Fr.drew none_ w3).trans f6)).none.trans f7⟩
end
end Go.Proofs.Ytckkccnebjacdaa
