/-
  Package undo: Save.
-/
import Derived.Test.YtckkccnebjacdaaGreatMgUnPut
import Derived.Test.YtckkccnebjacdaaGreatMgHeld
import Derived.Test.YtckkccnebjacdaaGreatStep
namespace Go.Proofs.YtckkccnebjacdaaGreat
open Go.RowKit
set_option linter.unusedVariables false
set_option linter.unusedSimpArgs false
set_option maxRecDepth 100000
section
variable {w w' : World} {x a m N vl : Nat} {F G : Nat → Prop} {vs : List (Int × SgV)} {c : CfgV} {s : AS} {t : US}
/-- The boxes of two versions. -/
theorem two_boxes (w : World) (u v : VerV) : Row ((w.alloc (.cells u.cells 40)).alloc (.cells v.cells 40)) w.heap.size u.cells 40 ∧ Row ((w.alloc (.cells u.cells 40)).alloc (.cells v.cells 40)) (w.heap.size + 1) v.cells 40 ∧ Fr none_ w ((w.alloc (.cells u.cells 40)).alloc (.cells v.cells 40)) := by
  refine ⟨(Row.new w u.cells 40).alloc _, ?_, (Fr.alloc none_ w _).alloc_r _⟩
  have := Row.new (w.alloc (.cells u.cells 40)) v.cells 40
  rw [World.size_alloc] at this
  exact this
theorem verL_two (w1 : World) (u v : VerV) : LsAt (w1.alloc (.cells #[.int .i64 u.wr, .int .i64 u.ts, .bool u.tomb, .string u.val, .int .i64 v.wr, .int .i64 v.ts, .bool v.tomb, .string v.val] 40)) (some ⟨w1.heap.size, 0, none⟩) 4 verL [u, v] := by
  refine Or.inr ⟨w1.heap.size, 0, rfl, by simp, fun i x hx j y hy => ?_⟩
  have r := (Row.new w1 #[.int .i64 u.wr, .int .i64 u.ts, .bool u.tomb, .string u.val, .int .i64 v.wr, .int .i64 v.ts, .bool v.tomb, .string v.val] 40).cell (0 + i * 4 + j)
  refine r.trans ?_
  have hi : i = 0 ∨ i = 1 := by have := (List.getElem?_eq_some_iff.1 hx).1; simp at this; omega
  have hj : j < 4 := by have := (List.getElem?_eq_some_iff.1 hy).1; simpa [verL, VerV.cells] using this
  rcases hi with rfl | rfl
  · simp at hx; subst hx
    rcases (show j = 0 ∨ j = 1 ∨ j = 2 ∨ j = 3 by omega) with rfl | rfl | rfl | rfl <;> exact hy
  · simp at hx; subst hx
    rcases (show j = 0 ∨ j = 1 ∨ j = 2 ∨ j = 3 by omega) with rfl | rfl | rfl | rfl <;> exact hy
theorem may_two {w : World} {x : Nat} (vl : Nat) (hvl : vl ≤ 256) (hcx : w.cell? ⟨x, 6, none⟩ = some (.int .i64 (vl : Int))) (u v : VerV) (hs : u.val.size ≤ 140737488351232) (hs2 : v.val.size ≤ 140737488351232) :
    Calls Tryz.prog 53 #[.pointer (some ⟨x, 0, none⟩), .slice (some ⟨w.heap.size, 0, none⟩) 2 2] (w.alloc (.cells #[.int .i64 u.wr, .int .i64 u.ts, .bool u.tomb, .string u.val, .int .i64 v.wr, .int .i64 v.ts, .bool v.tomb, .string v.val] 40)) fun e w' => e = .returned (.bool (u.umay vl && v.umay vl)) ∧ Fr none_ w w' := by
  have f := Fr.alloc none_ w (.cells #[.int .i64 u.wr, .int .i64 u.ts, .bool u.tomb, .string u.val, .int .i64 v.wr, .int .i64 v.ts, .bool v.tomb, .string v.val] 40)
  refine (Undo_may vl hvl (f.keep hcx) _ 2 2 [u, v] (verL_two w u v) rfl (by omega) (by simpa using ⟨hs, hs2⟩) (u.umay vl && v.umay vl) (by simp)).mono ?_
  rintro e w1 ⟨he, f1⟩
  exact ⟨he, f.trans f1⟩
set_option maxHeartbeats 4000000 in
theorem Undo_Save_bad (hcx : w.cell? ⟨x, 6, none⟩ = some (.int .i64 (vl : Int))) (hvl : vl ≤ 256) (u v : VerV) (hs : u.val.size ≤ 140737488351232) (hs2 : v.val.size ≤ 140737488351232) (hm : (u.umay vl && v.umay vl) = false) (nx : Int) :
    Calls Tryz.prog 24 #[.pointer (some ⟨x, 0, none⟩), .agg u.cells, .int .u64 nx, .agg v.cells] w fun e w' => e = .returned (.tuple #[.int .u64 0, .int .i64 1]) ∧ Fr none_ w w' := by
  obtain ⟨r0, r1, f0⟩ := two_boxes w u v
  have HM := may_two vl hvl (f0.keep hcx) u v hs hs2
  rw [hm, World.size_alloc, World.size_alloc] at HM
  have HM := Lib.hid HM
  obtain ⟨b0, b1, b2, b3⟩ := four_cells (u0 := .int .i64 u.wr) (u1 := .int .i64 u.ts) (u2 := .bool u.tomb) (u3 := .string u.val) r0
  obtain ⟨g0, g1, g2, g3⟩ := four_cells (u0 := .int .i64 v.wr) (u1 := .int .i64 v.ts) (u2 := .bool v.tomb) (u3 := .string v.val) r1
  have FB := Lib.hid f0
  unfold VerV.cells at HM FB b0 b1 b2 b3 g0 g1 g2 g3 ⊢
  clear hcx hs hs2 hm f0 r0 r1
  go_enter Tryz.func24, Tryz.ntmps24
  go_wp2_with fail
  refine HM.out.mono ?_
  rintro e w1 ⟨rfl, f1⟩
  have F1 := Lib.hid (FB.out.trans f1)
  clear f1
  go_wp2_with fail
  go_ret2
  exact ⟨rfl, F1.out⟩
/-- The record that Save saves. -/
def saveUV (u : VerV) (nx : Nat) (v : VerV) : UV := { rcd := true, wr := u.wr.toNat, tomb := u.tomb, nx := nx, sg := v.wr.toNat, rest := strOf (dEnc (dMake v.val.data.toList u.val.data.toList)) }
theorem saveUV_cells {u v : VerV} (hu : 1 ≤ u.wr) (hv : 1 ≤ v.wr) (nx : Nat) : (saveUV u nx v).cells = #[.int .u8 2, .int .u8 (if u.tomb then 1 else 0), .int .u64 u.wr, .int .u64 (nx : Int), .int .u64 v.wr, .string (strOf (dEnc (dMake v.val.data.toList u.val.data.toList)))] := by
  unfold UV.cells saveUV UV.kind UV.tb byteV
  have e1 : ((u.wr.toNat : Nat) : Int) = u.wr := by omega
  have e2 : ((v.wr.toNat : Nat) : Int) = v.wr := by omega
  simp only [e1, e2]
  cases u.tomb <;> rfl
--GEN
set_option maxHeartbeats 16000000 in
theorem Undo_Save_full (hcx : w.cell? ⟨x, 6, none⟩ = some (.int .i64 (vl : Int))) (hvl : vl ≤ 256) (u v : VerV) (hm : u.umay vl = true) (hm2 : v.umay vl = true) (huw : u.wr < 9223372036854775808) (hvw : v.wr < 9223372036854775808) {nx : Nat}
    (HP : ∀ w1, Fr none_ w w1 → Calls Tryz.prog 63 #[.pointer (some ⟨x, 0, none⟩), .agg (saveUV u nx v).cells] w1 fun e w' => e = .returned (.tuple #[.int .u64 0, .int .i64 41]) ∧ ∃ F', UnAt w' x a m F' vs c s ∧ Fr F w1 w' ∧ Grow F F' w1) :
    Calls Tryz.prog 24 #[.pointer (some ⟨x, 0, none⟩), .agg u.cells, .int .u64 (nx : Int), .agg v.cells] w fun e w' => e = .returned (.tuple #[.int .u64 0, .int .i64 41]) ∧ ∃ F', UnAt w' x a m F' vs c s ∧ Fr F w w' ∧ Grow F F' w := by
  obtain ⟨r0, r1, f0⟩ := two_boxes w u v
  have hu1 := VerV.umay_iff.1 hm
  have hv1 := VerV.umay_iff.1 hm2
  have HM := may_two vl hvl (f0.keep hcx) u v (by omega) (by omega)
  rw [hm, hm2, World.size_alloc, World.size_alloc] at HM
  have HM := Lib.hid HM
  have HB := Lib.hid (show ∀ (G : Nat → Prop) w', Fr G ((w.alloc (.cells u.cells 40)).alloc (.cells v.cells 40)) w' → ¬ G w.heap.size → ¬ G (w.heap.size + 1) → (w'.cell? ⟨w.heap.size, 0, none⟩ = some (.int .i64 u.wr) ∧ w'.cell? ⟨w.heap.size, 1, none⟩ = some (.int .i64 u.ts) ∧ w'.cell? ⟨w.heap.size, 2, none⟩ = some (.bool u.tomb) ∧ w'.cell? ⟨w.heap.size, 3, none⟩ = some (.string u.val)) ∧ w'.cell? ⟨w.heap.size + 1, 0, none⟩ = some (.int .i64 v.wr) ∧ w'.cell? ⟨w.heap.size + 1, 1, none⟩ = some (.int .i64 v.ts) ∧ w'.cell? ⟨w.heap.size + 1, 2, none⟩ = some (.bool v.tomb) ∧ w'.cell? ⟨w.heap.size + 1, 3, none⟩ = some (.string v.val) from fun G w' f n0 n1 => ⟨four_cells (r0.kept f n0), four_cells (r1.kept f n1)⟩)
  obtain ⟨⟨b0, b1, b2, b3⟩, g0, g1, g2, g3⟩ := HB.out none_ _ (Fr.refl none_ _) (fun e => e) (fun e => e)
  have hof : ∀ w', Calls Tryz.prog 55 #[.int .u8 2, .agg u.cells, .int .u64 (nx : Int)] w' fun e w'' => e = .returned (.agg (u.uv true nx).cells) ∧ Fr none_ w' w'' := fun w' => Undo_of w' true u nx hu1.1 huw
  rw [VerV.uv_cells true hu1.1] at hof
  have HO := Lib.hid hof
  have HD := Lib.hid (fun w' => Delta_Make w' v.val u.val (by omega) (by omega))
  have hP := HP
  rw [saveUV_cells hu1.1 hv1.1] at hP
  have HPP := Lib.hid hP
  have FB := Lib.hid f0
  have wv : IntKind.u64.wrap v.wr = v.wr := by rw [IntKind.wrap_u64]; omega
  obtain ⟨TB, hTB⟩ : ∃ TB : Int, TB = (if u.tomb then 1 else 0) := ⟨_, rfl⟩
  rw [← hTB] at HO HPP
  obtain ⟨DL, hDL⟩ : ∃ DL, DL = strOf (dEnc (dMake v.val.data.toList u.val.data.toList)) := ⟨_, rfl⟩
  rw [← hDL] at HD HPP
  unfold VerV.cells at HM FB HB b0 b1 b2 b3 g0 g1 g2 g3 HO ⊢
  clear hcx hm hm2 f0 r0 r1 hof hP HP hTB hDL hu1 hv1
  simp only [if_true] at HO
  go_enter Tryz.func24, Tryz.ntmps24
  go_wp2_with fail
  refine HM.out.mono ?_
  rintro e w1 ⟨rfl, f1⟩
  have F1 := Lib.hid f1
  clear f1 b0 b1 b2 b3 g0 g1 g2 g3
  obtain ⟨⟨b0, b1, b2, b3⟩, g0, g1, g2, g3⟩ := HB.out none_ _ F1.out (fun e => e) (fun e => e)
  go_wp2_with fail
  refine (HO.out _).mono ?_
  rintro e w2 ⟨rfl, f2⟩
  have F2 := Lib.hid (F1.out.trans f2)
  clear f2 b0 b1 b2 b3 g0 g1 g2 g3
  have fa := Fr.alloc none_ w2 (.cells #[.int .u8 2, .int .u8 TB, .int .u64 u.wr, .int .u64 (nx : Int), .int .u64 v.wr, .string u.val] 87)
  have fa0 := Fr.alloc none_ w2 (.cells #[.int .u8 2, .int .u8 TB, .int .u64 u.wr, .int .u64 (nx : Int), .int .u64 0, .string u.val] 87)
  obtain ⟨⟨_, _, _, _⟩, g0, _, _, _⟩ := HB.out none_ _ (F2.out.trans fa0) (fun e => e) (fun e => e)
  obtain ⟨⟨_, _, _, b3⟩, _, _, _, g3⟩ := HB.out none_ _ (F2.out.trans fa) (fun e => e) (fun e => e)
  have ra := Row.new w2 #[.int .u8 2, .int .u8 TB, .int .u64 u.wr, .int .u64 (nx : Int), .int .u64 v.wr, .string u.val] 87
  have FA2 := Lib.hid (F2.out.trans fa)
  have RA2 := Lib.hid ra
  clear fa fa0 ra
  go_wp2_with fail
  refine (HD.out _).mono ?_
  rintro e w3 ⟨rfl, f3⟩
  have R3 := Lib.hid (RA2.out.kept f3 (fun e => e))
  have F3 := Lib.hid (FA2.out.trans f3)
  obtain ⟨d0, d1, d2, d3, d4, d5⟩ := six_cells R3.out
  have z5 := R3.out.free 5
  obtain ⟨e0, e1, e2, e3, e4, e5⟩ := six_cells (u0 := .int .u8 2) (u1 := .int .u8 TB) (u2 := .int .u64 u.wr) (u3 := .int .u64 (nx : Int)) (u4 := .int .u64 v.wr) (u5 := .string DL) (R3.out.set 5 (.string DL))
  have HNE := Lib.hid (show w.heap.size + 2 ≤ w2.heap.size from by have := F2.out.size; simp at this; omega)
  have F3s := Lib.hid (F3.out.step (Fr.setCell (one w2.heap.size) w3 ⟨w2.heap.size, 5, none⟩ (.string DL) (fun _ => rfl)) (fun i hi e => by have := HNE.out; unfold one at e; simp at hi; omega))
  have P3 := Lib.hid (HPP.out (w3.setCell ⟨w2.heap.size, 5, none⟩ (.string DL)) (FB.out.trans F3s.out))
  clear f3 g0 g3 b3 d0 d1 d2 d3 d4
  go_wp2_with fail
  refine P3.out.mono ?_
  rintro e w4 ⟨rfl, F', hU, f4, gr4⟩
  have HX := Lib.hid (And.intro hU (And.intro f4 gr4))
  clear hU f4 gr4
  go_wp2_with fail
  go_ret2
  obtain ⟨hU, f4, gr4⟩ := HX.out
  exact ⟨rfl, F', hU, ((FB.out.trans F3s.out).none.trans f4), fun k hk => (gr4 k hk).imp id (fun q => Nat.le_trans (FB.out.trans F3s.out).size q)⟩
set_option maxHeartbeats 16000000 in
theorem Undo_Save_ok (hcx : w.cell? ⟨x, 6, none⟩ = some (.int .i64 (vl : Int))) (hvl : vl ≤ 256) (u v : VerV) (hm : u.umay vl = true) (hm2 : v.umay vl = true) (huw : u.wr < 9223372036854775808) (hvw : v.wr < 9223372036854775808) {nx : Nat} (H : Nat) (hFl : ∀ k, F k ∨ segOwn m vs k → k < w.heap.size) (hsl : ∀ k, (segOf vs k).length ≤ 4294967295)
    (HP : ∀ w1, Fr none_ w w1 → Calls Tryz.prog 63 #[.pointer (some ⟨x, 0, none⟩), .agg (saveUV u nx v).cells] w1 fun e w' => e = .returned (.tuple #[.int .u64 (H : Int), .int .i64 0]) ∧ ∃ F', UnAt w' x a m F' vs c s ∧ Fr F w1 w' ∧ Grow F F' w1) :
    Calls Tryz.prog 24 #[.pointer (some ⟨x, 0, none⟩), .agg u.cells, .int .u64 (nx : Int), .agg v.cells] w fun e w' => e = .returned (.tuple #[.int .u64 (H : Int), .int .i64 0]) ∧ ∃ F' vs', UnAt w' x a m F' vs' c s ∧ (∀ k, segOf vs' k = if v.wr = k then segOf vs k ++ [H] else segOf vs k) ∧ (∀ k, k = x ∨ F' k ∨ segOwn m vs' k → k = x ∨ F k ∨ segOwn m vs k ∨ w.heap.size ≤ k) ∧ Fr (fun k => F k ∨ segOwn m vs k) w w' ∧ vs'.length ≤ vs.length + 1 := by
  obtain ⟨r0, r1, f0⟩ := two_boxes w u v
  have hu1 := VerV.umay_iff.1 hm
  have hv1 := VerV.umay_iff.1 hm2
  have HM := may_two vl hvl (f0.keep hcx) u v (by omega) (by omega)
  rw [hm, hm2, World.size_alloc, World.size_alloc] at HM
  have HM := Lib.hid HM
  have HB := Lib.hid (show ∀ (G : Nat → Prop) w', Fr G ((w.alloc (.cells u.cells 40)).alloc (.cells v.cells 40)) w' → ¬ G w.heap.size → ¬ G (w.heap.size + 1) → (w'.cell? ⟨w.heap.size, 0, none⟩ = some (.int .i64 u.wr) ∧ w'.cell? ⟨w.heap.size, 1, none⟩ = some (.int .i64 u.ts) ∧ w'.cell? ⟨w.heap.size, 2, none⟩ = some (.bool u.tomb) ∧ w'.cell? ⟨w.heap.size, 3, none⟩ = some (.string u.val)) ∧ w'.cell? ⟨w.heap.size + 1, 0, none⟩ = some (.int .i64 v.wr) ∧ w'.cell? ⟨w.heap.size + 1, 1, none⟩ = some (.int .i64 v.ts) ∧ w'.cell? ⟨w.heap.size + 1, 2, none⟩ = some (.bool v.tomb) ∧ w'.cell? ⟨w.heap.size + 1, 3, none⟩ = some (.string v.val) from fun G w' f n0 n1 => ⟨four_cells (r0.kept f n0), four_cells (r1.kept f n1)⟩)
  obtain ⟨⟨b0, b1, b2, b3⟩, g0, g1, g2, g3⟩ := HB.out none_ _ (Fr.refl none_ _) (fun e => e) (fun e => e)
  have hof : ∀ w', Calls Tryz.prog 55 #[.int .u8 2, .agg u.cells, .int .u64 (nx : Int)] w' fun e w'' => e = .returned (.agg (u.uv true nx).cells) ∧ Fr none_ w' w'' := fun w' => Undo_of w' true u nx hu1.1 huw
  rw [VerV.uv_cells true hu1.1] at hof
  have HO := Lib.hid hof
  have HD := Lib.hid (fun w' => Delta_Make w' v.val u.val (by omega) (by omega))
  have hP := HP
  rw [saveUV_cells hu1.1 hv1.1] at hP
  have HPP := Lib.hid hP
  have FB := Lib.hid f0
  have HFL := Lib.hid hFl
  have wv : IntKind.u64.wrap v.wr = v.wr := by rw [IntKind.wrap_u64]; omega
  obtain ⟨TB, hTB⟩ : ∃ TB : Int, TB = (if u.tomb then 1 else 0) := ⟨_, rfl⟩
  rw [← hTB] at HO HPP
  obtain ⟨DL, hDL⟩ : ∃ DL, DL = strOf (dEnc (dMake v.val.data.toList u.val.data.toList)) := ⟨_, rfl⟩
  rw [← hDL] at HD HPP
  unfold VerV.cells at HM FB HB b0 b1 b2 b3 g0 g1 g2 g3 HO ⊢
  clear hFl hcx hm hm2 f0 r0 r1 hof hP HP hTB hDL hu1 hv1
  simp only [if_true] at HO
  go_enter Tryz.func24, Tryz.ntmps24
  go_wp2_with fail
  refine HM.out.mono ?_
  rintro e w1 ⟨rfl, f1⟩
  have F1 := Lib.hid f1
  clear f1 b0 b1 b2 b3 g0 g1 g2 g3
  obtain ⟨⟨b0, b1, b2, b3⟩, g0, g1, g2, g3⟩ := HB.out none_ _ F1.out (fun e => e) (fun e => e)
  go_wp2_with fail
  refine (HO.out _).mono ?_
  rintro e w2 ⟨rfl, f2⟩
  have F2 := Lib.hid (F1.out.trans f2)
  clear f2 b0 b1 b2 b3 g0 g1 g2 g3
  have fa := Fr.alloc none_ w2 (.cells #[.int .u8 2, .int .u8 TB, .int .u64 u.wr, .int .u64 (nx : Int), .int .u64 v.wr, .string u.val] 87)
  have fa0 := Fr.alloc none_ w2 (.cells #[.int .u8 2, .int .u8 TB, .int .u64 u.wr, .int .u64 (nx : Int), .int .u64 0, .string u.val] 87)
  obtain ⟨⟨_, _, _, _⟩, g0, _, _, _⟩ := HB.out none_ _ (F2.out.trans fa0) (fun e => e) (fun e => e)
  obtain ⟨⟨_, _, _, b3⟩, _, _, _, g3⟩ := HB.out none_ _ (F2.out.trans fa) (fun e => e) (fun e => e)
  have ra := Row.new w2 #[.int .u8 2, .int .u8 TB, .int .u64 u.wr, .int .u64 (nx : Int), .int .u64 v.wr, .string u.val] 87
  have FA2 := Lib.hid (F2.out.trans fa)
  have RA2 := Lib.hid ra
  clear fa fa0 ra
  go_wp2_with fail
  refine (HD.out _).mono ?_
  rintro e w3 ⟨rfl, f3⟩
  have R3 := Lib.hid (RA2.out.kept f3 (fun e => e))
  have F3 := Lib.hid (FA2.out.trans f3)
  obtain ⟨d0, d1, d2, d3, d4, d5⟩ := six_cells R3.out
  have z5 := R3.out.free 5
  obtain ⟨e0, e1, e2, e3, e4, e5⟩ := six_cells (u0 := .int .u8 2) (u1 := .int .u8 TB) (u2 := .int .u64 u.wr) (u3 := .int .u64 (nx : Int)) (u4 := .int .u64 v.wr) (u5 := .string DL) (R3.out.set 5 (.string DL))
  have HNE := Lib.hid (show w.heap.size + 2 ≤ w2.heap.size from by have := F2.out.size; simp at this; omega)
  have F3s := Lib.hid (F3.out.step (Fr.setCell (one w2.heap.size) w3 ⟨w2.heap.size, 5, none⟩ (.string DL) (fun _ => rfl)) (fun i hi e => by have := HNE.out; unfold one at e; simp at hi; omega))
  have P3 := Lib.hid (HPP.out (w3.setCell ⟨w2.heap.size, 5, none⟩ (.string DL)) (FB.out.trans F3s.out))
  clear f3 g0 g3 b3 d0 d1 d2 d3 d4
  go_wp2_with fail
  refine P3.out.mono ?_
  rintro e w4 ⟨rfl, F', hU, f4, gr4⟩
  have HX := Lib.hid (And.intro hU (And.intro f4 gr4))
  have hxF : ∀ k, w.heap.size ≤ k → k < w.heap.size + 2 → ¬ F k := fun k hk _ e => by have := HFL.out _ (Or.inl e); omega
  obtain ⟨⟨_, _, _, _⟩, g0, _, _, _⟩ := HB.out F _ (F3s.out.none.trans f4) (hxF _ (Nat.le_refl _) (by omega)) (hxF _ (by omega) (by omega))
  have c9 := hU.mapc
  have HSQ := Lib.hid (hU.seg.at_ v.wr)
  have lk := hU.seg.look v.wr
  have lkd : (Instr.lookup 80 (.map (some m)) (.int .i64 v.wr) false).run Tryz.prog w4.drew = .ok (.slice (sgGet vs v.wr).a (sgGet vs v.wr).l.length (sgGet vs v.wr).cap) w4.drew := (hU.seg.kept0 (Fr.drew none_ w4)).look v.wr
  have lka : ∀ o, (Instr.lookup 80 (.map (some m)) (.int .i64 v.wr) false).run Tryz.prog (w4.alloc o) = .ok (.slice (sgGet vs v.wr).a (sgGet vs v.wr).l.length (sgGet vs v.wr).cap) (w4.alloc o) := fun o => (hU.seg.kept0 (Fr.alloc none_ w4 o)).look v.wr
  have lkad : ∀ o, (Instr.lookup 80 (.map (some m)) (.int .i64 v.wr) false).run Tryz.prog (w4.alloc o).drew = .ok (.slice (sgGet vs v.wr).a (sgGet vs v.wr).l.length (sgGet vs v.wr).cap) (w4.alloc o).drew := fun o => (hU.seg.kept0 ((Fr.alloc none_ w4 o).drew_r)).look v.wr
  have lkda : ∀ o, (Instr.lookup 80 (.map (some m)) (.int .i64 v.wr) false).run Tryz.prog (w4.drew.alloc o) = .ok (.slice (sgGet vs v.wr).a (sgGet vs v.wr).l.length (sgGet vs v.wr).cap) (w4.drew.alloc o) := fun o => (hU.seg.kept0 ((Fr.drew none_ w4).alloc_r o)).look v.wr
  have c9d : ∀ o, (w4.alloc o).cell? ⟨x, 9, none⟩ = some (.map (some m)) := fun o => (Fr.alloc none_ w4 o).keep c9
  have g0d : ∀ o, (w4.alloc o).cell? ⟨w.heap.size + 1, 0, none⟩ = some (.int .i64 v.wr) := fun o => (Fr.alloc none_ w4 o).keep g0
  have SL := Lib.hid (show ∀ w', Fr none_ w4 w' → SlAt w' (sgGet vs v.wr).a (sgGet vs v.wr).l.length (sgGet vs v.wr).cap 32 1 ((sgGet vs v.wr).l.map hvN) from fun w' f => HSQ.out.1.kept0 f)
  have NEW := Lib.hid (show ∀ (w' w'' : World), Fr none_ (w'.alloc (.cells #[.int .u64 (H : Int)] 32)) w'' → ∀ (j : Nat) (y : Value), [hvN H][j]? = some y → w''.cell? ((⟨w'.heap.size, 0, none⟩ : Addr).add j) = some y from fun w' w'' f j y hy => by
    have q := new_cells w' [hvN H] 32 j y hy
    exact f.keep q)
  have HLE := Lib.hid (hsl v.wr)
  have hl10 : (sgGet vs v.wr).l.length ≤ 4294967295 := by rw [sgGet_l]; exact hsl v.wr
  have HSEG := Lib.hid hU.seg
  have KT := int_keyU
  obtain ⟨V, hV⟩ : ∃ V, V = sgGet vs v.wr := ⟨_, rfl⟩
  rw [← hV] at HSQ lk lkd lka lkad lkda SL hl10
  have HV := Lib.hid hV
  obtain ⟨Va, Vc, Vl⟩ := V
  simp only at HSQ lk lkd lka lkad lkda SL hl10
  obtain ⟨ln, hln⟩ : ∃ ln, ln = Vl.length := ⟨_, rfl⟩
  rw [← hln] at HSQ lk lkd lka lkad lkda SL hl10
  have HLN := Lib.hid hln
  clear hU f4 gr4 e0 e1 e2 e3 e4 e5 d5 z5 hV hln hsl hxF KT
  go_wp2_with fail
  go_region_held3 (fun w' => w'.cell? ⟨x, 9, none⟩ = some (.map (some m)) ∧ w'.cell? ⟨w.heap.size + 1, 0, none⟩ = some (.int .i64 v.wr))
    (first | (go_split_ands; with_reducible exact ⟨c9e, g0e⟩) | (go_split_ands; with_reducible exact ⟨c9, g0⟩) | (go_split_ands; with_reducible exact ⟨(Fr.alloc none_ _ _).keep (by assumption), (Fr.alloc none_ _ _).keep (by assumption)⟩) | (go_split_ands; with_reducible exact ⟨c9f, g0f⟩) | go_keep)
    (first
    | (refine stepAppend rfl (.tmp 59) (.tmp 61) _ rfl 32 (.int .u64 0) 1 8 Tryz.underlying33 hInfo rfl (SL.out _ (by first | (with_reducible exact Fr.refl none_ w4) | (with_reducible exact Fr.drew none_ w4) | (with_reducible exact Fr.alloc none_ w4 _) | (with_reducible exact (Fr.alloc none_ w4 _).drew_r) | (with_reducible exact (Fr.drew none_ w4).alloc_r _) | (with_reducible exact ((Fr.drew none_ w4).alloc_r _).drew_r))) rfl ⟨w4.heap.size, 0, none⟩ 1 1 [hvN H] rfl rfl (by first | exact NEW.out w4 _ (Fr.refl _ _) | exact NEW.out w4 _ (Fr.drew _ _) | exact NEW.out w4.drew _ (Fr.refl _ _) | exact NEW.out w4.drew _ (Fr.drew _ _)) (by simp [hvN, Value.oneCell']) (by omega) (by unfold maxLen; omega) (by omega) ?_
       intro a5 cap5 w5 hs5 f5 hb5
       have F5 : Hid (Fr (blk Va) w4 w5) := Lib.hid ((show Fr none_ w4 _ from (by first | (with_reducible exact Fr.refl none_ w4) | (with_reducible exact Fr.drew none_ w4) | (with_reducible exact Fr.alloc none_ w4 _) | (with_reducible exact (Fr.alloc none_ w4 _).drew_r) | (with_reducible exact (Fr.drew none_ w4).alloc_r _) | (with_reducible exact ((Fr.drew none_ w4).alloc_r _).drew_r))).none.trans f5)
       have B5 : Hid (∀ k, blk a5 k → blk Va k ∨ w4.heap.size ≤ k) := Lib.hid (fun k hk => (hb5 k hk).imp id (fun q => Nat.le_trans (show Fr none_ w4 _ from (by first | (with_reducible exact Fr.refl none_ w4) | (with_reducible exact Fr.drew none_ w4) | (with_reducible exact Fr.alloc none_ w4 _) | (with_reducible exact (Fr.alloc none_ w4 _).drew_r) | (with_reducible exact (Fr.drew none_ w4).alloc_r _) | (with_reducible exact ((Fr.drew none_ w4).alloc_r _).drew_r))).size q))
       have S5 := Lib.hid hs5
       obtain ⟨w6, hup, hm6, f6⟩ := run_update_at (ev := sgEv) (HSEG.out.map.kept F5.out HSQ.out.2.1) Tryz.underlying80 int_keyU v.wr ⟨a5, cap5, Vl ++ [H]⟩
       have hup2 : (Instr.mapUpdate 80 (.map (some m)) (.int .i64 v.wr) (.slice a5 (ln + 1) cap5)).run Tryz.prog w5 = .ok () w6 := by
         have e : sgEv ⟨a5, cap5, Vl ++ [H]⟩ = .slice a5 (ln + 1) cap5 := by unfold sgEv; simp only [List.length_append, List.length_singleton]; rw [HLN.out]
         rw [← e]; exact hup
       have M6 := Lib.hid hm6
       have F6 := Lib.hid f6
       have c9e : w5.cell? ⟨x, 9, none⟩ = some (.map (some m)) := F5.out.keepF (fun e => HX.out.1.xS (HSQ.out.2.2.1 _ e)) c9
       have g0e : w5.cell? ⟨w.heap.size + 1, 0, none⟩ = some (.int .i64 v.wr) := F5.out.keepF (fun e => by have q : w.heap.size + 1 < w.heap.size := HFL.out _ (Or.inr (HSQ.out.2.2.1 _ e)); omega) g0
       have c9f : w6.cell? ⟨x, 9, none⟩ = some (.map (some m)) := F6.out.keepF (fun e => HX.out.1.xS (Or.inl e)) c9e
       have g0f : w6.cell? ⟨w.heap.size + 1, 0, none⟩ = some (.int .i64 v.wr) := F6.out.keepF (fun e => by have q : w.heap.size + 1 < w.heap.size := HFL.out _ (Or.inr (Or.inl e)); omega) g0e
       clear hs5 f5 hb5 hup hm6 f6)
    | fail)
  all_goals
    clear g0 c9 lk lkd lka lkad lkda c9d g0d c9e g0e c9f g0f hup2
    go_wp2_with fail
    go_ret2
    obtain ⟨hU, f4, gr4⟩ := HX.out
    have hVe := HV.out
    have sgp := HSEG.out.put (k := v.wr) (v := ⟨a5, cap5, Vl ++ [H]⟩) (w1 := w5) (w2 := w6) (by rw [← hVe]; exact F5.out) (by simp only [List.length_append, List.length_singleton, List.map_append]; rw [← HLN.out]; exact S5.out) (by simp) (fun b hb => by rw [← hVe]; exact B5.out b hb) M6.out F6.out
    obtain ⟨q1, q2, q3⟩ := sgp
    have f46 : Fr (segOwn m vs) w4 w6 := (F5.out.mono fun k _ e => HSQ.out.2.2.1 k e).trans (F6.out.mono fun k _ e => Or.inl e)
    have fw4 : Fr F w w4 := (FB.out.trans F3s.out).none.trans f4
    refine ⟨rfl, F', kvPut vs v.wr ⟨a5, cap5, Vl ++ [H]⟩, hU.turnS q1 f46 q2, fun k => ?_, fun k hk => ?_, (fw4.mono fun k _ e => Or.inl e).trans (f46.mono fun k _ e => Or.inr e), by rw [kvPut_length]; split <;> omega⟩
    · rw [q3 k]
      by_cases e : v.wr = k
      · rw [if_pos e, if_pos e, ← e, ← sgGet_l, ← hVe]
      · rw [if_neg e, if_neg e]
    · have hz := fw4.size
      rcases hk with hk | hk | hk
      · exact Or.inl hk
      · rcases gr4 k hk with q | q
        · exact Or.inr (Or.inl q)
        · have := (FB.out.trans F3s.out).size
          exact Or.inr (Or.inr (Or.inr (Nat.le_trans this q)))
      · rcases q2 k hk with q | q
        · exact Or.inr (Or.inr (Or.inl q))
        · exact Or.inr (Or.inr (Or.inr (Nat.le_trans hz q)))
end
end Go.Proofs.YtckkccnebjacdaaGreat
