/-
  Package undo: put: something is put into a new slot.
  Package undo: Make, Row.
  Package undo: Record.
  Package undo: Change, Cut.
-/
import Derived.Test.YtckkccnebjacdaaGreatUnAt
import Derived.Deep.RegionHeld3
import Derived.Test.YtckkccnebjacdaaGreatMgDelta
namespace Go.Proofs.YtckkccnebjacdaaGreat
open Go.RowKit
set_option linter.unusedVariables false
set_option linter.unusedSimpArgs false
set_option maxRecDepth 100000
section
variable {w w' : World} {x a m N vl : Nat} {F G : Nat → Prop} {vs : List (Int × SgV)} {c : CfgV} {s : AS} {t : US}
theorem un_write (h : UnAt w x a m F vs c s) (hu : Upto N s) (hsl : s.slot = 32 + vl) {hd : Nat} (hh : hd < 18446744073709551616) (hf : (aFind s hd).isSome = true) (n : UV) (hn : n.Ok vl) :
    Calls Tryz.prog 54 #[.pointer (some ⟨a, 0, none⟩), .int .u64 (hd : Int), .string (strOf n.enc)] w fun e w' => e = .returned (.int .i64 0) ∧ UnAt w' x a m F vs c (aWrite s hd (strOf n.enc)).2 ∧ Fr F w w' := by
  have e : ((aWrite s hd (strOf n.enc)).1 : Int) = 0 := by
    unfold aWrite
    rw [if_pos hf, if_pos (by rw [hsl]; exact uenc_fits hn)]; rfl
  refine (ar_write_lit h.ar hu hh (strOf n.enc) rfl e).mono ?_
  rintro e w1 ⟨he, h1, f1⟩
  exact ⟨he, h.turnA h1 f1 (Grow.refl _ _), f1⟩
set_option maxHeartbeats 4000000 in
theorem Undo_put_full (h : UnAt w x a m F vs c s) (hu : Upto N s) (hN : N < big) (h0 : (aAlloc s).1 = 0) (h1 : (aAlloc s).2.1 = 41) (n : UV) :
    Calls Tryz.prog 63 #[.pointer (some ⟨x, 0, none⟩), .agg n.cells] w fun e w' => e = .returned (.tuple #[.int .u64 0, .int .i64 41]) ∧ ∃ F', UnAt w' x a m F' vs c (aAlloc s).2.2 ∧ Fr F w w' ∧ Grow F F' w := by
  have fB := Fr.alloc none_ w (.cells n.cells 87)
  have HA := Lib.hid (ar_alloc_lit (h.kept0 fB).ar hu hN 0 (q := 41) (by rw [h0]; rfl) (by rw [h1]; rfl))
  have c8 := (h.kept0 fB).arena
  have HH := Lib.hid (h.kept0 fB)
  have FB := Lib.hid fB
  unfold UV.cells byteV at HA c8 HH FB ⊢
  generalize (aAlloc s).2.2 = s2 at HA ⊢
  clear h hu fB h0 h1
  go_enter Tryz.func63, Tryz.ntmps63
  go_wp2_with fail
  refine HA.out.mono ?_
  rintro e w2 ⟨rfl, F', ha, f2, g2⟩
  have HX := Lib.hid (And.intro ha (And.intro f2 g2))
  clear ha f2 g2
  go_wp2_with fail
  go_ret2
  obtain ⟨ha, f2, g2⟩ := HX.out
  exact ⟨rfl, F', HH.out.turnA ha f2 g2, FB.out.none.trans f2, fun k hk => (g2 k hk).imp id (fun q => Nat.le_trans FB.out.size q)⟩
set_option maxHeartbeats 8000000 in
theorem Undo_put_ok (h : UnAt w x a m F vs c s) (hu : Upto N s) (hN : N < big) (hsl : s.slot = 32 + vl) (h1 : (aAlloc s).2.1 = 0) (n : UV) (hn : n.Ok vl) (hvl : vl ≤ 256) :
    Calls Tryz.prog 63 #[.pointer (some ⟨x, 0, none⟩), .agg n.cells] w fun e w' => e = .returned (.tuple #[.int .u64 ((aAlloc s).1 : Int), .int .i64 0]) ∧ ∃ F', UnAt w' x a m F' vs c (aWrite (aAlloc s).2.2 (aAlloc s).1 (strOf n.enc)).2 ∧ Fr F w w' ∧ Grow F F' w := by
  have fB := Fr.alloc none_ w (.cells n.cells 87)
  have HA := Lib.hid (ar_alloc_lit (h.kept0 fB).ar hu hN ((aAlloc s).1 : Int) (q := 0) rfl (by rw [h1]; rfl))
  have c8 := (h.kept0 fB).arena
  have hhl : (aAlloc s).1 < 18446744073709551616 := by
    rcases aAlloc_new hu hN with ⟨_, r⟩ | ⟨e1, _⟩
    · exact r.lt
    · omega
  have hfd : (aFind (aAlloc s).2.2 (aAlloc s).1).isSome = true := by
    rcases aAlloc_new hu hN with ⟨_, r⟩ | ⟨e1, _⟩
    · rw [r.find _ r.lt, if_pos rfl]; rfl
    · omega
  have hsl2 : (aAlloc s).2.2.slot = 32 + vl := by rw [(aAlloc_wf hu.wf).2, hsl]
  have HWR := Lib.hid (fun w' F' (h' : UnAt w' x a m F' vs c (aAlloc s).2.2) => un_write h' hu.alloc hsl2 hhl hfd n hn)
  have HBY := Lib.hid (fun w' => Slot_bytes w' n (by have := hn.wr; omega) hn.nx (by have := hn.sg; omega) (by have := hn.rest; split at this <;> omega))
  have HB := Lib.hid (show ∀ (w' : World) (G : Nat → Prop), Fr G (w.alloc (.cells n.cells 87)) w' → ¬ G w.heap.size → w'.cell? ⟨w.heap.size, 0, none⟩ = some (.int .u8 (n.kind.toNat : Int)) ∧ w'.cell? ⟨w.heap.size, 1, none⟩ = some (.int .u8 (n.tb.toNat : Int)) ∧ w'.cell? ⟨w.heap.size, 2, none⟩ = some (.int .u64 (n.wr : Int)) ∧ w'.cell? ⟨w.heap.size, 3, none⟩ = some (.int .u64 (n.nx : Int)) ∧ w'.cell? ⟨w.heap.size, 4, none⟩ = some (.int .u64 (n.sg : Int)) ∧ w'.cell? ⟨w.heap.size, 5, none⟩ = some (.string n.rest) from fun w' G f hn => six_cells ((Row.new w n.cells 87).kept f hn))
  have HH := Lib.hid (h.kept0 fB)
  have FB := Lib.hid fB
  have HNB := Lib.hid (show ¬ F w.heap.size from fun e => absurd (h.ar.lt _ e) (Nat.lt_irrefl _))
  unfold UV.cells byteV at HA c8 HH FB HBY HB ⊢
  obtain ⟨EN, hEN⟩ : ∃ EN, EN = n.enc := ⟨_, rfl⟩
  rw [← hEN] at HBY HWR ⊢
  generalize (aWrite (aAlloc s).2.2 (aAlloc s).1 (strOf EN)).2 = s3 at HWR ⊢
  generalize (aAlloc s).2.2 = s2 at HA HWR
  generalize (aAlloc s).1 = H at HA HWR ⊢
  clear h hu fB h1 hhl hfd hsl2 hn hEN
  go_enter Tryz.func63, Tryz.ntmps63
  go_wp2_with fail
  refine HA.out.mono ?_
  rintro e w2 ⟨rfl, F', ha, f2, g2⟩
  have hA2 := HH.out.turnA ha f2 g2
  have hnb2 : ¬ F' w.heap.size := fun e => by
    rcases g2 _ e with q | q
    · exact HNB.out q
    · simp at q; omega
  obtain ⟨b0, b1, b2, b3, b4, b5⟩ := HB.out _ F f2 HNB.out
  have c8' := hA2.arena
  have HX := Lib.hid (And.intro hA2 (And.intro f2 g2))
  have HNB2 := Lib.hid hnb2
  have fS : Fr F' w2 w2 := Fr.refl _ _
  clear ha f2 g2 hA2 hnb2 c8
  go_wp2_with fail
  go_region_held3 (fun w' => Fr F' w2 w' ∧ w'.cell? ⟨x, 8, none⟩ = some (.pointer (some ⟨a, 0, none⟩)) ∧ w'.cell? ⟨w.heap.size, 0, none⟩ = some (.int .u8 (n.kind.toNat : Int)) ∧ w'.cell? ⟨w.heap.size, 1, none⟩ = some (.int .u8 (n.tb.toNat : Int)) ∧ w'.cell? ⟨w.heap.size, 2, none⟩ = some (.int .u64 (n.wr : Int)) ∧ w'.cell? ⟨w.heap.size, 3, none⟩ = some (.int .u64 (n.nx : Int)) ∧ w'.cell? ⟨w.heap.size, 4, none⟩ = some (.int .u64 (n.sg : Int)) ∧ w'.cell? ⟨w.heap.size, 5, none⟩ = some (.string n.rest))
    (first | (go_split_ands; refine ⟨?_, ?_, ?_, ?_, ?_, ?_, ?_, ?_⟩; exact Fr.trans (by assumption) f6; exact hA.arena; all_goals exact Fr.keepF f6 HNB2.out (by assumption)) | (go_split_ands; refine ⟨?_, ?_, ?_, ?_, ?_, ?_, ?_, ?_⟩; exact Fr.trans (by assumption) f5.none; all_goals exact Fr.keep f5 (by assumption)) | (go_split_ands; refine ⟨?_, ?_, ?_, ?_, ?_, ?_, ?_, ?_⟩; exact Fr.trans (by assumption) (Fr.drew _ _); all_goals assumption) | go_keep)
    (first
      | (go_at_call 56; refine (HBY.out _).mono ?_; rintro e w5 ⟨rfl, f5⟩)
      | (go_at_call 54; refine (HWR.out _ F' (HX.out.1.kept0 ((Fr.drew none_ w2).trans f5))).mono ?_; rintro e w6 ⟨rfl, hA, f6⟩))
  rename_i hk
  have hF := hk.1
  clear hk
  go_wp2
  go_ret2
  obtain ⟨hA2, f2, g2⟩ := HX.out
  refine ⟨rfl, F', hA, ?_, fun k hk => (g2 k hk).imp id (fun q => Nat.le_trans FB.out.size q)⟩
  refine (FB.out.none.trans f2).step hF (fun i hi hk => ?_)
  rcases g2 i hk with q | q
  · exact q
  · simp at q; omega
end
end Go.Proofs.YtckkccnebjacdaaGreat
namespace Go.Proofs.YtckkccnebjacdaaGreat
open Go.RowKit
set_option linter.unusedVariables false
set_option linter.unusedSimpArgs false
set_option maxRecDepth 100000
section
variable {w w' : World} {x a m N vl : Nat} {F G : Nat → Prop} {vs : List (Int × SgV)} {c : CfgV} {s : AS} {t : US}
theorem verL_one (w1 : World) (v : VerV) : LsAt (w1.alloc (.cells #[.int .i64 v.wr, .int .i64 v.ts, .bool v.tomb, .string v.val] 40)) (some ⟨w1.heap.size, 0, none⟩) 4 verL [v] := by
  refine Or.inr ⟨w1.heap.size, 0, rfl, by simp, fun i x hx j u hu => ?_⟩
  have hi : i = 0 := by have := (List.getElem?_eq_some_iff.1 hx).1; simp at this; omega
  subst hi
  simp at hx; subst hx
  have r := (Row.new w1 v.cells 40).cell j
  rw [Nat.zero_mul, Nat.add_zero, Nat.zero_add]
  refine r.trans ?_
  simpa [verL] using hu
theorem may_one {w : World} {x : Nat} (vl : Nat) (hvl : vl ≤ 256) (hcx : w.cell? ⟨x, 6, none⟩ = some (.int .i64 (vl : Int))) (v : VerV) (hs : v.val.size ≤ 140737488351232) :
    Calls Tryz.prog 53 #[.pointer (some ⟨x, 0, none⟩), .slice (some ⟨w.heap.size, 0, none⟩) 1 1] (w.alloc (.cells #[.int .i64 v.wr, .int .i64 v.ts, .bool v.tomb, .string v.val] 40)) fun e w' => e = .returned (.bool (v.umay vl)) ∧ Fr none_ w w' := by
  have f := Fr.alloc none_ w (.cells #[.int .i64 v.wr, .int .i64 v.ts, .bool v.tomb, .string v.val] 40)
  refine (Undo_may vl hvl (f.keep hcx) _ 1 1 [v] (verL_one w v) rfl (by omega) (by simpa using hs) (v.umay vl) (by simp)).mono ?_
  rintro e w1 ⟨he, f1⟩
  exact ⟨he, f.trans f1⟩
theorem ver_boxU {w w' : World} {v : VerV} {G : Nat → Prop} (f : Fr G (w.alloc (.cells v.cells 40)) w') (hn : ¬ G w.heap.size) : w'.cell? ⟨w.heap.size, 0, none⟩ = some (.int .i64 v.wr) ∧ w'.cell? ⟨w.heap.size, 1, none⟩ = some (.int .i64 v.ts) ∧ w'.cell? ⟨w.heap.size, 2, none⟩ = some (.bool v.tomb) ∧ w'.cell? ⟨w.heap.size, 3, none⟩ = some (.string v.val) := by
  have h := (Row.new w v.cells 40).kept f hn
  exact ⟨h.cell 0, h.cell 1, h.cell 2, h.cell 3⟩
set_option maxHeartbeats 4000000 in
theorem Undo_Make_bad (hcx : w.cell? ⟨x, 6, none⟩ = some (.int .i64 (vl : Int))) (hvl : vl ≤ 256) (v : VerV) (hs : v.val.size ≤ 140737488351232) (hm : v.umay vl = false) (nx : Int) :
    Calls Tryz.prog 23 #[.pointer (some ⟨x, 0, none⟩), .agg v.cells, .int .u64 nx] w fun e w' => e = .returned (.tuple #[.int .u64 0, .int .i64 1]) ∧ Fr none_ w w' := by
  have fB := Fr.alloc none_ w (.cells v.cells 40)
  have HM := may_one vl hvl (fB.keep hcx) v hs
  rw [hm, World.size_alloc] at HM
  have HM := Lib.hid HM
  obtain ⟨b0, b1, b2, b3⟩ := ver_boxU (w := w) (v := v) (Fr.refl none_ _) (fun e => e)
  have FB := Lib.hid fB
  unfold VerV.cells at HM FB b0 b1 b2 b3 ⊢
  obtain ⟨vw, vt, vtomb, vv⟩ := v
  simp only at HM FB b0 b1 b2 b3 ⊢
  clear hcx hs hm fB
  go_enter Tryz.func23, Tryz.ntmps23
  go_wp2_with fail
  refine HM.out.mono ?_
  rintro e w1 ⟨rfl, f1⟩
  have F1 := Lib.hid (FB.out.trans f1)
  clear f1
  go_wp2_with fail
  go_ret2
  exact ⟨rfl, F1.out⟩
set_option maxHeartbeats 4000000 in
theorem Undo_Make_ok (hcx : w.cell? ⟨x, 6, none⟩ = some (.int .i64 (vl : Int))) (hvl : vl ≤ 256) (v : VerV) (hs : v.val.size ≤ 140737488351232) (hm : v.umay vl = true) (hvw : v.wr < 9223372036854775808) {nx : Nat} (H E : Int) (R : World → Prop)
    (hP : ∀ w1, Fr none_ w w1 → Calls Tryz.prog 63 #[.pointer (some ⟨x, 0, none⟩), .agg (v.uv false nx).cells] w1 fun e w' => e = .returned (.tuple #[.int .u64 H, .int .i64 E]) ∧ R w') :
    Calls Tryz.prog 23 #[.pointer (some ⟨x, 0, none⟩), .agg v.cells, .int .u64 (nx : Int)] w fun e w' => e = .returned (.tuple #[.int .u64 H, .int .i64 E]) ∧ R w' := by
  have fB := Fr.alloc none_ w (.cells v.cells 40)
  have HM := may_one vl hvl (fB.keep hcx) v hs
  rw [hm, World.size_alloc] at HM
  have HM := Lib.hid HM
  have HB := Lib.hid (fun w' (f : Fr none_ (w.alloc (.cells v.cells 40)) w') => ver_boxU (w := w) (v := v) f (fun e => e))
  obtain ⟨b0, b1, b2, b3⟩ := HB.out _ (Fr.refl none_ _)
  have HO := Lib.hid (fun w' => Undo_of w' false v nx (VerV.umay_iff.1 hm).1 hvw)
  have HPP := Lib.hid hP
  have FB := Lib.hid fB
  generalize (v.uv false nx).cells = CS at HO HPP
  unfold VerV.cells at HM FB HB b0 b1 b2 b3 HO ⊢
  obtain ⟨vw, vt, vtomb, vv⟩ := v
  simp only at HM FB HB b0 b1 b2 b3 HO ⊢
  clear hcx hs hm fB hP
  go_enter Tryz.func23, Tryz.ntmps23
  go_wp2_with fail
  refine HM.out.mono ?_
  rintro e w1 ⟨rfl, f1⟩
  have F1 := Lib.hid f1
  clear b0 b1 b2 b3
  obtain ⟨b0, b1, b2, b3⟩ := HB.out _ F1.out
  clear f1
  go_wp2_with fail
  refine (HO.out _).mono ?_
  rintro e w2 ⟨rfl, f2⟩
  have P2 := Lib.hid (HPP.out w2 (FB.out.trans (F1.out.trans f2)))
  clear f2 b0 b1 b2 b3
  go_wp2_with fail
  refine P2.out.mono ?_
  rintro e w3 ⟨rfl, hr⟩
  have HR := Lib.hid hr
  clear hr
  go_wp2_with fail
  go_ret2
  exact ⟨rfl, HR.out⟩
def verZero : Array Value := #[.int .i64 0, .int .i64 0, .bool false, .string ⟨#[]⟩]
theorem four_cells {w : World} {b : Nat} {u0 u1 u2 u3 : Value} {t : TypeId} (h : Row w b #[u0, u1, u2, u3] t) : w.cell? ⟨b, 0, none⟩ = some u0 ∧ w.cell? ⟨b, 1, none⟩ = some u1 ∧ w.cell? ⟨b, 2, none⟩ = some u2 ∧ w.cell? ⟨b, 3, none⟩ = some u3 :=
  ⟨h.cell 0, h.cell 1, h.cell 2, h.cell 3⟩
set_option maxHeartbeats 4000000 in
theorem Undo_Row_no {h : Int} (HR : ∀ w1, Fr none_ w w1 → Calls Tryz.prog 50 #[.pointer (some ⟨x, 0, none⟩), .int .u64 h, .int .u8 1] w1 fun e w' => e = .returned (.tuple #[.agg slotZero, .bool false]) ∧ Fr none_ w1 w') :
    Calls Tryz.prog 15 #[.pointer (some ⟨x, 0, none⟩), .int .u64 h] w fun e w' => e = .returned (.tuple #[.agg verZero, .int .u64 0, .bool false]) ∧ Fr none_ w w' := by
  have HRR := Lib.hid (HR _ (Fr.alloc none_ w (.cells verZero 40)))
  have FA := Lib.hid (Fr.alloc none_ w (.cells verZero 40))
  have RA := Lib.hid (Row.new w verZero 40)
  unfold slotZero at HRR
  unfold verZero at HRR FA
  clear HR
  go_enter Tryz.func15, Tryz.ntmps15
  go_wp2_with fail
  refine HRR.out.mono ?_
  rintro e w1 ⟨rfl, f1⟩
  have R1 := Lib.hid ((RA.out.kept f1 (fun e => e)).kept (Fr.alloc none_ w1 (.cells #[.int .u8 0, .int .u8 0, .int .u64 0, .int .u64 0, .int .u64 0, .string ⟨#[]⟩] 87)) (fun e => e))
  have F1 := Lib.hid ((FA.out.trans f1).trans (Fr.alloc none_ w1 (.cells #[.int .u8 0, .int .u8 0, .int .u64 0, .int .u64 0, .int .u64 0, .string ⟨#[]⟩] 87)))
  obtain ⟨j0, j1, j2, j3⟩ := four_cells (u0 := .int .i64 0) (u1 := .int .i64 0) (u2 := .bool false) (u3 := .string ⟨#[]⟩) R1.out
  clear f1
  go_wp2_with ((with_reducible refine at_storeOf 40 ?_); refine wpStoreRow (cs' := verZero) rfl _ _ _ rfl R1.out rfl rfl (by kernel_rfl) rfl (by simp [verZero, Value.oneCell']) ?_; intro w2 R2 f2; obtain ⟨c0, c1, c2, c3⟩ := four_cells (u0 := .int .i64 0) (u1 := .int .i64 0) (u2 := .bool false) (u3 := .string ⟨#[]⟩) R2; have F2 := Lib.hid f2; clear f2 R2)
  refine bodyPost_ret (v := .tuple #[.agg verZero, .int .u64 0, .bool false]) (by simp [results, Tryz.results15, go_sem, c0, c1, c2, c3, verZero]) rfl ⟨rfl, ?_⟩
  exact F1.out.step F2.out (fun i hi e => by unfold one at e; omega)
theorem ver_set (W : World) (b : Nat) (v0 v1 v2 v3 : Value) : Fr (one b) W ((((W.setCell ⟨b, 0, none⟩ v0).setCell ⟨b, 1, none⟩ v1).setCell ⟨b, 2, none⟩ v2).setCell ⟨b, 3, none⟩ v3) :=
  (((Fr.setCell (one b) W ⟨b, 0, none⟩ v0 (fun _ => rfl)).setCell_r ⟨b, 1, none⟩ v1 (fun _ => rfl)).setCell_r ⟨b, 2, none⟩ v2 (fun _ => rfl)).setCell_r ⟨b, 3, none⟩ v3 (fun _ => rfl)
theorem ver_keep {W : World} {b k i : Nat} {v0 v1 v2 v3 v : Value} (h : ¬ k = b) (hc : W.cell? ⟨k, i, none⟩ = some v) : ((((W.setCell ⟨b, 0, none⟩ v0).setCell ⟨b, 1, none⟩ v1).setCell ⟨b, 2, none⟩ v2).setCell ⟨b, 3, none⟩ v3).cell? ⟨k, i, none⟩ = some v :=
  (ver_set W b v0 v1 v2 v3).keepF (fun e => h e) hc
theorem ver_row {W : World} {b : Nat} {u0 u1 u2 u3 : Value} {t : TypeId} {v0 v1 v2 v3 : Value} (h : Row W b #[u0, u1, u2, u3] t) : Row ((((W.setCell ⟨b, 0, none⟩ v0).setCell ⟨b, 1, none⟩ v1).setCell ⟨b, 2, none⟩ v2).setCell ⟨b, 3, none⟩ v3) b #[v0, v1, v2, v3] t :=
  (((h.set 0 v0).set 1 v1).set 2 v2).set 3 v3
set_option maxHeartbeats 8000000 in
theorem Undo_Row_yes {h : Int} (n : UV) (hk : n.rcd = false) (hw : n.wr < 9223372036854775808) (HR : ∀ w1, Fr none_ w w1 → Calls Tryz.prog 50 #[.pointer (some ⟨x, 0, none⟩), .int .u64 h, .int .u8 1] w1 fun e w' => e = .returned (.tuple #[.agg n.cells, .bool true]) ∧ Fr none_ w1 w') :
    Calls Tryz.prog 15 #[.pointer (some ⟨x, 0, none⟩), .int .u64 h] w fun e w' => e = .returned (.tuple #[.agg (OV.cells n.ov), .int .u64 (n.nx : Int), .bool true]) ∧ Fr none_ w w' := by
  have HRR := Lib.hid (HR _ (Fr.alloc none_ w (.cells verZero 40)))
  have FA := Lib.hid (Fr.alloc none_ w (.cells verZero 40))
  have RA := Lib.hid (Row.new w verZero 40)
  have HV := Lib.hid (fun w' => Undo_version w' n n.rest hw)
  have HOV := Lib.hid (show OV.cells n.ov = #[.int .i64 (n.wr : Int), .int .i64 0, .bool n.tomb, .string n.rest] from rfl)
  unfold UV.cells byteV at HRR HV
  unfold OV.cells at HV
  unfold verZero at HRR FA
  simp only at HV
  clear HR
  go_enter Tryz.func15, Tryz.ntmps15
  go_wp2_with fail
  refine HRR.out.mono ?_
  rintro e w1 ⟨rfl, f1⟩
  have fa1 := Fr.alloc none_ w1 (.cells #[.int .u8 (n.kind.toNat : Int), .int .u8 (n.tb.toNat : Int), .int .u64 (n.wr : Int), .int .u64 (n.nx : Int), .int .u64 (n.sg : Int), .string n.rest] 87)
  have R1 := Lib.hid ((RA.out.kept f1 (fun e => e)).kept fa1 (fun e => e))
  have F1 := Lib.hid ((FA.out.trans f1).trans fa1)
  obtain ⟨d0, d1, d2, d3, d4, d5⟩ := six_cells (Row.new w1 #[.int .u8 (n.kind.toNat : Int), .int .u8 (n.tb.toNat : Int), .int .u64 (n.wr : Int), .int .u64 (n.nx : Int), .int .u64 (n.sg : Int), .string n.rest] 87)
  have ne1 : ¬ w1.heap.size = w.heap.size := by have := f1.size; simp at this; omega
  obtain ⟨w2, hw2⟩ : ∃ w2, w2 = w1.alloc (.cells #[.int .u8 (n.kind.toNat : Int), .int .u8 (n.tb.toNat : Int), .int .u64 (n.wr : Int), .int .u64 (n.nx : Int), .int .u64 (n.sg : Int), .string n.rest] 87) := ⟨_, rfl⟩
  clear f1 fa1
  go_wp2_with fail
  rw [← hw2] at R1 F1 d0 d1 d2 d3 d4 d5 ⊢
  clear hw2
  go_region_held3 (fun w' => w'.cell? ⟨w1.heap.size, 0, none⟩ = some (.int .u8 (n.kind.toNat : Int)) ∧ w'.cell? ⟨w1.heap.size, 1, none⟩ = some (.int .u8 (n.tb.toNat : Int)) ∧ w'.cell? ⟨w1.heap.size, 2, none⟩ = some (.int .u64 (n.wr : Int)) ∧ w'.cell? ⟨w1.heap.size, 3, none⟩ = some (.int .u64 (n.nx : Int)) ∧ w'.cell? ⟨w1.heap.size, 4, none⟩ = some (.int .u64 (n.sg : Int)) ∧ w'.cell? ⟨w1.heap.size, 5, none⟩ = some (.string n.rest))
    (first | (go_split_ands; with_reducible refine ⟨?_, ?_, ?_, ?_, ?_, ?_⟩; all_goals with_reducible exact Fr.keep f5 (by assumption)) | (go_split_ands; with_reducible refine ⟨?_, ?_, ?_, ?_, ?_, ?_⟩; all_goals with_reducible assumption) | (go_split_ands; with_reducible refine ⟨?_, ?_, ?_, ?_, ?_, ?_⟩; all_goals with_reducible exact ver_keep ne1 (by assumption)) | go_keep)
    (first | (go_at_call 51; refine (HV.out _).mono ?_; rintro e w5 ⟨rfl, f5⟩; have R5 := Lib.hid (R1.out.drew.kept f5 (fun e => e)); have F5 := Lib.hid ((F1.out.trans (Fr.drew none_ w2)).trans f5); obtain ⟨j0, j1, j2, j3⟩ := four_cells (u0 := .int .i64 0) (u1 := .int .i64 0) (u2 := .bool false) (u3 := .string ⟨#[]⟩) R5.out; have z0 := R5.out.free 0; have z1 := R5.out.free 1; have z2 := R5.out.free 2; have z3 := R5.out.free 3))
  have R6 := ver_row (v0 := .int .i64 (n.wr : Int)) (v1 := .int .i64 0) (v2 := .bool n.tomb) (v3 := .string n.rest) R5.out
  have F6 := Lib.hid (F5.out.step (ver_set w5 w.heap.size (.int .i64 (n.wr : Int)) (.int .i64 0) (.bool n.tomb) (.string n.rest)) (fun i hi e => by unfold one at e; omega))
  obtain ⟨c0, c1, c2, c3⟩ := four_cells R6
  clear d0 d1 d2 d3 d4 d5 j0 j1 j2 j3 z0 z1 z2 z3
  go_wp2_with fail
  refine bodyPost_ret (v := .tuple #[.agg #[.int .i64 (n.wr : Int), .int .i64 0, .bool n.tomb, .string n.rest], .int .u64 (n.nx : Int), .bool true]) (by simp [results, Tryz.results15, go_sem, c0, c1, c2, c3]) rfl ⟨rfl, F6.out⟩
end
end Go.Proofs.YtckkccnebjacdaaGreat
namespace Go.Proofs.YtckkccnebjacdaaGreat
open Go.RowKit
set_option linter.unusedVariables false
set_option linter.unusedSimpArgs false
set_option maxRecDepth 100000
section
variable {w w' : World} {x a m N vl : Nat} {F G : Nat → Prop} {vs : List (Int × SgV)} {c : CfgV} {s : AS} {t : US}
/-- The two blocks that Record makes first: the newer version, what it hands back. -/
theorem rec_boxes (w : World) (v : VerV) : Row ((w.alloc (.cells v.cells 40)).alloc (.cells verZero 40)) w.heap.size v.cells 40 ∧ Row ((w.alloc (.cells v.cells 40)).alloc (.cells verZero 40)) (w.heap.size + 1) verZero 40 ∧ Fr none_ w ((w.alloc (.cells v.cells 40)).alloc (.cells verZero 40)) := by
  refine ⟨(Row.new w v.cells 40).alloc _, ?_, (Fr.alloc none_ w _).alloc_r _⟩
  have := Row.new (w.alloc (.cells v.cells 40)) verZero 40
  rw [World.size_alloc] at this
  exact this
set_option maxHeartbeats 4000000 in
theorem Undo_Record_no {h : Int} (v : VerV) (HR : ∀ w1, Fr none_ w w1 → Calls Tryz.prog 50 #[.pointer (some ⟨x, 0, none⟩), .int .u64 h, .int .u8 2] w1 fun e w' => e = .returned (.tuple #[.agg slotZero, .bool false]) ∧ Fr none_ w1 w') :
    Calls Tryz.prog 16 #[.pointer (some ⟨x, 0, none⟩), .int .u64 h, .agg v.cells] w fun e w' => e = .returned (.tuple #[.agg verZero, .int .u64 0, .bool false]) ∧ Fr none_ w w' := by
  obtain ⟨r0, r1, f0⟩ := rec_boxes w v
  have HRR := Lib.hid (HR _ f0)
  have FA := Lib.hid f0
  have RA := Lib.hid r1
  unfold slotZero at HRR
  unfold verZero at HRR FA RA
  unfold VerV.cells at HRR FA RA ⊢
  obtain ⟨vw, vt, vtomb, vv⟩ := v
  simp only at HRR FA RA ⊢
  clear HR r0 r1 f0
  go_enter Tryz.func16, Tryz.ntmps16
  go_wp2_with fail
  refine HRR.out.mono ?_
  rintro e w1 ⟨rfl, f1⟩
  have fa1 := Fr.alloc none_ w1 (.cells #[.int .u8 0, .int .u8 0, .int .u64 0, .int .u64 0, .int .u64 0, .string ⟨#[]⟩] 87)
  have R1 := Lib.hid ((RA.out.kept f1 (fun e => e)).kept fa1 (fun e => e))
  have F1 := Lib.hid ((FA.out.trans f1).trans fa1)
  obtain ⟨j0, j1, j2, j3⟩ := four_cells (u0 := .int .i64 0) (u1 := .int .i64 0) (u2 := .bool false) (u3 := .string ⟨#[]⟩) R1.out
  clear f1 fa1
  go_wp2_with ((with_reducible refine at_storeOf 40 ?_); refine wpStoreRow (cs' := verZero) rfl _ _ _ rfl R1.out rfl rfl (by kernel_rfl) rfl (by simp [verZero, Value.oneCell']) ?_; intro w2 R2 f2; obtain ⟨c0, c1, c2, c3⟩ := four_cells (u0 := .int .i64 0) (u1 := .int .i64 0) (u2 := .bool false) (u3 := .string ⟨#[]⟩) R2; have F2 := Lib.hid f2; clear f2 R2)
  refine bodyPost_ret (v := .tuple #[.agg verZero, .int .u64 0, .bool false]) (by simp [results, Tryz.results16, go_sem, c0, c1, c2, c3, verZero]) rfl ⟨rfl, ?_⟩
  exact F1.out.step F2.out (fun i hi e => by unfold one at e; omega)
set_option maxHeartbeats 8000000 in
theorem Undo_Record_yes {h : Int} (v : VerV) (hvs : v.val.size ≤ 140737488351232) (n : UV) (hw : n.wr < 9223372036854775808) (hns : n.rest.size ≤ 1000000) (HR : ∀ w1, Fr none_ w w1 → Calls Tryz.prog 50 #[.pointer (some ⟨x, 0, none⟩), .int .u64 h, .int .u8 2] w1 fun e w' => e = .returned (.tuple #[.agg n.cells, .bool true]) ∧ Fr none_ w1 w') :
    Calls Tryz.prog 16 #[.pointer (some ⟨x, 0, none⟩), .int .u64 h, .agg v.cells] w fun e w' => (e = match dApply v.val.data.toList n.rest.data.toList with
      | some u => .returned (.tuple #[.agg (OV.cells ⟨n.wr, n.tomb, strOf u⟩), .int .u64 (n.nx : Int), .bool true])
      | none => .returned (.tuple #[.agg verZero, .int .u64 0, .bool false])) ∧ Fr none_ w w' := by
  obtain ⟨r0, r1, f0⟩ := rec_boxes w v
  have HRR := Lib.hid (HR _ f0)
  have FA := Lib.hid f0
  have RA := Lib.hid r1
  have RV := Lib.hid r0
  have HV := Lib.hid (fun w' val => Undo_version w' n val hw)
  have HAP := Lib.hid (fun w' => Delta_Apply w' v.val n.rest hvs hns)
  unfold UV.cells byteV at HRR HV
  unfold OV.cells at HV ⊢
  unfold verZero at HRR FA RA RV
  unfold VerV.cells at HRR FA RA RV ⊢
  obtain ⟨vw, vt, vtomb, vv⟩ := v
  simp only at HV HRR FA RA RV HAP ⊢
  generalize dApply vv.data.toList n.rest.data.toList = AP at HAP ⊢
  clear HR r0 r1 f0
  go_enter Tryz.func16, Tryz.ntmps16
  go_wp2_with fail
  refine HRR.out.mono ?_
  rintro e w1 ⟨rfl, f1⟩
  have fa1 := Fr.alloc none_ w1 (.cells #[.int .u8 (n.kind.toNat : Int), .int .u8 (n.tb.toNat : Int), .int .u64 (n.wr : Int), .int .u64 (n.nx : Int), .int .u64 (n.sg : Int), .string n.rest] 87)
  have R1 := Lib.hid ((RA.out.kept f1 (fun e => e)).kept fa1 (fun e => e))
  have R0 := Lib.hid ((RV.out.kept f1 (fun e => e)).kept fa1 (fun e => e))
  have F1 := Lib.hid ((FA.out.trans f1).trans fa1)
  have RS := Lib.hid (Row.new w1 #[.int .u8 (n.kind.toNat : Int), .int .u8 (n.tb.toNat : Int), .int .u64 (n.wr : Int), .int .u64 (n.nx : Int), .int .u64 (n.sg : Int), .string n.rest] 87)
  obtain ⟨d0, d1, d2, d3, d4, d5⟩ := six_cells RS.out
  obtain ⟨b0, b1, b2, b3⟩ := four_cells (u0 := .int .i64 vw) (u1 := .int .i64 vt) (u2 := .bool vtomb) (u3 := .string vv) R0.out
  have ne1 : ¬ w1.heap.size = w.heap.size + 1 := by have := f1.size; simp at this; omega
  clear f1 fa1
  go_wp2_with fail
  refine (HAP.out _).mono ?_
  rintro e w2 ⟨ha, f2⟩
  have F2 := Lib.hid (F1.out.trans f2)
  have R2 := Lib.hid (R1.out.kept f2 (fun e => e))
  have RS2 := Lib.hid (RS.out.kept f2 (fun e => e))
  clear d0 d1 d2 d3 d4 d5 b0 b1 b2 b3 f2
  cases AP with
  | none =>
    obtain ⟨q, hq, rfl⟩ := ha
    obtain ⟨j0, j1, j2, j3⟩ := four_cells (u0 := .int .i64 0) (u1 := .int .i64 0) (u2 := .bool false) (u3 := .string ⟨#[]⟩) R2.out
    go_wp2_with ((with_reducible refine at_storeOf 40 ?_); refine wpStoreRow (cs' := verZero) rfl _ _ _ rfl R2.out rfl rfl (by kernel_rfl) rfl (by simp [verZero, Value.oneCell']) ?_; intro w3 R3 f3; obtain ⟨c0, c1, c2, c3⟩ := four_cells (u0 := .int .i64 0) (u1 := .int .i64 0) (u2 := .bool false) (u3 := .string ⟨#[]⟩) R3; have F3 := Lib.hid f3; clear f3 R3)
    refine bodyPost_ret (v := .tuple #[.agg verZero, .int .u64 0, .bool false]) (by simp [results, Tryz.results16, go_sem, c0, c1, c2, c3, verZero]) rfl ⟨rfl, ?_⟩
    exact F2.out.step F3.out (fun i hi e => by unfold one at e; omega)
  | some u =>
    have ha : e = .returned (.tuple #[.string (strOf u), .int .i64 0]) := ha
    subst ha
    obtain ⟨d0, d1, d2, d3, d4, d5⟩ := six_cells RS2.out
    go_wp2_with fail
    go_region_held3 (fun w' => w'.cell? ⟨w1.heap.size, 0, none⟩ = some (.int .u8 (n.kind.toNat : Int)) ∧ w'.cell? ⟨w1.heap.size, 1, none⟩ = some (.int .u8 (n.tb.toNat : Int)) ∧ w'.cell? ⟨w1.heap.size, 2, none⟩ = some (.int .u64 (n.wr : Int)) ∧ w'.cell? ⟨w1.heap.size, 3, none⟩ = some (.int .u64 (n.nx : Int)) ∧ w'.cell? ⟨w1.heap.size, 4, none⟩ = some (.int .u64 (n.sg : Int)) ∧ w'.cell? ⟨w1.heap.size, 5, none⟩ = some (.string n.rest))
      (first | (go_split_ands; with_reducible refine ⟨?_, ?_, ?_, ?_, ?_, ?_⟩; all_goals with_reducible exact Fr.keep f5 (by assumption)) | (go_split_ands; with_reducible refine ⟨?_, ?_, ?_, ?_, ?_, ?_⟩; all_goals with_reducible assumption) | (go_split_ands; with_reducible refine ⟨?_, ?_, ?_, ?_, ?_, ?_⟩; all_goals with_reducible exact ver_keep ne1 (by assumption)) | go_keep)
      (first | (go_at_call 51; refine (HV.out _ _).mono ?_; rintro e w5 ⟨rfl, f5⟩; have R5 := Lib.hid (R2.out.drew.kept f5 (fun e => e)); have F5 := Lib.hid ((F2.out.trans (Fr.drew none_ w2)).trans f5); obtain ⟨j0, j1, j2, j3⟩ := four_cells (u0 := .int .i64 0) (u1 := .int .i64 0) (u2 := .bool false) (u3 := .string ⟨#[]⟩) R5.out; have z0 := R5.out.free 0; have z1 := R5.out.free 1; have z2 := R5.out.free 2; have z3 := R5.out.free 3))
    have R6 := ver_row (v0 := .int .i64 (n.wr : Int)) (v1 := .int .i64 0) (v2 := .bool n.tomb) (v3 := .string (strOf u)) R5.out
    have F6 := Lib.hid (F5.out.step (ver_set w5 (w.heap.size + 1) (.int .i64 (n.wr : Int)) (.int .i64 0) (.bool n.tomb) (.string (strOf u))) (fun i hi e => by unfold one at e; omega))
    obtain ⟨c0, c1, c2, c3⟩ := four_cells R6
    clear d0 d1 d2 d3 d4 d5 j0 j1 j2 j3 z0 z1 z2 z3
    go_wp2_with fail
    refine bodyPost_ret (v := .tuple #[.agg #[.int .i64 (n.wr : Int), .int .i64 0, .bool n.tomb, .string (strOf u)], .int .u64 (n.nx : Int), .bool true]) (by simp [results, Tryz.results16, go_sem, c0, c1, c2, c3]) rfl ⟨rfl, F6.out⟩
end
end Go.Proofs.YtckkccnebjacdaaGreat
namespace Go.Proofs.YtckkccnebjacdaaGreat
open Go.RowKit
set_option linter.unusedVariables false
set_option linter.unusedSimpArgs false
set_option maxRecDepth 100000
section
variable {w w' : World} {x a m N vl : Nat} {F G : Nat → Prop} {vs : List (Int × SgV)} {c : CfgV} {s : AS} {t : US}
set_option maxHeartbeats 4000000 in
theorem Undo_Change_bad (hcx : w.cell? ⟨x, 6, none⟩ = some (.int .i64 (vl : Int))) (hvl : vl ≤ 256) (v : VerV) (hs : v.val.size ≤ 140737488351232) (hm : v.umay vl = false) (h nx : Int) :
    Calls Tryz.prog 17 #[.pointer (some ⟨x, 0, none⟩), .int .u64 h, .agg v.cells, .int .u64 nx] w fun e w' => e = .returned (.int .i64 1) ∧ Fr none_ w w' := by
  have fB := Fr.alloc none_ w (.cells v.cells 40)
  have HM := may_one vl hvl (fB.keep hcx) v hs
  rw [hm, World.size_alloc] at HM
  have HM := Lib.hid HM
  obtain ⟨b0, b1, b2, b3⟩ := ver_boxU (w := w) (v := v) (Fr.refl none_ _) (fun e => e)
  have FB := Lib.hid fB
  unfold VerV.cells at HM FB b0 b1 b2 b3 ⊢
  obtain ⟨vw, vt, vtomb, vv⟩ := v
  simp only at HM FB b0 b1 b2 b3 ⊢
  clear hcx hs hm fB
  go_enter Tryz.func17, Tryz.ntmps17
  go_wp2_with fail
  refine HM.out.mono ?_
  rintro e w1 ⟨rfl, f1⟩
  have F1 := Lib.hid (FB.out.trans f1)
  clear f1
  go_wp2_with fail
  go_ret
  exact ⟨rfl, F1.out⟩
set_option maxHeartbeats 4000000 in
theorem Undo_Change_no (hcx : w.cell? ⟨x, 6, none⟩ = some (.int .i64 (vl : Int))) (hvl : vl ≤ 256) (v : VerV) (hs : v.val.size ≤ 140737488351232) (hm : v.umay vl = true) (h nx : Int)
    (HR : ∀ w1, Fr none_ w w1 → Calls Tryz.prog 50 #[.pointer (some ⟨x, 0, none⟩), .int .u64 h, .int .u8 1] w1 fun e w' => e = .returned (.tuple #[.agg slotZero, .bool false]) ∧ Fr none_ w1 w') :
    Calls Tryz.prog 17 #[.pointer (some ⟨x, 0, none⟩), .int .u64 h, .agg v.cells, .int .u64 nx] w fun e w' => e = .returned (.int .i64 5) ∧ Fr none_ w w' := by
  have fB := Fr.alloc none_ w (.cells v.cells 40)
  have HM := may_one vl hvl (fB.keep hcx) v hs
  rw [hm, World.size_alloc] at HM
  have HM := Lib.hid HM
  obtain ⟨b0, b1, b2, b3⟩ := ver_boxU (w := w) (v := v) (Fr.refl none_ _) (fun e => e)
  have FB := Lib.hid fB
  have HRR := Lib.hid HR
  unfold slotZero at HRR
  unfold VerV.cells at HM FB b0 b1 b2 b3 ⊢
  obtain ⟨vw, vt, vtomb, vv⟩ := v
  simp only at HM FB b0 b1 b2 b3 ⊢
  clear hcx hs hm fB HR
  go_enter Tryz.func17, Tryz.ntmps17
  go_wp2_with fail
  refine HM.out.mono ?_
  rintro e w1 ⟨rfl, f1⟩
  have F1 := Lib.hid (FB.out.trans f1)
  have H1 := Lib.hid (HRR.out w1 F1.out)
  clear f1
  go_wp2_with fail
  refine H1.out.mono ?_
  rintro e w2 ⟨rfl, f2⟩
  have F2 := Lib.hid (F1.out.trans f2)
  clear f2
  go_wp2_with fail
  go_ret
  exact ⟨rfl, F2.out.trans (Fr.alloc none_ w2 _)⟩
set_option maxHeartbeats 8000000 in
theorem Undo_Change_ok (hh : UnAt w x a m F vs c s) (hu : Upto N s) (hsl : s.slot = 32 + vl) (hvl : vl ≤ 256) (hc : c.valLen = vl) (v : VerV) (hs : v.val.size ≤ 140737488351232) (hm : v.umay vl = true) (hvw : v.wr < 9223372036854775808) {hd nx : Nat} (hhd : hd < 18446744073709551616) (hnx : nx < 18446744073709551616) (hf : (aFind s hd).isSome = true) (n : UV)
    (HR : ∀ w1, Fr none_ w w1 → Calls Tryz.prog 50 #[.pointer (some ⟨x, 0, none⟩), .int .u64 (hd : Int), .int .u8 1] w1 fun e w' => e = .returned (.tuple #[.agg n.cells, .bool true]) ∧ Fr none_ w1 w') :
    Calls Tryz.prog 17 #[.pointer (some ⟨x, 0, none⟩), .int .u64 (hd : Int), .agg v.cells, .int .u64 (nx : Int)] w fun e w' => e = .returned (.int .i64 0) ∧ UnAt w' x a m F vs c (aWrite s hd (strOf (v.uv false nx).enc)).2 ∧ Fr F w w' := by
  have hmay := VerV.umay_iff.1 hm
  have hok : (v.uv false nx).Ok vl := ⟨by unfold VerV.uv; simp only; omega, hnx, by unfold VerV.uv; simp, by unfold VerV.uv; simp only; exact hmay.2.1, fun _ => rfl⟩
  have fB := Fr.alloc none_ w (.cells v.cells 40)
  have hvl' := (hh.kept0 fB).vlen
  rw [hc] at hvl'
  have HM := may_one vl hvl hvl' v hs
  rw [hm, World.size_alloc] at HM
  have HM := Lib.hid HM
  have HB := Lib.hid (fun w' (G : Nat → Prop) (f : Fr G (w.alloc (.cells v.cells 40)) w') hn => ver_boxU (w := w) (v := v) f hn)
  obtain ⟨b0, b1, b2, b3⟩ := HB.out _ none_ (Fr.refl none_ _) (fun e => e)
  have HO := Lib.hid (fun w' => Undo_of w' false v nx hmay.1 hvw)
  have HWR := Lib.hid (fun w' (f : Fr none_ w w') => un_write (hh.kept0 f) hu hsl hhd hf (v.uv false nx) hok)
  have HBY := Lib.hid (fun w' => Slot_bytes w' (v.uv false nx) (by have := hok.wr; omega) hok.nx (by have := hok.sg; omega) (by have := hok.rest; split at this <;> omega))
  have HC := Lib.hid (fun w' (f : Fr none_ w w') => (hh.kept0 f).arena)
  have FB := Lib.hid fB
  have HNB := Lib.hid (show ¬ F w.heap.size from fun e => absurd (hh.ar.lt _ e) (Nat.lt_irrefl _))
  have HRR := Lib.hid HR
  unfold UV.cells byteV at HRR
  generalize (v.uv false nx).cells = CS at HO HBY
  generalize (v.uv false nx).enc = EN at HBY HWR ⊢
  generalize (aWrite s hd (strOf EN)).2 = s3 at HWR ⊢
  unfold VerV.cells at HM FB HB b0 b1 b2 b3 HO ⊢
  obtain ⟨vw, vt, vtomb, vv⟩ := v
  simp only at HM FB HB b0 b1 b2 b3 HO ⊢
  clear hh hu hsl hc hs hm hf HR hmay hok fB hvl'
  go_enter Tryz.func17, Tryz.ntmps17
  go_wp2_with fail
  refine HM.out.mono ?_
  rintro e w1 ⟨rfl, f1⟩
  have F1 := Lib.hid (FB.out.trans f1)
  have H1 := Lib.hid (HRR.out w1 F1.out)
  have FB1 := Lib.hid f1
  clear f1 b0 b1 b2 b3
  go_wp2_with fail
  refine H1.out.mono ?_
  rintro e w2 ⟨rfl, f2⟩
  have fa2 := Fr.alloc none_ w2 (.cells #[.int .u8 (n.kind.toNat : Int), .int .u8 (n.tb.toNat : Int), .int .u64 (n.wr : Int), .int .u64 (n.nx : Int), .int .u64 (n.sg : Int), .string n.rest] 87)
  have F2 := Lib.hid ((F1.out.trans f2).trans fa2)
  have FB2 := Lib.hid ((FB1.out.trans f2).trans fa2)
  obtain ⟨b0, b1, b2, b3⟩ := HB.out _ none_ FB2.out (fun e => e)
  have c8 := HC.out _ F2.out
  obtain ⟨w3, hw3⟩ : ∃ w3, w3 = w2.alloc (.cells #[.int .u8 (n.kind.toNat : Int), .int .u8 (n.tb.toNat : Int), .int .u64 (n.wr : Int), .int .u64 (n.nx : Int), .int .u64 (n.sg : Int), .string n.rest] 87) := ⟨_, rfl⟩
  clear f2 fa2
  go_wp2_with fail
  rw [← hw3] at F2 FB2 b0 b1 b2 b3 c8 ⊢
  have fS : Fr none_ w3 w3 := Fr.refl _ _
  clear hw3
  go_region_held3 (fun w' => w'.cell? ⟨x, 8, none⟩ = some (.pointer (some ⟨a, 0, none⟩)) ∧ w'.cell? ⟨w.heap.size, 0, none⟩ = some (.int .i64 vw) ∧ w'.cell? ⟨w.heap.size, 1, none⟩ = some (.int .i64 vt) ∧ w'.cell? ⟨w.heap.size, 2, none⟩ = some (.bool vtomb) ∧ w'.cell? ⟨w.heap.size, 3, none⟩ = some (.string vv))
    (first | (go_split_ands; with_reducible refine ⟨?_, ?_, ?_, ?_, ?_⟩; exact hA.arena; all_goals exact Fr.keepF f7 HNB.out (by assumption)) | (go_split_ands; with_reducible refine ⟨?_, ?_, ?_, ?_, ?_⟩; all_goals with_reducible exact Fr.keep f6 (by assumption)) | (go_split_ands; with_reducible refine ⟨?_, ?_, ?_, ?_, ?_⟩; all_goals with_reducible exact Fr.keep f5 (by assumption)) | (go_split_ands; with_reducible refine ⟨?_, ?_, ?_, ?_, ?_⟩; all_goals with_reducible assumption) | go_keep)
    (first
      | (go_at_call 55; refine (HO.out _).mono ?_; rintro e w5 ⟨rfl, f5⟩)
      | (go_at_call 56; refine (HBY.out _).mono ?_; rintro e w6 ⟨rfl, f6⟩)
      | (go_at_call 54; refine (HWR.out _ (F2.out.trans (((Fr.drew none_ w3).trans f5).trans f6))).mono ?_; rintro e w7 ⟨rfl, hA, f7⟩))
  clear b0 b1 b2 b3 c8
  go_wp2_with fail
  go_ret
  exact ⟨rfl, hA, (F2.out.trans (((Fr.drew none_ w3).trans f5).trans f6)).none.trans f7⟩
set_option maxHeartbeats 4000000 in
theorem Undo_Cut_no (h : Int)
    (HR : ∀ w1, Fr none_ w w1 → Calls Tryz.prog 50 #[.pointer (some ⟨x, 0, none⟩), .int .u64 h, .int .u8 2] w1 fun e w' => e = .returned (.tuple #[.agg slotZero, .bool false]) ∧ Fr none_ w1 w') :
    Calls Tryz.prog 30 #[.pointer (some ⟨x, 0, none⟩), .int .u64 h] w fun e w' => e = .returned (.int .i64 5) ∧ Fr none_ w w' := by
  have HRR := Lib.hid (HR w (Fr.refl none_ w))
  unfold slotZero at HRR
  clear HR
  go_enter Tryz.func30, Tryz.ntmps30
  go_wp2_with fail
  refine HRR.out.mono ?_
  rintro e w2 ⟨rfl, f2⟩
  have F2 := Lib.hid f2
  clear f2
  go_wp2_with fail
  go_ret
  exact ⟨rfl, F2.out.trans (Fr.alloc none_ w2 _)⟩
def UV.cutn (n : UV) : UV := { n with nx := 0 }
set_option maxHeartbeats 8000000 in
theorem Undo_Cut_ok (hh : UnAt w x a m F vs c s) (hu : Upto N s) (hsl : s.slot = 32 + vl) (hvl : vl ≤ 256) {hd : Nat} (hhd : hd < 18446744073709551616) (hf : (aFind s hd).isSome = true) (n : UV) (hn : n.Ok vl)
    (HR : ∀ w1, Fr none_ w w1 → Calls Tryz.prog 50 #[.pointer (some ⟨x, 0, none⟩), .int .u64 (hd : Int), .int .u8 2] w1 fun e w' => e = .returned (.tuple #[.agg n.cells, .bool true]) ∧ Fr none_ w1 w') :
    Calls Tryz.prog 30 #[.pointer (some ⟨x, 0, none⟩), .int .u64 (hd : Int)] w fun e w' => e = .returned (.int .i64 0) ∧ UnAt w' x a m F vs c (aWrite s hd (strOf n.cutn.enc)).2 ∧ Fr F w w' := by
  have hok : n.cutn.Ok vl := ⟨hn.wr, by unfold UV.cutn; simp, hn.sg, hn.rest, hn.row0⟩
  have HWR := Lib.hid (fun w' (f : Fr none_ w w') => un_write (hh.kept0 f) hu hsl hhd hf n.cutn hok)
  have HBY := Lib.hid (fun w' => Slot_bytes w' n.cutn (by have := hok.wr; omega) hok.nx (by have := hok.sg; omega) (by have := hok.rest; split at this <;> omega))
  have HC := Lib.hid (fun w' (f : Fr none_ w w') => (hh.kept0 f).arena)
  have HNB := Lib.hid (show ∀ k, w.heap.size ≤ k → ¬ F k from fun k hk e => by have := hh.ar.lt _ e; omega)
  have HRR := Lib.hid (HR w (Fr.refl none_ w))
  have hce : n.cutn.cells = #[.int .u8 (n.kind.toNat : Int), .int .u8 (n.tb.toNat : Int), .int .u64 (n.wr : Int), .int .u64 0, .int .u64 (n.sg : Int), .string n.rest] := rfl
  rw [hce] at HBY
  unfold UV.cells byteV at HRR
  generalize n.cutn.enc = EN at HBY HWR ⊢
  generalize (aWrite s hd (strOf EN)).2 = s3 at HWR ⊢
  clear hh hu hsl hf HR hok hn hce
  go_enter Tryz.func30, Tryz.ntmps30
  go_wp2_with fail
  refine HRR.out.mono ?_
  rintro e w2 ⟨rfl, f2⟩
  have fa2 := Fr.alloc none_ w2 (.cells #[.int .u8 (n.kind.toNat : Int), .int .u8 (n.tb.toNat : Int), .int .u64 (n.wr : Int), .int .u64 0, .int .u64 (n.sg : Int), .string n.rest] 87)
  have F2 := Lib.hid (f2.trans fa2)
  obtain ⟨d0, d1, d2, d3, d4, d5⟩ := six_cells (Row.new w2 #[.int .u8 (n.kind.toNat : Int), .int .u8 (n.tb.toNat : Int), .int .u64 (n.wr : Int), .int .u64 0, .int .u64 (n.sg : Int), .string n.rest] 87)
  have c8 := HC.out _ F2.out
  have nb := HNB.out w2.heap.size f2.size
  have HNB2 := Lib.hid nb
  obtain ⟨w3, hw3⟩ : ∃ w3, w3 = w2.alloc (.cells #[.int .u8 (n.kind.toNat : Int), .int .u8 (n.tb.toNat : Int), .int .u64 (n.wr : Int), .int .u64 0, .int .u64 (n.sg : Int), .string n.rest] 87) := ⟨_, rfl⟩
  clear f2 fa2 nb
  go_wp2_with fail
  rw [← hw3] at F2 d0 d1 d2 d3 d4 d5 c8 ⊢
  clear hw3
  go_region_held3 (fun w' => w'.cell? ⟨x, 8, none⟩ = some (.pointer (some ⟨a, 0, none⟩)) ∧ w'.cell? ⟨w2.heap.size, 0, none⟩ = some (.int .u8 (n.kind.toNat : Int)) ∧ w'.cell? ⟨w2.heap.size, 1, none⟩ = some (.int .u8 (n.tb.toNat : Int)) ∧ w'.cell? ⟨w2.heap.size, 2, none⟩ = some (.int .u64 (n.wr : Int)) ∧ w'.cell? ⟨w2.heap.size, 3, none⟩ = some (.int .u64 0) ∧ w'.cell? ⟨w2.heap.size, 4, none⟩ = some (.int .u64 (n.sg : Int)) ∧ w'.cell? ⟨w2.heap.size, 5, none⟩ = some (.string n.rest))
    (first | (go_split_ands; with_reducible refine ⟨?_, ?_, ?_, ?_, ?_, ?_, ?_⟩; exact hA.arena; all_goals exact Fr.keepF f7 HNB2.out (by assumption)) | (go_split_ands; with_reducible refine ⟨?_, ?_, ?_, ?_, ?_, ?_, ?_⟩; all_goals with_reducible exact Fr.keep f6 (by assumption)) | (go_split_ands; with_reducible refine ⟨?_, ?_, ?_, ?_, ?_, ?_, ?_⟩; all_goals with_reducible assumption) | go_keep)
    (first
      | (go_at_call 56; refine (HBY.out _).mono ?_; rintro e w6 ⟨rfl, f6⟩)
      | (go_at_call 54; refine (HWR.out _ (F2.out.trans ((Fr.drew none_ w3).trans f6))).mono ?_; rintro e w7 ⟨rfl, hA, f7⟩))
  clear d0 d1 d2 d3 d4 d5 c8
  go_wp2_with fail
  go_ret
  exact ⟨rfl, hA, (F2.out.trans ((Fr.drew none_ w3).trans f6)).none.trans f7⟩
end
end Go.Proofs.YtckkccnebjacdaaGreat
