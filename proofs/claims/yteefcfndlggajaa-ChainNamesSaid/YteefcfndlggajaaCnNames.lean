/-
  ChainNames: the walk.
-/
import Derived.Test.YteefcfndlggajaaCnNamesP
import Derived.Deep.DeepCutAuto
namespace Go.Proofs.Yteefcfndlggajaa
open Go.RowKit
set_option linter.unusedVariables false
set_option linter.unusedSimpArgs false
set_option maxRecDepth 100000

theorem node_eq (a b : Int) (c : Bool) (d : ByteArray) (e : Int) (w : World) : (binOp .neq 36 (.agg #[.int .i64 a, .int .i64 b, .bool c, .string d, .int .u64 e]) (.agg #[.int .i64 a, .int .i64 b, .bool c, .string d, .int .u64 e])).run Try.prog w = .ok (.bool false) w := by
  rw [run_neq_struct, run_equalIn_agg w _ _ _ _ (by kernel_rfl) (by kernel_rfl)]
  simp [Program.fieldsOf, Try.underlying36, Try.underlying32, Op.eqFields, go_sem]
section
variable {W w : World} {x N : Nat} {t t' : CS} {K : List Held}
theorem nc_change (h : CE W x cfgSome 3 N t K w) (v : VerV) (hs : v.val.size ≤ maxLen) (hvw : v.wr < 9223372036854775808) {hd : Nat} (hh : hd < 18446744073709551616) {q : Nat} (e : t.change 3 hd v = (q, t')) {cs : Array Value} (hcs : v.cells = cs) {d Q : Int} (hd' : (hd : Int) = d) (hq : (q : Int) = Q) :
    Calls Try.prog 18 #[.pointer (some ⟨x, 0, none⟩), .int .u64 d, .agg cs] w fun e w' => e = .returned (.int .i64 Q) ∧ CE W x cfgSome 3 N t' K w' := by
  subst hcs; subst hd'; subst hq
  have := ce_change h v hs hvw hh (q := (q : Int)) (by rw [e])
  rw [e] at this; exact this
theorem nc_stamp (h : CE W x cfgSome 3 N t K w) (ts : Int) {hd : Nat} (hh : hd < 18446744073709551616) {q : Nat} (e : t.stamp hd ts = (q, t')) {d Q : Int} (hd' : (hd : Int) = d) (hq : (q : Int) = Q) :
    Calls Try.prog 19 #[.pointer (some ⟨x, 0, none⟩), .int .u64 d, .int .i64 ts] w fun e w' => e = .returned (.int .i64 Q) ∧ CE W x cfgSome 3 N t' K w' := by
  subst hd'; subst hq
  have := ce_stamp h ts hh (q := (q : Int)) (by rw [e])
  rw [e] at this; exact this
theorem nc_cut (h : CE W x cfgSome 3 N t K w) {hd : Nat} (hh : hd < 18446744073709551616) {q : Nat} (e : t.cut hd = (q, t')) {d Q : Int} (hd' : (hd : Int) = d) (hq : (q : Int) = Q) :
    Calls Try.prog 20 #[.pointer (some ⟨x, 0, none⟩), .int .u64 d] w fun e w' => e = .returned (.int .i64 Q) ∧ CE W x cfgSome 3 N t' K w' := by
  subst hd'; subst hq
  have := ce_cut h hh (q := (q : Int)) (by rw [e])
  rw [e] at this; exact this
theorem nc_free (h : CE W x cfgSome 3 N t K w) (hN : N < big) {hd : Nat} (hh : hd < 18446744073709551616) {q : Nat} (e : t.free hd = (q, t')) {d Q : Int} (hd' : (hd : Int) = d) (hq : (q : Int) = Q) :
    Calls Try.prog 17 #[.pointer (some ⟨x, 0, none⟩), .int .u64 d] w fun e w' => e = .returned (.int .i64 Q) ∧ CE W x cfgSome 3 N t' K w' := by
  subst hd'; subst hq
  have := ce_free h hN hh (q := (q : Int)) (by rw [e])
  rw [e] at this; exact this
theorem nc_put (h : CE W x cfgSome 3 N t K w) (hN : N < big) (v : VerV) (hs : v.val.size ≤ maxLen) (hvw : v.wr < 9223372036854775808) {nx : Nat} (hnx : nx < 18446744073709551616) {k q : Nat} (e : t.put 3 v nx = (k, q, t')) {cs : Array Value} (hcs : v.cells = cs) {d Q H : Int} (hd' : (nx : Int) = d) (hq : (q : Int) = Q) (hk : (k : Int) = H) :
    Calls Try.prog 22 #[.pointer (some ⟨x, 0, none⟩), .agg cs, .int .u64 d] w fun e w' => e = .returned (.tuple #[.int .u64 H, .int .i64 Q]) ∧ CE W x cfgSome 3 (N + 1) t' K w' := by
  subst hcs; subst hd'; subst hq; subst hk
  have := ce_put h hN v hs hvw hnx (q := (k : Int)) (p := (q : Int)) (by rw [e]) (by rw [e])
  rw [e] at this; exact this
theorem nc_nilread (w : World) (hd : Int) : Calls Try.prog 12 #[.pointer none, .int .u64 hd] w fun e w' => e = .returned (.tuple #[.agg #[.int .i64 0, .int .i64 0, .bool false, .string ⟨#[]⟩, .int .u64 0], .bool false]) ∧ Fr none_ w w' := nil_read w hd
theorem nc_read0 (h : CE W x cfgSome 3 N t K w) {hd : Nat} (hh : hd < 18446744073709551616) (e : t.f hd = none) : Calls Try.prog 12 #[.pointer (some ⟨x, 0, none⟩), .int .u64 (hd : Int)] w fun e w' => e = .returned (.tuple #[.agg #[.int .i64 0, .int .i64 0, .bool false, .string ⟨#[]⟩, .int .u64 0], .bool false]) ∧ CE W x cfgSome 3 N t K w' := ce_read h hh .none e
def cfgOdd : CfgV := ⟨2, 2, 3, 3, 9, 4, 3, 2⟩
theorem cfgOdd_no : cfgOdd.may = false := CfgV.may_no (j := 7) (by omega) (fun h => by have h : (3 : Int) ≤ 2 ∧ _ := h; exact absurd h.1 (by decide))
def nmList : List VerV := [nmBad 0, nmBad 1, nmBad 2, nmBad 3, nmBad 4, nmBad 5]
theorem nmList_get (i : Nat) (hi : i < 6) : nmList[i]? = some (nmBad i) := by
  rcases (show i = 0 ∨ i = 1 ∨ i = 2 ∨ i = 3 ∨ i = 4 ∨ i = 5 by omega) with rfl | rfl | rfl | rfl | rfl | rfl <;> rfl
theorem nmBad_b (i : Nat) : (nmBad i).val.size ≤ maxLen ∧ (nmBad i).wr < 9223372036854775808 := by
  unfold nmBad
  split <;> exact ⟨by decide, by decide⟩
set_option maxHeartbeats 16000000 in
theorem walk_ChainNames (W : World) : Calls Try.prog 6 #[] W fun e w' => e = .returned (.bool true) ∧ Fr none_ W w' := by
  obtain ⟨h, k, t1, t2, t3, t4, hE⟩ := nm_all
  have E := Lib.hid hE
  clear hE
  go_enter Try.func6, Try.ntmps6
  go_wp2_with fail
  refine (nil_make _ nmRight 0).mono ?_
  rintro e w1 ⟨rfl, f1⟩
  have F := Lib.hid f1
  clear f1
  go_wp2_with fail
  refine (nc_nilread _ 1).mono ?_
  rintro e w2 ⟨rfl, f2⟩
  have F := Lib.hid ((F.out.trans f2).trans (Fr.alloc none_ w2 (.cells nodeZero 36)))
  clear f2
  go_wp2_with fail
  refine (awake_any _).mono ?_
  rintro e w3 ⟨rfl, f3⟩
  have F := Lib.hid (F.out.trans f3)
  clear f3
  go_wp2_with fail
  refine (nil_change _ (nmBad 0) 1).mono ?_
  rintro e w4 ⟨rfl, f4⟩
  have F := Lib.hid (F.out.trans f4)
  clear f4
  go_wp2_with fail
  refine (nil_stamp _ 0 1).mono ?_
  rintro e w5 ⟨rfl, f5⟩
  have F := Lib.hid (F.out.trans f5)
  clear f5
  go_wp2_with fail
  refine (nil_cut _ 1).mono ?_
  rintro e w6 ⟨rfl, f6⟩
  have F := Lib.hid (F.out.trans f6)
  clear f6
  go_wp2_with fail
  refine (nil_free _ 1).mono ?_
  rintro e w7 ⟨rfl, rfl⟩
  go_wp2_with fail
  refine (nil_list _ 1).mono ?_
  rintro e w8 ⟨rfl, f8⟩
  have F := Lib.hid (F.out.trans f8)
  clear f8
  go_wp2_with fail
  refine (nil_used _).mono ?_
  rintro e w9 ⟨rfl, rfl⟩
  go_wp2_with fail
  refine (nil_copy _).mono ?_
  rintro e w9 ⟨rfl, rfl⟩
  go_wp2_with fail
  refine (some_any _).mono ?_
  rintro e w10 ⟨rfl, f10⟩
  have F := Lib.hid ((F.out.trans f10).trans (Fr.alloc none_ w10 (.cells #[.int .i64 2, .int .i64 2, .int .i64 3, .int .i64 3, .int .i64 9, .int .i64 4, .int .i64 3, .int .i64 2] 23)))
  clear f10
  go_wp2_with fail
  refine (Chain_New_no _ cfgOdd cfgOdd_no).mono ?_
  rintro e w11 ⟨rfl, f11⟩
  have F := Lib.hid (F.out.trans f11)
  clear f11
  go_wp2_with fail
  refine (some_any _).mono ?_
  rintro e w12 ⟨rfl, f12⟩
  have F := Lib.hid (F.out.trans f12)
  clear f12
  go_wp2_with fail
  refine (aw_new W F.out).mono ?_
  rintro e w13 ⟨x, rfl, h13⟩
  have H := Lib.hid h13
  clear h13
  go_wp2_with fail
  refine (nc_put H.out (by unfold big; omega) nmBig (by decide) (by decide) (nx := 18446744073709551615) (by omega) E.out.p1 rfl rfl rfl rfl).mono ?_
  rintro e w14 ⟨rfl, h14⟩
  have H := Lib.hid h14
  clear h14
  have hh0 : ((h : Int) == 0) = false := by have := E.out.h0; exact beq_eq_false_iff_ne.2 (by omega)
  go_wp2_with fail
  have HR := Lib.hid (show Calls Try.prog 12 #[.pointer (some ⟨x, 0, none⟩), .int .u64 (h : Int)] w14 fun e w' => e = .returned (.tuple #[.agg #[.int .i64 9223372036854775807, .int .i64 1048576, .bool false, .string ⟨#[97, 98, 99]⟩, .int .u64 18446744073709551615], .bool true]) ∧ CE W x cfgSome 3 1 t1 [] w' from ce_read H.out E.out.hl _ E.out.r1)
  refine (HR.out).mono ?_
  rintro e w15 ⟨rfl, h15⟩
  have H := Lib.hid (h15.keep0 (Fr.alloc none_ w15 (.cells #[.int .i64 9223372036854775807, .int .i64 1048576, .bool false, .string ⟨#[97, 98, 99]⟩, .int .u64 18446744073709551615] 36)))
  have hns := fun w' => node_eq 9223372036854775807 1048576 false ⟨#[97, 98, 99]⟩ 18446744073709551615 w'
  clear h15
  go_wp2_with fail
  obtain ⟨w16, hw16⟩ : ∃ w16, w16 = (w15.alloc (.cells #[.int .i64 9223372036854775807, .int .i64 1048576, .bool false, .string ⟨#[97, 98, 99]⟩, .int .u64 18446744073709551615] 36)).alloc (.cells #[.int .i64 0, .int .i64 0, .bool false, .string ⟨#[]⟩, .int .i64 (-1), .int .i64 0, .bool false, .string ⟨#[]⟩, .int .i64 1, .int .i64 (-1), .bool false, .string ⟨#[]⟩, .int .i64 1, .int .i64 1048577, .bool false, .string ⟨#[]⟩, .int .i64 1, .int .i64 0, .bool false, .string ⟨#[97, 98, 99, 100]⟩, .int .i64 1, .int .i64 0, .bool true, .string ⟨#[97]⟩] 32) := ⟨_, rfl⟩
  obtain ⟨vb, hvb⟩ : ∃ vb, vb = w15.heap.size + 1 := ⟨_, rfl⟩
  have h16 : CE W x cfgSome 3 1 t1 [⟨vb, (nmList.flatMap VerV.list).toArray, 32⟩] w16 := by
    have q := H.out.alloc (nmList.flatMap VerV.list).toArray 32
    rw [World.size_alloc, ← hvb] at q
    rw [hw16]
    exact q
  have H16 := Lib.hid h16
  rw [← hw16, ← hvb]
  clear h16 hw16 hvb hns
  go_loopw [139] (fun iv wr => ∃ i : Nat, Hid (i ≤ 6) ∧ iv = .int .i64 (i : Int) ∧ Hid (CE W x cfgSome 3 (1 + i) t1 [⟨vb, (nmList.flatMap VerV.list).toArray, 32⟩] wr)) (fun iv _ => 6 - (intOf iv).toNat)
  case atStart => exact ⟨0, Nat.zero_le _, rfl, H16.out⟩
  case round =>
    obtain ⟨i, hi, rfl, hc⟩ := hrel
    by_cases hlt : i < 6
    · have hv := nmList_get i hlt
      have hno := nmBad_no i hlt
      have hbd := nmBad_b i
      obtain ⟨v, hve⟩ : ∃ v, v = nmBad i := ⟨_, rfl⟩
      rw [← hve] at hv hno hbd
      have hrow := hc.out.row (r := ⟨vb, (nmList.flatMap VerV.list).toArray, 32⟩) (by simp)
      have hcell : ∀ j u, v.list[j]? = some u → wr.cell? ⟨vb, i * 4 + j, none⟩ = some u := fun j u hu => by
        rw [hrow.cell]
        simpa using flat_cells VerV.list 4 (fun _ => rfl) nmList i v hv j u hu
      have p0 : wr.cell? ⟨vb, i * 4, none⟩ = some (.int .i64 v.wr) := hcell 0 _ rfl
      have p1 : wr.cell? ⟨vb, i * 4 + 1, none⟩ = some (.int .i64 v.ts) := hcell 1 _ rfl
      have p2 : wr.cell? ⟨vb, i * 4 + 2, none⟩ = some (.bool v.tomb) := hcell 2 _ rfl
      have p3 : wr.cell? ⟨vb, i * 4 + 3, none⟩ = some (.string v.val) := hcell 3 _ rfl
      have HBD := Lib.hid hbd
      have HNO := Lib.hid hno
      have HA := Lib.hid (hc.out.alloc v.cells 32)
      obtain ⟨bb, hbb⟩ : ∃ bb, bb = wr.heap.size := ⟨_, rfl⟩
      obtain ⟨wa, hwa⟩ : ∃ wa, wa = wr.alloc (.cells #[.int .i64 v.wr, .int .i64 v.ts, .bool v.tomb, .string v.val] 32) := ⟨_, rfl⟩
      have hca : CE W x cfgSome 3 (1 + i) t1 [⟨bb, v.cells, 32⟩, ⟨vb, (nmList.flatMap VerV.list).toArray, 32⟩] wa := by rw [hbb, hwa]; exact HA.out
      have HCA := Lib.hid hca
      have HWA := Lib.hid hwa.symm
      have HBB := Lib.hid hbb.symm
      have hbc : ∀ (N : Nat) (wx : World), CE W x cfgSome 3 N t1 [⟨bb, v.cells, 32⟩, ⟨vb, (nmList.flatMap VerV.list).toArray, 32⟩] wx → wx.cell? ⟨bb, 0, none⟩ = some (.int .i64 v.wr) ∧ wx.cell? ⟨bb, 1, none⟩ = some (.int .i64 v.ts) ∧ wx.cell? ⟨bb, 2, none⟩ = some (.bool v.tomb) ∧ wx.cell? ⟨bb, 3, none⟩ = some (.string v.val) := fun N wx hx => by
        have hr := hx.row (r := ⟨bb, v.cells, 32⟩) (by simp)
        exact ⟨hr.cell 0, hr.cell 1, hr.cell 2, hr.cell 3⟩
      have HBC := Lib.hid hbc
      clear hv hno hbd hve hrow hcell hca hwa hbb hbc
      go_upto_region 19 with fail
      rw [HWA.out, HBB.out]
      obtain ⟨c0, c1, c2, c3⟩ := HBC.out _ _ HCA.out
      clear p0 p1 p2 p3
      go_wp2_with fail
      refine (nc_put HCA.out (by unfold big; omega) v HBD.out.1 HBD.out.2 (nx := 0) (by omega) (put_bad HNO.out 0) rfl rfl rfl rfl).mono ?_
      rintro e wb ⟨rfl, hb⟩
      have HB := Lib.hid hb
      clear c0 c1 c2 c3
      obtain ⟨c0, c1, c2, c3⟩ := HBC.out _ _ hb
      clear hb
      go_wp2_with fail
      refine (nc_change HB.out v HBD.out.1 HBD.out.2 E.out.hl (change_bad HNO.out h) rfl rfl rfl).mono ?_
      rintro e wc ⟨rfl, hb⟩
      have HC := Lib.hid hb
      clear c0 c1 c2 c3
      obtain ⟨c0, c1, c2, c3⟩ := HBC.out _ _ hb
      clear hb
      go_wp2_with fail
      refine (nc_change HC.out v HBD.out.1 HBD.out.2 (hd := 0) (by omega) (change_bad HNO.out 0) rfl rfl rfl).mono ?_
      rintro e wd ⟨rfl, hb⟩
      have HD := Lib.hid hb
      clear hb c0 c1 c2 c3
      go_wp2_with fail
      go_roundw
      case rel => exact ⟨i + 1, hlt, by go_num, HD.out.less (by simp)⟩
      case measure => simp [intOf]; omega
    · have hie : i = 6 := by have := hi.out; omega
      subst hie
      have HQ := Lib.hid (hc.out.less (K' := []) (by simp))
      obtain ⟨w17, hw17⟩ : ∃ w17, w17 = wr.alloc (.cells #[.int .i64 1, .int .i64 0, .bool false, .string ⟨#[]⟩] 32) := ⟨_, rfl⟩
      obtain ⟨rb, hrb⟩ : ∃ rb, rb = wr.heap.size := ⟨_, rfl⟩
      have hca : CE W x cfgSome 3 7 t1 [⟨rb, nmRight.cells, 32⟩] w17 := by rw [hrb, hw17]; exact HQ.out.alloc nmRight.cells 32
      have hbc : ∀ (N : Nat) (t : CS) (wx : World), CE W x cfgSome 3 N t [⟨rb, nmRight.cells, 32⟩] wx → wx.cell? ⟨rb, 0, none⟩ = some (.int .i64 1) ∧ wx.cell? ⟨rb, 1, none⟩ = some (.int .i64 0) ∧ wx.cell? ⟨rb, 2, none⟩ = some (.bool false) ∧ wx.cell? ⟨rb, 3, none⟩ = some (.string ⟨#[]⟩) := fun N t wx hx => by
        have hr := hx.row (r := ⟨rb, nmRight.cells, 32⟩) (by simp)
        exact ⟨hr.cell 0, hr.cell 1, hr.cell 2, hr.cell 3⟩
      have HBC := Lib.hid hbc
      have H := Lib.hid hca
      have HW17 := Lib.hid hw17.symm
      have HRB := Lib.hid hrb.symm
      have z1 := Lib.hid (fun g => turn_gone E.out.z1 g)
      clear hca hbc hw17 hrb
      go_upto_region 24 with fail
      rw [HW17.out, HRB.out]
      obtain ⟨c0, c1, c2, c3⟩ := HBC.out _ _ _ H.out
      go_wp2_with fail
      refine (ce_used H.out (q := 1) (by rw [E.out.u1]; rfl)).mono ?_
      rintro e w18 ⟨rfl, rfl⟩
      go_wp2_with fail
      refine (nc_change H.out nmRight (by decide) (by decide) (hd := 0) (by omega) (show t1.change 3 0 nmRight = (5, t1) by unfold CS.change; rw [if_pos (VerV.may_yes nmRight_ok)]; exact z1.out _) rfl rfl rfl).mono ?_
      rintro e w18 ⟨rfl, h18⟩
      have H := Lib.hid h18
      clear c0 c1 c2 c3
      obtain ⟨c0, c1, c2, c3⟩ := HBC.out _ _ _ h18
      clear h18
      go_wp2_with fail
      refine (nc_stamp H.out 1 (hd := 0) (by omega) (show t1.stamp 0 1 = (5, t1) by unfold CS.stamp; rw [if_pos (by decide)]; exact z1.out _) rfl rfl).mono ?_
      rintro e w18 ⟨rfl, h18⟩
      have H := Lib.hid h18
      clear c0 c1 c2 c3
      obtain ⟨c0, c1, c2, c3⟩ := HBC.out _ _ _ h18
      clear h18
      go_wp2_with fail
      refine (nc_stamp H.out 0 E.out.hl (show t1.stamp h 0 = (1, t1) by unfold CS.stamp; rw [if_neg (by decide)]) rfl rfl).mono ?_
      rintro e w18 ⟨rfl, h18⟩
      have H := Lib.hid h18
      clear c0 c1 c2 c3
      obtain ⟨c0, c1, c2, c3⟩ := HBC.out _ _ _ h18
      clear h18
      go_wp2_with fail
      refine (nc_stamp H.out 1048577 E.out.hl (show t1.stamp h 1048577 = (1, t1) by unfold CS.stamp; rw [if_neg (by decide)]) rfl rfl).mono ?_
      rintro e w18 ⟨rfl, h18⟩
      have H := Lib.hid h18
      clear c0 c1 c2 c3
      obtain ⟨c0, c1, c2, c3⟩ := HBC.out _ _ _ h18
      clear h18
      go_wp2_with fail
      refine (nc_stamp H.out 0 (hd := 0) (by omega) (show t1.stamp 0 0 = (1, t1) by unfold CS.stamp; rw [if_neg (by decide)]) rfl rfl).mono ?_
      rintro e w18 ⟨rfl, h18⟩
      have H := Lib.hid h18
      clear c0 c1 c2 c3
      obtain ⟨c0, c1, c2, c3⟩ := HBC.out _ _ _ h18
      clear h18
      go_wp2_with fail
      refine (nc_cut H.out (hd := 0) (by omega) (show t1.cut 0 = (5, t1) from z1.out _) rfl rfl).mono ?_
      rintro e w18 ⟨rfl, h18⟩
      have H := Lib.hid h18
      clear c0 c1 c2 c3
      obtain ⟨c0, c1, c2, c3⟩ := HBC.out _ _ _ h18
      clear h18
      go_wp2_with fail
      refine (nc_free H.out (by unfold big; omega) (hd := 0) (by omega) (show t1.free 0 = (5, t1) by unfold CS.free; rw [E.out.z1]) rfl rfl).mono ?_
      rintro e w18 ⟨rfl, h18⟩
      have H := Lib.hid h18
      clear c0 c1 c2 c3
      obtain ⟨c0, c1, c2, c3⟩ := HBC.out _ _ _ h18
      clear h18
      go_wp2_with fail
      refine (nc_change H.out nmRight (by decide) (by decide) E.out.hl E.out.p2 rfl rfl rfl).mono ?_
      rintro e w18 ⟨rfl, h18⟩
      have H := Lib.hid h18
      clear c0 c1 c2 c3
      obtain ⟨c0, c1, c2, c3⟩ := HBC.out _ _ _ h18
      clear h18
      go_wp2_with fail
      refine (nc_free H.out (by unfold big; omega) E.out.hl E.out.p3 rfl rfl).mono ?_
      rintro e w18 ⟨rfl, h18⟩
      have H := Lib.hid h18
      clear c0 c1 c2 c3
      obtain ⟨c0, c1, c2, c3⟩ := HBC.out _ _ _ h18
      clear h18
      go_wp2_with fail
      refine (nc_free H.out (by unfold big; omega) E.out.hl E.out.p3' rfl rfl).mono ?_
      rintro e w18 ⟨rfl, h18⟩
      have H := Lib.hid h18
      clear c0 c1 c2 c3
      obtain ⟨c0, c1, c2, c3⟩ := HBC.out _ _ _ h18
      clear h18
      go_wp2_with fail
      refine (nc_put H.out (by unfold big; omega) nmRight (by decide) (by decide) (nx := 0) (by omega) E.out.p4 rfl rfl rfl rfl).mono ?_
      rintro e w18 ⟨rfl, h18⟩
      have H := Lib.hid h18
      clear c0 c1 c2 c3
      obtain ⟨c0, c1, c2, c3⟩ := HBC.out _ _ _ h18
      clear h18
      go_wp2_with fail
      refine (nc_read0 H.out E.out.hl E.out.r4).mono ?_
      rintro e w19 ⟨rfl, h19⟩
      have H := Lib.hid (h19.keep0 (Fr.alloc none_ w19 (.cells #[.int .i64 0, .int .i64 0, .bool false, .string ⟨#[]⟩, .int .u64 0] 36)))
      have hkh : ((k : Int) != (h : Int)) = true := by have := E.out.kh; simp; omega
      clear h19 c0 c1 c2 c3
      go_wp2_with fail
      refine (nc_cut H.out E.out.hl (show t4.cut h = (5, t4) from turn_gone E.out.r4 _) rfl rfl).mono ?_
      rintro e w20 ⟨rfl, h20⟩
      have H := Lib.hid h20
      clear h20
      go_wp2_with fail
      refine (ce_used H.out (q := 1) (by rw [E.out.u4]; rfl)).mono ?_
      rintro e w21 ⟨rfl, rfl⟩
      go_wp2_with fail
      go_ret
      exact ⟨rfl, H.out.fr⟩
end
end Go.Proofs.Yteefcfndlggajaa
