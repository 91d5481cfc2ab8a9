/-
  UndoBack: the walk. (Printed by gen_unback.py.)
-/
import Derived.Test.YtckkccnebjacdaaGreatUnBackP
import Derived.Test.YtckkccnebjacdaaGreatMgUnArgs
import Derived.Deep.RegionHeld3
import Derived.Deep.DeepCutAuto
namespace Go.Proofs.YtckkccnebjacdaaGreat
open Go.RowKit
set_option linter.unusedVariables false
set_option linter.unusedSimpArgs false
set_option maxRecDepth 100000

theorem bu_rowF {W w : World} {Ts : List Thing} {i x N vl : Nat} {c : CfgV} {t : US} (h : Bag W Ts w) (hi : Ts[i]? = some (tUn x c vl N t)) {hd nx : Nat} (hh : hd < 18446744073709551616) {v : VerV} (hv : v.Fit vl) (ho : t.row hd = some (⟨v.wr.toNat, v.tomb, v.val⟩, nx)) : Calls Tryz.prog 15 #[.pointer (some ⟨x, 0, none⟩), .int .u64 (hd : Int)] w fun e w' => e = .returned (.tuple #[.agg v.cells, .int .u64 (nx : Int), .bool true]) ∧ Fr none_ w w' := by
  have := bu_row h hi hh ho
  rw [hv.cells] at this
  exact this
theorem bu_recF {W w : World} {Ts : List Thing} {i x N vl : Nat} {c : CfgV} {t : US} (h : Bag W Ts w) (hi : Ts[i]? = some (tUn x c vl N t)) {hd nx : Nat} (hh : hd < 18446744073709551616) (v : VerV) (hv : v.val.size ≤ 140737488351232) {u : VerV} (hu : u.Fit vl) (ho : t.record hd v.val.data.toList = some (⟨u.wr.toNat, u.tomb, u.val⟩, nx)) : Calls Tryz.prog 16 #[.pointer (some ⟨x, 0, none⟩), .int .u64 (hd : Int), .agg v.cells] w fun e w' => e = .returned (.tuple #[.agg u.cells, .int .u64 (nx : Int), .bool true]) ∧ Fr none_ w w' := by
  have := bu_record h hi hh v hv _ ho
  rw [hu.cells] at this
  exact this
theorem Bag.pickB {W w : World} {A B C D : Thing} (h : Bag W [A, B, C, D] w) : Bag W [A, B, D] w := by
  refine h.pick (fun i => if i = 0 then 0 else if i = 1 then 1 else if i = 2 then 3 else i + 10) (fun i U hi => ?_) (fun i j hi hj e => ?_)
  · match i with
    | 0 => exact hi
    | 1 => exact hi
    | 2 => exact hi
    | i + 3 => simp at hi
  · simp only [List.length_cons, List.length_nil] at hi hj
    repeat' split at e
    all_goals omega
/-- What stands in memory while the row is taken off. -/
def BkB (W : World) (x : Nat) (c : CfgV) (vl N : Nat) (t : US) (a : Option Addr) (l : List VerV) (w : World) : Prop :=
  Bag W [tUn x c vl N t, tLs a l, tRow W.heap.size c.cells 23] w
set_option maxHeartbeats 16000000 in
theorem walk_UndoBack (W : World) (c : CfgV) (_ : c.In) (a1 : Option Addr) (cap1 : Nat) (l : List VerV) (st1 : VersIn W a1 l) :
    Calls Tryz.prog 3 #[.agg c.cells, .slice a1 l.length cap1] W fun e w' => e = .returned (.bool true) ∧ Fr none_ W w' := by
  obtain ⟨w0, hw0⟩ : ∃ w0, w0 = W.alloc (.cells c.cells 23) := ⟨_, rfl⟩
  have hb0 : Bag W [tRow W.heap.size c.cells 23] w0 := by
    have h := (Bag.start W).addRow c.cells 23
    rw [← hw0] at h
    exact h
  have HB0 := Lib.hid hb0
  have HL1 := Lib.hid (fun w' (f : Fr none_ W w') => st1.kept f (fun _ _ e => e))
  have HM1 := Lib.hid (fun w' (f : Fr none_ W w') => many_any w' a1 cap1 l (st1.kept f (fun _ _ e => e)))
  have HW0 := Lib.hid hw0
  have HCR := Lib.hid (show ∀ w' Ts, Bag W (tRow W.heap.size c.cells 23 :: Ts) w' → ∀ (i : Nat) (u : Value), c.cells[i]? = some u → w'.cell? ⟨W.heap.size, i, none⟩ = some u from fun w' Ts f i u hu => ((f.row (i := 0) rfl).cell i).trans hu)
  have HFIN := Lib.hid (show ∀ w1, Fr none_ W w1 → Calls Tryz.prog 8 #[] w1 fun e w' => e = .returned (.bool true) ∧ Fr none_ W w' from fun w1 f => (works_any w1).mono fun e w' ⟨h1, h2⟩ => ⟨h1, f.trans h2⟩)
  clear hb0
  unfold CfgV.cells at hw0 HW0 HCR ⊢
  cases hb1 : isMany l with
  | true =>
    rw [hb1] at HM1
    clear hb1
    go_enter Tryz.func3, Tryz.ntmps3
    go_wp2_with fail
    rw [← HW0.out]
    clear hw0
    refine (works_any _).mono ?_
    rintro e w1 ⟨rfl, f1⟩
    have HB1 := Lib.hid (HB0.out.keep0 f1)
    clear f1
    go_wp2_with fail
    refine (HM1.out _ HB1.out.fr).mono ?_
    rintro e w2 ⟨rfl, rfl⟩
    go_wp2_with fail
    refine (HFIN.out _ HB1.out.fr).mono ?_
    rintro e w9 ⟨rfl, f9⟩
    have F9 := Lib.hid f9
    clear f9
    go_wp2_with fail
    go_ret
    exact ⟨rfl, F9.out⟩
  | false =>
  rw [hb1] at HM1
  have hl1 := isMany_no hb1
  clear hb1 st1
  obtain ⟨n1, hn1⟩ : ∃ n, n = l.length := ⟨_, rfl⟩
  rw [← hn1] at HM1 hl1 ⊢
  have HN1 := Lib.hid hn1
  clear hn1
  by_cases hz1 : n1 = 0
  · have hz : ((n1 : Int) == 0) = true := by rw [hz1]; rfl
    clear hz1
    go_enter Tryz.func3, Tryz.ntmps3
    go_wp2_with fail
    rw [← HW0.out]
    clear hw0
    refine (works_any _).mono ?_
    rintro e w1 ⟨rfl, f1⟩
    have HB1 := Lib.hid (HB0.out.keep0 f1)
    clear f1
    go_wp2_with fail
    refine (HM1.out _ HB1.out.fr).mono ?_
    rintro e w2 ⟨rfl, rfl⟩
    go_wp2_with fail
    refine (HFIN.out _ HB1.out.fr).mono ?_
    rintro e w9 ⟨rfl, f9⟩
    have F9 := Lib.hid f9
    clear f9
    go_wp2_with fail
    go_ret
    exact ⟨rfl, F9.out⟩
  have hp1 : 0 < n1 := Nat.pos_of_ne_zero hz1
  have h0n : 0 + n1 ≤ 200 := by omega
  have hz1b : ((n1 : Int) == 0) = false := beq_eq_false_iff_ne.2 (by omega)
  clear hz1
  by_cases hm : c.may = true
  · obtain ⟨vl, hvl, hvl2⟩ := may_vl hm
    have HNEW := Lib.hid (fun (w' : World) (h : Bag W [tRow W.heap.size c.cells 23] w') => bu_new h c hm hvl hvl2)
    have HST := Lib.hid (St.new hvl2)
    have HS1 := Lib.hid (fun (x : Nat) (w' : World) (h : Bag W [tUn x c vl 0 (US.new vl), tRow W.heap.size c.cells 23] w') => stack_n h HST.out hvl2 (Nat.zero_le 200) a1 cap1 l HL1.out n1 HN1.out hl1 hp1)
    have HK6 := Lib.hid (show ∀ w', Row w' W.heap.size c.cells 23 → w'.cell? ⟨W.heap.size, 6, none⟩ = some (.int .i64 (vl : Int)) from fun w' r => by rw [r.cell]; show some (Value.int .i64 c.valLen) = _; rw [hvl])
    unfold CfgV.cells at HNEW
    clear hvl hm
    go_enter Tryz.func3, Tryz.ntmps3
    go_wp2_with fail
    rw [← HW0.out]
    clear hw0
    refine (works_any _).mono ?_
    rintro e w1 ⟨rfl, f1⟩
    have HB1 := Lib.hid (HB0.out.keep0 f1)
    clear f1
    go_wp2_with fail
    refine (HM1.out _ HB1.out.fr).mono ?_
    rintro e w2 ⟨rfl, rfl⟩
    have k0 := HCR.out _ _ HB1.out 0 _ rfl
    have k1 := HCR.out _ _ HB1.out 1 _ rfl
    have k2 := HCR.out _ _ HB1.out 2 _ rfl
    have k3 := HCR.out _ _ HB1.out 3 _ rfl
    have k4 := HCR.out _ _ HB1.out 4 _ rfl
    have k5 := HCR.out _ _ HB1.out 5 _ rfl
    have k6 := HCR.out _ _ HB1.out 6 _ rfl
    have k7 := HCR.out _ _ HB1.out 7 _ rfl
    go_wp2_with fail
    refine (HNEW.out _ HB1.out).mono ?_
    rintro e w5 ⟨x, rfl, h5⟩
    have H5 := Lib.hid (show Bag W [tUn x c vl 0 (US.new vl), tRow W.heap.size c.cells 23] w5 from h5.front)
    have kk6 := HK6.out _ (H5.out.row (i := 1) rfl)
    clear h5 k0 k1 k2 k3 k4 k5 k6 k7
    go_wp2_with fail
    refine (HS1.out _ _ H5.out).mono ?_
    rintro e w6 ⟨row, v, us, hs, top, t, al, cl, ar, cr, rfl, hsk, hbg⟩
    have hbk := Back.start hsk
    have HB6 := Lib.hid (show BkB W x c vl (0 + n1) t al (v :: us) w6 from Bag.pickB (Bag.toLs hbg (i := 1) rfl hsk.len.symm))
    have HCL := Lib.hid (show n1 ≤ cl from (Bag.sl (i := 1) hbg rfl).2.1)
    have HLEN := Lib.hid hsk.len
    have HBK := Lib.hid hbk
    have hr : row < 18446744073709551616 := hsk.rowL
    have HLI := Lib.hid (fun w' N' t' a' (hN' : N' ≤ 1000) v' us' (hA' : Back vl N' t' row v' us') (h : BkB W x c vl N' t' a' (v' :: us') w') (k : Nat) (hk : us'.length + 1 = k) => bu_list h (i := 0) rfl (by omega) hA'.row_lt _ (hA'.list hvl2) k hk)
    have HUS := Lib.hid (fun w' N' t' a' v' us' (hA' : Back vl N' t' row v' us') (h : BkB W x c vl N' t' a' (v' :: us') w') (k : Nat) (hk : us'.length + 1 = k) => bu_used h (i := 0) rfl (q := (k : Int)) (by rw [hA'.used]; exact congrArg Nat.cast hk))
    have HSM := Lib.hid (fun (w' : World) (b1 b2 : Option Addr) (c1 c2 : Nat) (l' : List VerV) (k : Nat) (hk : l'.length = k) (hk2 : k ≤ 1000000) (h1 : LsAt w' b1 4 verL l') (h2 : LsAt w' b2 4 verL l') => Same_same (ca := c1) (cb := c2) k hk h1 h2 hk2)
    clear hsk hbg hbk kk6
    go_wp2_with fail
    refine (HLI.out _ _ _ _ (by omega) _ _ HBK.out HB6.out n1 HLEN.out).mono ?_
    rintro e w7 ⟨b7, c7, rfl, l7, f7⟩
    have HB7 := Lib.hid (show BkB W x c vl (0 + n1) t al (v :: us) w7 from Bag.keep0 HB6.out f7)
    have L7 := Lib.hid l7
    clear f7 l7
    go_wp2_with fail
    refine (HSM.out _ _ _ _ _ (v :: us) n1 HLEN.out (by omega) L7.out (Bag.ls (i := 1) HB7.out rfl)).mono ?_
    rintro e w8 ⟨rfl, f8⟩
    have HB8 := Lib.hid (show BkB W x c vl (0 + n1) t al (v :: us) w8 from Bag.keep0 HB7.out f8)
    clear f8
    go_wp2_with fail
    refine (HUS.out _ _ _ _ _ _ HBK.out HB8.out n1 HLEN.out).mono ?_
    rintro e w9 ⟨rfl, rfl⟩
    go_wp2_with fail
    go_loopw [9] (fun ls wr => ∃ (k cp : Nat) (t' : US) (v' : VerV) (us' : List VerV) (a' : Option Addr), Hid (us'.length + 1 = k) ∧ Hid (k ≤ n1) ∧ Hid (k ≤ cp) ∧ ls = .slice a' k cp ∧ Hid (Back vl (0 + n1) t' row v' us') ∧ Hid (BkB W x c vl (0 + n1) t' a' (v' :: us') wr)) (fun ls _ => match ls with | .slice _ k _ => k | _ => 0)
    case atStart => exact ⟨n1, cl, t, v, us, al, HLEN.out, Nat.le_refl _, HCL.out, rfl, HBK.out, HB8.out⟩
    case round =>
    obtain ⟨k, cp, t', v', us', a', hk, hkn, hkc, rfl, hbk, hB⟩ := hrel
    clear HB8 HB7 L7 HB6 HBK HLEN HCL H5
    cases us' with
    | nil =>
      have hk1 : k = 1 := hk.out.symm
      subst hk1
      have HSG := Lib.hid (bu_segments hB.out (i := 0) rfl (by omega))
      have HKS := Lib.hid (fun ks (h : Keys t' ks) => hbk.out.keys h)
      go_wp2_with fail
      refine HSG.out.mono ?_
      rintro e w10 ⟨ag, ng, cg, ks, rfl, hng, _, hks, f10⟩
      have hks0 := HKS.out _ hks
      subst hks0
      have hng0 : ng = 0 := hng
      subst hng0
      have HF := Lib.hid ((Bag.fr hB.out).trans f10)
      clear hng hks f10
      go_wp2_with fail
      go_ret
      exact ⟨rfl, HF.out⟩
    | cons u us2 =>
      have hkp : 1 < k := by have := hk.out; rw [List.length_cons] at this; omega
      have hkpi : (1 : Int) < (k : Int) := by omega
      have hk0i : (0 : Int) < (k : Int) := by omega
      obtain ⟨hd, nx, t1, t2, e1, e2, e3, e4, hdl, hnx, hfu, hbk2⟩ := hbk.out.pop hvl2
      have hfv := hbk.out.fit
      have HRO := Lib.hid (bu_rowF hB.out (i := 0) rfl hr hfv e1)
      have HRC := Lib.hid (fun w' (h : BkB W x c vl (0 + n1) t' a' (v' :: u :: us2) w') => bu_recF h (i := 0) rfl hdl v' (by have := (VerV.umay_iff.1 hfv.may).2.1; omega) hfu e2)
      have HCH := Lib.hid (fun w' b (h : Bag W [tUn x c vl (0 + n1) t', tLs a' (v' :: u :: us2), tRow W.heap.size c.cells 23, tRow b u.cells 40] w') => bu_change h (i := 0) rfl u (by have := (VerV.umay_iff.1 hfu.may).2.1; omega) hfu.wr hr hnx e3)
      have HFR := Lib.hid (fun w' b (h : Bag W [tUn x c vl (0 + n1) t1, tLs a' (v' :: u :: us2), tRow W.heap.size c.cells 23, tRow b u.cells 40] w') => bu_free h (i := 0) rfl (by unfold big; omega) (by omega) hdl e4)
      have HK2 := Lib.hid hbk2
      have HE3 := Lib.hid e3
      have HE4 := Lib.hid e4
      have HFU := Lib.hid hfu
      have HC := Lib.hid (fun w' b N'' t'' (h : Bag W [tUn x c vl N'' t'', tLs a' (v' :: u :: us2), tRow W.heap.size c.cells 23, tRow b u.cells 40] w') => show (w'.cell? ⟨b, 0, none⟩ = some (.int .i64 u.wr) ∧ w'.cell? ⟨b, 1, none⟩ = some (.int .i64 u.ts) ∧ w'.cell? ⟨b, 2, none⟩ = some (.bool u.tomb) ∧ w'.cell? ⟨b, 3, none⟩ = some (.string u.val)) from ⟨(h.row (i := 3) rfl).cell 0, (h.row (i := 3) rfl).cell 1, (h.row (i := 3) rfl).cell 2, (h.row (i := 3) rfl).cell 3⟩)
      obtain ⟨ga, oa, ha, _, _⟩ := (Bag.ls (i := 1) hB.out rfl).get (i := 1) (x := u) rfl
      subst ha
      have HC1 := Lib.hid (fun w' Ts (h : Bag W Ts w') (hi : Ts[1]? = some (tLs (some ⟨ga, oa, none⟩) (v' :: u :: us2))) => show (w'.cell? ⟨ga, oa + 4, none⟩ = some (.int .i64 u.wr) ∧ w'.cell? ⟨ga, oa + 4 + 1, none⟩ = some (.int .i64 u.ts) ∧ w'.cell? ⟨ga, oa + 4 + 2, none⟩ = some (.bool u.tomb) ∧ w'.cell? ⟨ga, oa + 4 + 3, none⟩ = some (.string u.val)) from by
        obtain ⟨g2, o2, h2, _, hc⟩ := (h.ls hi).get (i := 1) (x := u) rfl
        cases h2
        have q := fun j u' hj => hc 1 u rfl j u' hj
        simp only [Nat.one_mul] at q
        exact ⟨q 0 _ rfl, q 1 _ rfl, q 2 _ rfl, q 3 _ rfl⟩)
      have VS := Lib.hid (ver_same u)
      unfold VerV.cells at HRO HRC HCH HFR HC
      clear e1 e2 e3 e4 hfv hfu hbk2 HE3 HE4
      go_wp2_with fail
      refine HRO.out.mono ?_
      rintro e w10 ⟨rfl, f10⟩
      have HB10 := Lib.hid (show BkB W x c vl (0 + n1) t' (some ⟨ga, oa, none⟩) (v' :: u :: us2) w10 from Bag.keep0 hB.out f10)
      have r10 := Row.new w10 v'.cells 40
      have HB11 := Lib.hid (show BkB W x c vl (0 + n1) t' (some ⟨ga, oa, none⟩) (v' :: u :: us2) (w10.alloc (.cells v'.cells 40)) from Bag.keep0 HB10.out (Fr.alloc none_ _ _))
      obtain ⟨c0, c1, c2, c3⟩ := verOf_row r10
      unfold VerV.cells at c0 c1 c2 c3 HB11
      clear f10 r10
      go_wp2_with fail
      refine (HRC.out _ HB11.out).mono ?_
      rintro e w12 ⟨rfl, f12⟩
      have HB12 := Lib.hid (show BkB W x c vl (0 + n1) t' (some ⟨ga, oa, none⟩) (v' :: u :: us2) w12 from Bag.keep0 HB11.out f12)
      have HB13 := Lib.hid (show Bag W [tUn x c vl (0 + n1) t', tLs (some ⟨ga, oa, none⟩) (v' :: u :: us2), tRow W.heap.size c.cells 23, tRow w12.heap.size #[.int .i64 u.wr, .int .i64 u.ts, .bool u.tomb, .string u.val] 40] (w12.alloc (.cells #[.int .i64 u.wr, .int .i64 u.ts, .bool u.tomb, .string u.val] 40)) from Bag.addRow HB12.out _ _)
      obtain ⟨d0, d1, d2, d3⟩ := HC.out _ _ _ _ HB13.out
      obtain ⟨g0, g1, g2, g3⟩ := HC1.out _ _ HB13.out rfl
      have vs := VS.out
      clear f12 c0 c1 c2 c3
      go_upto_region 12 with fail
      go_region_held3 (fun w' => w'.cell? ⟨w12.heap.size, 0, none⟩ = some (.int .i64 u.wr) ∧ w'.cell? ⟨w12.heap.size, 1, none⟩ = some (.int .i64 u.ts) ∧ w'.cell? ⟨w12.heap.size, 2, none⟩ = some (.bool u.tomb) ∧ w'.cell? ⟨w12.heap.size, 3, none⟩ = some (.string u.val) ∧ w'.cell? ⟨ga, oa + 4, none⟩ = some (.int .i64 u.wr) ∧ w'.cell? ⟨ga, oa + 4 + 1, none⟩ = some (.int .i64 u.ts) ∧ w'.cell? ⟨ga, oa + 4 + 2, none⟩ = some (.bool u.tomb) ∧ w'.cell? ⟨ga, oa + 4 + 3, none⟩ = some (.string u.val))
        (first | exact (show _ from by obtain ⟨q0, q1, q2, q3⟩ := HC.out _ _ _ _ (h15); exact ⟨q0, q1, q2, q3, HC1.out _ _ (h15) rfl⟩) | exact (show _ from by obtain ⟨q0, q1, q2, q3⟩ := HC.out _ _ _ _ (h14); exact ⟨q0, q1, q2, q3, HC1.out _ _ (h14) rfl⟩) | exact (show _ from by obtain ⟨q0, q1, q2, q3⟩ := HC.out _ _ _ _ (Bag.keep0 HB13.out (Fr.drew none_ _)); exact ⟨q0, q1, q2, q3, HC1.out _ _ (Bag.keep0 HB13.out (Fr.drew none_ _)) rfl⟩) | go_keep)
        (first
          | (go_at_call 17; refine (HCH.out _ _ (Bag.keep0 HB13.out (Fr.drew none_ _))).mono ?_; rintro e w14 ⟨rfl, h14⟩)
          | (go_at_call 18; refine (HFR.out _ _ h14).mono ?_; rintro e w15 ⟨rfl, h15⟩))
      have HB15 := Lib.hid (show BkB W x c vl (0 + n1) t2 (some ⟨ga, oa, none⟩) (v' :: u :: us2) w15 from Bag.init (Ts := [tUn x c vl (0 + n1) t2, tLs (some ⟨ga, oa, none⟩) (v' :: u :: us2), tRow W.heap.size c.cells 23]) h15)
      clear h15 h14 d0 d1 d2 d3 g0 g1 g2 g3 vs
      have HKL := Lib.hid (show k = (v' :: u :: us2).length from hk.out.symm)
      have hkc1 := hkc.out
      go_wp2_with ((with_reducible refine at_slot 109 ?_); refine Stop.mk ?_)
      show wpList _ _ _ _ _ _
      refine wpSliceLc rfl _ _ _ rfl 40 4 Tryz.underlying24 (by kernel_rfl) (i := 1) rfl rfl (Nat.le_of_lt hkp) hkc1 HKL.out (Bag.ls (i := 1) HB15.out rfl) ?_
      intro sa k2 cp2 hk2 hcp2 hls hblk
      have HB16 := Lib.hid (show BkB W x c vl (0 + n1) t2 sa (u :: us2) w15 from Bag.lsLess HB15.out (i := 1) rfl hls hblk)
      have HK2L := Lib.hid (show us2.length + 1 = k2 by have := hk.out; rw [hk2.out, ← this, List.length_cons]; omega)
      have hk2n : k2 ≤ n1 := by have := hk2.out; have := hkn.out; omega
      have hk2c : k2 ≤ cp2 := by have := hk2.out; have := hcp2.out; omega
      have hk2k : k2 < k := by have := hk2.out; omega
      clear hls hblk hk2 hcp2
      go_wp2_with fail
      refine (HLI.out _ _ _ _ (by omega) _ _ HK2.out HB16.out k2 HK2L.out).mono ?_
      rintro e w17 ⟨b7, c7, rfl, l7, f7⟩
      have HB17 := Lib.hid (show BkB W x c vl (0 + n1) t2 sa (u :: us2) w17 from Bag.keep0 HB16.out f7)
      have L7 := Lib.hid l7
      clear f7 l7
      go_wp2_with fail
      refine (HSM.out _ _ _ _ _ (u :: us2) k2 HK2L.out (by omega) L7.out (Bag.ls (i := 1) HB17.out rfl)).mono ?_
      rintro e w18 ⟨rfl, f8⟩
      have HB18 := Lib.hid (show BkB W x c vl (0 + n1) t2 sa (u :: us2) w18 from Bag.keep0 HB17.out f8)
      clear f8
      go_wp2_with fail
      refine (HUS.out _ _ _ _ _ _ HK2.out HB18.out k2 HK2L.out).mono ?_
      rintro e w19 ⟨rfl, rfl⟩
      go_wp2_with fail
      go_roundw
      case rel => exact ⟨k2, cp2, t2, u, us2, sa, HK2L.out, hk2n, hk2c, rfl, HK2.out, HB18.out⟩
      case measure => exact hk2k
  · have hm' : c.may = false := by simpa using hm
    have HNEW := Lib.hid (fun w' => Undo_New_no w' c hm')
    unfold CfgV.cells at HNEW
    clear hm hm'

    go_enter Tryz.func3, Tryz.ntmps3
    go_wp2_with fail
    rw [← HW0.out]
    clear hw0
    refine (works_any _).mono ?_
    rintro e w1 ⟨rfl, f1⟩
    have HB1 := Lib.hid (HB0.out.keep0 f1)
    clear f1
    go_wp2_with fail
    refine (HM1.out _ HB1.out.fr).mono ?_
    rintro e w2 ⟨rfl, rfl⟩
    have k0 := HCR.out _ _ HB1.out 0 _ rfl
    have k1 := HCR.out _ _ HB1.out 1 _ rfl
    have k2 := HCR.out _ _ HB1.out 2 _ rfl
    have k3 := HCR.out _ _ HB1.out 3 _ rfl
    have k4 := HCR.out _ _ HB1.out 4 _ rfl
    have k5 := HCR.out _ _ HB1.out 5 _ rfl
    have k6 := HCR.out _ _ HB1.out 6 _ rfl
    have k7 := HCR.out _ _ HB1.out 7 _ rfl
    go_wp2_with fail
    refine (HNEW.out _).mono ?_
    rintro e w5 ⟨rfl, f5⟩
    have HB5 := Lib.hid (HB1.out.keep0 f5)
    clear f5 k0 k1 k2 k3 k4 k5 k6 k7
    go_wp2_with fail
    go_ret
    exact ⟨rfl, HB5.out.fr⟩
end Go.Proofs.YtckkccnebjacdaaGreat
