/-
  UndoEnds: the walk.
-/
import Derived.Test.YtckkccnebjacdaaUnStack
import Derived.Test.YtckkccnebjacdaaUnArgs
import Derived.Deep.RegionHeld3
import Derived.Deep.DeepCutAuto
namespace Go.Proofs.Ytckkccnebjacdaa
open Go.RowKit
set_option linter.unusedVariables false
set_option linter.unusedSimpArgs false
set_option maxRecDepth 100000

section
variable {P : Program} {w : World} {ops : Array Oper} {rest : List Oper} {o : Oper} {a : Act} {Q : Exit → Act → World → Prop}
/-- s[:j], as a step of a region that draws (guarded or not). -/
theorem stepSliceHw {K : Act → World → Prop} {E : Prop} (hw : Region.wanted o (yielded ops a.tmps) = true) (x hi : Operand) (t : TypeId) (hop : o.op = Op.slice t x none (some hi) none) (e : TypeId) (size : Nat) (ht : P.underlying t = some (.slice e)) (hs : (P.info? e).map (·.size) = some size)
    {sa : Option Addr} {n c j : Nat} {kl : IntKind} (hx : a.eval x = .slice sa n c) (hhi : a.eval hi = .int kl (j : Int)) (hj : j ≤ c)
    (hK : K (a.put o.dst (.slice sa j c)) w) : if Region.wanted o (yielded ops a.tmps) = true then Oper.wp P o a w K Q else E := by
  rw [if_pos hw]
  obtain ⟨inf, hinf, hsz⟩ := Option.map_eq_some_iff.1 hs
  have he : P.elem t = e := by simp [Program.elem, ht]
  have hrun : (Instr.sliceAt t (.slice sa n c) none (some (.int kl (j : Int))) none).run P w = .ok (.slice sa j c) w := by
    rw [run_sliceAt_slice w t _ _ _ _ (by rw [ht, he]), run_slice_h w t sa n c (by rw [ht, he]) kl (j : Int) (by omega) (by omega), he]
    have hid : sa.map (fun x : Addr => x.add 0) = sa := by cases sa <;> simp [Addr.add]
    simp [sizeOf, typeInfo, hinf, hsz, sliced, hid]
  unfold Oper.wp
  simp only [execOp, hop, hx, hhi, Option.map_some, Option.map_none]
  simp [hrun, Result.andThen]
  exact hK
end
section
variable {vl N K hd : Nat} {t t' : US} {row top : Nat} {v : VerV} {us : List VerV} {hs L : List Nat}
theorem ends_cut (hst : St vl N t L) (hsk : Stk vl t.f 0 row v us hs top) (hvl : vl ≤ 256) (hK : hs[K]? = some hd) : ∃ t2, t.cut hd = (0, t2) ∧ hd < 18446744073709551616 ∧ (t2.list row).map OV.ver = v :: us.take (K + 1) ∧ t2.s.used = t.s.used := by
  have hm := List.mem_of_getElem? hK
  obtain ⟨n, hn, hr⟩ := hsk.chn.live hd hm
  have hh := (hst.live.pos hd ((hst.live.mem hd).1 (by rw [hn]; simp))).2
  have e : t.cut hd = (0, t.set hd n.cutn) := by unfold US.cut UV.cutn; rw [hn]; simp only [hr, if_true]
  have hok := hst.is_.ok _ _ hn
  have s2 : St vl N (t.set hd n.cutn) L := hst.set hn hh (n := n.cutn) ⟨hok.wr, by show 0 < _; omega, hok.sg, hok.rest, hok.row0⟩ rfl rfl
  have k2 : Stk vl (t.set hd n.cutn).f 0 row v (us.take (K + 1)) (hs.take (K + 1)) top := hsk.cut hn hK
  exact ⟨_, e, hh, s2.list hvl k2 s2.live.zero, by rw [s2.live.used, hst.live.used]⟩
theorem ends_free (hst : St vl N t L) (hsk : Stk vl t.f 0 row v us hs top) (hvl : vl ≤ 256) (hN : N < 4096) (hK : hs[K]? = some hd) : ∃ t2, t.free hd = (0, t2) ∧ hd < 18446744073709551616 ∧ (t2.list row).map OV.ver = v :: us.take K ∧ t2.s.used + 1 = t.s.used ∧
    ∃ g t3, t2.save vl v 0 v = (g, 0, t3) ∧ g ≠ hd ∧ g < 18446744073709551616 ∧ (t3.list row).map OV.ver = v :: us.take K := by
  have hm := List.mem_of_getElem? hK
  obtain ⟨n, hn, hr⟩ := hsk.chn.live hd hm
  have hne : t.f hd ≠ none := by rw [hn]; simp
  have hp := hst.live.pos hd ((hst.live.mem hd).1 hne)
  obtain ⟨f1, f2, f3, f4⟩ := hst.is_.free hp.2
  have e1 : (t.free hd).1 = 0 := by unfold US.free; rw [hn]
  have s2 := hst.free hp.2
  have k2 : Stk vl (t.free hd).2.f hd row v (us.take K) (hs.take K) top := by rw [free_f]; exact hsk.free hK
  have hb2 : (t.free hd).2.f hd = none := by rw [free_f, updU_same]
  rw [hn] at f2
  obtain ⟨g, t3, e3, m3, s3⟩ := s2.save hN hsk.fit hsk.fit (nx := 0) (by omega)
  have hgd : g ≠ hd := by
    obtain ⟨o1, o2⟩ := save_ok hsk.fit.may hsk.fit.may hsk.fit.wr hsk.fit.wr (nx := 0) (by omega)
    have q := ufresh hst.is_ hp.2 hne (by unfold big; omega) hp.1 o1 (fun _ => o2)
    have e : (t.free hd).2.save vl v 0 v = (t.free hd).2.make (saveUV v 0 v) := by unfold US.save; rw [hsk.fit.may]; rfl
    rw [e] at e3
    rw [e3] at q
    exact q
  have k3 : Stk vl t3.f hd row v (us.take K) (hs.take K) top := k2.keep (fun y hy => by
    rw [m3.f, updU_other]
    intro e
    subst e
    exact k2.live y (List.mem_cons.2 hy) m3.fresh)
  exact ⟨(t.free hd).2, by rw [← e1], hp.2, s2.list hvl k2 hb2, by simpa using f2, g, t3, e3, hgd, m3.lt, s3.list hvl k3 (by rw [m3.f, updU_other _ _ (Ne.symm hgd)]; exact hb2)⟩
end
theorem may_vl {c : CfgV} (hm : c.may = true) : ∃ vl : Nat, c.valLen = vl ∧ vl ≤ 256 := by
  have hok : c.Ok := @of_decide_eq_true _ (Classical.propDecidable _) hm
  have h6 : 0 ≤ c.valLen ∧ c.valLen ≤ 256 := hok 6 (by omega)
  exact ⟨c.valLen.toNat, by omega, by omega⟩
set_option maxHeartbeats 8000000 in
theorem walk_UndoEnds (W : World) (c : CfgV) (_ : c.In) (a : Option Addr) (cap : Nat) (l : List VerV) (st : VersIn W a l) (which : Int) (hwh : (Lit.int .i64 which).wf = true) (cut : Bool) :
    Calls Try.prog 3 #[.agg c.cells, .slice a l.length cap, .int .i64 which, .bool cut] W fun e w' => e = .returned (.bool true) ∧ Fr none_ W w' := by
  obtain ⟨w0, hw0⟩ : ∃ w0, w0 = W.alloc (.cells c.cells 23) := ⟨_, rfl⟩
  have hb0 : Bag W [tRow W.heap.size c.cells 23] w0 := by
    have h := (Bag.start W).addRow c.cells 23
    rw [← hw0] at h
    exact h
  have HB0 := Lib.hid hb0
  have HL := Lib.hid (fun w' (f : Fr none_ W w') => st.kept f (fun _ _ e => e))
  have HLG := Lib.hid (fun w' (f : Fr none_ W w') => many_any w' a cap l (st.kept f (fun _ _ e => e)))
  have HW0 := Lib.hid hw0
  have HCR := Lib.hid (show ∀ w' Ts, Bag W (tRow W.heap.size c.cells 23 :: Ts) w' → ∀ (i : Nat) (u : Value), c.cells[i]? = some u → w'.cell? ⟨W.heap.size, i, none⟩ = some u from fun w' Ts f i u hu => ((f.row (i := 0) rfl).cell i).trans hu)
  clear hb0
  unfold CfgV.cells at hw0 HW0 HCR ⊢
  by_cases hend : isMany l = true ∨ l.length < 2
  · have hfin : ∀ w1, Fr none_ W w1 → Calls Try.prog 5 #[] w1 fun e w' => e = .returned (.bool true) ∧ Fr none_ W w' := fun w1 f => (works_any w1).mono fun e w' ⟨h1, h2⟩ => ⟨h1, f.trans h2⟩
    have HFIN := Lib.hid (fun w1 f => hfin w1 f)
    clear st hfin hw0
    cases hbig : isMany l with
    | true =>
      rw [hbig] at HLG
      clear hend hbig
      go_enter Try.func3, Try.ntmps3
      go_wp2_with fail
      rw [← HW0.out]
      refine (works_any _).mono ?_
      rintro e w1 ⟨rfl, f1⟩
      have F1 := Lib.hid (HB0.out.fr.trans f1)
      clear f1
      go_wp2_with fail
      refine (HLG.out _ F1.out).mono ?_
      rintro e w2 ⟨rfl, rfl⟩
      go_wp2_with fail
      refine (HFIN.out _ F1.out).mono ?_
      rintro e w3 ⟨rfl, f3⟩
      have F3 := Lib.hid f3
      clear f3
      go_wp2_with fail
      go_ret
      exact ⟨rfl, F3.out⟩
    | false =>
      rw [hbig] at HLG
      have hl2 : (l.length : Int) < 2 := by
        rcases hend with h | h
        · rw [hbig] at h; cases h
        · omega
      clear hend hbig
      go_enter Try.func3, Try.ntmps3
      go_wp2_with fail
      rw [← HW0.out]
      refine (works_any _).mono ?_
      rintro e w1 ⟨rfl, f1⟩
      have F1 := Lib.hid (HB0.out.fr.trans f1)
      clear f1
      go_wp2_with fail
      refine (HLG.out _ F1.out).mono ?_
      rintro e w2 ⟨rfl, rfl⟩
      go_wp2_with fail
      refine (HFIN.out _ F1.out).mono ?_
      rintro e w3 ⟨rfl, f3⟩
      have F3 := Lib.hid f3
      clear f3
      go_wp2_with fail
      go_ret
      exact ⟨rfl, F3.out⟩
  · have hbig : isMany l = false := by
      cases hb : isMany l with
      | false => rfl
      | true => exact absurd (Or.inl hb) hend
    have hl2 : ¬ (l.length : Int) < 2 := fun q => hend (Or.inr (by omega))
    have hlen := isMany_no hbig
    rw [hbig] at HLG
    clear hend hbig st
    by_cases hm : c.may = true
    · obtain ⟨vl, hvl, hvl2⟩ := may_vl hm
      have HNEW := Lib.hid (fun (w' : World) (h : Bag W [tRow W.heap.size c.cells 23] w') => bu_new h c hm hvl hvl2)
      have HST := Lib.hid (St.new hvl2)
      have hk6 := fun w' Ts h => HCR.out w' Ts h 6 (.int .i64 (vl : Int)) (by rw [← hvl]; rfl)
      have HK6 := Lib.hid hk6
      obtain ⟨A, hA⟩ : ∃ A : Nat, A = (which % 18446744073709551616).toNat := ⟨_, rfl⟩
      have hAw : IntKind.u64.wrap which = (A : Int) := by rw [IntKind.wrap_u64]; omega
      have hAb : A < 18446744073709551616 := by omega
      unfold CfgV.cells at HNEW HK6
      clear hk6 hvl hm hA hwh
      go_enter Try.func3, Try.ntmps3
      go_wp2_with fail
      rw [← HW0.out]
      clear hw0
      refine (works_any _).mono ?_
      rintro e w1 ⟨rfl, f1⟩
      have HB1 := Lib.hid (HB0.out.keep0 f1)
      clear f1
      go_wp2_with fail
      refine (HLG.out _ HB1.out.fr).mono ?_
      rintro e w2 ⟨rfl, rfl⟩
      have k0 := HCR.out _ _ HB1.out 0 _ rfl
      have k1 := HCR.out _ _ HB1.out 1 _ rfl
      have k2 := HCR.out _ _ HB1.out 2 _ rfl
      have k3 := HCR.out _ _ HB1.out 3 _ rfl
      have k4 := HCR.out _ _ HB1.out 4 _ rfl
      have k5 := HCR.out _ _ HB1.out 5 _ rfl
      have k6 := HCR.out _ _ HB1.out 6 _ rfl
      have k7 := HCR.out _ _ HB1.out 7 _ rfl
      go_wp2_with fail
      refine (HNEW.out _ HB1.out).mono ?_
      rintro e w3 ⟨x, rfl, h3⟩
      have H3 := Lib.hid (show Bag W (tUn x c vl 0 (US.new vl) :: [tRow W.heap.size c.cells 23]) w3 from h3.front)
      have kk6 := HK6.out _ _ h3
      clear h3 k0 k1 k2 k3 k4 k5 k6 k7
      go_wp2_with fail
      refine (stack_any H3.out HST.out hvl2 (by omega) a cap l HL.out hlen (by omega)).mono ?_
      rintro e w4 ⟨row, v, us, hs, top, t', al, cl, ar, cr, rfl, hsk, hbg⟩
      have hnr : hs.length + 1 = l.length := by have := hsk.len; have := hsk.stk.chn.len; omega
      obtain ⟨nr, hnre⟩ : ∃ nr, nr = hs.length := ⟨_, rfl⟩
      have hnrp : 0 < nr := by omega
      have hnrb : nr ≤ 100 := by omega
      obtain ⟨K, hK⟩ : ∃ K : Nat, K = A % nr := ⟨_, rfl⟩
      have hKl : K < nr := by rw [hK]; exact Nat.mod_lt _ (by omega)
      have hKe : (A : Int) % (nr : Int) = (K : Int) := by rw [hK]; exact (Int.natCast_emod A nr).symm
      have HKE := Lib.hid hKe
      obtain ⟨hd, hhd⟩ : ∃ hd, hs[K]? = some hd := ⟨_, List.getElem?_eq_getElem (by omega)⟩
      obtain ⟨j, hj⟩ : ∃ j, j = nr - 1 - K := ⟨_, rfl⟩
      have hjr : hs.reverse[j]? = some hd := by
        rw [List.getElem?_reverse (by omega), show hs.length - 1 - j = K by omega]; exact hhd
      have hsl := hbg.sl (i := 2) rfl
      have HCL := Lib.hid (show l.length ≤ cl from (hbg.sl (i := 1) rfl).2.1)
      rw [← hnre] at hbg hsl ⊢
      obtain ⟨gr, rfl⟩ := hsl.isAddr (by omega)
      have s0 : w4.cell? ⟨gr, j, none⟩ = some (.int .u64 (hd : Int)) := hsl.cell (i := j) (v := hvN hd) (by rw [List.getElem?_map, hjr]; rfl)
      have HBG := Lib.hid hbg
      have HSK := Lib.hid hsk
      have HHD := Lib.hid hhd
      have HNR := Lib.hid (show nr + 1 = l.length by omega)
      clear hsl hbg hsk hhd hjr hK hKe hnre hnr kk6
      go_upto_region 9 with fail
      go_cut [2] (fun kv wx => kv = .int .i64 ((K + 1 : Nat) : Int) ∧ wx = w4)
      case first =>
        go_wp2_with fail
        go_meet
        exact ⟨by rw [HKE.out]; unfold wrap64; exact congrArg (Value.int .i64) (by omega), rfl⟩
      case rest =>
      obtain ⟨rfl, hwc⟩ := hcut
      have hwc := hwc.symm
      subst hwc
      have HJ := Lib.hid hj
      have hjs : (nr : Int) - ((K + 1 : Nat) : Int) = (j : Int) := by omega
      have hjl : (j : Int) < (nr : Int) := by omega
      clear hAw hAb hj
      obtain ⟨K1, hK1⟩ : ∃ K1, K1 = K + 1 := ⟨_, rfl⟩
      have HK1 := Lib.hid hK1
      rw [← hK1] at hjs ⊢
      clear hK1
      go_upto_region 10 with fail
      go_cut [15] (fun kv wx => kv = .int .u64 (hd : Int) ∧ wx = w4)
      case first =>
        go_wp2_with fail
        go_meet
        exact ⟨rfl, rfl⟩
      case rest =>
      obtain ⟨rfl, hwc⟩ := hcut
      have hwc := hwc.symm
      subst hwc
      clear hjs hjl s0
      have hK1b : K1 ≤ 100 := by have := HK1.out; omega
      clear HL HLG
      generalize l.length = n0 at *
      cases cut with
      | true =>
        obtain ⟨t2, e2, hdl, hlist, hused⟩ := ends_cut HSK.out.st HSK.out.stk hvl2 HHD.out
        have HCUT := Lib.hid (fun w' (f : Fr none_ w4 w') => bu_cut (HBG.out.keep0 f) (i := 0) rfl hdl e2)
        obtain ⟨K2, hK2⟩ : ∃ K2, K2 = K1 + 1 := ⟨_, rfl⟩
        have hK2c : K2 ≤ cl := by have := HK1.out; have := HNR.out; have := HCL.out; omega
        have hKK : (0 : Int) ≤ (K2 : Int) := by omega
        have hKc : (K2 : Int) ≤ (cl : Int) := by omega
        have HK2 := Lib.hid hK2
        have hll : (v :: us.take (K + 1)).length = K2 := by
          have := HK1.out; have := HSK.out.len; have := HNR.out
          rw [List.length_cons, List.length_take]; omega
        have HLIST := Lib.hid (fun w' Ts (h : Bag W (tUn x c vl (0 + n0) t2 :: Ts) w') => bu_list h (i := 0) rfl (by omega) HSK.out.rowL _ hlist K2 hll)
        have HSAME := Lib.hid (fun (w' : World) (b1 b2 : Option Addr) (c1 c2 : Nat) (h1 : LsAt w' b1 4 verL (v :: us.take (K + 1))) (h2 : LsAt w' b2 4 verL (v :: us.take (K + 1))) => Same_same (ca := c1) (cb := c2) K2 hll h1 h2 (by omega))
        have HUSED := Lib.hid (fun w' Ts (h : Bag W (tUn x c vl (0 + n0) t2 :: Ts) w') => bu_used h (i := 0) rfl (q := (n0 : Int)) (by rw [hused, HSK.out.st.live.used]; have := HSK.out.len; have := HSK.out.stk.chn.len; simp; omega))
        have HLS := Lib.hid (fun w' (h : Bag W (tUn x c vl (0 + n0) t2 :: tVers al n0 cl (v :: us) :: tHds (some ⟨gr, 0, none⟩) nr cr hs.reverse :: [tRow W.heap.size c.cells 23]) w') => ((h.sl (i := 1) rfl).ls (cells := verL) (sz := 4) (fun _ => rfl) (show n0 = (v :: us).length from HSK.out.len.symm)).takeN (K + 2))
        have hw1 : IntKind.i64.wrap ((K1 : Int) + 1) = (K2 : Int) := (IntWalk.i64_in ((K1 : Int) + 1) (by omega)).trans (by omega)
        clear hlist hused e2 hK2 hll
        go_wp2_with fail
        go_region_held3 (fun w' => True)
          (exact trivial)
          (first
            | (refine stepSliceHw rfl (.tmp 73) (.tmp 75) _ rfl 44 4 Try.underlying24 (by kernel_rfl) (j := K2) rfl rfl hK2c ?_)
            | (go_at_call 9; refine (HCUT.out _ (Fr.drew none_ _)).mono ?_; rintro e w5 ⟨rfl, h5⟩)
            | (go_at_call 11; refine (HLIST.out _ _ h5).mono ?_; rintro e w6 ⟨b6, c6, rfl, l6, f6⟩)
            | (go_at_call 10; refine (HSAME.out _ _ _ _ _ l6 ((HLS.out _ h5).kept0 f6)).mono ?_; rintro e w7 ⟨rfl, f7⟩)
            | (go_at_call 12; refine (HUSED.out _ _ ((h5.keep0 f6).keep0 f7)).mono ?_; rintro e w8 ⟨rfl, rfl⟩))
        have HBE := Lib.hid ((h5.keep0 f6).keep0 f7)
        clear h5 f6 f7 l6
        go_wp2_with fail
        go_ret
        exact ⟨rfl, HBE.out.fr⟩
      | false =>
        obtain ⟨t2, e2, hdl, hlist, hused, g, t3, e3, hgd, hgl, hlist3⟩ := ends_free HSK.out.st HSK.out.stk hvl2 (by omega) HHD.out
        obtain ⟨ga, rfl⟩ : ∃ ga, al = some ⟨ga, 0, none⟩ := (HBG.out.sl (i := 1) rfl).isAddr (by omega)
        have HFV := Lib.hid HSK.out.stk.fit
        have HFREE := Lib.hid (fun w' (f : Fr none_ w4 w') => bu_free (HBG.out.keep0 f) (i := 0) rfl (by unfold big; omega) (by omega) hdl e2)
        have hK1c : K1 ≤ cl := by have := HK1.out; have := HNR.out; have := HCL.out; omega
        have hKK : (0 : Int) ≤ (K1 : Int) := by omega
        have hKc : (K1 : Int) ≤ (cl : Int) := by omega
        have hll : (v :: us.take K).length = K1 := by
          have := HK1.out; have := HSK.out.len; have := HNR.out
          rw [List.length_cons, List.length_take]; omega
        have hvl3 := (VerV.umay_iff.1 HFV.out.may).2.1
        have HLIST := Lib.hid (fun w' Ts (h : Bag W (tUn x c vl (0 + n0) t2 :: Ts) w') => bu_list h (i := 0) rfl (by omega) HSK.out.rowL _ hlist K1 hll)
        have HLIST3 := Lib.hid (fun w' Ts (h : Bag W (tUn x c vl (0 + n0 + 1) t3 :: Ts) w') => bu_list h (i := 0) rfl (by omega) HSK.out.rowL _ hlist3 K1 hll)
        have HSAME := Lib.hid (fun (w' : World) (b1 b2 : Option Addr) (c1 c2 : Nat) (h1 : LsAt w' b1 4 verL (v :: us.take K)) (h2 : LsAt w' b2 4 verL (v :: us.take K)) => Same_same (ca := c1) (cb := c2) K1 hll h1 h2 (by omega))
        have HUSED := Lib.hid (fun w' Ts (h : Bag W (tUn x c vl (0 + n0) t2 :: Ts) w') => bu_used h (i := 0) rfl (q := (nr : Int)) (by have e1 := HSK.out.st.live.used; have := HSK.out.len; have := HSK.out.stk.chn.len; have := HNR.out; simp at e1; omega))
        have HLS := Lib.hid (fun w' n' t' Ts (h : Bag W (tUn x c vl n' t' :: tVers (some ⟨ga, 0, none⟩) n0 cl (v :: us) :: Ts) w') => ((h.sl (i := 1) rfl).ls (cells := verL) (sz := 4) (fun _ => rfl) (show n0 = (v :: us).length from HSK.out.len.symm)).takeN (K + 1))
        have HCS := Lib.hid (fun w' n' t' Ts (h : Bag W (tUn x c vl n' t' :: tVers (some ⟨ga, 0, none⟩) n0 cl (v :: us) :: Ts) w') => show (w'.cell? ⟨ga, 0, none⟩ = some (.int .i64 v.wr) ∧ w'.cell? ⟨ga, 1, none⟩ = some (.int .i64 v.ts) ∧ w'.cell? ⟨ga, 2, none⟩ = some (.bool v.tomb) ∧ w'.cell? ⟨ga, 3, none⟩ = some (.string v.val)) from ⟨(h.sl (i := 1) rfl).cell (i := 0) rfl, (h.sl (i := 1) rfl).cell (i := 1) rfl, (h.sl (i := 1) rfl).cell (i := 2) rfl, (h.sl (i := 1) rfl).cell (i := 3) rfl⟩)
        have HSAVE := Lib.hid (fun w' Ts (h : Bag W (tUn x c vl (0 + n0) t2 :: Ts) w') => bu_save h (i := 0) (nx := 0) rfl (by unfold big; omega) v v (by omega) (by omega) HFV.out.wr HFV.out.wr (by omega) e3)
        have hgne : ((g : Int) == (hd : Int)) = false := beq_eq_false_iff_ne.2 (by omega)
        have hgne2 : ((g : Int) != (hd : Int)) = true := bne_iff_ne.2 (by omega)
        have hlp0 : 0 < n0 := by omega
        have hlp : (0 : Int) < (n0 : Int) := by omega
        have hw1 : IntKind.i64.wrap ((n0 : Int) - 1) = (nr : Int) := (IntWalk.i64_in ((n0 : Int) - 1) (by omega)).trans (by have := HNR.out; omega)
        unfold VerV.cells at HSAVE
        clear hlist hlist3 hused e2 e3 hll hgd
        go_wp2_with fail
        go_region_held3 (fun w' => True)
          (exact trivial)
          (first
            | (refine stepSliceHw rfl (.tmp 94) (.tmp 95) _ rfl 44 4 Try.underlying24 (by kernel_rfl) (j := K1) rfl rfl hK1c ?_)
            | (go_at_call 13; refine (HFREE.out _ (Fr.drew none_ _)).mono ?_; rintro e w5 ⟨rfl, h5⟩)
            | (go_at_call 11; refine (HLIST.out _ _ h5).mono ?_; rintro e w6 ⟨b6, c6, rfl, l6, f6⟩)
            | (go_at_call 10; refine (HSAME.out _ _ _ _ _ l6 ((HLS.out _ _ _ _ h5).kept0 f6)).mono ?_; rintro e w7 ⟨rfl, f7⟩)
            | (go_at_call 12; refine (HUSED.out _ _ ((h5.keep0 f6).keep0 f7)).mono ?_; rintro e w8 ⟨rfl, rfl⟩))
        have HB7 := Lib.hid (show Bag W (tUn x c vl (0 + n0) t2 :: tVers (some ⟨ga, 0, none⟩) n0 cl (v :: us) :: tHds (some ⟨gr, 0, none⟩) nr cr hs.reverse :: [tRow W.heap.size c.cells 23]) w7 from (h5.keep0 f6).keep0 f7)
        obtain ⟨d0, d1, d2, d3⟩ := HCS.out _ _ _ _ HB7.out
        clear h5 f6 f7 l6
        go_wp2_with fail
        go_region_held3 (fun w' => w'.cell? ⟨ga, 0, none⟩ = some (.int .i64 v.wr) ∧ w'.cell? ⟨ga, 1, none⟩ = some (.int .i64 v.ts) ∧ w'.cell? ⟨ga, 2, none⟩ = some (.bool v.tomb) ∧ w'.cell? ⟨ga, 3, none⟩ = some (.string v.val))
          (first | exact HCS.out _ _ _ _ h8 | exact HCS.out _ _ _ _ (HB7.out.keep0 (Fr.drew none_ _)) | go_keep)
          (first
            | (go_at_call 14; refine (HSAVE.out _ _ (HB7.out.keep0 (Fr.drew none_ _))).mono ?_; rintro e w8 ⟨rfl, h8⟩))
        all_goals (
          have HB8 := Lib.hid (show Bag W (tUn x c vl (0 + n0 + 1) t3 :: tVers (some ⟨ga, 0, none⟩) n0 cl (v :: us) :: tHds (some ⟨gr, 0, none⟩) nr cr hs.reverse :: [tRow W.heap.size c.cells 23]) w8 from h8)
          clear h8 d0 d1 d2 d3
          go_wp2_with fail
          go_region_held3 (fun w' => True)
            (exact trivial)
            (first
              | (refine stepSliceHw rfl (.tmp 130) (.tmp 131) _ rfl 44 4 Try.underlying24 (by kernel_rfl) (j := K1) rfl rfl hK1c ?_)
              | (go_at_call 11; refine (HLIST3.out _ _ (HB8.out.keep0 (Fr.drew none_ _))).mono ?_; rintro e w9 ⟨b9, c9, rfl, l9, f9⟩)
              | (go_at_call 10; refine (HSAME.out _ _ _ _ _ l9 ((HLS.out _ _ _ _ (HB8.out.keep0 (Fr.drew none_ _))).kept0 f9)).mono ?_; rintro e w10 ⟨rfl, f10⟩))
          go_wp2_with fail
          go_ret
          exact ⟨rfl, (((HB8.out.keep0 (Fr.drew none_ _)).keep0 f9).keep0 f10).fr⟩)
    · have hm' : c.may = false := by simpa using hm
      have HNEW := Lib.hid (fun w' => Undo_New_no w' c hm')
      unfold CfgV.cells at HNEW
      clear hm hm' hwh
      go_enter Try.func3, Try.ntmps3
      go_wp2_with fail
      rw [← HW0.out]
      clear hw0
      refine (works_any _).mono ?_
      rintro e w1 ⟨rfl, f1⟩
      have HB1 := Lib.hid (HB0.out.keep0 f1)
      clear f1
      go_wp2_with fail
      refine (HLG.out _ HB1.out.fr).mono ?_
      rintro e w2 ⟨rfl, rfl⟩
      have k0 := HCR.out _ _ HB1.out 0 _ rfl
      have k1 := HCR.out _ _ HB1.out 1 _ rfl
      have k2 := HCR.out _ _ HB1.out 2 _ rfl
      have k3 := HCR.out _ _ HB1.out 3 _ rfl
      have k4 := HCR.out _ _ HB1.out 4 _ rfl
      have k5 := HCR.out _ _ HB1.out 5 _ rfl
      have k6 := HCR.out _ _ HB1.out 6 _ rfl
      have k7 := HCR.out _ _ HB1.out 7 _ rfl
      go_wp2_with fail
      refine (HNEW.out _).mono ?_
      rintro e w3 ⟨rfl, f3⟩
      have HB3 := Lib.hid (HB1.out.keep0 f3)
      clear f3 k0 k1 k2 k3 k4 k5 k6 k7
      go_wp2_with fail
      go_ret
      exact ⟨rfl, HB3.out.fr⟩
end Go.Proofs.Ytckkccnebjacdaa
