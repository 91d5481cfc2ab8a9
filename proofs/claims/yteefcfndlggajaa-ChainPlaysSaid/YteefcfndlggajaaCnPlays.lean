/-
  ChainPlays holds of every input: the walk.
-/
import Derived.Test.YteefcfndlggajaaCnPlaysP
import Derived.RegionTactic
namespace Go.Proofs.Yteefcfndlggajaa
open Go.ChangeShapes Go.WideShapes Go.ChangeAt Go.RowKit Go.Deep Go.Joins
set_option linter.unusedVariables false
set_option linter.unusedSimpArgs false
set_option maxRecDepth 100000

set_option maxHeartbeats 32000000 in
theorem walk_ChainPlays (W : World) (c : CfgV) (_ : c.In) (a : Option Addr) (cap : Nat) (l : List StepC) (st : StepsIn W a l) :
    Calls Try.prog 7 #[.agg c.cells, .slice a l.length cap] W fun e w' => e = .returned (.bool true) ∧ Fr none_ W w' := by
  obtain ⟨w0, hw0⟩ : ∃ w0, w0 = W.alloc (.cells c.cells 23) := ⟨_, rfl⟩
  have hf0 : Fr none_ W w0 := by rw [hw0]; exact Fr.alloc none_ W _
  have HF0 := Lib.hid hf0
  have HW0 := Lib.hid hw0
  have HL1 := Lib.hid (fun w' (f : Fr none_ W w') => long_any w' a cap l (st.kept f (fun _ _ e => e)))
  have HLA := Lib.hid (fun w' (f : Fr none_ W w') => (st.kept f (fun _ _ e => e)).at_)
  have HOKA := Lib.hid st.ok
  have hlen := st.len
  have HCR := Lib.hid (show ∀ w', Fr none_ w0 w' → ∀ (i : Nat) (u : Value), c.cells[i]? = some u → w'.cell? ⟨W.heap.size, i, none⟩ = some u from fun w' f i u hu => by
    have r : Row w0 W.heap.size c.cells 23 := by rw [hw0]; exact Row.new W _ _
    exact ((r.kept f (fun e => e)).cell i).trans hu)
  have HAW := Lib.hid (fun w1 (f : Fr none_ W w1) => (awake_any w1).mono fun e w' (h : e = .returned (.bool true) ∧ Fr none_ w1 w') => And.intro h.1 (f.trans h.2))
  clear st hf0
  by_cases hbad : isLongS l = true ∨ 80 < l.length
  · unfold CfgV.cells at hw0 HW0 HCR ⊢
    clear hw0
    cases h1 : isLongS l with
    | true =>
      rw [h1] at HL1
      clear h1 hbad
      go_enter Try.func7, Try.ntmps7
      go_wp2_with fail
      rw [← HW0.out]
      refine (HL1.out _ HF0.out).mono ?_
      rintro e w1 ⟨rfl, rfl⟩
      go_wp2_with fail
      refine (HAW.out _ HF0.out).mono ?_
      rintro e w2 ⟨rfl, f2⟩
      have F2 := Lib.hid f2
      clear f2
      go_wp2_with fail
      go_ret
      exact ⟨rfl, F2.out⟩
    | false =>
      rw [h1] at HL1
      have h3' : (80 : Int) < (l.length : Int) := by rcases hbad with q | q; rw [h1] at q; cases q; omega
      clear hbad h1
      go_enter Try.func7, Try.ntmps7
      go_wp2_with fail
      rw [← HW0.out]
      refine (HL1.out _ HF0.out).mono ?_
      rintro e w1 ⟨rfl, rfl⟩
      go_wp2_with fail
      refine (HAW.out _ HF0.out).mono ?_
      rintro e w2 ⟨rfl, f2⟩
      have F2 := Lib.hid f2
      clear f2
      go_wp2_with fail
      go_ret
      exact ⟨rfl, F2.out⟩
  · have h1 : isLongS l = false := by
      cases hb : isLongS l with
      | false => rfl
      | true => exact absurd (Or.inl hb) hbad
    have h3 : ¬ 80 < l.length := fun q => hbad (Or.inr q)
    have h3' : ¬ (80 : Int) < (l.length : Int) := by omega
    have HSA := Lib.hid (isLongS_no h1).2
    rw [h1] at HL1
    clear h1 hbad hw0 hlen
    by_cases hm : c.may = true
    · have hok : c.Ok := @of_decide_eq_true _ (Classical.propDecidable _) hm
      have h6 : 0 ≤ c.valLen ∧ c.valLen ≤ 256 := hok 6 (by omega)
      obtain ⟨lim, hlim⟩ : ∃ lim, lim = c.valLen.toNat := ⟨_, rfl⟩
      have hcl : c.valLen = lim := by omega
      have hl256 : lim ≤ 256 := by omega
      have HCL := Lib.hid (And.intro hcl hl256)
      have HNEW := Lib.hid (fun w' (f : Fr none_ w0 w') => bg_new ((Bag.start w0).keep0 f) c hm hcl hl256)
      have HNEW2 := Lib.hid (fun w' x (h : Bag w0 ([] ++ [tEng x c lim 0 (CS.new lim)]) w') => bg_r17new h c hm lim hcl hl256)
      unfold CfgV.cells at HW0 HCR HNEW HNEW2 ⊢
      clear hok h6 hm hlim hcl hl256
      go_enter Try.func7, Try.ntmps7
      go_wp2_with fail
      rw [← HW0.out]
      refine (HL1.out _ HF0.out).mono ?_
      rintro e w1 ⟨rfl, rfl⟩
      have f00 := Fr.refl none_ w0
      have k0 := HCR.out _ f00 0 _ rfl
      have k1 := HCR.out _ f00 1 _ rfl
      have k2 := HCR.out _ f00 2 _ rfl
      have k3 := HCR.out _ f00 3 _ rfl
      have k4 := HCR.out _ f00 4 _ rfl
      have k5 := HCR.out _ f00 5 _ rfl
      have k6 := HCR.out _ f00 6 _ rfl
      have k7 := HCR.out _ f00 7 _ rfl
      clear f00
      go_wp2_with fail
      refine (HNEW.out _ (Fr.refl none_ w0)).mono ?_
      rintro e w3 ⟨x, rfl, hg⟩
      have F3 := Lib.hid hg.fr
      have HG1 := Lib.hid hg
      clear hg k0 k1 k2 k3 k4 k5 k6 k7
      have k0 := HCR.out _ F3.out 0 _ rfl
      have k1 := HCR.out _ F3.out 1 _ rfl
      have k2 := HCR.out _ F3.out 2 _ rfl
      have k3 := HCR.out _ F3.out 3 _ rfl
      have k4 := HCR.out _ F3.out 4 _ rfl
      have k5 := HCR.out _ F3.out 5 _ rfl
      have k6 := HCR.out _ F3.out 6 _ rfl
      have k7 := HCR.out _ F3.out 7 _ rfl
      go_wp2_with fail
      refine (HNEW2.out _ _ HG1.out).mono ?_
      rintro e w4 ⟨y, ar, rfl, hg⟩
      have HP0 : Hid (PairAt w0 x y c lim 0 (CS.new lim) none 0 [] ([] ++ [tEng x c lim 0 (CS.new lim)] ++ [tRef ar 0 (AS.new (27 + lim))] ++ [tRow17 y c ar none 0 0] ++ [tSl none 0 0 34 1 []] ++ [tSl none 0 0 111 6 []]) w4) := Lib.hid ⟨(hg.addNil _ 1).addNil _ 6, rfl, rfl, 4, ar, none, 0, [], rfl, rfl, rfl, by omega, by omega, by omega, ⟨(fun q hq => by simp at hq), (fun h n e => by cases e), (by simp)⟩, rfl, by omega⟩
      clear hg k0 k1 k2 k3 k4 k5 k6 k7 HNEW HNEW2 HG1 F3 HCR HL1 HW0
      go_wp2_with fail
      go_loopw [9, 10] (fun tl iv wr => ∃ (i : Nat) (b : Option Addr) (cb : Nat) (told : List Nat) (t : CS) (Ts : List Thing), Hid (i ≤ l.length) ∧ tl = .slice b told.length cb ∧ iv = .int .i64 (i : Int) ∧ Hid (told.length ≤ i ∧ allLt told) ∧ Hid (PairAt w0 x y c lim i t b cb told Ts wr)) (fun _ iv _ => l.length - (intOf iv).toNat)
      case atStart => exact ⟨0, none, 0, [], CS.new lim, _, Lib.hid (Nat.zero_le _), rfl, rfl, Lib.hid ⟨Nat.le_refl _, fun y hy => by simp at hy⟩, HP0⟩
      case round =>
        obtain ⟨i, b, cb, told, t, Ts, hi, rfl, rfl, htl, hp⟩ := hrel
        by_cases hlt : i < l.length
        · obtain ⟨s, hs⟩ : ∃ s, l[i]? = some s := ⟨_, List.getElem?_eq_getElem hlt⟩
          obtain ⟨g, o, rfl, hgl, hc⟩ := (HLA.out _ (HF0.out.trans hp.out.bag.fr)).get hs
          have HCELL := Lib.hid (show ∀ w', Fr none_ W w' → ∀ (j : Nat) (v : Value), (StepC.list s)[j]? = some v → w'.cell? ⟨g, o + i * 9 + j, none⟩ = some v from fun w' f j v hv => by
            obtain ⟨g2, o2, e2, _, hc2⟩ := (HLA.out w' f).get hs
            cases e2
            exact hc2 i s hs j v hv)
          have hsin := HOKA.out s (List.mem_of_getElem? hs)
          have hsz : s.v.val.size ≤ maxLen := by have := HSA.out s (List.mem_of_getElem? hs); unfold maxLen; omega
          have hib : i < 80 := by omega
          obtain ⟨r, hr⟩ : ∃ r, r = s.does lim told t := ⟨_, rfl⟩
          have hdl := does_lt (lim := lim) hp.out.is_ (by unfold big; omega) hsin htl.out.2
          have hdo := fun w' Us (q : PairAt w0 x y c lim i t b cb told Us w') => pair_do q (by unfold big; omega) hsin hsz (by have := htl.out.1; omega) htl.out.2
          have hre := fun w' Us w1 (q : PairAt w0 x y c lim i t b cb told Us w') (hb : Bag w0 (Us.set 0 (tEng x c lim (i + 1) r.2.2)) w1) => pair_ref q hb (by omega) rfl HCL.out.1 HCL.out.2 hsin hsz (by have := htl.out.1; omega) htl.out.2 (by rw [hr])
          rw [← hr] at hdo hdl hre
          unfold StepC.list at hdo hre
          have HDO := Lib.hid hdo
          have HRE := Lib.hid hre
          have HDL := Lib.hid hdl
          have HANY := Lib.hid hsin.any
          obtain ⟨r9, hr9⟩ : ∃ r, r = i % 9 := ⟨_, rfl⟩
          obtain ⟨r5, hr5⟩ : ∃ r, r = i % 5 := ⟨_, rfl⟩
          have m91 : ((i : Int).tmod 9) = (r9 : Int) := by rw [hr9]; rfl
          have m92 : ((i : Int) % 9) = (r9 : Int) := by rw [hr9]; rfl
          have m51 : ((i : Int).tmod 5) = (r5 : Int) := by rw [hr5]; rfl
          have m52 : ((i : Int) % 5) = (r5 : Int) := by rw [hr5]; rfl
          have m93 : IntKind.i64.wrap (r9 : Int) = (r9 : Int) := IntWalk.i64_in _ (by omega)
          have m53 : IntKind.i64.wrap (r5 : Int) = (r5 : Int) := IntWalk.i64_in _ (by omega)
          clear hr9 hr5 hc hs hsin hsz hdo hre hdl hr HP0
          go_upto_if 63 with fail
          go_cut [11, 12] (fun u v wx => ∃ (x2 y2 : Nat) (Us : List Thing), u = .pointer (some ⟨x2, 0, none⟩) ∧ v = .pointer (some ⟨y2, 0, none⟩) ∧ Hid (PairAt w0 x y c lim i t b cb told Us wx) ∧ Hid (r9 = 5 → CopyAt Us x2 y2 c lim i t))
          case first =>
            by_cases e9 : r9 = 5
            · have b9 : ((r9 : Int) == 5) = true := by rw [beq_iff_eq]; omega
              have HCP := Lib.hid (pair_copy hp.out)
              clear e9
              go_wp2_with fail
              refine HCP.out.mono ?_
              rintro e w5 ⟨x2, rfl, h5⟩
              have HCP2 := Lib.hid (pair_copy2 h5 (by have := hp.out.hlen; omega))
              clear h5
              go_wp2_with fail
              refine HCP2.out.mono ?_
              rintro e w6 ⟨y2, Us, rfl, h6, k6⟩
              have H6 := Lib.hid h6
              have K6 := Lib.hid k6
              clear h6 k6
              go_wp2_with fail
              go_meet
              exact ⟨x2, y2, Us, rfl, rfl, H6, Lib.hid (fun _ => K6.out)⟩
            · have b9 : ((r9 : Int) == 5) = false := beq_eq_false_iff_ne.2 (by omega)
              have HE9 := Lib.hid e9
              clear e9
              go_wp2_with fail
              go_meet
              exact ⟨x, y, Ts, rfl, rfl, hp, Lib.hid (fun q => absurd q HE9.out)⟩
          case rest =>
            obtain ⟨x2, y2, Us, rfl, rfl, hq, hk⟩ := hcut
            have HFW := Lib.hid (HF0.out.trans hq.out.bag.fr)
            have p0 : wc.cell? ⟨g, o + i * 9, none⟩ = some (.int .u8 (s.kind : Int)) := HCELL.out _ HFW.out 0 _ rfl
            have p1 : wc.cell? ⟨g, o + i * 9 + 1, none⟩ = some (.int .i64 s.h) := HCELL.out _ HFW.out 1 _ rfl
            have p2 : wc.cell? ⟨g, o + i * 9 + 2, none⟩ = some (.int .i64 s.nx) := HCELL.out _ HFW.out 2 _ rfl
            have p3 : wc.cell? ⟨g, o + i * 9 + 3, none⟩ = some (.int .u64 (s.any : Int)) := HCELL.out _ HFW.out 3 _ rfl
            have p4 : wc.cell? ⟨g, o + i * 9 + 4, none⟩ = some (.int .i64 s.v.wr) := HCELL.out _ HFW.out 4 _ rfl
            have p5 : wc.cell? ⟨g, o + i * 9 + 5, none⟩ = some (.int .i64 s.v.ts) := HCELL.out _ HFW.out 5 _ rfl
            have p6 : wc.cell? ⟨g, o + i * 9 + 6, none⟩ = some (.bool s.v.tomb) := HCELL.out _ HFW.out 6 _ rfl
            have p7 : wc.cell? ⟨g, o + i * 9 + 7, none⟩ = some (.string s.v.val) := HCELL.out _ HFW.out 7 _ rfl
            have p8 : wc.cell? ⟨g, o + i * 9 + 8, none⟩ = some (.int .i64 s.ts) := HCELL.out _ HFW.out 8 _ rfl
            clear hp
            go_wp2_with fail
            refine (HDO.out _ _ hq.out).mono ?_
            rintro e w5 ⟨rfl, hb5⟩
            have HF5 := Lib.hid (HF0.out.trans hb5.fr)
            have HRF := Lib.hid (HRE.out _ _ _ hq.out hb5)
            clear hb5 p0 p1 p2 p3 p4 p5 p6 p7 p8
            have p0 : w5.cell? ⟨g, o + i * 9, none⟩ = some (.int .u8 (s.kind : Int)) := HCELL.out _ HF5.out 0 _ rfl
            have p1 : w5.cell? ⟨g, o + i * 9 + 1, none⟩ = some (.int .i64 s.h) := HCELL.out _ HF5.out 1 _ rfl
            have p2 : w5.cell? ⟨g, o + i * 9 + 2, none⟩ = some (.int .i64 s.nx) := HCELL.out _ HF5.out 2 _ rfl
            have p3 : w5.cell? ⟨g, o + i * 9 + 3, none⟩ = some (.int .u64 (s.any : Int)) := HCELL.out _ HF5.out 3 _ rfl
            have p4 : w5.cell? ⟨g, o + i * 9 + 4, none⟩ = some (.int .i64 s.v.wr) := HCELL.out _ HF5.out 4 _ rfl
            have p5 : w5.cell? ⟨g, o + i * 9 + 5, none⟩ = some (.int .i64 s.v.ts) := HCELL.out _ HF5.out 5 _ rfl
            have p6 : w5.cell? ⟨g, o + i * 9 + 6, none⟩ = some (.bool s.v.tomb) := HCELL.out _ HF5.out 6 _ rfl
            have p7 : w5.cell? ⟨g, o + i * 9 + 7, none⟩ = some (.string s.v.val) := HCELL.out _ HF5.out 7 _ rfl
            have p8 : w5.cell? ⟨g, o + i * 9 + 8, none⟩ = some (.int .i64 s.ts) := HCELL.out _ HF5.out 8 _ rfl
            go_wp2_with fail
            refine HRF.out.mono ?_
            rintro e w6 ⟨rfl, Vs, h6, k6⟩
            have HF6 := Lib.hid (HF0.out.trans h6.bag.fr)
            have H6 := Lib.hid h6
            have K6 := Lib.hid (show r9 = 5 → CopyAt Vs x2 y2 c lim i t from fun q => (hk.out q).keep4 k6)
            clear p0 p1 p2 p3 p4 p5 p6 p7 p8 hk hq
            have p3 : w6.cell? ⟨g, o + i * 9 + 3, none⟩ = some (.int .u64 (s.any : Int)) := HCELL.out _ HF6.out 3 _ rfl
            obtain ⟨t', ht'⟩ : ∃ t', t' = r.2.2 := ⟨_, rfl⟩
            rw [← ht'] at H6
            have hrd := bg_read H6.out.bag H6.out.eng HANY.out
            have hrd2 := show ∀ w' (f : Fr none_ w6 w'), Calls Try.prog 30 #[.pointer (some ⟨y, 0, none⟩), .int .u64 (s.any : Int)] w' fun e w'' => e = .returned (.tuple #[.agg (nodeOf (t'.f s.any)), .bool (t'.f s.any).isSome]) ∧ Fr none_ w' w'' from fun w' f => by
              obtain ⟨k, ar, la, lc, L, q⟩ := H6.out.rc
              have hu := H6.out.is_.up.used
              exact Rc_Read w' y la lc L (f.keep (H6.out.bag.rcell q 9 _ rfl)) (((H6.out.bag.sl q.sl).ls slotL_len rfl).kept0 f) (by rw [q.cnt]; omega) t'.f q.rep s.any
            obtain ⟨na, nb, nc, nd, ne, hno⟩ := nodeOf_is (t'.f s.any)
            rw [hno] at hrd hrd2
            obtain ⟨bz, hbz⟩ : ∃ bz, bz = (t'.f s.any).isSome := ⟨_, rfl⟩
            rw [← hbz] at hrd hrd2
            have HRD := Lib.hid hrd
            have HRD2 := Lib.hid hrd2
            have hns := fun w' => node_same3 na nb nc nd (ne : Int) w'
            obtain ⟨rh, hrh⟩ : ∃ rh, rh = r.1 := ⟨_, rfl⟩
            obtain ⟨re, hre⟩ : ∃ re, re = r.2.1 := ⟨_, rfl⟩
            rw [← hrh] at HDL ⊢
            rw [← hre]
            have e1 : ((rh : Int) != (rh : Int)) = false := bne_self_eq_false _
            have e2 : ((re : Int) != (re : Int)) = false := bne_self_eq_false _
            have e3 : (bz != bz) = false := bne_self_eq_false _
            clear h6 k6 hrd hrd2 hno hbz ht' hrh hre HRF HDO HRE HCELL HFW HF5
            go_wp2_with fail
            refine HRD.out.mono ?_
            rintro e w7 ⟨rfl, f7⟩
            have F7 := Lib.hid (f7.trans (Fr.alloc none_ w7 (.cells #[.int .i64 na, .int .i64 nb, .bool nc, .string nd, .int .u64 (ne : Int)] 36)))
            have R7 := Lib.hid (Row.new w7 #[.int .i64 na, .int .i64 nb, .bool nc, .string nd, .int .u64 (ne : Int)] 36)
            clear f7 p3
            go_wp2_with fail
            refine (HRD2.out _ F7.out).mono ?_
            rintro e w8 ⟨rfl, f8⟩
            have fa := Fr.alloc none_ w8 (.cells #[.int .i64 na, .int .i64 nb, .bool nc, .string nd, .int .u64 (ne : Int)] 67)
            obtain ⟨w9, hw9⟩ : ∃ w9, w9 = w8.alloc (.cells #[.int .i64 na, .int .i64 nb, .bool nc, .string nd, .int .u64 (ne : Int)] 67) := ⟨_, rfl⟩
            have R9 := Row.new w8 #[.int .i64 na, .int .i64 nb, .bool nc, .string nd, .int .u64 (ne : Int)] 67
            rw [← hw9] at R9 fa
            have R79 := R7.out.kept (f8.trans fa) (fun e => e)
            obtain ⟨b7, hb7⟩ : ∃ b7, b7 = w7.heap.size := ⟨_, rfl⟩
            obtain ⟨b8, hb8⟩ : ∃ b8, b8 = w8.heap.size := ⟨_, rfl⟩
            rw [← hb7] at R79
            rw [← hb8] at R9
            have n0 : w9.cell? ⟨b7, 0, none⟩ = some (.int .i64 na) := R79.cell 0
            have n1 : w9.cell? ⟨b7, 1, none⟩ = some (.int .i64 nb) := R79.cell 1
            have n2 : w9.cell? ⟨b7, 2, none⟩ = some (.bool nc) := R79.cell 2
            have n3 : w9.cell? ⟨b7, 3, none⟩ = some (.string nd) := R79.cell 3
            have n4 : w9.cell? ⟨b7, 4, none⟩ = some (.int .u64 (ne : Int)) := R79.cell 4
            have m0 : w9.cell? ⟨b8, 0, none⟩ = some (.int .i64 na) := R9.cell 0
            have m1 : w9.cell? ⟨b8, 1, none⟩ = some (.int .i64 nb) := R9.cell 1
            have m2 : w9.cell? ⟨b8, 2, none⟩ = some (.bool nc) := R9.cell 2
            have m3 : w9.cell? ⟨b8, 3, none⟩ = some (.string nd) := R9.cell 3
            have m4 : w9.cell? ⟨b8, 4, none⟩ = some (.int .u64 (ne : Int)) := R9.cell 4
            have H9 := Lib.hid (H6.out.skip (F7.out.trans (f8.trans fa)))
            have HW9 := Lib.hid hw9.symm
            have HB7 := Lib.hid hb7.symm
            have HB8 := Lib.hid hb8.symm
            clear f8 fa hw9 hb7 hb8 R9 R79
            go_upto_region 21 with fail
            rw [HW9.out, HB7.out, HB8.out]
            go_upto_if 124 with fail
            go_cut [9] (fun u wx => ∃ (b' : Option Addr) (cb' : Nat) (told' : List Nat) (Vs' : List Thing), u = .slice b' told'.length cb' ∧ Hid (told'.length ≤ i + 1 ∧ allLt told') ∧ Hid (PairAt w0 x y c lim (i + 1) t' b' cb' told' Vs' wx) ∧ Hid (r9 = 5 → CopyAt Vs' x2 y2 c lim i t))
            case first =>
              by_cases hr0 : rh = 0
              · have hr0' : ((rh : Int) != 0) = false := by rw [hr0]; rfl
                clear hr0
                go_wp2_with fail
                go_meet
                exact ⟨b, cb, told, Vs, rfl, Lib.hid ⟨Nat.le_succ_of_le htl.out.1, htl.out.2⟩, Lib.hid (by first | exact H9.out | exact H9.out.skip (Fr.drew _ _) | exact H9.out.skip (Fr.drewN _ _ _)), K6⟩
              · have hr0' : ((rh : Int) != 0) = true := by simp; omega
                have HSL := Lib.hid ((H9.out.bag.sl H9.out.tl).kept0 (Fr.alloc none_ w9 (.cells [hvU rh].toArray 34)))
                have RA := Lib.hid (new_cells w9 [hvU rh] 34)
                have HVE := Lib.hid (show [hvU rh].toArray = #[.int .u64 (rh : Int)] from rfl)
                have HTI := Lib.hid htl.out.1
                clear hr0
                go_wp2_with (at_builtin; refine Stop.mk ?_)
                show wpList _ _ _ _ _ _
                rw [← HVE.out]
                refine wpAppend rfl _ _ _ rfl 34 (.int .u64 0) 1 8 Try.underlying28 handleInfo rfl HSL.out rfl ⟨w9.heap.size, 0, none⟩ 1 1 [hvU rh] rfl rfl RA.out (by intro u hu; simp at hu; subst hu; rfl) (by omega) (by have := HTI.out; unfold maxLen; omega) (by have := HTI.out; omega) ?_
                intro b' cb' w10 hs10 f10 hb10
                obtain ⟨Vs', q1, q2⟩ := pair_told H9.out (u := rh) hs10 f10 hb10
                have Q1 := Lib.hid q1
                have Q2 := Lib.hid (show r9 = 5 → CopyAt Vs' x2 y2 c lim i t from fun q => (K6.out q).keep4 q2)
                clear hs10 f10 hb10 q1 q2
                go_wp2_with fail
                go_meet
                exact ⟨b', cb', told ++ [rh], Vs', by rw [List.length_append]; rfl, Lib.hid ⟨by rw [List.length_append]; have := htl.out.1; simp; omega, htl.out.2.more HDL.out⟩, Q1, Q2⟩
            case rest =>
              obtain ⟨b', cb', told', Vs', rfl, htl', hp', hk'⟩ := hcut
              have LK1 := Lib.hid (fun w' (f : Fr none_ wc w') => pair_like (hp'.out.skip f) (by omega) (by have := htl'.out.1; omega) htl'.out.2)
              have LK2' := Lib.hid (fun (q : r9 = 5) w' (f : Fr none_ wc w') => copy_like (hp'.out.skip f) (hk'.out q) (by omega) (by have := htl'.out.1; omega) htl'.out.2)
              have wl : IntKind.i64.wrap ((l.length : Int) - 1) = (l.length : Int) - 1 := IntWalk.i64_in _ (by omega)
              clear hns e1 e2 e3 n0 n1 n2 n3 n4 m0 m1 m2 m3 m4 hk'
              go_upto_region 25 with fail
              go_cut [157] (fun u wx => u = .bool false ∧ Fr none_ wc wx)
              case first =>
                by_cases e5 : r5 = 4
                · have b5 : ((r5 : Int) == 4) = true := by rw [beq_iff_eq]; omega
                  clear e5
                  by_cases e9 : r9 = 5
                  · have b9 : ((r9 : Int) == 5) = true := by rw [beq_iff_eq]; omega
                    have LK2 := Lib.hid (LK2'.out e9)
                    clear e9 LK2'
                    go_wp2_with fail
                    refine (LK1.out _ (Fr.refl none_ wc)).mono ?_
                    rintro e w11 ⟨rfl, f11⟩
                    have F11 := Lib.hid f11
                    clear f11
                    go_wp2_with fail
                    refine (LK2.out _ F11.out).mono ?_
                    rintro e w12 ⟨rfl, f12⟩
                    have F12 := Lib.hid (F11.out.trans f12)
                    clear f12
                    go_wp2_with fail
                    go_meet
                    exact ⟨rfl, F12.out⟩
                  · have b9 : ((r9 : Int) == 5) = false := beq_eq_false_iff_ne.2 (by omega)
                    clear e9 LK2'
                    go_wp2_with fail
                    refine (LK1.out _ (Fr.refl none_ wc)).mono ?_
                    rintro e w11 ⟨rfl, f11⟩
                    have F11 := Lib.hid f11
                    clear f11
                    go_wp2_with fail
                    have F12 := F11
                    go_meet
                    exact ⟨rfl, F12.out⟩
                · have b5 : ((r5 : Int) == 4) = false := beq_eq_false_iff_ne.2 (by omega)
                  clear e5
                  by_cases eL : i + 1 = l.length
                  · have bL : ((i : Int) == (l.length : Int) - 1) = true := by rw [beq_iff_eq]; omega
                    clear eL
                    by_cases e9 : r9 = 5
                    · have b9 : ((r9 : Int) == 5) = true := by rw [beq_iff_eq]; omega
                      have LK2 := Lib.hid (LK2'.out e9)
                      clear e9 LK2'
                      go_wp2_with fail
                      refine (LK1.out _ (Fr.refl none_ wc)).mono ?_
                      rintro e w11 ⟨rfl, f11⟩
                      have F11 := Lib.hid f11
                      clear f11
                      go_wp2_with fail
                      refine (LK2.out _ F11.out).mono ?_
                      rintro e w12 ⟨rfl, f12⟩
                      have F12 := Lib.hid (F11.out.trans f12)
                      clear f12
                      go_wp2_with fail
                      go_meet
                      exact ⟨rfl, F12.out⟩
                    · have b9 : ((r9 : Int) == 5) = false := beq_eq_false_iff_ne.2 (by omega)
                      clear e9 LK2'
                      go_wp2_with fail
                      refine (LK1.out _ (Fr.refl none_ wc)).mono ?_
                      rintro e w11 ⟨rfl, f11⟩
                      have F11 := Lib.hid f11
                      clear f11
                      go_wp2_with fail
                      have F12 := F11
                      go_meet
                      exact ⟨rfl, F12.out⟩
                  · have bL : ((i : Int) == (l.length : Int) - 1) = false := beq_eq_false_iff_ne.2 (by omega)
                    clear eL
                    by_cases e9 : r9 = 5
                    · have b9 : ((r9 : Int) == 5) = true := by rw [beq_iff_eq]; omega
                      have LK2 := Lib.hid (LK2'.out e9)
                      clear e9 LK2'
                      go_wp2_with fail
                      have F11 := Lib.hid (Fr.refl none_ wc)
                      refine (LK2.out _ F11.out).mono ?_
                      rintro e w12 ⟨rfl, f12⟩
                      have F12 := Lib.hid (F11.out.trans f12)
                      clear f12
                      go_wp2_with fail
                      go_meet
                      exact ⟨rfl, F12.out⟩
                    · have b9 : ((r9 : Int) == 5) = false := beq_eq_false_iff_ne.2 (by omega)
                      clear e9 LK2'
                      go_wp2_with fail
                      have F11 := Lib.hid (Fr.refl none_ wc)
                      have F12 := F11
                      go_meet
                      exact ⟨rfl, F12.out⟩
              case rest =>
                obtain ⟨rfl, f9⟩ := hcut
                have HPE := Lib.hid (hp'.out.skip f9)
                clear f9 hp' LK1 LK2'
                go_wp2_with fail
                go_roundw
                case rel => exact ⟨i + 1, b', cb', told', t', Vs', Lib.hid hlt, rfl, by go_num, htl', HPE⟩
                case measure => simp [intOf]; omega
        · have FE := Lib.hid (HF0.out.trans hp.out.bag.fr)
          clear htl hp HP0
          go_wp2_with fail
          refine (HAW.out _ FE.out).mono ?_
          rintro e w5 ⟨rfl, f5⟩
          have F5 := Lib.hid f5
          clear f5
          go_wp2_with fail
          go_ret
          exact ⟨rfl, F5.out⟩
    · have hm' : c.may = false := by simpa using hm
      have HNEW := Lib.hid (fun w' => Chain_New_no w' c hm')
      have HNEW2 := Lib.hid (fun w' (h : Bag w0 [] w') => bg_r17new_no h c hm')
      unfold CfgV.cells at HW0 HCR HNEW HNEW2 ⊢
      clear hm hm'
      go_enter Try.func7, Try.ntmps7
      go_wp2_with fail
      rw [← HW0.out]
      refine (HL1.out _ HF0.out).mono ?_
      rintro e w1 ⟨rfl, rfl⟩
      have f00 := Fr.refl none_ w0
      have k0 := HCR.out _ f00 0 _ rfl
      have k1 := HCR.out _ f00 1 _ rfl
      have k2 := HCR.out _ f00 2 _ rfl
      have k3 := HCR.out _ f00 3 _ rfl
      have k4 := HCR.out _ f00 4 _ rfl
      have k5 := HCR.out _ f00 5 _ rfl
      have k6 := HCR.out _ f00 6 _ rfl
      have k7 := HCR.out _ f00 7 _ rfl
      clear f00
      go_wp2_with fail
      refine (HNEW.out _).mono ?_
      rintro e w3 ⟨rfl, f3⟩
      have F3 := Lib.hid f3
      clear f3 k0 k1 k2 k3 k4 k5 k6 k7
      have k0 := HCR.out _ F3.out 0 _ rfl
      have k1 := HCR.out _ F3.out 1 _ rfl
      have k2 := HCR.out _ F3.out 2 _ rfl
      have k3 := HCR.out _ F3.out 3 _ rfl
      have k4 := HCR.out _ F3.out 4 _ rfl
      have k5 := HCR.out _ F3.out 5 _ rfl
      have k6 := HCR.out _ F3.out 6 _ rfl
      have k7 := HCR.out _ F3.out 7 _ rfl
      go_wp2_with fail
      refine (HNEW2.out _ ((Bag.start w0).keep0 F3.out)).mono ?_
      rintro e w4 ⟨rfl, h4⟩
      have F4 := Lib.hid (HF0.out.trans h4.fr)
      clear h4 k0 k1 k2 k3 k4 k5 k6 k7
      go_wp2_with fail
      refine (HAW.out _ F4.out).mono ?_
      rintro e w5 ⟨rfl, f5⟩
      have F5 := Lib.hid f5
      clear f5
      go_wp2_with fail
      go_ret
      exact ⟨rfl, F5.out⟩
end Go.Proofs.Yteefcfndlggajaa
