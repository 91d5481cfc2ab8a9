/-
  ChainCut: the walk.
-/
import Derived.Test.YteefcfndlggajaaCnBuild
import Derived.Test.YteefcfndlggajaaCnAwake
import Derived.Test.YteefcfndlggajaaCnArgs
import Derived.Deep.RegionHeld3
import Derived.Deep.DeepCutAuto
namespace Go.Proofs.Yteefcfndlggajaa
open Go.RowKit
set_option linter.unusedVariables false
set_option linter.unusedSimpArgs false
set_option maxRecDepth 100000

/-- A chain from the place s on. -/
theorem walk_from {l : List VerV} {hs : List Nat} {f : Nat → Option NV} {s : Nat} (hlen : hs.length = l.length)
    (h1 : ∀ (j : Nat) (v : VerV) (hd : Nat), s ≤ j → l[j]? = some v → hs[j]? = some hd → ∃ n : NV, f hd = some n ∧ n.toVer = v ∧ (s < j → n.nx = prevOf hs j))
    (h2 : ∀ (hd : Nat) (n : NV), hs[s]? = some hd → f hd = some n → ∀ m, cWalk f m n.nx = []) :
    ∀ (d i hd m : Nat), i = s + d → hs[i]? = some hd → d < m → (cWalk f m hd).map NV.toVer = ((l.take (i + 1)).drop s).reverse := by
  intro d
  induction d with
  | zero =>
    intro i hd m hi hh hm
    have hi : i = s := by omega
    subst hi
    have hl : i < l.length := by rw [← hlen]; exact (List.getElem?_eq_some_iff.1 hh).1
    have hv := List.getElem?_eq_getElem hl
    obtain ⟨n, q1, q2, _⟩ := h1 i _ hd (Nat.le_refl _) hv hh
    rw [cWalk_some (by omega) q1, List.map_cons, q2, h2 hd n hh q1, take_more hv, List.drop_append, List.drop_of_length_le (by rw [List.length_take]; omega)]
    rw [List.length_take, show i - min i l.length = 0 by omega]; rfl
  | succ d ih =>
    intro i hd m hi hh hm
    have hl : i < l.length := by rw [← hlen]; exact (List.getElem?_eq_some_iff.1 hh).1
    have hv := List.getElem?_eq_getElem hl
    obtain ⟨n, q1, q2, q3⟩ := h1 i _ hd (by omega) hv hh
    obtain ⟨i, rfl⟩ : ∃ j, i = j + 1 := ⟨i - 1, by omega⟩
    have hp : hs[i]? = some (prevOf hs (i + 1)) := by
      unfold prevOf
      rw [if_neg (by omega), Nat.add_sub_cancel, List.getElem?_eq_getElem (by omega)]; rfl
    rw [cWalk_some (by omega) q1, List.map_cons, q2, q3 (by omega), ih i _ (m - 1) (by omega) hp (by omega), take_more hv, List.drop_append, List.reverse_append]
    rw [List.length_take, show s - min (i + 1) l.length = 0 by omega]; rfl
structure CutR (lim : Nat) (l : List VerV) (hs : List Nat) (t : CS) (K hd tp : Nat) (t1 t2 : CS) : Prop where
  c1 : t.cut hd = (0, t1)
  f2 : t.free hd = (0, t2)
  l1 : (cWalk t1.f t1.s.used tp).map NV.toVer = (l.drop K).reverse
  l2 : (cWalk t2.f t2.s.used tp).map NV.toVer = (l.drop (K + 1)).reverse
  l3 : (cWalk t2.f t2.s.used hd).map NV.toVer = []
  u1 : t1.s.used = l.length
  u2 : t2.s.used = l.length - 1
theorem cut_all {lim : Nat} {l : List VerV} {hs : List Nat} {t : CS} (hB : Built lim l hs t) {K hd tp : Nat} (hh : hs[K]? = some hd) (ht : hs[l.length - 1]? = some tp) : ∃ t1 t2, CutR lim l hs t K hd tp t1 t2 := by
  have hKl : K < l.length := by rw [← hB.len]; exact (List.getElem?_eq_some_iff.1 hh).1
  have hdl := (hB.lt hd (List.mem_of_getElem? hh)).1
  have hvK := List.getElem?_eq_getElem hKl
  have hfd := hB.at_ K _ hd hvK hh
  have hokK := hB.ok _ (List.getElem_mem hKl)
  have hsome : (t.f hd).isSome = true := by rw [hfd]; rfl
  have hndl : ∀ j y, hs[j]? = some y → j ≠ K → y ≠ hd := fun j y hy hne e => by
    subst e
    exact hne ((List.getElem?_inj (List.getElem?_eq_some_iff.1 hy).1 hB.nodup).1 (hy.trans hh.symm))
  have hhd0 := (hB.lt hd (List.mem_of_getElem? hh)).2
  obtain ⟨t1, ht1⟩ : ∃ t1, t1 = t.set hd { (l[K]).nv (prevOf hs K) with nx := 0 } := ⟨_, rfl⟩
  obtain ⟨t2, ht2⟩ : ∃ t2, t2 = (t.free hd).2 := ⟨_, rfl⟩
  have hc1 : t.cut hd = (0, t1) := by unfold CS.cut CS.turn; rw [hfd, ht1]
  have hf2 : t.free hd = (0, t2) := by rw [ht2]; unfold CS.free; rw [hfd]
  have e1 : t1.f = upd t.f hd (some { (l[K]).nv (prevOf hs K) with nx := 0 }) := by rw [ht1]; rfl
  have e2 : t2.f = upd t.f hd none := by rw [ht2]; unfold CS.free; rw [hfd]
  have hn := hB.is_.ok _ _ hfd
  have u1 : t1.s.used = l.length := by rw [ht1, (hB.is_.set hsome hdl (n := { (l[K]).nv (prevOf hs K) with nx := 0 }) ⟨hn.wr, hn.ts, (by show 0 < _; omega), hn.val⟩).2, hB.used]
  have u2 : t2.s.used = l.length - 1 := by
    have h := (hB.is_.free hdl).2.1
    rw [if_pos hsome, hB.used, ← ht2] at h
    omega
  refine ⟨t1, t2, hc1, hf2, ?_, ?_, ?_, u1, u2⟩
  · rw [u1]
    have h := walk_from (l := l) (hs := hs) (f := t1.f) (s := K) hB.len (fun j v y hj hv hy => by
        by_cases e : j = K
        · subst e
          have e3 : y = hd := by have := hy.symm.trans hh; simpa using this
          have e4 : v = l[j] := by have := hv.symm.trans hvK; simpa using this
          subst e3; subst e4
          refine ⟨_, by rw [e1, upd_same], ?_, fun q => absurd q (Nat.lt_irrefl _)⟩
          exact toVer_nv hokK 0
        · exact ⟨_, by rw [e1, upd_other _ _ (hndl j y hy e)]; exact hB.at_ j v y hv hy, toVer_nv (hB.ok _ (List.mem_of_getElem? hv)) _, fun _ => rfl⟩)
      (fun y n hy hfy m => by
        have e3 : y = hd := by have := hy.symm.trans hh; simpa using this
        subst e3
        rw [e1, upd_same] at hfy
        cases hfy
        show cWalk t1.f m 0 = []
        exact cWalk_none (by rw [e1, upd_other _ _ (Ne.symm hhd0)]; exact hB.zero))
      (l.length - 1 - K) (l.length - 1) tp l.length (by omega) ht (by omega)
    rw [h, show l.length - 1 + 1 = l.length by omega, List.take_of_length_le (Nat.le_refl _)]
  · rw [u2]
    by_cases hK : K = l.length - 1
    · have e3 : tp = hd := by rw [hK] at hh; have := ht.symm.trans hh; simpa using this
      subst e3
      rw [cWalk_none (by rw [e2, upd_same]), List.drop_of_length_le (by omega)]; rfl
    · have h := walk_from (l := l) (hs := hs) (f := t2.f) (s := K + 1) hB.len (fun j v y hj hv hy =>
          ⟨_, by rw [e2, upd_other _ _ (hndl j y hy (by omega))]; exact hB.at_ j v y hv hy, toVer_nv (hB.ok _ (List.mem_of_getElem? hv)) _, fun _ => rfl⟩)
        (fun y n hy hfy m => by
          have hyl : K + 1 < l.length := by rw [← hB.len]; exact (List.getElem?_eq_some_iff.1 hy).1
          rw [e2, upd_other _ _ (hndl (K + 1) y hy (by omega)), hB.at_ (K + 1) _ y (List.getElem?_eq_getElem hyl) hy] at hfy
          cases hfy
          show cWalk t2.f m (prevOf hs (K + 1)) = []
          refine cWalk_none ?_
          have : prevOf hs (K + 1) = hd := by
            unfold prevOf
            rw [if_neg (by omega), Nat.add_sub_cancel, hh]; rfl
          rw [this, e2, upd_same])
        (l.length - 1 - (K + 1)) (l.length - 1) tp (l.length - 1) (by omega) ht (by omega)
      rw [h, show l.length - 1 + 1 = l.length by omega, List.take_of_length_le (Nat.le_refl _)]
  · rw [cWalk_none (by rw [e2, upd_same])]; rfl
theorem LsAt.take {α : Type} {w : World} {a : Option Addr} {sz : Nat} {cells : α → List Value} {l : List α} (h : LsAt w a sz cells l) (k : Nat) : LsAt w a sz cells (l.take k) := by
  rcases h with h | ⟨b, o, ha, hb, hc⟩
  · exact Or.inl (by rw [h]; simp)
  · refine Or.inr ⟨b, o, ha, hb, fun i x hx j v hv => hc i x ?_ j v hv⟩
    rw [List.getElem?_take] at hx
    split at hx
    · exact hx
    · cases hx
set_option maxHeartbeats 16000000 in
theorem walk_ChainCut (W : World) (c : CfgV) (_ : c.In) (a : Option Addr) (cap : Nat) (l : List VerV) (st : VersIn W a l) (which : Int) (hwh : (Lit.int .i64 which).wf = true) :
    Calls Try.prog 5 #[.agg c.cells, .slice a l.length cap, .int .i64 which] W fun e w' => e = .returned (.bool true) ∧ Fr none_ W w' := by
  obtain ⟨w0, hw0⟩ : ∃ w0, w0 = W.alloc (.cells c.cells 23) := ⟨_, rfl⟩
  have hb0 : Bag W [tRow W.heap.size c.cells 23] w0 := by
    have h := (Bag.start W).addRow c.cells 23
    rw [← hw0] at h
    exact h
  have HB0 := Lib.hid hb0
  have HL := Lib.hid (fun w' (f : Fr none_ W w') => st.kept f (fun _ _ e => e))
  have HLG := Lib.hid (fun w' (f : Fr none_ W w') => large_any w' a cap l (st.kept f (fun _ _ e => e)))
  have HW0 := Lib.hid hw0
  have HCR := Lib.hid (show ∀ w', Fr none_ w0 w' → ∀ (i : Nat) (u : Value), c.cells[i]? = some u → w'.cell? ⟨W.heap.size, i, none⟩ = some u from fun w' f i u hu => (((hb0.row (i := 0) rfl).kept f (fun e => e)).cell i).trans hu)
  clear hb0
  unfold CfgV.cells at hw0 HW0 HCR ⊢
  by_cases hend : isBigV l = true ∨ l.length = 0
  · have hfin : ∀ w1, Fr none_ W w1 → Calls Try.prog 10 #[] w1 fun e w' => e = .returned (.bool true) ∧ Fr none_ W w' := fun w1 f => (awake_any w1).mono fun e w' ⟨h1, h2⟩ => ⟨h1, f.trans h2⟩
    have HFIN := Lib.hid (hfin w0 HB0.out.fr)
    clear st hfin hw0
    cases hbig : isBigV l with
    | true =>
      rw [hbig] at HLG
      clear hend hbig
      go_enter Try.func5, Try.ntmps5
      go_wp2_with fail
      rw [← HW0.out]
      refine (HLG.out _ HB0.out.fr).mono ?_
      rintro e w1 ⟨rfl, rfl⟩
      go_wp2_with fail
      refine HFIN.out.mono ?_
      rintro e w2 ⟨rfl, f2⟩
      have F2 := Lib.hid f2
      clear f2
      go_wp2_with fail
      go_ret
      exact ⟨rfl, F2.out⟩
    | false =>
      rw [hbig] at HLG
      obtain rfl : l = [] := List.eq_nil_of_length_eq_zero (by
        rcases hend with h | h
        · rw [hbig] at h; cases h
        · exact h)
      simp only [List.length_nil] at HLG ⊢
      clear hend hbig
      go_enter Try.func5, Try.ntmps5
      go_wp2_with fail
      rw [← HW0.out]
      refine (HLG.out _ HB0.out.fr).mono ?_
      rintro e w1 ⟨rfl, rfl⟩
      go_wp2_with fail
      refine HFIN.out.mono ?_
      rintro e w2 ⟨rfl, f2⟩
      have F2 := Lib.hid f2
      clear f2
      go_wp2_with fail
      go_ret
      exact ⟨rfl, F2.out⟩
  · have hbig : isBigV l = false := by
      cases hb : isBigV l with
      | false => rfl
      | true => exact absurd (Or.inl hb) hend
    have hpos : l.length ≠ 0 := fun q => hend (Or.inr q)
    rw [hbig] at HLG
    have HBD := Lib.hid (fun w' (f : Fr none_ W w') => build_any w' c a cap l (st.kept f (fun _ _ e => e)) hbig)
    unfold CfgV.cells at HBD
    obtain ⟨hlen, hvals⟩ := isBigV_no hbig
    have hne0 : ((l.length : Int) == 0) = false := beq_eq_false_iff_ne.2 (by omega)
    obtain ⟨A, hA⟩ : ∃ A : Nat, A = (which % 18446744073709551616).toNat := ⟨_, rfl⟩
    have hAb : A < 18446744073709551616 := by omega
    have hAw : IntKind.u64.wrap which = (A : Int) := by rw [IntKind.wrap_u64]; omega
    obtain ⟨K, hK⟩ : ∃ K : Nat, K = A % l.length := ⟨_, rfl⟩
    have hKl : K < l.length := by rw [hK]; exact Nat.mod_lt _ (by omega)
    have HKE := Lib.hid (show (A : Int) % (l.length : Int) = (K : Int) by rw [hK]; exact (Int.natCast_emod A l.length).symm)
    clear st hend hbig hA hK hwh hvals
    go_enter Try.func5, Try.ntmps5
    go_wp2_with fail
    rw [← HW0.out]
    clear hw0
    refine (HLG.out _ HB0.out.fr).mono ?_
    rintro e w1 ⟨rfl, rfl⟩
    go_wp2_with fail
    refine (awake_any _).mono ?_
    rintro e w2 ⟨rfl, f2⟩
    have HB2 := Lib.hid (HB0.out.keep0 f2)
    have k0 := HCR.out _ f2 0 _ rfl
    have k1 := HCR.out _ f2 1 _ rfl
    have k2 := HCR.out _ f2 2 _ rfl
    have k3 := HCR.out _ f2 3 _ rfl
    have k4 := HCR.out _ f2 4 _ rfl
    have k5 := HCR.out _ f2 5 _ rfl
    have k6 := HCR.out _ f2 6 _ rfl
    have k7 := HCR.out _ f2 7 _ rfl
    clear f2
    go_wp2_with fail
    refine (HBD.out _ HB2.out.fr).mono ?_
    rintro e w3 (⟨rfl, f3⟩ | ⟨x, b, cb, hs, t, rfl, hB, hg⟩)
    · have F3 := Lib.hid (HB2.out.fr.trans f3)
      clear f3 k0 k1 k2 k3 k4 k5 k6 k7
      go_wp2_with fail
      go_ret
      exact ⟨rfl, F3.out⟩
    · have HB := Lib.hid hB
      obtain ⟨hd, hh⟩ : ∃ hd, hs[K]? = some hd := ⟨_, List.getElem?_eq_getElem (by rw [hB.len]; exact hKl)⟩
      obtain ⟨E, hE⟩ : ∃ E, E = l.length - 1 := ⟨_, rfl⟩
      obtain ⟨tp, htp⟩ : ∃ tp, hs[l.length - 1]? = some tp := ⟨_, List.getElem?_eq_getElem (by rw [hB.len]; omega)⟩
      obtain ⟨t1, t2, hC⟩ := cut_all hB hh htp
      have hdl := (hB.lt hd (List.mem_of_getElem? hh)).1
      have htl := (hB.lt tp (List.mem_of_getElem? htp)).1
      rw [← hE] at htp
      have hg := HB2.out.join hg
      have hsl := hg.sl (i := 2) rfl
      obtain ⟨gb, rfl⟩ := hsl.isAddr (by omega)
      have HC := Lib.hid hC
      have HG := Lib.hid hg
      have HDL := Lib.hid hdl
      have HTL := Lib.hid htl
      have HSL := Lib.hid (fun w' (f : SlAt w' (some ⟨gb, 0, none⟩) l.length cb 34 1 (hs.map hvU)) (j y : Nat) (hy : hs[j]? = some y) => f.cell (i := j) (v := hvU y) (by rw [List.getElem?_map, hy]; rfl))
      have HH := Lib.hid hh
      have HTP := Lib.hid htp
      have HEE := Lib.hid hE
      clear hB hg hsl k0 k1 k2 k3 k4 k5 k6 k7 hh htp hC hdl htl hE
      go_upto_region 6 with fail
      go_cut [10] (fun kv wx => kv = .int .i64 (K : Int) ∧ wx = w3)
      case first =>
        go_wp2_with fail
        go_meet
        exact ⟨by rw [HKE.out]; exact congrArg (Value.int .i64) (by first | exact IntWalk.i64_in (K : Int) (by omega) | (unfold wrap64; omega)), rfl⟩
      case rest =>
      obtain ⟨rfl, hwc⟩ := hcut
      have hwc := hwc.symm
      subst hwc
      clear hAw hAb hne0
      have HCP := Lib.hid (bg_copy HG.out (i := 1) rfl)
      go_wp2_with fail
      refine HCP.out.mono ?_
      rintro e w4 ⟨y, rfl, hg4⟩
      have HG4 := Lib.hid (show Bag W [tRow W.heap.size c.cells 23, tEng x c c.valLen.toNat l.length t, tSl (some ⟨gb, 0, none⟩) l.length cb 34 1 (hs.map hvU), tEng y c c.valLen.toNat l.length t] w4 from hg4)
      have s4 : w4.cell? ⟨gb, K, none⟩ = some (.int .u64 (hd : Int)) := HSL.out w4 (HG4.out.sl (i := 2) rfl) K hd HH.out
      have HCT := Lib.hid (bg_cut HG4.out (i := 1) rfl HDL.out)
      rw [HC.out.c1] at HCT
      clear hg4
      go_wp2_with fail
      refine HCT.out.mono ?_
      rintro e w5 ⟨rfl, hg5⟩
      have HG5 := Lib.hid (show Bag W [tRow W.heap.size c.cells 23, tEng x c c.valLen.toNat l.length t1, tSl (some ⟨gb, 0, none⟩) l.length cb 34 1 (hs.map hvU), tEng y c c.valLen.toNat l.length t] w5 from hg5)
      have s5 : w5.cell? ⟨gb, K, none⟩ = some (.int .u64 (hd : Int)) := HSL.out w5 (HG5.out.sl (i := 2) rfl) K hd HH.out
      have HFE := Lib.hid (bg_free HG5.out (i := 3) rfl (by unfold big; omega) HDL.out)
      rw [HC.out.f2] at HFE
      clear hg5 s4
      go_wp2_with fail
      refine HFE.out.mono ?_
      rintro e w6 ⟨rfl, hg6⟩
      have HG6 := Lib.hid (show Bag W [tRow W.heap.size c.cells 23, tEng x c c.valLen.toNat l.length t1, tSl (some ⟨gb, 0, none⟩) l.length cb 34 1 (hs.map hvU), tEng y c c.valLen.toNat l.length t2] w6 from hg6)
      have s6 : w6.cell? ⟨gb, E, none⟩ = some (.int .u64 (tp : Int)) := HSL.out w6 (HG6.out.sl (i := 2) rfl) E tp HTP.out
      have hEl : E < l.length := by have := HEE.out; omega
      have we : IntKind.i64.wrap ((l.length : Int) - 1) = (E : Int) := by rw [show (l.length : Int) - 1 = (E : Int) by have := HEE.out; omega]; exact IntWalk.i64_in _ (by omega)
      have hE1 : E + 1 = l.length := by have := HEE.out; omega
      have hbh := behind_any w6 a cap l (HL.out w6 HG6.out.fr).at_ (by omega) hEl
      rw [hE1, List.take_of_length_le (Nat.le_refl _)] at hbh
      have HBH := Lib.hid hbh
      clear hg6 s5 hbh
      go_wp2_with fail
      refine HBH.out.mono ?_
      rintro e w7 ⟨b7, cb7, rfl, hs7, f7, hb7⟩
      have HG7 := Lib.hid (HG6.out.keep0 f7)
      have hcb : l.length ≤ cb7 := hs7.2.1
      obtain ⟨g7, rfl⟩ := hs7.isAddr (by omega)
      have hls7 := SlAt.ls (cells := VerV.list) (l := l.reverse) (fun _ => rfl) hs7 (by rw [List.length_reverse])
      obtain ⟨D1, hD1⟩ : ∃ D1, D1 = l.length - K := ⟨_, rfl⟩
      obtain ⟨D2, hD2⟩ : ∃ D2, D2 = E - K := ⟨_, rfl⟩
      have wd1 : IntKind.i64.wrap ((l.length : Int) - (K : Int)) = (D1 : Int) := by rw [show (l.length : Int) - (K : Int) = (D1 : Int) by omega]; exact IntWalk.i64_in _ (by omega)
      have wd2 : IntKind.i64.wrap ((E : Int) - (K : Int)) = (D2 : Int) := by rw [show (E : Int) - (K : Int) = (D2 : Int) by omega]; exact IntWalk.i64_in _ (by omega)
      have hd1 : D1 ≤ cb7 := by omega
      have hd2 : D2 ≤ cb7 := by omega
      have el1 : ((l.drop K).reverse).length = D1 := by rw [List.length_reverse, List.length_drop]; omega
      have el2 : ((l.drop (K + 1)).reverse).length = D2 := by rw [List.length_reverse, List.length_drop]; omega
      have et1 : l.reverse.take D1 = (l.drop K).reverse := by rw [List.take_reverse, show l.length - D1 = K by omega]
      have et2 : l.reverse.take D2 = (l.drop (K + 1)).reverse := by rw [List.take_reverse, show l.length - D2 = K + 1 by omega]
      have hm1 := hls7.take D1
      have hm2 := hls7.take D2
      rw [et1] at hm1
      rw [et2] at hm2
      have HM1 := Lib.hid (fun w' (f : Fr none_ w7 w') => hm1.kept0 f)
      have HM2 := Lib.hid (fun w' (f : Fr none_ w7 w') => hm2.kept0 f)
      have hl1 := fun w' (f : Fr none_ w7 w') => bg_list (HG7.out.keep0 f) (i := 1) rfl (by unfold big; omega) HTL.out (by rw [HC.out.u1]; omega) _ HC.out.l1
      have hl2 := fun w' (f : Fr none_ w7 w') => bg_list (HG7.out.keep0 f) (i := 3) rfl (by unfold big; omega) HTL.out (by rw [HC.out.u2]; omega) _ HC.out.l2
      have hl3 := fun w' (f : Fr none_ w7 w') => bg_list (HG7.out.keep0 f) (i := 3) rfl (by unfold big; omega) HDL.out (by rw [HC.out.u2]; omega) _ HC.out.l3
      rw [el1] at hl1
      rw [el2] at hl2
      have HL1 := Lib.hid hl1
      have HL2 := Lib.hid hl2
      have HL3 := Lib.hid hl3
      have HS1 := Lib.hid (fun w' a b ca cb hl hm => Lists_same (w := w') (a := a) (b := b) (ca := ca) (cb := cb) (l := (l.drop K).reverse) D1 el1 hl hm (by omega))
      have HS2 := Lib.hid (fun w' a b ca cb hl hm => Lists_same (w := w') (a := a) (b := b) (ca := ca) (cb := cb) (l := (l.drop (K + 1)).reverse) D2 el2 hl hm (by omega))
      have hu1 := fun w' (f : Fr none_ w7 w') => bg_used (HG7.out.keep0 f) (i := 1) rfl
      have hu2 := fun w' (f : Fr none_ w7 w') => bg_used (HG7.out.keep0 f) (i := 3) rfl
      rw [HC.out.u1] at hu1
      rw [HC.out.u2, show ((l.length - 1 : Nat) : Int) = (E : Int) by rw [HEE.out]] at hu2
      have HU1 := Lib.hid hu1
      have HU2 := Lib.hid hu2
      have s7 : w7.cell? ⟨gb, K, none⟩ = some (.int .u64 (hd : Int)) := HSL.out w7 (HG7.out.sl (i := 2) rfl) K hd HH.out
      have hf7 := Fr.refl none_ w7
      clear hs7 f7 hb7 hls7 hD1 hD2 el1 el2 et1 et2 hm1 hm2 hl1 hl2 hl3 hu1 hu2 s6 hE1
      go_wp2_with fail
      go_region_held3 (fun w' => Fr none_ w7 w' ∧ w'.cell? ⟨gb, K, none⟩ = some (.int .u64 (hd : Int)))
        (first | (go_split_ands; exact ⟨Fr.trans (by assumption) f12, Fr.keep f12 (by assumption)⟩) | (go_split_ands; exact ⟨Fr.trans (by assumption) f11, Fr.keep f11 (by assumption)⟩) | (go_split_ands; exact ⟨Fr.trans (by assumption) f10, Fr.keep f10 (by assumption)⟩) | (go_split_ands; exact ⟨Fr.trans (by assumption) f9, Fr.keep f9 (by assumption)⟩) | (go_split_ands; exact ⟨Fr.trans (by assumption) f8, Fr.keep f8 (by assumption)⟩) | (go_split_ands; exact ⟨Fr.trans (by assumption) (Fr.drew _ _), by assumption⟩) | (go_split_ands; exact ⟨by assumption, by assumption⟩) | go_keep)
        (first
          | (go_at_call 14; (with_reducible refine (HL1.out _ (by exact (‹Fr none_ w7 _ ∧ _›).1)).mono ?_); rintro e w8 ⟨a8, cap8, rfl, l8, f8⟩)
          | (go_at_call 14; (with_reducible refine (HL2.out _ (by exact (‹Fr none_ w7 _ ∧ _›).1)).mono ?_); rintro e w10 ⟨a10, cap10, rfl, l10, f10⟩)
          | (go_at_call 14; (with_reducible refine (HL3.out _ (by exact (‹Fr none_ w7 _ ∧ _›).1)).mono ?_); rintro e w12 ⟨a12, cap12, rfl, l12, f12⟩)
          | (go_at_call 13; (with_reducible refine (HS2.out _ _ _ _ _ l10 (HM2.out _ (by exact (‹Fr none_ w7 _ ∧ _›).1))).mono ?_); rintro e w11 ⟨rfl, f11⟩)
          | (go_at_call 13; (with_reducible refine (HS1.out _ _ _ _ _ l8 (HM1.out _ (by exact (‹Fr none_ w7 _ ∧ _›).1))).mono ?_); rintro e w9 ⟨rfl, f9⟩)
          | (go_at_call 16; (with_reducible refine (HU1.out _ (by exact (‹Fr none_ w7 _ ∧ _›).1)).mono ?_); rintro e w13 ⟨rfl, rfl⟩)
          | (go_at_call 16; (with_reducible refine (HU2.out _ (by exact (‹Fr none_ w7 _ ∧ _›).1)).mono ?_); rintro e w14 ⟨rfl, rfl⟩))
      rename_i hk
      have hF := hk.1
      clear hk
      go_wp2_with fail
      go_ret
      exact ⟨rfl, HG7.out.fr.trans hF⟩
end Go.Proofs.Yteefcfndlggajaa
