/-
  ChainMade: the walk.
-/
import Derived.Test.YteefcfndlggajaaCnBuild
import Derived.Test.YteefcfndlggajaaCnAwake
import Derived.Test.YteefcfndlggajaaCnArgs
import Derived.Deep.RegionHeld3
import Derived.Deep.DeepCutAuto
import Derived.Deep.QuietTactic
import Derived.BigQuiet
namespace Go.Proofs.Yteefcfndlggajaa
open Go.RowKit
set_option linter.unusedVariables false
set_option linter.unusedSimpArgs false
set_option maxRecDepth 100000

/-- Behind i Frees. -/
structure Freed (lim : Nat) (hs : List Nat) (i : Nat) (t : CS) : Prop where
  left : ∀ (j : Nat) (hd : Nat), i ≤ j → hs[j]? = some hd → (t.f hd).isSome = true
  used : t.s.used = hs.length - i
theorem Built.freed {lim : Nat} {l : List VerV} {hs : List Nat} {t : CS} (h : Built lim l hs t) : Freed lim hs 0 t :=
  ⟨fun j hd _ hj => by
    have hl : j < l.length := by rw [← h.len]; exact (List.getElem?_eq_some_iff.1 hj).1
    rw [h.at_ j _ hd (List.getElem?_eq_getElem hl) hj]; rfl, by rw [h.used, h.len]; rfl⟩
theorem Freed.step {lim N : Nat} {hs : List Nat} {i hd : Nat} {t : CS} (h : Freed lim hs i t) (hi : t.Is lim N) (hn : hs.Nodup) (hh : hs[i]? = some hd) (hl : hd < 18446744073709551616) : (t.free hd).1 = 0 ∧ Freed lim hs (i + 1) (t.free hd).2 := by
  have hsome := h.left i hd (Nat.le_refl _) hh
  obtain ⟨n, hf⟩ := Option.isSome_iff_exists.1 hsome
  have hu := (hi.free hl).2.1
  have hil := (List.getElem?_eq_some_iff.1 hh).1
  rw [if_pos hsome, h.used] at hu
  refine ⟨by unfold CS.free; rw [hf], fun j y hj hy => ?_, by omega⟩
  have hne : y ≠ hd := fun e => by
    subst e
    have := (List.getElem?_inj hil hn).1 (hh.trans hy.symm)
    omega
  have e : (t.free hd).2.f = upd t.f hd none := by unfold CS.free; rw [hf]
  rw [e, upd_other _ _ hne]
  exact h.left j y (by omega) hy
set_option maxHeartbeats 16000000 in
theorem walk_ChainMade (W : World) (c : CfgV) (_ : c.In) (a : Option Addr) (cap : Nat) (l : List VerV) (st : VersIn W a l) :
    Calls Try.prog 3 #[.agg c.cells, .slice a l.length cap] W fun e w' => e = .returned (.bool true) ∧ Fr none_ W w' := by
  have fB := Lib.hid (Fr.alloc none_ W (.cells c.cells 23))
  have RB := Lib.hid (Row.new W c.cells 23)
  have HL := Lib.hid (fun w' (f : Fr none_ W w') => st.kept f (fun _ _ e => e))
  have HLG := Lib.hid (fun w' (f : Fr none_ W w') => large_any w' a cap l (st.kept f (fun _ _ e => e)))
  cases hbig : isBigV l with
  | true =>
    rw [hbig] at HLG
    unfold CfgV.cells at fB ⊢
    clear st hbig
    go_enter Try.func3, Try.ntmps3
    go_wp2_with fail
    refine (HLG.out _ fB.out).mono ?_
    rintro e w1 ⟨rfl, rfl⟩
    go_wp2_with fail
    refine (awake_any _).mono ?_
    rintro e w2 ⟨rfl, f2⟩
    have F2 := Lib.hid f2
    clear f2
    go_wp2_with fail
    go_ret
    exact ⟨rfl, fB.out.trans F2.out⟩
  | false =>
    rw [hbig] at HLG
    have HBD := Lib.hid (fun w' (f : Fr none_ W w') => build_any w' c a cap l (st.kept f (fun _ _ e => e)) hbig)
    have HCR := Lib.hid (show ∀ w', Fr none_ (W.alloc (.cells c.cells 23)) w' → ∀ (i : Nat) (v : Value), c.cells[i]? = some v → w'.cell? ⟨W.heap.size, i, none⟩ = some v from fun w' f i v hv => ((RB.out.kept f (fun e => e)).cell i).trans hv)
    have hlen := (isBigV_no hbig).1
    unfold CfgV.cells at fB HBD HCR ⊢
    clear st hbig RB
    go_enter Try.func3, Try.ntmps3
    go_wp2_with fail
    refine (HLG.out _ fB.out).mono ?_
    rintro e w1 ⟨rfl, rfl⟩
    go_wp2_with fail
    refine (awake_any _).mono ?_
    rintro e w2 ⟨rfl, f2⟩
    have F2 := Lib.hid (fB.out.trans f2)
    have k0 := HCR.out _ f2 0 _ rfl
    have k1 := HCR.out _ f2 1 _ rfl
    have k2 := HCR.out _ f2 2 _ rfl
    have k3 := HCR.out _ f2 3 _ rfl
    have k4 := HCR.out _ f2 4 _ rfl
    have k5 := HCR.out _ f2 5 _ rfl
    have k6 := HCR.out _ f2 6 _ rfl
    have k7 := HCR.out _ f2 7 _ rfl
    clear f2
    go_wp2_with fail
    refine (HBD.out _ F2.out).mono ?_
    rintro e w3 (⟨rfl, f3⟩ | ⟨x, b, cb, hs, t, rfl, hB, hg⟩)
    · have F3 := Lib.hid (F2.out.trans f3)
      clear f3 k0 k1 k2 k3 k4 k5 k6 k7
      go_wp2_with fail
      go_ret
      exact ⟨rfl, F3.out⟩
    · have HB := Lib.hid hB
      have HG := Lib.hid hg
      have HFB := Lib.hid (fun w' (f : Fr none_ w2 w') => HL.out w' (F2.out.trans f))
      clear hB hg k0 k1 k2 k3 k4 k5 k6 k7
      go_wp2_with fail
      go_loopw [8] (fun iv wr => ∃ i : Nat, Hid (i ≤ l.length) ∧ iv = .int .i64 (i : Int) ∧ Hid (Bag w2 [tEng x c c.valLen.toNat l.length t, tSl b l.length cb 34 1 (hs.map hvU)] wr)) (fun iv _ => l.length - (intOf iv).toNat)
      case atStart => exact ⟨0, Nat.zero_le _, rfl, HG.out⟩
      case round =>
        obtain ⟨i, hi, rfl, hg⟩ := hrel
        by_cases hlt : i < l.length
        · obtain ⟨v, hv⟩ : ∃ v, l[i]? = some v := ⟨_, List.getElem?_eq_getElem hlt⟩
          obtain ⟨hd, hh⟩ : ∃ hd, hs[i]? = some hd := ⟨_, List.getElem?_eq_getElem (by rw [HB.out.len]; exact hlt)⟩
          have hvo := HB.out.ok v (List.mem_of_getElem? hv)
          have hdl := (HB.out.lt hd (List.mem_of_getElem? hh)).1
          have hsl := hg.out.sl (i := 1) rfl
          obtain ⟨gb, rfl⟩ := hsl.isAddr (by omega)
          have HSL := Lib.hid (fun w' (f : Fr none_ wr w') (j y : Nat) (hy : hs[j]? = some y) => ((hsl.kept0 f).cell (i := j) (v := hvU y) (by rw [List.getElem?_map, hy]; rfl)))
          have s0 : wr.cell? ⟨gb, i, none⟩ = some (.int .u64 (hd : Int)) := HSL.out wr (Fr.refl _ _) i hd hh
          have hrd := bg_read hg.out (i := 0) rfl hdl
          rw [HB.out.at_ i v hd hv hh] at hrd
          have hnc := VerV.nv_cells hvo (prevOf hs i)
          have HRD := Lib.hid (show Calls Try.prog 12 #[.pointer (some ⟨x, 0, none⟩), .int .u64 (hd : Int)] wr fun e w' => e = .returned (.tuple #[.agg #[.int .i64 v.wr, .int .i64 v.ts, .bool v.tomb, .string v.val, .int .u64 (prevOf hs i : Int)], .bool true]) ∧ Fr none_ wr w' by rw [← hnc]; exact hrd)
          have HWK := Lib.hid (HB.out.walk i hd l.length hh hlt)
          have HV := Lib.hid hv
          have HH := Lib.hid hh
          have hne := fun w' => ver_ne v v w'
          rw [show @decide (v = v) (Classical.propDecidable _) = true from @decide_eq_true _ (Classical.propDecidable _) rfl] at hne
          clear hsl hrd hnc hvo hv hh
          go_wp2_with fail
          refine HRD.out.mono ?_
          rintro e w4 ⟨rfl, f4⟩
          obtain ⟨p, hp⟩ : ∃ p, p = prevOf hs i := ⟨_, rfl⟩
          rw [← hp]
          have RN := Lib.hid (Row.new w4 #[.int .i64 v.wr, .int .i64 v.ts, .bool v.tomb, .string v.val, .int .u64 (p : Int)] 36)
          have F4 := Lib.hid (f4.trans (Fr.alloc none_ w4 (.cells #[.int .i64 v.wr, .int .i64 v.ts, .bool v.tomb, .string v.val, .int .u64 (p : Int)] 36)))
          obtain ⟨w5, hw5⟩ : ∃ w5, w5 = w4.alloc (.cells #[.int .i64 v.wr, .int .i64 v.ts, .bool v.tomb, .string v.val, .int .u64 (p : Int)] 36) := ⟨_, rfl⟩
          obtain ⟨nb, hnb⟩ : ∃ nb, nb = w4.heap.size := ⟨_, rfl⟩
          rw [← hw5] at RN F4
          rw [← hnb] at RN
          have HW5 := Lib.hid hw5.symm
          have HNB := Lib.hid hnb.symm
          have HP := Lib.hid hp
          clear f4 hw5 hnb hp
          go_upto_if 48 with fail
          rw [HW5.out, HNB.out]
          go_cut [11] (fun u wx => u = .int .u64 (p : Int) ∧ wx = w5)
          case first =>
            by_cases hi0 : i = 0
            · subst hi0
              have hp0 : (p : Int) = 0 := by rw [HP.out]; rfl
              have HP0 := Lib.hid hp0
              clear hp0
              go_wp2_with fail
              go_meet
              exact ⟨by rw [HP0.out], rfl⟩
            · obtain ⟨j, rfl⟩ : ∃ j, i = j + 1 := ⟨i - 1, by omega⟩
              have e1 : ((j + 1 : Nat) : Int) - 1 = (j : Int) := by omega
              have hpj : hs[j]? = some p := by
                rw [HP.out]
                unfold prevOf
                rw [if_neg (by omega), Nat.add_sub_cancel, List.getElem?_eq_getElem (by rw [HB.out.len]; omega)]; rfl
              have s1 : w5.cell? ⟨gb, j, none⟩ = some (.int .u64 (p : Int)) := HSL.out w5 F4.out j p hpj
              have hjl : j < l.length := by omega
              have w1' : IntKind.i64.wrap (((j + 1 : Nat) : Int) - 1) = (j : Int) := by rw [e1]; exact IntWalk.i64_in _ (by omega)
              have w2' : IntKind.i64.wrap ((j : Int) + 1 - 1) = (j : Int) := by rw [show (j : Int) + 1 - 1 = (j : Int) by omega]; exact IntWalk.i64_in _ (by omega)
              have w3' : (j : Int) + 1 - 1 = (j : Int) := by omega
              clear hpj
              go_wp2_with fail
              go_meet
              exact ⟨rfl, rfl⟩
          case rest =>
            obtain ⟨rfl, hwc⟩ := hcut
            have hwc := hwc.symm
            subst hwc
            have n0 : w5.cell? ⟨nb, 0, none⟩ = some (.int .i64 v.wr) := RN.out.cell 0
            have n1 : w5.cell? ⟨nb, 1, none⟩ = some (.int .i64 v.ts) := RN.out.cell 1
            have n2 : w5.cell? ⟨nb, 2, none⟩ = some (.bool v.tomb) := RN.out.cell 2
            have n3 : w5.cell? ⟨nb, 3, none⟩ = some (.string v.val) := RN.out.cell 3
            have n4 : w5.cell? ⟨nb, 4, none⟩ = some (.int .u64 (p : Int)) := RN.out.cell 4
            have hin := HFB.out w5 (hg.out.fr.trans F4.out)
            obtain ⟨gl, ol, rfl, hgl, hcl⟩ := hin.at_.get HV.out
            have q0 : w5.cell? ⟨gl, ol + i * 4, none⟩ = some (.int .i64 v.wr) := hcl i v HV.out 0 _ rfl
            have q1 : w5.cell? ⟨gl, ol + i * 4 + 1, none⟩ = some (.int .i64 v.ts) := hcl i v HV.out 1 _ rfl
            have q2 : w5.cell? ⟨gl, ol + i * 4 + 2, none⟩ = some (.bool v.tomb) := hcl i v HV.out 2 _ rfl
            have q3 : w5.cell? ⟨gl, ol + i * 4 + 3, none⟩ = some (.string v.val) := hcl i v HV.out 3 _ rfl
            have s5 : w5.cell? ⟨gb, i, none⟩ = some (.int .u64 (hd : Int)) := F4.out.keep s0
            have HLV := Lib.hid (fun w' (f : Fr none_ w5 w') => hin.at_.kept0 f)
            have HG5 := Lib.hid (hg.out.keep0 F4.out)
            obtain ⟨n, hn⟩ : ∃ n, n = l.length := ⟨_, rfl⟩
            have HLI := Lib.hid (fun w' (f : Fr none_ w5 w') => bg_list (HG5.out.keep0 f) (i := 0) rfl (by unfold big; omega) hdl (by rw [HB.out.used]; omega) ((l.take (i + 1)).reverse) (by rw [HB.out.used]; exact HWK.out))
            have hrl : ((l.take (i + 1)).reverse).length = i + 1 := by rw [List.length_reverse, List.length_take]; omega
            rw [hrl] at HLI
            have HBH := Lib.hid (fun w' (f : Fr none_ w5 w') => behind_any w' (some ⟨gl, ol, none⟩) cap l (hin.at_.kept0 f) (by omega) hlt)
            have HSM := Lib.hid (fun w' a b ca cb hl hm => Lists_same (w := w') (a := a) (b := b) (ca := ca) (cb := cb) (l := (l.take (i + 1)).reverse) (i + 1) hrl hl hm (by omega))
            have HRL := Lib.hid hrl
            have hf5 := Fr.refl none_ w5
            clear hrl hin hcl
            go_upto_region 13 with fail
            go_cut [83] (fun u wx => u = .bool false ∧ Fr none_ w5 wx)
            case first =>
              go_region_held3 (fun w' => Fr none_ w5 w' ∧ w'.cell? ⟨nb, 0, none⟩ = some (.int .i64 v.wr) ∧ w'.cell? ⟨nb, 1, none⟩ = some (.int .i64 v.ts) ∧ w'.cell? ⟨nb, 2, none⟩ = some (.bool v.tomb) ∧ w'.cell? ⟨nb, 3, none⟩ = some (.string v.val) ∧ w'.cell? ⟨nb, 4, none⟩ = some (.int .u64 (p : Int)) ∧ w'.cell? ⟨gl, ol + i * 4, none⟩ = some (.int .i64 v.wr) ∧ w'.cell? ⟨gl, ol + i * 4 + 1, none⟩ = some (.int .i64 v.ts) ∧ w'.cell? ⟨gl, ol + i * 4 + 2, none⟩ = some (.bool v.tomb) ∧ w'.cell? ⟨gl, ol + i * 4 + 3, none⟩ = some (.string v.val) ∧ w'.cell? ⟨gb, i, none⟩ = some (.int .u64 (hd : Int)))
                (first | (go_split_ands; refine ⟨?_, ?_, ?_, ?_, ?_, ?_, ?_, ?_, ?_, ?_, ?_⟩; exact Fr.trans (by assumption) f8; all_goals exact Fr.keep f8 (by assumption)) | (go_split_ands; refine ⟨?_, ?_, ?_, ?_, ?_, ?_, ?_, ?_, ?_, ?_, ?_⟩; exact Fr.trans (by assumption) f7; all_goals exact Fr.keep f7 (by assumption)) | (go_split_ands; refine ⟨?_, ?_, ?_, ?_, ?_, ?_, ?_, ?_, ?_, ?_, ?_⟩; exact Fr.trans (by assumption) f6; all_goals exact Fr.keep f6 (by assumption)) | (go_split_ands; refine ⟨?_, ?_, ?_, ?_, ?_, ?_, ?_, ?_, ?_, ?_, ?_⟩; exact Fr.trans (by assumption) (Fr.drew _ _); all_goals assumption) | go_keep)
                (first
                  | (go_at_call 14; refine (HLI.out _ (by exact (‹Fr none_ w5 _ ∧ _›).1)).mono ?_; rintro e w6 ⟨a6, cap6, rfl, l6, f6⟩)
                  | (go_at_call 15; refine (HBH.out _ (by exact (‹Fr none_ w5 _ ∧ _›).1)).mono ?_; rintro e w7 ⟨a7, cap7, rfl, l7, f7, _⟩)
                  | (go_at_call 13; refine (HSM.out _ _ _ _ _ (by first | exact l6 | exact l6.kept0 f7) (by first | exact l7.ls (fun _ => rfl) HRL.out.symm | exact (l7.ls (fun _ => rfl) HRL.out.symm).kept0 f6)).mono ?_; rintro e w8 ⟨rfl, f8⟩))
              all_goals (rename_i hk; have hF := hk.1; clear hk; go_wp2_with fail; go_meet; exact ⟨rfl, hF⟩)
            case rest =>
              obtain ⟨rfl, h9⟩ := hcut
              have HBW := Lib.hid (HG5.out.keep0 h9)
              have HSW := Lib.hid (fun j y hy => HSL.out wc (F4.out.trans h9) j y hy)
              have H9 := Lib.hid h9
              clear n0 n1 n2 n3 n4 q0 q1 q2 q3 s5 s0 h9 hf5 hgl hne
              go_wp2_with fail
              go_loopw [12] (fun kv wr2 => ∃ k q : Nat, Hid (k ≤ i) ∧ kv = .int .i64 (k : Int) ∧ wr2 = wc.drewN q) (fun kv _ => i - (intOf kv).toNat)
              case atStart => exact ⟨0, 0, Nat.zero_le _, rfl, rfl⟩
              case round =>
                obtain ⟨k, q, hk, rfl, rfl⟩ := hrel
                by_cases hki : k < i
                · obtain ⟨y, hy⟩ : ∃ y, hs[k]? = some y := ⟨_, List.getElem?_eq_getElem (by rw [HB.out.len]; omega)⟩
                  have hyd : y ≠ hd := fun e => by
                    subst e
                    have := (List.getElem?_inj (List.getElem?_eq_some_iff.1 hy).1 HB.out.nodup).1 (hy.trans HH.out.symm)
                    omega
                  have u0 : wc.cell? ⟨gb, k, none⟩ = some (.int .u64 (y : Int)) := HSW.out k y hy
                  have u1 : wc.cell? ⟨gb, i, none⟩ = some (.int .u64 (hd : Int)) := HSW.out i hd HH.out
                  have heq : ((y : Int) == (hd : Int)) = false := beq_eq_false_iff_ne.2 (by omega)
                  have hkl : k < l.length := by omega
                  clear hy hyd
                  go_wp2_with fail
                  go_quiet (fail)
                  go_wp2_with fail
                  go_roundw
                  case rel => exact ⟨k + 1, _, hki, by go_num, rfl⟩
                  case measure => simp [intOf]; omega
                · go_wp2_with fail
                  go_roundw
                  case rel => exact ⟨i + 1, hlt, by go_num, HBW.out.keep0 (Fr.drewN none_ _ _)⟩
                  case measure => simp [intOf]; omega
        · have hie : i = l.length := by have := hi.out; omega
          subst hie
          have HU := Lib.hid (bg_used hg.out (i := 0) rfl)
          rw [HB.out.used] at HU
          have HGL := Lib.hid hg.out
          go_wp2_with fail
          refine HU.out.mono ?_
          rintro e w4 ⟨rfl, rfl⟩
          go_wp2_with fail
          obtain ⟨n, hn⟩ : ∃ n, n = l.length := ⟨_, rfl⟩
          have HN := Lib.hid hn
          have HF0 := Lib.hid HB.out.freed
          go_loopw [13] (fun iv wr => ∃ (i : Nat) (t' : CS), Hid (i ≤ l.length) ∧ iv = .int .i64 (i : Int) ∧ Hid (Freed c.valLen.toNat hs i t') ∧ Hid (Bag w2 [tEng x c c.valLen.toNat l.length t', tSl b l.length cb 34 1 (hs.map hvU)] wr)) (fun iv _ => l.length - (intOf iv).toNat)
          case atStart => exact ⟨0, t, Nat.zero_le _, rfl, HF0.out, HGL.out⟩
          case round =>
            obtain ⟨i, t', hi, rfl, hfr, hg⟩ := hrel
            by_cases hlt : i < l.length
            · obtain ⟨hd, hh⟩ : ∃ hd, hs[i]? = some hd := ⟨_, List.getElem?_eq_getElem (by rw [HB.out.len]; exact hlt)⟩
              have hdl := (HB.out.lt hd (List.mem_of_getElem? hh)).1
              have hsl := hg.out.sl (i := 1) rfl
              obtain ⟨gb, rfl⟩ := hsl.isAddr (by omega)
              have HSL := Lib.hid (fun w' (f : Fr none_ wr w') => ((hsl.kept0 f).cell (i := i) (v := hvU hd) (by rw [List.getElem?_map, hh]; rfl)))
              have s0 : wr.cell? ⟨gb, i, none⟩ = some (.int .u64 (hd : Int)) := HSL.out wr (Fr.refl _ _)
              obtain ⟨m, hm⟩ := Option.isSome_iff_exists.1 (hfr.out.left i hd (Nat.le_refl _) hh)
              have hrd := bg_read hg.out (i := 0) rfl hdl
              rw [hm] at hrd
              have HRD := Lib.hid (show Calls Try.prog 12 #[.pointer (some ⟨x, 0, none⟩), .int .u64 (hd : Int)] wr fun e w' => e = .returned (.tuple #[.agg #[.int .i64 (m.wr : Int), .int .i64 (m.ts : Int), .bool m.tomb, .string m.val, .int .u64 (m.nx : Int)], .bool true]) ∧ Fr none_ wr w' from hrd)
              have his : ∃ F, Cn F wr x c c.valLen.toNat l.length t' := hg.out.eng (i := 0) rfl
              obtain ⟨F0, hF0⟩ := his
              obtain ⟨e0, hfr'⟩ := hfr.out.step hF0.is_ HB.out.nodup hh hdl
              have HFE := Lib.hid (fun w' (f : Fr none_ wr w') => bg_free (hg.out.keep0 f) (i := 0) rfl (by unfold big; omega) hdl)
              rw [e0] at HFE
              have hus := hfr'.used
              rw [HB.out.len] at hus
              have HUS := Lib.hid (show ((t'.free hd).2.s.used : Int) = (l.length : Int) - 1 - (i : Int) by omega)
              have HFR := Lib.hid hfr'
              generalize (t'.free hd).2 = t2 at HFE HUS HFR
              have wr1 : IntKind.i64.wrap ((l.length : Int) - 1) = (l.length : Int) - 1 := IntWalk.i64_in _ (by omega)
              have wr2 : IntKind.i64.wrap ((l.length : Int) - 1 - (i : Int)) = (l.length : Int) - 1 - (i : Int) := IntWalk.i64_in _ (by omega)
              clear hsl hrd hm hh hF0 e0 hfr' hus F0 hn
              go_wp2_with fail
              refine HRD.out.mono ?_
              rintro e w4 ⟨rfl, f4⟩
              have F4 := Lib.hid (f4.trans (Fr.alloc none_ w4 (.cells #[.int .i64 (m.wr : Int), .int .i64 (m.ts : Int), .bool m.tomb, .string m.val, .int .u64 (m.nx : Int)] 36)))
              have s1 := HSL.out _ F4.out
              clear f4 s0
              go_wp2_with fail
              refine (HFE.out _ F4.out).mono ?_
              rintro e w6 ⟨rfl, hg6⟩
              have HG6 := Lib.hid (show Bag w2 [tEng x c c.valLen.toNat l.length t2, tSl (some ⟨gb, 0, none⟩) l.length cb 34 1 (hs.map hvU)] w6 from hg6)
              have HU6 := Lib.hid (bg_used HG6.out (i := 0) rfl)
              rw [HUS.out] at HU6
              clear hg6 s1
              go_wp2_with fail
              refine HU6.out.mono ?_
              rintro e w7 ⟨rfl, rfl⟩
              go_wp2_with fail
              go_roundw
              case rel => exact ⟨i + 1, t2, hlt, by go_num, HFR.out, HG6.out⟩
              case measure => simp [intOf]; omega
            · have HF := Lib.hid (F2.out.trans hg.out.fr)
              go_wp2_with fail
              go_ret
              exact ⟨rfl, HF.out⟩
end Go.Proofs.Yteefcfndlggajaa
