/-
  ChainCopies: the walk.
-/
import Derived.Test.YteefcfndlggajaaCnStep
import Derived.Deep.RegionHeld3
import Derived.Deep.DeepCutAuto
import Derived.Deep.QuietTactic
import Derived.BigQuiet
namespace Go.Proofs.Yteefcfndlggajaa
open Go.RowKit
set_option linter.unusedVariables false
set_option linter.unusedSimpArgs false
set_option maxRecDepth 100000

theorem node_same2 (a b : Int) (c : Bool) (d : ByteArray) (e : Int) (w : World) : (binOp .neq 36 (.agg #[.int .i64 a, .int .i64 b, .bool c, .string d, .int .u64 e]) (.agg #[.int .i64 a, .int .i64 b, .bool c, .string d, .int .u64 e])).run Try.prog w = .ok (.bool false) w := by
  rw [run_neq_struct, run_equalIn_agg w _ _ _ _ (by kernel_rfl) (by kernel_rfl)]
  simp [Program.fieldsOf, Try.underlying36, Try.underlying32, Op.eqFields, go_sem]
theorem Bag.addMade {W w : World} {Ts : List Thing} (h : Bag W Ts w) (e : TypeId) (size : Nat) : Bag W (Ts ++ [tSl (some ⟨w.heap.size, 0, none⟩) 0 0 e size []]) (w.alloc (.cells #[] e)) :=
  h.add (F := blk (some ⟨w.heap.size, 0, none⟩)) (Fr.alloc none_ w _) ⟨SlAt.made' w e size, rfl⟩ (fun k hk => by rw [blk_some] at hk; omega)
set_option maxHeartbeats 16000000 in
theorem walk_ChainCopies (W : World) (c : CfgV) (_ : c.In) (a : Option Addr) (cap : Nat) (l : List StepC) (st : StepsIn W a l) (a2 : Option Addr) (cap2 : Nat) (m : List StepC) (st2 : StepsIn W a2 m) :
    Calls Try.prog 8 #[.agg c.cells, .slice a l.length cap, .slice a2 m.length cap2] W fun e w' => e = .returned (.bool true) ∧ Fr none_ W w' := by
  obtain ⟨w0, hw0⟩ : ∃ w0, w0 = W.alloc (.cells c.cells 23) := ⟨_, rfl⟩
  have hf0 : Fr none_ W w0 := by rw [hw0]; exact Fr.alloc none_ W _
  have HF0 := Lib.hid hf0
  have HW0 := Lib.hid hw0
  have HL1 := Lib.hid (fun w' (f : Fr none_ W w') => long_any w' a cap l (st.kept f (fun _ _ e => e)))
  have HL2 := Lib.hid (fun w' (f : Fr none_ W w') => long_any w' a2 cap2 m (st2.kept f (fun _ _ e => e)))
  have HLA := Lib.hid (fun w' (f : Fr none_ W w') => (st.kept f (fun _ _ e => e)).at_)
  have HLB := Lib.hid (fun w' (f : Fr none_ W w') => (st2.kept f (fun _ _ e => e)).at_)
  have HOKA := Lib.hid st.ok
  have HOKB := Lib.hid st2.ok
  have hlen := st.len
  have hlen2 := st2.len
  have HCR := Lib.hid (show ∀ w', Fr none_ w0 w' → ∀ (i : Nat) (u : Value), c.cells[i]? = some u → w'.cell? ⟨W.heap.size, i, none⟩ = some u from fun w' f i u hu => by
    have r : Row w0 W.heap.size c.cells 23 := by rw [hw0]; exact Row.new W _ _
    exact ((r.kept f (fun e => e)).cell i).trans hu)
  have HAW := Lib.hid (fun w1 (f : Fr none_ W w1) => (awake_any w1).mono fun e w' (h : e = .returned (.bool true) ∧ Fr none_ w1 w') => And.intro h.1 (f.trans h.2))
  clear st st2 hf0
  by_cases hbad : isLongS l = true ∨ isLongS m = true ∨ 60 < l.length ∨ 30 < m.length
  · unfold CfgV.cells at hw0 HW0 HCR ⊢
    clear hw0
    cases h1 : isLongS l with
    | true =>
      rw [h1] at HL1
      clear h1 hbad
      go_enter Try.func8, Try.ntmps8
      go_wp2_with fail
      rw [← HW0.out]
      refine (HL1.out _ HF0.out).mono ?_
      rintro e w1 ⟨rfl, rfl⟩
      go_wp2_with fail
      refine (HAW.out _ HF0.out).mono ?_
      rintro e w2 ⟨rfl, f2⟩
      have F2 := Lib.hid f2
      clear f2
      go_wp2_with fail
      go_ret
      exact ⟨rfl, F2.out⟩
    | false =>
      rw [h1] at HL1 hbad
      clear h1
      cases h2 : isLongS m with
      | true =>
        rw [h2] at HL2
        clear h2 hbad
        go_enter Try.func8, Try.ntmps8
        go_wp2_with fail
        rw [← HW0.out]
        refine (HL1.out _ HF0.out).mono ?_
        rintro e w1 ⟨rfl, rfl⟩
        go_wp2_with fail
        refine (HL2.out _ HF0.out).mono ?_
        rintro e w1 ⟨rfl, rfl⟩
        go_wp2_with fail
        refine (HAW.out _ HF0.out).mono ?_
        rintro e w2 ⟨rfl, f2⟩
        have F2 := Lib.hid f2
        clear f2
        go_wp2_with fail
        go_ret
        exact ⟨rfl, F2.out⟩
      | false =>
        rw [h2] at HL2 hbad
        clear h2
        by_cases h3 : 60 < l.length
        · have h3' : (60 : Int) < (l.length : Int) := by omega
          clear hbad
          go_enter Try.func8, Try.ntmps8
          go_wp2_with fail
          rw [← HW0.out]
          refine (HL1.out _ HF0.out).mono ?_
          rintro e w1 ⟨rfl, rfl⟩
          go_wp2_with fail
          refine (HL2.out _ HF0.out).mono ?_
          rintro e w1 ⟨rfl, rfl⟩
          go_wp2_with fail
          refine (HAW.out _ HF0.out).mono ?_
          rintro e w2 ⟨rfl, f2⟩
          have F2 := Lib.hid f2
          clear f2
          go_wp2_with fail
          go_ret
          exact ⟨rfl, F2.out⟩
        · have h3' : ¬ (60 : Int) < (l.length : Int) := by omega
          have h4' : (30 : Int) < (m.length : Int) := by simp at hbad; omega
          clear hbad
          go_enter Try.func8, Try.ntmps8
          go_wp2_with fail
          rw [← HW0.out]
          refine (HL1.out _ HF0.out).mono ?_
          rintro e w1 ⟨rfl, rfl⟩
          go_wp2_with fail
          refine (HL2.out _ HF0.out).mono ?_
          rintro e w1 ⟨rfl, rfl⟩
          go_wp2_with fail
          refine (HAW.out _ HF0.out).mono ?_
          rintro e w2 ⟨rfl, f2⟩
          have F2 := Lib.hid f2
          clear f2
          go_wp2_with fail
          go_ret
          exact ⟨rfl, F2.out⟩
  · have h1 : isLongS l = false := by
      cases hb : isLongS l with
      | false => rfl
      | true => exact absurd (Or.inl hb) hbad
    have h2 : isLongS m = false := by
      cases hb : isLongS m with
      | false => rfl
      | true => exact absurd (Or.inr (Or.inl hb)) hbad
    have h3 : ¬ 60 < l.length := fun q => hbad (Or.inr (Or.inr (Or.inl q)))
    have h4 : ¬ 30 < m.length := fun q => hbad (Or.inr (Or.inr (Or.inr q)))
    have h3' : ¬ (60 : Int) < (l.length : Int) := by omega
    have h4' : ¬ (30 : Int) < (m.length : Int) := by omega
    have HSA := Lib.hid (isLongS_no h1).2
    have HSB := Lib.hid (isLongS_no h2).2
    rw [h1] at HL1
    rw [h2] at HL2
    clear h1 h2 hbad hw0 hlen hlen2
    by_cases hm : c.may = true
    · have hok : c.Ok := @of_decide_eq_true _ (Classical.propDecidable _) hm
      have h6 : 0 ≤ c.valLen ∧ c.valLen ≤ 256 := hok 6 (by omega)
      obtain ⟨lim, hlim⟩ : ∃ lim, lim = c.valLen.toNat := ⟨_, rfl⟩
      have hcl : c.valLen = lim := by omega
      have hl256 : lim ≤ 256 := by omega
      have HNEW := Lib.hid (fun w' (f : Fr none_ W w') => bg_new ((Bag.start W).keep0 f) c hm hcl hl256)
      unfold CfgV.cells at HW0 HCR HNEW ⊢
      clear hok h6 hm hlim hcl hl256
      go_enter Try.func8, Try.ntmps8
      go_wp2_with fail
      rw [← HW0.out]
      refine (HL1.out _ HF0.out).mono ?_
      rintro e w1 ⟨rfl, rfl⟩
      go_wp2_with fail
      refine (HL2.out _ HF0.out).mono ?_
      rintro e w1 ⟨rfl, rfl⟩
      go_wp2_with fail
      refine (awake_any _).mono ?_
      rintro e w2 ⟨rfl, f2⟩
      have F2 := Lib.hid (HF0.out.trans f2)
      have k0 := HCR.out _ f2 0 _ rfl
      have k1 := HCR.out _ f2 1 _ rfl
      have k2 := HCR.out _ f2 2 _ rfl
      have k3 := HCR.out _ f2 3 _ rfl
      have k4 := HCR.out _ f2 4 _ rfl
      have k5 := HCR.out _ f2 5 _ rfl
      have k6 := HCR.out _ f2 6 _ rfl
      have k7 := HCR.out _ f2 7 _ rfl
      clear f2
      go_wp2_with fail
      refine (HNEW.out _ F2.out).mono ?_
      rintro e w3 ⟨x, rfl, hg⟩
      have HG := Lib.hid (show Bag W [tEng x c lim 0 (CS.new lim), tSl none 0 0 34 1 []] w3 from hg.addNil 34 1)
      clear hg k0 k1 k2 k3 k4 k5 k6 k7
      go_wp2_with fail
      go_loopw [9, 10] (fun tl iv wr => ∃ (i : Nat) (b : Option Addr) (cb : Nat) (told : List Nat) (t : CS), Hid (i ≤ l.length) ∧ tl = .slice b told.length cb ∧ iv = .int .i64 (i : Int) ∧ Hid (stRun lim (l.take i) ([], CS.new lim) = (told, t)) ∧ Hid (told.length ≤ i ∧ allLt told) ∧ Hid (Bag W [tEng x c lim i t, tSl b told.length cb 34 1 (told.map hvU)] wr)) (fun _ iv _ => l.length - (intOf iv).toNat)
      case atStart => exact ⟨0, none, 0, [], CS.new lim, Nat.zero_le _, rfl, rfl, (show stRun lim (l.take 0) _ = _ from rfl), (show 0 ≤ 0 ∧ allLt [] from ⟨Nat.le_refl _, fun y hy => by simp at hy⟩), HG.out⟩
      case round =>
        obtain ⟨i, b, cb, told, t, hi, rfl, rfl, hrun, htl, hg⟩ := hrel
        by_cases hlt : i < l.length
        · obtain ⟨s, hs⟩ : ∃ s, l[i]? = some s := ⟨_, List.getElem?_eq_getElem hlt⟩
          obtain ⟨g, o, rfl, hgl, hc⟩ := (HLA.out _ hg.out.fr).get hs
          have p0 : wr.cell? ⟨g, o + i * 9, none⟩ = some (.int .u8 (s.kind : Int)) := hc i s hs 0 _ rfl
          have p1 : wr.cell? ⟨g, o + i * 9 + 1, none⟩ = some (.int .i64 s.h) := hc i s hs 1 _ rfl
          have p2 : wr.cell? ⟨g, o + i * 9 + 2, none⟩ = some (.int .i64 s.nx) := hc i s hs 2 _ rfl
          have p3 : wr.cell? ⟨g, o + i * 9 + 3, none⟩ = some (.int .u64 (s.any : Int)) := hc i s hs 3 _ rfl
          have p4 : wr.cell? ⟨g, o + i * 9 + 4, none⟩ = some (.int .i64 s.v.wr) := hc i s hs 4 _ rfl
          have p5 : wr.cell? ⟨g, o + i * 9 + 5, none⟩ = some (.int .i64 s.v.ts) := hc i s hs 5 _ rfl
          have p6 : wr.cell? ⟨g, o + i * 9 + 6, none⟩ = some (.bool s.v.tomb) := hc i s hs 6 _ rfl
          have p7 : wr.cell? ⟨g, o + i * 9 + 7, none⟩ = some (.string s.v.val) := hc i s hs 7 _ rfl
          have p8 : wr.cell? ⟨g, o + i * 9 + 8, none⟩ = some (.int .i64 s.ts) := hc i s hs 8 _ rfl
          have hsin := HOKA.out s (List.mem_of_getElem? hs)
          have hdo := bg_do hg.out (i := 0) (j := 1) rfl (by unfold big; omega) hsin (by have := HSA.out s (List.mem_of_getElem? hs); unfold maxLen; omega) rfl (by have := htl.out.1; omega) htl.out.2
          have hdl := does_lt (lim := lim) (show t.Is lim i by obtain ⟨F, h⟩ := hg.out.eng (i := 0) rfl; exact h.is_) (by unfold big; omega) hsin htl.out.2
          have hrun' := stRun_more (lim := lim) hs ([], CS.new lim)
          rw [hrun.out] at hrun'
          unfold stepRun at hrun'
          simp only at hrun'
          obtain ⟨r, hr⟩ : ∃ r, r = s.does lim told t := ⟨_, rfl⟩
          rw [← hr] at hdo hdl hrun'
          unfold StepC.list at hdo
          have HDO := Lib.hid hdo
          have HDL := Lib.hid hdl
          have HRUN := Lib.hid hrun'
          clear hc hs hsin hdo hdl hrun' hr
          go_wp2_with fail
          refine HDO.out.mono ?_
          rintro e w4 ⟨rfl, hg4⟩
          have HG4 := Lib.hid (show Bag W [tEng x c lim (i + 1) r.2.2, tSl b told.length cb 34 1 (told.map hvU)] w4 from hg4)
          clear hg4 p0 p1 p2 p3 p4 p5 p6 p7 p8
          by_cases hr0 : r.1 = 0
          · have hr0' : ((r.1 : Int) != 0) = false := by rw [hr0]; rfl
            rw [if_pos hr0] at HRUN
            clear hr0
            go_wp2_with fail
            go_roundw
            case rel => exact ⟨i + 1, b, cb, told, r.2.2, hlt, rfl, by go_num, HRUN.out, (show told.length ≤ i + 1 ∧ allLt told from ⟨Nat.le_succ_of_le htl.out.1, htl.out.2⟩), HG4.out⟩
            case measure => simp [intOf]; omega
          · have hr0' : ((r.1 : Int) != 0) = true := by simp; omega
            rw [if_neg hr0] at HRUN
            have HSL := Lib.hid ((HG4.out.sl (i := 1) rfl).kept0 (Fr.alloc none_ w4 (.cells [hvU r.1].toArray 34)))
            have RA := Lib.hid (new_cells w4 [hvU r.1] 34)
            have HVE := Lib.hid (show [hvU r.1].toArray = #[.int .u64 (r.1 : Int)] from rfl)
            have HTI := Lib.hid htl.out.1
            clear hr0
            go_wp2_with (at_builtin; refine Stop.mk ?_)
            show wpList _ _ _ _ _ _
            rw [← HVE.out]
            refine wpAppend rfl _ _ _ rfl 34 (.int .u64 0) 1 8 Try.underlying28 handleInfo rfl HSL.out rfl ⟨w4.heap.size, 0, none⟩ 1 1 [hvU r.1] rfl rfl RA.out (by intro u hu; simp at hu; subst hu; rfl) (by omega) (by have := HTI.out; unfold maxLen; omega) (by have := HTI.out; omega) ?_
            intro b' cb' w5 hs5 f5 hb5
            have HG5 := Lib.hid (HG4.out.appendedNew (i := 1) rfl hs5 f5 hb5)
            clear hs5 f5 hb5
            go_wp2_with fail
            go_roundw
            case rel => exact ⟨i + 1, b', cb', told ++ [r.1], r.2.2, hlt, by rw [List.length_append]; rfl, by go_num, HRUN.out, (show (told ++ [r.1]).length ≤ i + 1 ∧ allLt (told ++ [r.1]) from ⟨by rw [List.length_append]; have := htl.out.1; simp; omega, htl.out.2.more HDL.out⟩), (show Bag W [tEng x c lim (i + 1) r.2.2, tSl b' (told ++ [r.1]).length cb' 34 1 ((told ++ [r.1]).map hvU)] w5 by rw [List.map_append, List.length_append]; exact HG5.out)⟩
            case measure => simp [intOf]; omega
        · have hie : i = l.length := by have := hi.out; omega
          subst hie
          have HRUN := Lib.hid (show stRun lim l ([], CS.new lim) = (told, t) by have := hrun.out; rwa [List.take_of_length_le (Nat.le_refl _)] at this)
          clear hi hlt hrun
          have hT : told.length ≤ 60 := by have := htl.out.1; omega
          have HLT := Lib.hid htl.out.2
          have HGN := Lib.hid (show Bag W [tEng x c lim l.length t, tSl b told.length cb 34 1 (told.map hvU), tSl none 0 0 36 5 []] wr from hg.out.addNil 36 5)
          clear htl hg HG
          go_wp2_with fail
          go_loopw [13, 14] (fun wl iv wr => ∃ (i : Nat) (d : Option Addr) (cd : Nat), Hid (i ≤ told.length) ∧ wl = .slice d i cd ∧ iv = .int .i64 (i : Int) ∧ Hid (Bag W [tEng x c lim l.length t, tSl b told.length cb 34 1 (told.map hvU), tSl d i cd 36 5 ((told.take i).flatMap fun y => nodeL (t.f y))] wr)) (fun _ iv _ => told.length - (intOf iv).toNat)
          case atStart => exact ⟨0, none, 0, Nat.zero_le _, rfl, rfl, HGN.out⟩
          case round =>
            obtain ⟨i, d, cd, hi, rfl, rfl, hg⟩ := hrel
            by_cases hlt : i < told.length
            · obtain ⟨y, hy⟩ : ∃ y, told[i]? = some y := ⟨_, List.getElem?_eq_getElem hlt⟩
              have hsl := hg.out.sl (i := 1) rfl
              obtain ⟨gb, hgb⟩ := hsl.isAddr (by omega)
              subst hgb
              have s0 : wr.cell? ⟨gb, i, none⟩ = some (.int .u64 (y : Int)) := hsl.cell (i := i) (v := hvU y) (by rw [List.getElem?_map, hy]; rfl)
              have hrd := bg_read hg.out (i := 0) rfl (HLT.out y (List.mem_of_getElem? hy))
              obtain ⟨na, nb, nc, nd, ne, hno⟩ := nodeOf_is (t.f y)
              rw [hno] at hrd
              have HRD := Lib.hid hrd
              have HX := Lib.hid (show (told.take (i + 1)).flatMap (fun y => nodeL (t.f y)) = (told.take i).flatMap (fun y => nodeL (t.f y)) ++ [.int .i64 na, .int .i64 nb, .bool nc, .string nd, .int .u64 (ne : Int)] by
                rw [take_more hy, List.flatMap_append]
                refine congrArg _ ?_
                simp [nodeL, hno])
              clear hsl hrd hno hy
              go_wp2_with fail
              refine HRD.out.mono ?_
              rintro e w4 ⟨rfl, f4⟩
              obtain ⟨w5, hw5⟩ : ∃ w5, w5 = w4.alloc (.cells #[.int .i64 na, .int .i64 nb, .bool nc, .string nd, .int .u64 (ne : Int)] 36) := ⟨_, rfl⟩
              obtain ⟨bb, hbb⟩ : ∃ bb, bb = w4.heap.size := ⟨_, rfl⟩
              have hg5 := hg.out.keep0 (f4.trans (Fr.alloc none_ w4 (.cells #[.int .i64 na, .int .i64 nb, .bool nc, .string nd, .int .u64 (ne : Int)] 36)))
              have rn := Row.new w4 #[.int .i64 na, .int .i64 nb, .bool nc, .string nd, .int .u64 (ne : Int)] 36
              rw [← hw5] at hg5 rn
              rw [← hbb] at rn
              have n0 : w5.cell? ⟨bb, 0, none⟩ = some (.int .i64 na) := rn.cell 0
              have n1 : w5.cell? ⟨bb, 1, none⟩ = some (.int .i64 nb) := rn.cell 1
              have n2 : w5.cell? ⟨bb, 2, none⟩ = some (.bool nc) := rn.cell 2
              have n3 : w5.cell? ⟨bb, 3, none⟩ = some (.string nd) := rn.cell 3
              have n4 : w5.cell? ⟨bb, 4, none⟩ = some (.int .u64 (ne : Int)) := rn.cell 4
              have HG5 := Lib.hid hg5
              have HW5 := Lib.hid hw5.symm
              have HBB := Lib.hid hbb.symm
              have HSL := Lib.hid ((hg5.sl (i := 2) rfl).kept0 (Fr.alloc none_ w5 (.cells [.int .i64 na, .int .i64 nb, .bool nc, .string nd, .int .u64 (ne : Int)].toArray 36)))
              have RA := Lib.hid (new_cells w5 [.int .i64 na, .int .i64 nb, .bool nc, .string nd, .int .u64 (ne : Int)] 36)
              clear f4 hw5 hbb hg5 rn s0
              go_upto_region 18 with fail
              rw [HW5.out, HBB.out]
              go_wp2_with (at_builtin; refine Stop.mk ?_)
              show wpList _ _ _ _ _ _
              refine wpAppend rfl _ _ _ rfl 36 (.agg #[.int .i64 0, .int .i64 0, .bool false, .string ⟨#[]⟩, .int .u64 0]) 5 48 Try.underlying72 nodeInfo rfl HSL.out rfl ⟨w5.heap.size, 0, none⟩ 1 1 [.int .i64 na, .int .i64 nb, .bool nc, .string nd, .int .u64 (ne : Int)] rfl rfl RA.out (by simp [Value.oneCell']) (by omega) (by unfold maxLen; omega) (by omega) ?_
              intro d' cd' w6 hs6 f6 hb6
              have HG6 := Lib.hid (HG5.out.appendedNew (i := 2) rfl hs6 f6 hb6)
              clear hs6 f6 hb6 n0 n1 n2 n3 n4
              go_wp2_with fail
              go_roundw
              case rel => exact ⟨i + 1, d', cd', hlt, rfl, by go_num, (show Bag W [tEng x c lim l.length t, tSl (some ⟨gb, 0, none⟩) told.length cb 34 1 (told.map hvU), tSl d' (i + 1) cd' 36 5 ((told.take (i + 1)).flatMap fun y => nodeL (t.f y))] w6 by rw [HX.out]; exact HG6.out)⟩
              case measure => simp [intOf]; omega
            · have hie : i = told.length := by have := hi.out; omega
              subst hie
              have HGW := Lib.hid (show Bag W [tEng x c lim l.length t, tSl b told.length cb 34 1 (told.map hvU), tSl d told.length cd 36 5 (told.flatMap fun y => nodeL (t.f y))] wr by have := hg.out; rwa [List.take_of_length_le (Nat.le_refl _)] at this)
              clear hi hlt hg HGN
              go_wp2_with fail
              refine (bg_copy HGW.out (i := 0) rfl).mono ?_
              rintro e w4 ⟨y, rfl, hg4⟩
              have HG4 := Lib.hid (show Bag W [tEng x c lim l.length t, tSl b told.length cb 34 1 (told.map hvU), tSl d told.length cd 36 5 (told.flatMap fun y => nodeL (t.f y)), tEng y c lim l.length t] w4 from hg4)
              clear hg4 HGW
              have HGA := Lib.hid (show Bag W [tEng x c lim l.length t, tSl b told.length cb 34 1 (told.map hvU), tSl d told.length cd 36 5 (told.flatMap fun y => nodeL (t.f y)), tEng y c lim l.length t, tSl (some ⟨w4.heap.size, 0, none⟩) 0 0 34 1 []] (w4.alloc (.cells #[] 34)) from HG4.out.addMade 34 1)
              go_wp2_with (at_builtin; refine Stop.mk ?_)
              show wpList _ _ _ _ _ _
              refine wpAppendS rfl _ _ _ rfl 34 (.int .u64 0) 1 8 Try.underlying28 handleInfo rfl (HGA.out.sl (i := 4) rfl) (HGA.out.sl (i := 1) rfl) rfl rfl (by intro u hu; obtain ⟨q, _, rfl⟩ := List.mem_map.1 hu; rfl) (by unfold maxLen; omega) (by omega) ?_
              intro b1 c1 w5 hs5 f5 hb5
              rw [Nat.zero_add told.length, List.nil_append] at hs5
              rw [Nat.zero_add told.length]
              have HG5 := Lib.hid (show Bag W [tEng x c lim l.length t, tSl b told.length cb 34 1 (told.map hvU), tSl d told.length cd 36 5 (told.flatMap fun y => nodeL (t.f y)), tEng y c lim l.length t, tSl b1 told.length c1 34 1 (told.map hvU)] w5 from HGA.out.appended (i := 4) rfl hs5 f5 hb5)
              have HGB := Lib.hid (show Bag W [tEng x c lim l.length t, tSl b told.length cb 34 1 (told.map hvU), tSl d told.length cd 36 5 (told.flatMap fun y => nodeL (t.f y)), tEng y c lim l.length t, tSl b1 told.length c1 34 1 (told.map hvU), tSl (some ⟨w5.heap.size, 0, none⟩) 0 0 34 1 []] (w5.alloc (.cells #[] 34)) from HG5.out.addMade 34 1)
              clear hs5 f5 hb5
              go_wp2_with (at_builtin; refine Stop.mk ?_)
              show wpList _ _ _ _ _ _
              refine wpAppendS rfl _ _ _ rfl 34 (.int .u64 0) 1 8 Try.underlying28 handleInfo rfl (HGB.out.sl (i := 5) rfl) (HGB.out.sl (i := 1) rfl) rfl rfl (by intro u hu; obtain ⟨q, _, rfl⟩ := List.mem_map.1 hu; rfl) (by unfold maxLen; omega) (by omega) ?_
              intro b2 c2 w6 hs6 f6 hb6
              rw [Nat.zero_add told.length, List.nil_append] at hs6
              rw [Nat.zero_add told.length]
              have HG6 := Lib.hid (show Bag W [tEng x c lim l.length t, tSl b told.length cb 34 1 (told.map hvU), tSl d told.length cd 36 5 (told.flatMap fun y => nodeL (t.f y)), tEng y c lim l.length t, tSl b1 told.length c1 34 1 (told.map hvU), tSl b2 told.length c2 34 1 (told.map hvU)] w6 from HGB.out.appended (i := 5) rfl hs6 f6 hb6)
              have HG7 := Lib.hid (show Bag W [tEng x c lim l.length t, tSl b told.length cb 34 1 (told.map hvU), tSl d told.length cd 36 5 (told.flatMap fun y => nodeL (t.f y)), tEng y c lim l.length t, tSl b1 told.length c1 34 1 (told.map hvU), tSl b2 told.length c2 34 1 (told.map hvU), tSl none 0 0 43 1 []] w6 from HG6.out.addNil 43 1)
              clear hs6 f6 hb6 HGA HG5 HGB HG6
              go_wp2_with fail
              go_loopw [18, 20, 21] (fun ov ev iv wr => ∃ (i : Nat) (b3 : Option Addr) (c3 : Nat) (one : List Nat) (tB : CS) (b4 : Option Addr) (c4 : Nat), Hid (i ≤ m.length) ∧ ov = .slice b3 one.length c3 ∧ ev = .slice b4 i c4 ∧ iv = .int .i64 (i : Int) ∧ Hid (stRun lim (m.take i) (told, t) = (one, tB)) ∧ Hid (one.length ≤ 60 + i ∧ allLt one) ∧ Hid (Bag W [tEng x c lim l.length t, tSl b told.length cb 34 1 (told.map hvU), tSl d told.length cd 36 5 (told.flatMap fun y => nodeL (t.f y)), tEng y c lim (l.length + i) tB, tSl b3 one.length c3 34 1 (one.map hvU), tSl b2 told.length c2 34 1 (told.map hvU), tSl b4 i c4 43 1 ((errRun lim (m.take i) (told, t)).map hvE)] wr)) (fun _ _ iv _ => m.length - (intOf iv).toNat)
              case atStart => exact ⟨0, b1, c1, told, t, none, 0, Nat.zero_le _, rfl, rfl, rfl, (show stRun lim (m.take 0) _ = _ from rfl), (show told.length ≤ 60 + 0 ∧ allLt told from ⟨hT, HLT.out⟩), HG7.out⟩
              case round =>
                obtain ⟨i, b3, c3, one, tB, b4, c4, hi, rfl, rfl, rfl, hrun, htl, hg⟩ := hrel
                by_cases hlt : i < m.length
                · obtain ⟨s, hs⟩ : ∃ s, m[i]? = some s := ⟨_, List.getElem?_eq_getElem hlt⟩
                  obtain ⟨g, o, hgo, hgl, hc⟩ := (HLB.out _ hg.out.fr).get hs
                  subst hgo
                  have p0 : wr.cell? ⟨g, o + i * 9, none⟩ = some (.int .u8 (s.kind : Int)) := hc i s hs 0 _ rfl
                  have p1 : wr.cell? ⟨g, o + i * 9 + 1, none⟩ = some (.int .i64 s.h) := hc i s hs 1 _ rfl
                  have p2 : wr.cell? ⟨g, o + i * 9 + 2, none⟩ = some (.int .i64 s.nx) := hc i s hs 2 _ rfl
                  have p3 : wr.cell? ⟨g, o + i * 9 + 3, none⟩ = some (.int .u64 (s.any : Int)) := hc i s hs 3 _ rfl
                  have p4 : wr.cell? ⟨g, o + i * 9 + 4, none⟩ = some (.int .i64 s.v.wr) := hc i s hs 4 _ rfl
                  have p5 : wr.cell? ⟨g, o + i * 9 + 5, none⟩ = some (.int .i64 s.v.ts) := hc i s hs 5 _ rfl
                  have p6 : wr.cell? ⟨g, o + i * 9 + 6, none⟩ = some (.bool s.v.tomb) := hc i s hs 6 _ rfl
                  have p7 : wr.cell? ⟨g, o + i * 9 + 7, none⟩ = some (.string s.v.val) := hc i s hs 7 _ rfl
                  have p8 : wr.cell? ⟨g, o + i * 9 + 8, none⟩ = some (.int .i64 s.ts) := hc i s hs 8 _ rfl
                  have hsin := HOKB.out s (List.mem_of_getElem? hs)
                  have hdo := bg_do hg.out (i := 3) (j := 4) rfl (by unfold big; omega) hsin (by have := HSB.out s (List.mem_of_getElem? hs); unfold maxLen; omega) rfl (by have := htl.out.1; omega) htl.out.2
                  have hdl := does_lt (lim := lim) (show tB.Is lim (l.length + i) by obtain ⟨F, h⟩ := hg.out.eng (i := 3) rfl; exact h.is_) (by unfold big; omega) hsin htl.out.2
                  have hrun' := stRun_more (lim := lim) hs (told, t)
                  have herr := errRun_more (lim := lim) hs (told, t)
                  have helen := errRun_length lim (m.take i) (told, t)
                  rw [hrun.out] at hrun' herr
                  unfold stepRun at hrun'
                  simp only at hrun' herr
                  obtain ⟨r, hr⟩ : ∃ r, r = s.does lim one tB := ⟨_, rfl⟩
                  rw [← hr] at hdo hdl hrun' herr
                  unfold StepC.list at hdo
                  have HDO := Lib.hid hdo
                  have HDL := Lib.hid hdl
                  have HRUN3 := Lib.hid hrun'
                  have HERR := Lib.hid herr
                  clear hc hs hsin hdo hdl hrun' hr herr helen
                  go_wp2_with fail
                  refine HDO.out.mono ?_
                  rintro e w7 ⟨rfl, hg7⟩
                  have HG8 := Lib.hid (show Bag W [tEng x c lim l.length t, tSl b told.length cb 34 1 (told.map hvU), tSl d told.length cd 36 5 (told.flatMap fun y => nodeL (t.f y)), tEng y c lim (l.length + i + 1) r.2.2, tSl b3 one.length c3 34 1 (one.map hvU), tSl b2 told.length c2 34 1 (told.map hvU), tSl b4 i c4 43 1 ((errRun lim (m.take i) (told, t)).map hvE)] w7 from hg7)
                  have HSE := Lib.hid ((HG8.out.sl (i := 6) rfl).kept0 (Fr.alloc none_ w7 (.cells [hvE r.2.1].toArray 43)))
                  have RE := Lib.hid (new_cells w7 [hvE r.2.1] 43)
                  have HVE := Lib.hid (show [hvE r.2.1].toArray = #[.int .i64 (r.2.1 : Int)] from rfl)
                  clear hg7 p0 p1 p2 p3 p4 p5 p6 p7 p8
                  go_wp2_with (at_builtin; refine Stop.mk ?_)
                  show wpList _ _ _ _ _ _
                  rw [← HVE.out]
                  refine wpAppend rfl _ _ _ rfl 43 (.int .i64 0) 1 8 Try.underlying73 errInfo rfl HSE.out rfl ⟨w7.heap.size, 0, none⟩ 1 1 [hvE r.2.1] rfl rfl RE.out (by intro u hu; simp at hu; subst hu; rfl) (by omega) (by unfold maxLen; omega) (by omega) ?_
                  intro b4' c4' w8 hs8 f8 hb8
                  have HG9 := Lib.hid (show Bag W [tEng x c lim l.length t, tSl b told.length cb 34 1 (told.map hvU), tSl d told.length cd 36 5 (told.flatMap fun y => nodeL (t.f y)), tEng y c lim (l.length + i + 1) r.2.2, tSl b3 one.length c3 34 1 (one.map hvU), tSl b2 told.length c2 34 1 (told.map hvU), tSl b4' (i + 1) c4' 43 1 ((errRun lim (m.take (i + 1)) (told, t)).map hvE)] w8 by rw [HERR.out, List.map_append]; exact HG8.out.appendedNew (i := 6) rfl hs8 f8 hb8)
                  clear hs8 f8 hb8
                  by_cases hr0 : r.1 = 0
                  · have hr0' : ((r.1 : Int) != 0) = false := by rw [hr0]; rfl
                    rw [if_pos hr0] at HRUN3
                    clear hr0
                    go_wp2_with fail
                    go_roundw
                    case rel => exact ⟨i + 1, b3, c3, one, r.2.2, b4', c4', hlt, rfl, rfl, by go_num, HRUN3.out, (show one.length ≤ 60 + (i + 1) ∧ allLt one from ⟨Nat.le_succ_of_le htl.out.1, htl.out.2⟩), HG9.out⟩
                    case measure => simp [intOf]; omega
                  · have hr0' : ((r.1 : Int) != 0) = true := by simp; omega
                    rw [if_neg hr0] at HRUN3
                    have HSL := Lib.hid ((HG9.out.sl (i := 4) rfl).kept0 (Fr.alloc none_ w8 (.cells [hvU r.1].toArray 34)))
                    have RA := Lib.hid (new_cells w8 [hvU r.1] 34)
                    have HVU := Lib.hid (show [hvU r.1].toArray = #[.int .u64 (r.1 : Int)] from rfl)
                    have HTI := Lib.hid htl.out.1
                    clear hr0
                    go_wp2_with (at_builtin; refine Stop.mk ?_)
                    show wpList _ _ _ _ _ _
                    rw [← HVU.out]
                    refine wpAppend rfl _ _ _ rfl 34 (.int .u64 0) 1 8 Try.underlying28 handleInfo rfl HSL.out rfl ⟨w8.heap.size, 0, none⟩ 1 1 [hvU r.1] rfl rfl RA.out (by intro u hu; simp at hu; subst hu; rfl) (by omega) (by have := HTI.out; unfold maxLen; omega) (by have := HTI.out; omega) ?_
                    intro b3' c3' w9 hs9 f9 hb9
                    have HG10 := Lib.hid (HG9.out.appendedNew (i := 4) rfl hs9 f9 hb9)
                    clear hs9 f9 hb9
                    go_wp2_with fail
                    go_roundw
                    case rel => exact ⟨i + 1, b3', c3', one ++ [r.1], r.2.2, b4', c4', hlt, by rw [List.length_append]; rfl, rfl, by go_num, HRUN3.out, (show (one ++ [r.1]).length ≤ 60 + (i + 1) ∧ allLt (one ++ [r.1]) from ⟨by rw [List.length_append]; have := htl.out.1; simp; omega, htl.out.2.more HDL.out⟩), (show Bag W [tEng x c lim l.length t, tSl b told.length cb 34 1 (told.map hvU), tSl d told.length cd 36 5 (told.flatMap fun y => nodeL (t.f y)), tEng y c lim (l.length + (i + 1)) r.2.2, tSl b3' (one ++ [r.1]).length c3' 34 1 ((one ++ [r.1]).map hvU), tSl b2 told.length c2 34 1 (told.map hvU), tSl b4' (i + 1) c4' 43 1 ((errRun lim (m.take (i + 1)) (told, t)).map hvE)] w9 by rw [List.map_append, List.length_append]; exact HG10.out)⟩
                    case measure => simp [intOf]; omega
                · have hie : i = m.length := by have := hi.out; omega
                  subst hie
                  have HRUNB := Lib.hid (show stRun lim m (told, t) = (one, tB) by have := hrun.out; rwa [List.take_of_length_le (Nat.le_refl _)] at this)
                  have HGE := Lib.hid (show Bag W [tEng x c lim l.length t, tSl b told.length cb 34 1 (told.map hvU), tSl d told.length cd 36 5 (told.flatMap fun y => nodeL (t.f y)), tEng y c lim (l.length + m.length) tB, tSl b3 one.length c3 34 1 (one.map hvU), tSl b2 told.length c2 34 1 (told.map hvU), tSl b4 m.length c4 43 1 ((errRun lim m (told, t)).map hvE)] wr by have := hg.out; rwa [List.take_of_length_le (Nat.le_refl _)] at this)
                  have HLO := Lib.hid htl.out.2
                  have hO : one.length ≤ 90 := by have := htl.out.1; omega
                  clear hi hlt hg hrun htl HG7 HG4
                  go_upto_region 29 with fail
                  go_wp2_with fail
                  go_loopw [24] (fun iv wr => ∃ (i : Nat), Hid (i ≤ told.length) ∧ iv = .int .i64 (i : Int) ∧ Hid (Bag W [tEng x c lim l.length t, tSl b told.length cb 34 1 (told.map hvU), tSl d told.length cd 36 5 (told.flatMap fun y => nodeL (t.f y)), tEng y c lim (l.length + m.length) tB, tSl b3 one.length c3 34 1 (one.map hvU), tSl b2 told.length c2 34 1 (told.map hvU), tSl b4 m.length c4 43 1 ((errRun lim m (told, t)).map hvE)] wr)) (fun iv _ => told.length - (intOf iv).toNat)
                  case atStart => exact ⟨0, Nat.zero_le _, rfl, HGE.out⟩
                  case round =>
                    obtain ⟨i, hi, rfl, hg⟩ := hrel
                    by_cases hlt : i < told.length
                    · obtain ⟨z, hy⟩ : ∃ z, told[i]? = some z := ⟨_, List.getElem?_eq_getElem hlt⟩
                      have hsl := hg.out.sl (i := 1) rfl
                      obtain ⟨gb, hgb⟩ := hsl.isAddr (by omega)
                      subst hgb
                      have s0 : wr.cell? ⟨gb, i, none⟩ = some (.int .u64 (z : Int)) := hsl.cell (i := i) (v := hvU z) (by rw [List.getElem?_map, hy]; rfl)
                      have hrd := bg_read hg.out (i := 0) rfl (HLT.out z (List.mem_of_getElem? hy))
                      obtain ⟨na, nb, nc, nd, ne, hno⟩ := nodeOf_is (t.f z)
                      rw [hno] at hrd
                      have hwas := (hg.out.sl (i := 2) rfl).ls (fun y => nodeL_len (t.f y)) rfl
                      obtain ⟨gd, od, hgd, hgdl, hcw⟩ := hwas.get hy
                      subst hgd
                      have HRD := Lib.hid hrd
                      have hns := fun w' => node_same2 na nb nc nd (ne : Int) w'
                      have q0 : wr.cell? ⟨gd, od + i * 5, none⟩ = some (.int .i64 na) := hcw i z hy 0 _ (by unfold nodeL; rw [hno]; rfl)
                      have q1 : wr.cell? ⟨gd, od + i * 5 + 1, none⟩ = some (.int .i64 nb) := hcw i z hy 1 _ (by unfold nodeL; rw [hno]; rfl)
                      have q2 : wr.cell? ⟨gd, od + i * 5 + 2, none⟩ = some (.bool nc) := hcw i z hy 2 _ (by unfold nodeL; rw [hno]; rfl)
                      have q3 : wr.cell? ⟨gd, od + i * 5 + 3, none⟩ = some (.string nd) := hcw i z hy 3 _ (by unfold nodeL; rw [hno]; rfl)
                      have q4 : wr.cell? ⟨gd, od + i * 5 + 4, none⟩ = some (.int .u64 (ne : Int)) := hcw i z hy 4 _ (by unfold nodeL; rw [hno]; rfl)
                      have HQ := Lib.hid (And.intro q0 (And.intro q1 (And.intro q2 (And.intro q3 q4))))
                      clear hsl hrd hno hy hwas hcw q0 q1 q2 q3 q4
                      go_wp2_with fail
                      refine HRD.out.mono ?_
                      rintro e w5 ⟨rfl, f5⟩
                      obtain ⟨w6, hw6⟩ : ∃ w6, w6 = w5.alloc (.cells #[.int .i64 na, .int .i64 nb, .bool nc, .string nd, .int .u64 (ne : Int)] 36) := ⟨_, rfl⟩
                      obtain ⟨bb, hbb⟩ : ∃ bb, bb = w5.heap.size := ⟨_, rfl⟩
                      have f6 := f5.trans (Fr.alloc none_ w5 (.cells #[.int .i64 na, .int .i64 nb, .bool nc, .string nd, .int .u64 (ne : Int)] 36))
                      have rn := Row.new w5 #[.int .i64 na, .int .i64 nb, .bool nc, .string nd, .int .u64 (ne : Int)] 36
                      rw [← hw6] at f6 rn
                      rw [← hbb] at rn
                      have n0 : w6.cell? ⟨bb, 0, none⟩ = some (.int .i64 na) := rn.cell 0
                      have n1 : w6.cell? ⟨bb, 1, none⟩ = some (.int .i64 nb) := rn.cell 1
                      have n2 : w6.cell? ⟨bb, 2, none⟩ = some (.bool nc) := rn.cell 2
                      have n3 : w6.cell? ⟨bb, 3, none⟩ = some (.string nd) := rn.cell 3
                      have n4 : w6.cell? ⟨bb, 4, none⟩ = some (.int .u64 (ne : Int)) := rn.cell 4
                      have q0 := f6.keep HQ.out.1
                      have q1 := f6.keep HQ.out.2.1
                      have q2 := f6.keep HQ.out.2.2.1
                      have q3 := f6.keep HQ.out.2.2.2.1
                      have q4 := f6.keep HQ.out.2.2.2.2
                      have HG5 := Lib.hid (hg.out.keep0 f6)
                      have HW6 := Lib.hid hw6.symm
                      have HBB := Lib.hid hbb.symm
                      clear f5 f6 hw6 hbb rn s0
                      go_upto_region 33 with fail
                      rw [HW6.out, HBB.out]
                      go_quiet (fail)
                      go_wp2_with fail
                      go_roundw
                      case rel => exact ⟨i + 1, hlt, by go_num, HG5.out.keep0 (Fr.drewN none_ w6 _)⟩
                      case measure => simp [intOf]; omega
                    · have hie : i = told.length := by have := hi.out; omega
                      subst hie
                      have HGF := Lib.hid hg.out
                      clear hi hlt hg HGE
                      go_upto_region 35 with fail
                      go_wp2_with fail
                      go_loopw [19, 27] (fun ov iv wr => ∃ (i : Nat) (b5 : Option Addr) (c5 : Nat) (two : List Nat) (tA : CS), Hid (i ≤ m.length) ∧ ov = .slice b5 two.length c5 ∧ iv = .int .i64 (i : Int) ∧ Hid (stRun lim (m.take i) (told, t) = (two, tA)) ∧ Hid (two.length ≤ 60 + i ∧ allLt two) ∧ Hid (Bag W [tEng x c lim (l.length + i) tA, tSl b told.length cb 34 1 (told.map hvU), tSl d told.length cd 36 5 (told.flatMap fun y => nodeL (t.f y)), tEng y c lim (l.length + m.length) tB, tSl b3 one.length c3 34 1 (one.map hvU), tSl b5 two.length c5 34 1 (two.map hvU), tSl b4 m.length c4 43 1 ((errRun lim m (told, t)).map hvE)] wr)) (fun _ iv _ => m.length - (intOf iv).toNat)
                      case atStart => exact ⟨0, b2, c2, told, t, Nat.zero_le _, rfl, rfl, (show stRun lim (m.take 0) _ = _ from rfl), (show told.length ≤ 60 + 0 ∧ allLt told from ⟨hT, HLT.out⟩), HGF.out⟩
                      case round =>
                        obtain ⟨i, b5, c5, two, tA, hi, rfl, rfl, hrun, htl, hg⟩ := hrel
                        by_cases hlt : i < m.length
                        · obtain ⟨s, hs⟩ : ∃ s, m[i]? = some s := ⟨_, List.getElem?_eq_getElem hlt⟩
                          obtain ⟨g, o, hgo, hgl, hc⟩ := (HLB.out _ hg.out.fr).get hs
                          subst hgo
                          have p0 : wr.cell? ⟨g, o + i * 9, none⟩ = some (.int .u8 (s.kind : Int)) := hc i s hs 0 _ rfl
                          have p1 : wr.cell? ⟨g, o + i * 9 + 1, none⟩ = some (.int .i64 s.h) := hc i s hs 1 _ rfl
                          have p2 : wr.cell? ⟨g, o + i * 9 + 2, none⟩ = some (.int .i64 s.nx) := hc i s hs 2 _ rfl
                          have p3 : wr.cell? ⟨g, o + i * 9 + 3, none⟩ = some (.int .u64 (s.any : Int)) := hc i s hs 3 _ rfl
                          have p4 : wr.cell? ⟨g, o + i * 9 + 4, none⟩ = some (.int .i64 s.v.wr) := hc i s hs 4 _ rfl
                          have p5 : wr.cell? ⟨g, o + i * 9 + 5, none⟩ = some (.int .i64 s.v.ts) := hc i s hs 5 _ rfl
                          have p6 : wr.cell? ⟨g, o + i * 9 + 6, none⟩ = some (.bool s.v.tomb) := hc i s hs 6 _ rfl
                          have p7 : wr.cell? ⟨g, o + i * 9 + 7, none⟩ = some (.string s.v.val) := hc i s hs 7 _ rfl
                          have p8 : wr.cell? ⟨g, o + i * 9 + 8, none⟩ = some (.int .i64 s.ts) := hc i s hs 8 _ rfl
                          have hsin := HOKB.out s (List.mem_of_getElem? hs)
                          have hdo := bg_do hg.out (i := 0) (j := 5) rfl (by unfold big; omega) hsin (by have := HSB.out s (List.mem_of_getElem? hs); unfold maxLen; omega) rfl (by have := htl.out.1; omega) htl.out.2
                          have hdl := does_lt (lim := lim) (show tA.Is lim (l.length + i) by obtain ⟨F, h⟩ := hg.out.eng (i := 0) rfl; exact h.is_) (by unfold big; omega) hsin htl.out.2
                          have hrun' := stRun_more (lim := lim) hs (told, t)
                          have herr := errRun_get lim m i s (told, t) hs
                          rw [hrun.out] at hrun' herr
                          unfold stepRun at hrun'
                          simp only at hrun' herr
                          obtain ⟨r, hr⟩ : ∃ r, r = s.does lim two tA := ⟨_, rfl⟩
                          rw [← hr] at hdo hdl hrun' herr
                          unfold StepC.list at hdo
                          obtain ⟨ge, hge⟩ := (hg.out.sl (i := 6) rfl).isAddr (by omega)
                          subst hge
                          have HDO := Lib.hid hdo
                          have HDL := Lib.hid hdl
                          have HRUN5 := Lib.hid hrun'
                          have HERR := Lib.hid herr
                          clear hc hs hsin hdo hdl hrun' hr herr
                          go_wp2_with fail
                          refine HDO.out.mono ?_
                          rintro e w7 ⟨rfl, hg7⟩
                          have HG8 := Lib.hid (show Bag W [tEng x c lim (l.length + i + 1) r.2.2, tSl b told.length cb 34 1 (told.map hvU), tSl d told.length cd 36 5 (told.flatMap fun y => nodeL (t.f y)), tEng y c lim (l.length + m.length) tB, tSl b3 one.length c3 34 1 (one.map hvU), tSl b5 two.length c5 34 1 (two.map hvU), tSl (some ⟨ge, 0, none⟩) m.length c4 43 1 ((errRun lim m (told, t)).map hvE)] w7 from hg7)
                          have e0 : w7.cell? ⟨ge, i, none⟩ = some (.int .i64 (r.2.1 : Int)) := (HG8.out.sl (i := 6) rfl).cell (i := i) (v := hvE r.2.1) (by rw [List.getElem?_map, HERR.out]; rfl)
                          clear hg7 p0 p1 p2 p3 p4 p5 p6 p7 p8
                          by_cases hr0 : r.1 = 0
                          · have hr0' : ((r.1 : Int) != 0) = false := by rw [hr0]; rfl
                            rw [if_pos hr0] at HRUN5
                            clear hr0
                            go_wp2_with fail
                            go_roundw
                            case rel => exact ⟨i + 1, b5, c5, two, r.2.2, hlt, rfl, by go_num, HRUN5.out, (show two.length ≤ 60 + (i + 1) ∧ allLt two from ⟨Nat.le_succ_of_le htl.out.1, htl.out.2⟩), HG8.out⟩
                            case measure => simp [intOf]; omega
                          · have hr0' : ((r.1 : Int) != 0) = true := by simp; omega
                            rw [if_neg hr0] at HRUN5
                            have HSL := Lib.hid ((HG8.out.sl (i := 5) rfl).kept0 (Fr.alloc none_ w7 (.cells [hvU r.1].toArray 34)))
                            have RA := Lib.hid (new_cells w7 [hvU r.1] 34)
                            have HVU := Lib.hid (show [hvU r.1].toArray = #[.int .u64 (r.1 : Int)] from rfl)
                            have HTI := Lib.hid htl.out.1
                            clear hr0
                            go_wp2_with (at_builtin; refine Stop.mk ?_)
                            show wpList _ _ _ _ _ _
                            rw [← HVU.out]
                            refine wpAppend rfl _ _ _ rfl 34 (.int .u64 0) 1 8 Try.underlying28 handleInfo rfl HSL.out rfl ⟨w7.heap.size, 0, none⟩ 1 1 [hvU r.1] rfl rfl RA.out (by intro u hu; simp at hu; subst hu; rfl) (by omega) (by have := HTI.out; unfold maxLen; omega) (by have := HTI.out; omega) ?_
                            intro b5' c5' w9 hs9 f9 hb9
                            have HG10 := Lib.hid (HG8.out.appendedNew (i := 5) rfl hs9 f9 hb9)
                            clear hs9 f9 hb9
                            go_wp2_with fail
                            go_roundw
                            case rel => exact ⟨i + 1, b5', c5', two ++ [r.1], r.2.2, hlt, by rw [List.length_append]; rfl, by go_num, HRUN5.out, (show (two ++ [r.1]).length ≤ 60 + (i + 1) ∧ allLt (two ++ [r.1]) from ⟨by rw [List.length_append]; have := htl.out.1; simp; omega, htl.out.2.more HDL.out⟩), (show Bag W [tEng x c lim (l.length + (i + 1)) r.2.2, tSl b told.length cb 34 1 (told.map hvU), tSl d told.length cd 36 5 (told.flatMap fun y => nodeL (t.f y)), tEng y c lim (l.length + m.length) tB, tSl b3 one.length c3 34 1 (one.map hvU), tSl b5' (two ++ [r.1]).length c5' 34 1 ((two ++ [r.1]).map hvU), tSl (some ⟨ge, 0, none⟩) m.length c4 43 1 ((errRun lim m (told, t)).map hvE)] w9 by rw [List.map_append, List.length_append]; exact HG10.out)⟩
                            case measure => simp [intOf]; omega
                        · have hie : i = m.length := by have := hi.out; omega
                          subst hie
                          have hra := hrun.out
                          rw [List.take_of_length_le (Nat.le_refl _), HRUNB.out] at hra
                          obtain ⟨hra1, hra2⟩ := Prod.mk.inj hra
                          subst hra1
                          subst hra2
                          have HGH := Lib.hid (show Bag W [tEng x c lim (l.length + m.length) tB, tSl b told.length cb 34 1 (told.map hvU), tSl d told.length cd 36 5 (told.flatMap fun y => nodeL (t.f y)), tEng y c lim (l.length + m.length) tB, tSl b3 one.length c3 34 1 (one.map hvU), tSl b5 one.length c5 34 1 (one.map hvU), tSl b4 m.length c4 43 1 ((errRun lim m (told, t)).map hvE)] wr from hg.out)
                          clear hi hlt hg hra hrun htl HGF
                          go_upto_region 43 with fail
                          go_wp2_with fail
                          go_loopw [30] (fun iv wr => ∃ (i : Nat), Hid (i ≤ one.length) ∧ iv = .int .i64 (i : Int) ∧ Hid (Bag W [tEng x c lim (l.length + m.length) tB, tSl b told.length cb 34 1 (told.map hvU), tSl d told.length cd 36 5 (told.flatMap fun y => nodeL (t.f y)), tEng y c lim (l.length + m.length) tB, tSl b3 one.length c3 34 1 (one.map hvU), tSl b5 one.length c5 34 1 (one.map hvU), tSl b4 m.length c4 43 1 ((errRun lim m (told, t)).map hvE)] wr)) (fun iv _ => one.length - (intOf iv).toNat)
                          case atStart => exact ⟨0, Nat.zero_le _, rfl, HGH.out⟩
                          case round =>
                            obtain ⟨i, hi, rfl, hg⟩ := hrel
                            by_cases hlt : i < one.length
                            · obtain ⟨z, hy⟩ : ∃ z, one[i]? = some z := ⟨_, List.getElem?_eq_getElem hlt⟩
                              obtain ⟨g3, hg3⟩ := (hg.out.sl (i := 4) rfl).isAddr (by omega)
                              obtain ⟨g5, hg5⟩ := (hg.out.sl (i := 5) rfl).isAddr (by omega)
                              subst hg3
                              subst hg5
                              have HU := Lib.hid (fun w' (f : Fr none_ wr w') => show w'.cell? ⟨g3, i, none⟩ = some (.int .u64 (z : Int)) from ((hg.out.keep0 f).sl (i := 4) rfl).cell (i := i) (v := hvU z) (by rw [List.getElem?_map, hy]; rfl))
                              have HV := Lib.hid (fun w' (f : Fr none_ wr w') => show w'.cell? ⟨g5, i, none⟩ = some (.int .u64 (z : Int)) from ((hg.out.keep0 f).sl (i := 5) rfl).cell (i := i) (v := hvU z) (by rw [List.getElem?_map, hy]; rfl))
                              have hra := fun w' (f : Fr none_ wr w') => bg_read (hg.out.keep0 f) (i := 0) rfl (HLO.out z (List.mem_of_getElem? hy))
                              have hrb := fun w' (f : Fr none_ wr w') => bg_read (hg.out.keep0 f) (i := 3) rfl (HLO.out z (List.mem_of_getElem? hy))
                              obtain ⟨na, nb, nc, nd, ne, hno⟩ := nodeOf_is (tB.f z)
                              rw [hno] at hra hrb
                              obtain ⟨is, his⟩ : ∃ is, is = (tB.f z).isSome := ⟨_, rfl⟩
                              rw [← his] at hra hrb
                              have HRA := Lib.hid hra
                              have HRB := Lib.hid hrb
                              have hns := fun w' => node_same2 na nb nc nd (ne : Int) w'
                              have hge : decide ((one.length : Int) ≤ (i : Int)) = false := by simp; omega
                              have s0 := HU.out wr (Fr.refl _ _)
                              clear hy hra hrb hno his
                              go_wp2_with fail
                              refine (HRA.out wr (Fr.refl _ _)).mono ?_
                              rintro e w5 ⟨rfl, f5⟩
                              obtain ⟨w6, hw6⟩ : ∃ w6, w6 = w5.alloc (.cells #[.int .i64 na, .int .i64 nb, .bool nc, .string nd, .int .u64 (ne : Int)] 36) := ⟨_, rfl⟩
                              obtain ⟨bb, hbb⟩ : ∃ bb, bb = w5.heap.size := ⟨_, rfl⟩
                              have f6 := f5.trans (Fr.alloc none_ w5 (.cells #[.int .i64 na, .int .i64 nb, .bool nc, .string nd, .int .u64 (ne : Int)] 36))
                              have rn := Row.new w5 #[.int .i64 na, .int .i64 nb, .bool nc, .string nd, .int .u64 (ne : Int)] 36
                              rw [← hw6] at f6 rn
                              rw [← hbb] at rn
                              have HW6 := Lib.hid hw6.symm
                              have HBB := Lib.hid hbb.symm
                              have RN := Lib.hid rn
                              have F6 := Lib.hid f6
                              clear f5 f6 hw6 hbb rn s0
                              go_upto_region 47 with fail
                              rw [HW6.out, HBB.out]
                              have s1 := HU.out w6 F6.out
                              go_wp2_with fail
                              refine (HRB.out w6 F6.out).mono ?_
                              rintro e w7 ⟨rfl, f7⟩
                              obtain ⟨w8, hw8⟩ : ∃ w8, w8 = w7.alloc (.cells #[.int .i64 na, .int .i64 nb, .bool nc, .string nd, .int .u64 (ne : Int)] 36) := ⟨_, rfl⟩
                              obtain ⟨bc, hbc⟩ : ∃ bc, bc = w7.heap.size := ⟨_, rfl⟩
                              have f8 := f7.trans (Fr.alloc none_ w7 (.cells #[.int .i64 na, .int .i64 nb, .bool nc, .string nd, .int .u64 (ne : Int)] 36))
                              have rm := Row.new w7 #[.int .i64 na, .int .i64 nb, .bool nc, .string nd, .int .u64 (ne : Int)] 36
                              have rn := RN.out.kept f8 (fun e => e)
                              rw [← hw8] at f8 rm rn
                              rw [← hbc] at rm
                              have n0 : w8.cell? ⟨bb, 0, none⟩ = some (.int .i64 na) := rn.cell 0
                              have n1 : w8.cell? ⟨bb, 1, none⟩ = some (.int .i64 nb) := rn.cell 1
                              have n2 : w8.cell? ⟨bb, 2, none⟩ = some (.bool nc) := rn.cell 2
                              have n3 : w8.cell? ⟨bb, 3, none⟩ = some (.string nd) := rn.cell 3
                              have n4 : w8.cell? ⟨bb, 4, none⟩ = some (.int .u64 (ne : Int)) := rn.cell 4
                              have m0 : w8.cell? ⟨bc, 0, none⟩ = some (.int .i64 na) := rm.cell 0
                              have m1 : w8.cell? ⟨bc, 1, none⟩ = some (.int .i64 nb) := rm.cell 1
                              have m2 : w8.cell? ⟨bc, 2, none⟩ = some (.bool nc) := rm.cell 2
                              have m3 : w8.cell? ⟨bc, 3, none⟩ = some (.string nd) := rm.cell 3
                              have m4 : w8.cell? ⟨bc, 4, none⟩ = some (.int .u64 (ne : Int)) := rm.cell 4
                              have u0 := HU.out w8 (F6.out.trans f8)
                              have v0 := HV.out w8 (F6.out.trans f8)
                              have HG8 := Lib.hid (hg.out.keep0 (F6.out.trans f8))
                              have HW8 := Lib.hid hw8.symm
                              have HBC := Lib.hid hbc.symm
                              clear f7 f8 hw8 hbc rn rm s1
                              go_upto_region 48 with fail
                              rw [HW8.out, HBC.out]
                              go_quiet (fail)
                              go_wp2_with fail
                              go_roundw
                              case rel => exact ⟨i + 1, hlt, by go_num, HG8.out.keep0 (Fr.drewN none_ w8 _)⟩
                              case measure => simp [intOf]; omega
                            · have hie : i = one.length := by have := hi.out; omega
                              subst hie
                              have HUA := Lib.hid (bg_used hg.out (i := 0) rfl)
                              have HUB := Lib.hid (bg_used hg.out (i := 3) rfl)
                              have HFR := Lib.hid hg.out.fr
                              clear hi hlt hg HGH
                              go_wp2_with fail
                              refine HUA.out.mono ?_
                              rintro e w5 ⟨rfl, rfl⟩
                              go_wp2_with fail
                              refine HUB.out.mono ?_
                              rintro e w5 ⟨rfl, rfl⟩
                              go_wp2_with fail
                              go_ret
                              exact ⟨by simp, HFR.out⟩
    · have hm' : c.may = false := by simpa using hm
      have HNEW := Lib.hid (fun w' => Chain_New_no w' c hm')
      unfold CfgV.cells at HW0 HCR HNEW ⊢
      clear hm hm'
      go_enter Try.func8, Try.ntmps8
      go_wp2_with fail
      rw [← HW0.out]
      refine (HL1.out _ HF0.out).mono ?_
      rintro e w1 ⟨rfl, rfl⟩
      go_wp2_with fail
      refine (HL2.out _ HF0.out).mono ?_
      rintro e w1 ⟨rfl, rfl⟩
      go_wp2_with fail
      refine (awake_any _).mono ?_
      rintro e w2 ⟨rfl, f2⟩
      have F2 := Lib.hid (HF0.out.trans f2)
      have k0 := HCR.out _ f2 0 _ rfl
      have k1 := HCR.out _ f2 1 _ rfl
      have k2 := HCR.out _ f2 2 _ rfl
      have k3 := HCR.out _ f2 3 _ rfl
      have k4 := HCR.out _ f2 4 _ rfl
      have k5 := HCR.out _ f2 5 _ rfl
      have k6 := HCR.out _ f2 6 _ rfl
      have k7 := HCR.out _ f2 7 _ rfl
      clear f2
      go_wp2_with fail
      refine (HNEW.out _).mono ?_
      rintro e w3 ⟨rfl, f3⟩
      have F3 := Lib.hid (F2.out.trans f3)
      clear f3 k0 k1 k2 k3 k4 k5 k6 k7
      go_wp2_with fail
      go_ret
      exact ⟨rfl, F3.out⟩
end Go.Proofs.Yteefcfndlggajaa
