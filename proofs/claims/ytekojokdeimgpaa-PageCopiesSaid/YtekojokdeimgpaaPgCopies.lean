/-
  PageCopies (P3.7): what is done to a copy is not seen.
-/
import Derived.Test.YtekojokdeimgpaaPgAll
namespace Go.Proofs.Ytekojokdeimgpaa
open Go.RowKit
set_option linter.unusedVariables false
set_option linter.unusedSimpArgs false
set_option maxRecDepth 100000

set_option maxHeartbeats 4000000 in
theorem walk_PageCopies (W : World) (slot : Int) (ws : (Lit.int .i64 slot).wf = true) (a1 : Option Addr) (c1 : Nat) (l1 : List StepV) (h1 : StepsAt W a1 l1) (a2 : Option Addr) (c2 : Nat) (l2 : List StepV) (h2 : StepsAt W a2 l2) :
   Calls Try.prog 6 #[.int .i64 slot, .slice a1 l1.length c1, .slice a2 l2.length c2] W fun e w' => e = .returned (.bool true) ∧ Fr none_ W w' := by
  obtain ⟨wb, hwb⟩ : ∃ wb, wb = (W.alloc (.cells #[.int .i64 slot] 3)).alloc (.cells #[.slice a2 l2.length c2] 22) := ⟨_, rfl⟩
  have fb : Fr none_ W wb := by rw [hwb]; exact (Fr.alloc _ _ _).alloc_r _
  have hb1 : Row wb W.heap.size #[.int .i64 slot] 3 := by rw [hwb]; exact (Row.new _ _ _).alloc _
  have hb2 : Row wb (W.heap.size + 1) #[.slice a2 l2.length c2] 22 := by rw [hwb]; exact Row.new2 _ _ _ _
  have hsz : wb.heap.size = W.heap.size + 2 := by rw [hwb]; simp
  have cb1 : wb.cell? ⟨W.heap.size, 0, none⟩ = some (.int .i64 slot) := hb1.cell 0
  have cb2 : wb.cell? ⟨W.heap.size + 1, 0, none⟩ = some (.slice a2 l2.length c2) := hb2.cell 0
  have hlong := fun w a c l h => long_any w a c l h
  have h1b := h1.kept fb (fun _ _ e => e)
  have h2b := h2.kept fb (fun _ _ e => e)
  have hlg1 := hlong _ a1 c1 l1 h1b
  have hlg2 := hlong _ a2 c2 l2 h2b
  have FB := Lib.hid fb
  have HCB := Lib.hid (And.intro cb1 cb2)
  cases hL : isLong l1 with
  | true =>
    rw [hL] at hlg1
    have Hlg := Lib.hid hlg1
    have HWb := Lib.hid hwb
    clear hlg1 hlg2 hL hlong h1b h2b hb1 hb2 fb cb1 cb2 hwb
    go_enter Try.func6, Try.ntmps6
    go_wp2_with fail
    rw [← HWb.out]
    go_wp2_with (first
      | (go_at_call 9; refine Hlg.out.mono ?_; rintro e w1 ⟨rfl, rfl⟩)
      | (go_at_call 10; refine (awake_any _).mono ?_; rintro e w2 ⟨rfl, f2⟩))
    go_ret
    exact ⟨rfl, FB.out.trans f2⟩
  | false =>
    rw [hL] at hlg1
    have hn1 := notLong hL
    have Hlg1 := Lib.hid hlg1
    have HWb := Lib.hid hwb
    have H1b := Lib.hid h1b
    cases hL2 : isLong l2 with
    | true =>
      rw [hL2] at hlg2
      have Hlg2 := Lib.hid hlg2
      have hcb2 := cb2
      clear hlg1 hlg2 hL hL2 hlong h1b h2b hb1 hb2 fb cb1 cb2 hwb
      go_enter Try.func6, Try.ntmps6
      go_wp2_with fail
      rw [← HWb.out]
      refine Hlg1.out.mono ?_; rintro e w1 ⟨rfl, rfl⟩
      go_wp2_with fail
      refine Hlg2.out.mono ?_; rintro e w1 ⟨rfl, rfl⟩
      go_wp2_with (first
        | (go_at_call 10; refine (awake_any _).mono ?_; rintro e w2 ⟨rfl, f2⟩))
      go_ret
      exact ⟨rfl, FB.out.trans f2⟩
    | false =>
      rw [hL2] at hlg2
      have hn2 := notLong hL2
      have Hlg2 := Lib.hid hlg2
      have H2b := Lib.hid h2b
      have H2 := Lib.hid h2
      by_cases hs : 2 ≤ slot ∧ slot ≤ 4096
      · obtain ⟨sl, rfl⟩ := Int.eq_ofNat_of_zero_le (show 0 ≤ slot by omega)
        have s2 : 2 ≤ sl := by omega
        have s3 : sl ≤ 4096 := by omega
        have hry := fun w h => run_yes w sl s2 s3 a1 c1 l1 h hn1
        obtain ⟨hinv, hisl⟩ := UInv.run s2 s3 l1
        unfold RunPost at hry
        generalize l1.foldl (stepRun sl) (PS.new sl, []) = st at hry hinv hisl
        have Hry := Lib.hid hry
        have Hslot := Lib.hid hisl
        have cb2' := cb2
        have cb1' := cb1
        clear hs ws hry hisl hlg1 hlg2 hL hL2 hlong h1b h2b hb1 hb2 fb cb1 cb2 hwb h1 h2
        go_enter Try.func6, Try.ntmps6
        go_wp2_with fail
        rw [← HWb.out]
        refine Hlg1.out.mono ?_; rintro e w1 ⟨rfl, rfl⟩
        go_wp2_with fail
        refine Hlg2.out.mono ?_; rintro e w1 ⟨rfl, rfl⟩
        go_wp2_with (first
          | (go_at_call 10; refine (awake_any _).mono ?_; rintro e w2 ⟨rfl, f2⟩; have d1 := Fr.keep f2 cb1'; have d2 := Fr.keep f2 cb2')
          | (go_at_call 11; refine (Hry.out _ (H1b.out.kept f2 (fun _ _ e => e))).mono ?_; rintro e w3 ⟨p, m, ua, un, uc, rfl, hr⟩))
        have fW3 := FB.out.trans (f2.trans hr.fr)
        have cb := HCB.out
        have e1 := Fr.keep (f2.trans hr.fr) cb.1
        have e2 := Fr.keep (f2.trans hr.fr) cb.2
        have HE := Lib.hid (And.intro e1 e2)
        have FW3 := Lib.hid fW3
        have hbs1 : W.heap.size + 2 ≤ p ∧ W.heap.size + 2 ≤ m := by have := hr.pb; have := f2.size; omega
        have h2w3 := H2b.out.kept (f2.trans hr.fr) (fun _ _ e => e)
        have H2w3 := Lib.hid h2w3
        have hlt := hr.page.lt
        have hub := hr.sl.lt
        have HU := Lib.hid hr.len
        have HPB := Lib.hid hbs1
        have hc0 : Collect w3 p m st.1 ua un uc st.2 (conts st.1 (st.2.take 0)) none 0 0 w3 := ⟨hr.page, hr.sl, SlAt.empty _ _ _, rfl, Fr.refl _ _, fun i hi => absurd hi (blk_none i)⟩
        have hle := hr.le
        clear f2 FB H1b Hry Hlg1 Hlg2 d1 d2 cb1' cb2' fW3 e1 e2 hbs1 h2w3 cb HCB
        go_loopw [10, 11] (fun u i wr => ∃ (k n cap : Nat) (a : Option Addr), Hid (k ≤ un) ∧ i = .int .i64 k ∧ u = .slice a n cap ∧ Hid (n = k) ∧ Collect w3 p m st.1 ua un uc st.2 (conts st.1 (st.2.take k)) a n cap wr) (fun _ i _ => un - (intOf i).toNat)
        case atStart => exact ⟨0, 0, 0, none, Nat.zero_le _, rfl, rfl, rfl, hc0⟩
        case round =>
          obtain ⟨k, n, cap, a, hk, rfl, rfl, hnk, hc⟩ := hrel
          clear hc0
          by_cases hlt1 : k < un
          · obtain ⟨o, ho⟩ : ∃ o, st.2[k]? = some o := ⟨st.2[k]'(by rw [← HU.out]; exact hlt1), List.getElem?_eq_getElem _⟩
            obtain ⟨g, rfl⟩ := hr.sl.isAddr (by omega)
            have cu := hc.ul.cell (i := k) (v := v16 o) (by rw [List.getElem?_map, ho]; rfl)
            unfold v16 at cu
            obtain ⟨bs, hbs⟩ := Option.isSome_iff_exists.1 ((hinv.mem o).1 (List.mem_of_getElem? ho))
            have hrd := Page_Read_yes hc.page hbs
            unfold ptr v16 err at hrd
            have Hbs := Lib.hid hbs
            have Hoo := Lib.hid ho
            have hle2 : n ≤ 2000 := by have := hnk.out; omega
            generalize hst : strOf bs = sb at hrd
            have Hst := Lib.hid hst
            have Hrd := Lib.hid hrd
            clear hbs ho hst hrd
            go_wp2_with (first
              | (go_at_call 12; refine Hrd.out.mono ?_; rintro e w5 ⟨rfl, f5⟩; have hc5 := hc.skip f5)
              | (at_builtin; refine wpAppend rfl _ _ _ rfl 9 (.string ByteArray.empty) 1 16 Try.underlying32 string_info rfl (hc5.sl.kept0 (Fr.alloc _ _ _)) rfl ⟨w5.heap.size, 0, none⟩ 1 1 [.string sb] rfl rfl (str_cells _ _ _ (by simp)) (by simp [Value.oneCell']) (by omega) (by simp [maxLen]; omega) (by omega) ?_; intro a2 cap2 w6 hs6 f6 hb6))
            go_roundw
            case rel =>
              have e : conts st.1 (st.2.take (k + 1)) = conts st.1 (st.2.take k) ++ [sb] := by
                rw [take_succ_get _ _ _ Hoo.out]
                unfold conts
                rw [List.map_append, List.map_singleton, Hbs.out, ← Hst.out]; rfl
              refine ⟨k + 1, n + 1, cap2, a2, hlt1, by go_num, rfl, ?_, ?_⟩
              · have := hnk.out; show n + 1 = k + 1; omega
              · rw [e]; exact hc5.push ⟨hlt.1, hlt.2.1⟩ hub (Fr.alloc _ _ _) hs6 f6 hb6
            case measure => simp [intOf]; omega
          · have ek : st.2.take k = st.2 := List.take_of_length_le (by have := HU.out; omega)
            have Hk' := Lib.hid (show k = un by have := hk.out; omega)
            rw [ek] at hc
            have hcp := Page_Copy hc.page
            unfold ptr at hcp
            have Hnk := Lib.hid (show n = un by have := hnk.out; have := hk.out; omega)
            clear hnk ek
            have g1 := Fr.keep hc.fr HE.out.1
            have g2 := Fr.keep hc.fr HE.out.2
            have Hc := Lib.hid hc
            go_wp2_with fail
            refine hcp.mono ?_
            rintro e w5 ⟨p2, m2, rfl, hp2, f5, hpb2, hmb2⟩
            have hc5 := hc.skip f5
            have hne2 : p2 ≠ p ∧ p2 ≠ m ∧ m2 ≠ p ∧ m2 ≠ m := by have := hc.page.lt; omega
            have ha1 := all_calls w5 sl s3 a2 c2 l2 (H2w3.out.kept hc5.fr (fun _ _ e => e)) hn2 p2 m2 st.1 hp2 hinv.wf Hslot.out (fun hne k hk e => by have := H2.out.blk_lt hne k hk; have := hc.fr.size; have := FW3.out.size; rcases e with rfl | rfl <;> omega) (W.heap.size + 1) W.heap.size (Fr.keep f5 g2) (Fr.keep f5 g1) (fun e => by have := hc.fr.size; have := hc.page.lt; have := HPB.out; rcases e with e | e <;> omega) (fun e => by have := hc.fr.size; have := hc.page.lt; have := HPB.out; rcases e with e | e <;> omega)
            have Ha1 := Lib.hid ha1
            clear ha1
            go_wp2_with (go_at_call 22; refine Ha1.out.mono ?_; rintro e w6 ⟨oa, ocap, rfl, hA⟩)
            have f36 : Fr none_ w3 w6 := hc5.fr.step hA.fr (fun i hi e => by have := hc.fr.size; rcases e with rfl | rfl <;> omega)
            have hcm0 : CompareRel w6 p m st.1 ua un uc st.2 a n cap (conts st.1 st.2) w6 :=
              ⟨hc5.page.kept hA.fr (fun e => by unfold two at e; omega) (fun e => by unfold two at e; omega), hc5.ul.kept hA.fr (fun j hj e => by have := hub j hj; have := hc.fr.size; rcases e with rfl | rfl <;> omega),
                hc5.sl.kept hA.fr (fun j hj e => by have := hc.sl.lt j hj; rcases e with rfl | rfl <;> omega), Fr.refl _ _⟩
            have hXi := AllInv.run hinv.wf Hslot.out l2 l2.length (Nat.le_refl _)
            generalize hX : allTo sl st.1 l2 l2.length = X at hA hXi
            have HX := Lib.hid hX
            have HXL := Lib.hid hXi.len
            have HW3 := Lib.hid hc.fr
            have F36 := Lib.hid f36
            have HA := Lib.hid hA
            have HN2 := Lib.hid hne2
            have HSZ := Lib.hid (And.intro hpb2 (And.intro hmb2 (And.intro hc.fr.size f5.size)))
            clear hX hXi f36 hc Hc hc5 hp2 f5 hpb2 hmb2 hne2 g1 g2 hcp Ha1
            go_loopw [17] (fun i wr => ∃ j : Nat, Hid (j ≤ un) ∧ i = .int .i64 j ∧ CompareRel w6 p m st.1 ua un uc st.2 a n cap (conts st.1 st.2) wr) (fun i _ => un - (intOf i).toNat)
            case atStart => exact ⟨0, Nat.zero_le _, rfl, hcm0⟩
            case round =>
              obtain ⟨j, hj, rfl, hcm⟩ := hrel
              clear hcm0
              by_cases hju : j < un
              · obtain ⟨o, ho⟩ : ∃ o, st.2[j]? = some o := ⟨st.2[j]'(by rw [← HU.out]; exact hju), List.getElem?_eq_getElem _⟩
                obtain ⟨g, rfl⟩ := hr.sl.isAddr (by omega)
                obtain ⟨ga, rfl⟩ := hcm.sl.isAddr (by have := Hnk.out; omega)
                have cu := hcm.ul.cell (i := j) (v := v16 o) (by rw [List.getElem?_map, ho]; rfl)
                unfold v16 at cu
                obtain ⟨bs, hbs⟩ := Option.isSome_iff_exists.1 ((hinv.mem o).1 (List.mem_of_getElem? ho))
                have hrd := Page_Read_yes hcm.page hbs
                unfold ptr v16 err at hrd
                have cw := hcm.sl.cell (i := j) (v := .string (strOf bs)) (by unfold conts; rw [List.getElem?_map, List.getElem?_map, ho]; simp [hbs])
                generalize hst : strOf bs = sb at hrd cw
                have hjn : (j : Int) < (n : Int) := by have := Hnk.out; omega
                have Hrd := Lib.hid hrd
                clear hbs ho hst hrd
                go_wp2_with (first
                  | (go_at_call 12; refine Hrd.out.mono ?_; rintro e w7 ⟨rfl, f7⟩; have cw7 := Fr.keep f7 cw)
                  | ((with_reducible refine at_slot 90 ?_); refine wpNeqStr rfl _ _ _ _ rfl sb sb rfl rfl ?_))
                go_roundw
                case rel => exact ⟨j + 1, hju, by go_num, hcm.skip f7⟩
                case measure => simp [intOf]; omega
              · have f3 : Fr none_ w3 wr := F36.out.trans hcm.fr
                have fW : Fr none_ W wr := FW3.out.trans f3
                have hpb := HPB.out
                have ha2 := all_calls wr sl s3 a2 c2 l2 (H2.out.kept fW (fun _ _ e => e)) hn2 p m st.1 hcm.page hinv.wf Hslot.out (fun hne k hk e => by have := H2.out.blk_lt hne k hk; rcases e with rfl | rfl <;> omega) (W.heap.size + 1) W.heap.size (Fr.keep f3 HE.out.2) (Fr.keep f3 HE.out.1) (fun e => by rcases e with e | e <;> omega) (fun e => by rcases e with e | e <;> omega)
                rw [HX.out] at ha2
                have Ha2 := Lib.hid ha2
                have Hcm := Lib.hid hcm
                have FW := Lib.hid fW
                clear ha2 hcm f3 fW
                go_wp2_with (go_at_call 22; refine Ha2.out.mono ?_; rintro e w8 ⟨ob, obcap, rfl, hB⟩)
                have hn2' := HN2.out
                have q1 : PageIs w8 p2 m2 X.2 := (HA.out.page.kept Hcm.out.fr (fun e => e) (fun e => e)).kept hB.fr (fun e => by unfold two at e; omega) (fun e => by unfold two at e; omega)
                have q2 := (HA.out.sl.kept0 Hcm.out.fr).kept hB.fr (fun j hj e => by have := HA.out.own j hj; have := HSZ.out; rcases e with rfl | rfl <;> omega)
                have f0 : Fr none_ w8 w8 := Fr.refl _ _
                have HB2 := Lib.hid hB
                clear hB hn2'
                go_loopw [21] (fun i wr => ∃ j : Nat, Hid (j ≤ l2.length) ∧ i = .int .i64 j ∧ Fr none_ w8 wr) (fun i _ => l2.length - (intOf i).toNat)
                case atStart => exact ⟨0, Nat.zero_le _, rfl, f0⟩
                case round =>
                  obtain ⟨t, ht, rfl, hf⟩ := hrel
                  clear f0
                  by_cases htl : t < l2.length
                  · obtain ⟨y, hy⟩ : ∃ y, X.1[t]? = some y := ⟨X.1[t]'(by rw [HXL.out]; exact htl), List.getElem?_eq_getElem _⟩
                    obtain ⟨gA, rfl⟩ := q2.isAddr (by omega)
                    obtain ⟨gB, rfl⟩ := HB2.out.sl.isAddr (by omega)
                    have cA := (q2.kept0 hf).cell (i := t) (v := .string y) (by rw [List.getElem?_map, hy]; rfl)
                    have cB := (HB2.out.sl.kept0 hf).cell (i := t) (v := .string y) (by rw [List.getElem?_map, hy]; rfl)
                    clear hy
                    go_wp2_with fail
                    go_quiet (fail)
                    go_wp2
                    go_roundw
                    case rel => exact ⟨t + 1, htl, by go_num, hf.trans (Fr.drewN _ _ _)⟩
                    case measure => simp [intOf]; omega
                  · have hua := Page_Used (HB2.out.page.kept hf (fun e => e) (fun e => e))
                    have hub2 := Page_Used (q1.kept hf (fun e => e) (fun e => e))
                    unfold ptr at hua hub2
                    generalize X.2.used = xu at hua hub2
                    have Hua := Lib.hid hua
                    have Hub := Lib.hid hub2
                    clear hua hub2
                    go_wp2_with fail
                    refine Hua.out.mono ?_
                    rintro e w10 ⟨rfl, rfl⟩
                    go_wp2_with fail
                    refine Hub.out.mono ?_
                    rintro e w10 ⟨rfl, rfl⟩
                    go_wp2
                    go_ret
                    refine ⟨rfl, ?_⟩
                    exact (FW.out.step HB2.out.fr (fun i hi e => by have := HPB.out; rcases e with rfl | rfl <;> omega)).trans hf
      · have hrn := fun w v => run_no w slot (by omega) v
        have Hrn := Lib.hid hrn
        have cb2' := cb2
        have cb1' := cb1
        clear hrn hs hlg1 hlg2 hL hL2 hlong h1b h2b hb1 hb2 fb cb1 cb2 hwb h1 h2
        go_enter Try.func6, Try.ntmps6
        go_wp2_with fail
        rw [← HWb.out]
        refine Hlg1.out.mono ?_; rintro e w1 ⟨rfl, rfl⟩
        go_wp2_with fail
        refine Hlg2.out.mono ?_; rintro e w1 ⟨rfl, rfl⟩
        go_wp2_with (first
          | (go_at_call 10; refine (awake_any _).mono ?_; rintro e w2 ⟨rfl, f2⟩; have d1 := Fr.keep f2 cb1'; have d2 := Fr.keep f2 cb2')
          | (go_at_call 11; refine (Hrn.out _ _).mono ?_; rintro e w3 ⟨rfl, rfl⟩))
        go_ret
        exact ⟨rfl, FB.out.trans f2⟩
end Go.Proofs.Ytekojokdeimgpaa
