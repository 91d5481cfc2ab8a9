/-
  ViewOwn's walk.
-/
import Derived.Test.YtnnomeichppkpaaVwX
import Derived.Deep.RegionHeld3
import Derived.Outline
namespace Go.Proofs.Ytnnomeichppkpaa
open Go.RowKit Go.Sort
set_option linter.unusedVariables false
set_option linter.unusedSimpArgs false
set_option maxRecDepth 100000

set_option maxHeartbeats 8000000 in
theorem walk_ViewOwn (W : World) (own : Int) (ho : (Lit.int .i64 own).wf = true) (high : Int) (hh : (Lit.int .i64 high).wf = true) (ba : Option Addr) (bc : Nat) (l : List Int) (st : IntsIn W ba l) (writer : Int) (hwr : (Lit.int .i64 writer).wf = true) :
    Calls Try.prog 3 #[.int .i64 own, .int .i64 high, .slice ba l.length bc, .int .i64 writer] W fun e w' => e = .returned (.bool true) ∧ Fr none_ W w' := by
  have hwf := st.wf
  have HWF := Lib.hid hwf
  have ST := Lib.hid st.at_
  have HO := Lib.hid (wf_le ho)
  have HH := Lib.hid (wf_le hh)
  have HR := Lib.hid (wf_le hwr)
  have AW := Lib.hid awake_any
  obtain ⟨n, hn⟩ : ∃ n, n = l.length := ⟨_, rfl⟩
  rw [← hn]
  have HN := Lib.hid hn
  clear ho hh hwr st hwf hn
  by_cases hlong : 300 < n
  · go_enter Try.func3, Try.ntmps3
    go_wp2_with fail
    refine (AW.out _).mono ?_
    rintro e w1 ⟨rfl, f⟩
    have F := Lib.hid f
    clear f
    go_wp2_with fail
    go_ret
    exact ⟨rfl, F.out⟩
  · go_enter Try.func3, Try.ntmps3
    go_wp2_with fail
    refine (AW.out _).mono ?_
    rintro e w1 ⟨rfl, f1⟩
    have F1 := Lib.hid f1
    clear f1
    go_wp2_with fail
    refine (Of_any w1 own high ba bc n l (ST.out.kept0 F1.out) HN.out (by omega)).mono ?_
    rintro e w2 ⟨a, m, c, rfl, hm, hs, f, hk⟩
    obtain ⟨L, hL⟩ : ∃ L, L = vwBusy own high l := ⟨_, rfl⟩
    have SPEC := Lib.hid (vwBusy_spec own high l)
    have hmb : m ≤ 300 := by rw [hm]; exact Nat.le_trans (vwBusy_length _ _ _) (by have := HN.out; omega)
    rw [← hL] at hm hs SPEC
    have F2 := Lib.hid (F1.out.trans f)
    have S2 := Lib.hid (hs.ls1 (enc := encI) hm)
    have L2 := Lib.hid hs.lt
    have HM := Lib.hid hm
    clear hs f hk F1 hm hL
    have f3 := Fr.alloc none_ w2 (.cells #[.int .i64 0, .int .i64 0, .slice none 0 0] 25)
    have R3 := Lib.hid (Row.new w2 #[.int .i64 0, .int .i64 0, .slice none 0 0] 25)
    have F3 := Lib.hid (F2.out.trans f3)
    have S3 := Lib.hid (S2.out.kept0 f3)
    have Z3 : Hid (W.heap.size ≤ w2.heap.size) := Lib.hid F2.out.size
    clear f3 F2 S2
    go_upto_region 4 with ((with_reducible refine at_storeOf 25 ?_); refine wpStoreRow rfl _ _ _ rfl R3.out rfl rfl (by kernel_rfl) rfl (by simp [Value.oneCell']) ?_; intro w4 r4 f4; have V4 : Hid (VX W w4 w2.heap.size own high a m c L) := Lib.hid ⟨r4, S3.out.kept f4 (fun k hk e => by have := L2.out k hk; unfold one at e; omega), HM.out, by omega, F3.out.step f4 (fun i hi e => by have := Z3.out; unfold one at e; omega)⟩; clear r4 f4)
    clear R3 F3 S3 L2 Z3
    generalize w2.heap.size = X at V4 ⊢
    simp only [Act.put]
    have c0 := V4.out.c0
    have c1 := V4.out.c1
    have c2 := V4.out.c2
    have eo : vwSees own high L own = decide (1 ≤ own) := by unfold vwSees; simp
    have SO := Lib.hid (V4.out.sees own _ eo)
    clear eo
    go_cut [45] (fun v wx => v = .bool false ∧ Hid (VX W wx X own high a m c L))
    case first =>
      go_wp2_with fail
      refine SO.out.mono ?_
      rintro e w5 ⟨rfl, v5, _⟩
      have V5 := Lib.hid v5
      clear v5
      have c0' := V5.out.c0
      have c1' := V5.out.c1
      have c2' := V5.out.c2
      cases hq : (writer == own)
      · have hq' : (writer != own) = true := by rw [bne, hq]; rfl
        by_cases hge : high ≤ writer
        · have es : vwSees own high L writer = false := by
            cases e : vwSees own high L writer with
            | false => rfl
            | true =>
              rcases (vwSees_iff.1 e).2 with q | q
              · rw [q] at hq; simp at hq
              · omega
          have SW := Lib.hid (V5.out.sees writer _ es)
          clear es hq
          go_wp2_with fail
          refine SW.out.mono ?_
          rintro e w6 ⟨rfl, v6, _⟩
          have V6 := Lib.hid v6
          clear v6
          go_wp2_with fail
          go_meet
          exact ⟨rfl, V6⟩
        · clear hq
          go_wp2_with fail
          go_meet
          exact ⟨rfl, V5⟩
      · have hq' : (writer != own) = false := by rw [bne, hq]; rfl
        clear hq
        go_wp2_with fail
        go_meet
        exact ⟨rfl, V5⟩
    case rest =>
      obtain ⟨rfl, VC⟩ := hcut
      clear V4 SO c0 c1 c2
      go_wp2_with fail
      go_loopw [10] (fun iv wr => ∃ k : Nat, Hid (k ≤ n) ∧ iv = .int .i64 (k : Int) ∧ Hid (VX W wr X own high a m c L)) (fun iv _ => n - (intOf iv).toNat)
      case atStart => exact ⟨0, Nat.zero_le _, rfl, VC⟩
      case round =>
        obtain ⟨k, hk, rfl, VR⟩ := hrel
        clear VC
        have c0 := VR.out.c0
        have c1 := VR.out.c1
        have c2 := VR.out.c2
        by_cases hlt : k < n
        · have hkl : k < l.length := by rw [← HN.out]; exact hlt
          obtain ⟨x, hx⟩ : ∃ x, l[k]? = some x := ⟨_, List.getElem?_eq_getElem hkl⟩
          obtain ⟨b, o, hbo⟩ := ST.out.some_ (fun e => by rw [e] at hkl; simp at hkl)
          subst hbo
          have q0 := VR.out.fr.keep (ST.out.at_ hx)
          have HXK := Lib.hid hx
          have lt1 : (k : Int) < (n : Int) := by omega
          clear hx hkl
          cases hq : (x == own)
          · have hq' : (x != own) = true := by rw [bne, hq]; rfl
            have es : vwSees own high L x = false := by
              cases e : vwSees own high L x with
              | false => rfl
              | true =>
                obtain ⟨e1, e2⟩ := vwSees_iff.1 e
                rcases e2 with q | q
                · rw [q] at hq; simp at hq
                · refine absurd ((SPEC.out.2 x).2 ⟨List.mem_of_getElem? HXK.out, e1, q.1, fun h => by rw [h] at hq; simp at hq⟩) q.2
            have SX := Lib.hid (fun w' (f : Fr none_ wr w') => (VR.out.keep f).sees x _ es)
            clear es hq
            have fS : Fr none_ wr wr := Fr.refl _ _
            go_wp2_with fail
            go_region_held3 (fun w' => Fr none_ wr w' ∧ w'.cell? ⟨X, 0, none⟩ = some (.int .i64 own) ∧ w'.cell? ⟨X, 1, none⟩ = some (.int .i64 high) ∧ w'.cell? ⟨X, 2, none⟩ = some (.slice a m c) ∧ w'.cell? ⟨b, o + k, none⟩ = some (.int .i64 x))
              (first | (go_split_ands; refine ⟨?_, ?_, ?_, ?_, ?_⟩; exact Fr.trans (by assumption) f6; all_goals exact Fr.keep f6 (by assumption)) | (go_split_ands; refine ⟨?_, ?_, ?_, ?_, ?_⟩; exact Fr.trans (by assumption) (Fr.drew _ _); all_goals assumption) | go_keep)
              (first | (go_at_call 9; refine (SX.out _ (Fr.drew _ _)).mono ?_; rintro e w6 ⟨rfl, v6, f6⟩))
            have V6 := Lib.hid v6
            clear v6 f6
            go_wp2_with fail
            go_roundw
            case rel => exact ⟨k + 1, hlt, by go_num, V6⟩
            case measure => simp [intOf]; omega
          · have hq' : (x != own) = false := by rw [bne, hq]; rfl
            clear hq
            go_wp2_with fail
            go_quiet (fail)
            have V6 := Lib.hid (VR.out.keep (Fr.drewN none_ wr nq))
            go_wp2_with fail
            go_roundw
            case rel => exact ⟨k + 1, hlt, by go_num, V6⟩
            case measure => simp [intOf]; omega
        · obtain ⟨least, hle⟩ : ∃ m, m = vwLeast own high L := ⟨_, rfl⟩
          have hll := vwLeast_is own high L HH.out.2
          have LE := Lib.hid (VR.out.least HH.out.2 least hle)
          rw [← hle] at hll
          have LIS := Lib.hid hll
          have h1 : 1 ≤ least := hll.one
          have h2 : least ≤ 9223372036854775807 := hll.most
          clear hle hll
          go_wp2_with fail
          refine LE.out.mono ?_
          rintro e w7 ⟨rfl, v7, _⟩
          have V7 := Lib.hid v7
          clear v7 c0 c1 c2
          have c0 := V7.out.c0
          have c1 := V7.out.c1
          have c2 := V7.out.c2
          have hl1 : decide (least < 1) = false := decide_eq_false (by omega)
          go_upto_region 12 with fail
          go_cut [93] (fun v wx => v = .bool false ∧ Hid (VX W wx X own high a m c L))
          case first =>
            cases hb : (least == 9223372036854775807)
            · have hb' : (least != 9223372036854775807) = true := by rw [bne, hb]; rfl
              have SL := Lib.hid (V7.out.sees least _ (LIS.out.not_ (by
                have : least ≠ 9223372036854775807 := fun h => by rw [h] at hb; simp at hb
                unfold mostI; omega)))
              clear hb
              go_wp2_with fail
              refine SL.out.mono ?_
              rintro e w8 ⟨rfl, v8, _⟩
              have V8 := Lib.hid v8
              clear v8
              by_cases hw1 : 1 ≤ writer
              · by_cases hw2 : writer < least
                · have SW := Lib.hid (V8.out.sees writer _ (LIS.out.below writer hw1 hw2))
                  have c0' := V8.out.c0
                  have c1' := V8.out.c1
                  have c2' := V8.out.c2
                  go_wp2_with fail
                  refine SW.out.mono ?_
                  rintro e w9 ⟨rfl, v9, _⟩
                  have V9 := Lib.hid v9
                  clear v9
                  go_wp2_with fail
                  go_meet
                  exact ⟨rfl, V9⟩
                · go_wp2_with fail
                  go_meet
                  exact ⟨rfl, V8⟩
              · go_wp2_with fail
                go_meet
                exact ⟨rfl, V8⟩
            · have hb' : (least != 9223372036854775807) = false := by rw [bne, hb]; rfl
              clear hb
              by_cases hw1 : 1 ≤ writer
              · by_cases hw2 : writer < least
                · have SW := Lib.hid (V7.out.sees writer _ (LIS.out.below writer hw1 hw2))
                  have c0' := V7.out.c0
                  have c1' := V7.out.c1
                  have c2' := V7.out.c2
                  go_wp2_with fail
                  refine SW.out.mono ?_
                  rintro e w9 ⟨rfl, v9, _⟩
                  have V9 := Lib.hid v9
                  clear v9
                  go_wp2_with fail
                  go_meet
                  exact ⟨rfl, V9⟩
                · go_wp2_with fail
                  go_meet
                  exact ⟨rfl, V7⟩
              · go_wp2_with fail
                go_meet
                exact ⟨rfl, V7⟩
          case rest =>
            obtain ⟨rfl, VC⟩ := hcut
            clear V7 VR c0 c1 c2
            go_wp2_with fail
            go_loopw [12] (fun iv wr => ∃ k : Nat, Hid (1 ≤ k ∧ k ≤ 400) ∧ iv = .int .i64 (k : Int) ∧ Hid (VX W wr X own high a m c L)) (fun iv _ => 400 - (intOf iv).toNat)
            case atStart => exact ⟨1, Lib.hid (by omega), rfl, VC⟩
            case round =>
              obtain ⟨k, hk, rfl, VR⟩ := hrel
              clear VC
              have c0 := VR.out.c0
              have c1 := VR.out.c1
              have c2 := VR.out.c2
              have hk1 : 1 ≤ k := hk.out.1
              by_cases hkl : (k : Int) < least
              · by_cases hk4 : k < 400
                · have SK := Lib.hid (VR.out.sees k _ (LIS.out.below k (by omega) hkl))
                  go_wp2_with fail
                  refine SK.out.mono ?_
                  rintro e w9 ⟨rfl, v9, _⟩
                  have V9 := Lib.hid v9
                  clear v9
                  go_wp2_with fail
                  go_roundw
                  case rel => exact ⟨k + 1, Lib.hid (by omega), by go_num, V9⟩
                  case measure => simp [intOf]; omega
                · go_wp2_with fail
                  go_ret
                  exact ⟨rfl, VR.out.fr⟩
              · go_wp2_with fail
                go_ret
                exact ⟨rfl, VR.out.fr⟩
end Go.Proofs.Ytnnomeichppkpaa
