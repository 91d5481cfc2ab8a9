/-
  DeadSum (P10.3): All is the sum of the Counts.
-/
import Derived.Test.YtkfnfflonjfglaaDdWorks
namespace Go.Proofs.Ytkfnfflonjfglaa
open Go.RowKit
set_option linter.unusedVariables false
set_option linter.unusedSimpArgs false
set_option maxRecDepth 100000

theorem d1_do {w0 w : World} {d : Nat} {s : DS} (h : D1 w0 d s w) (hw : s.WF) (y : StepV) (hy : y.Ok) :
    Calls Try.prog 12 #[.agg #[.int .u8 y.what, .int .i64 y.n], .pointer (some ⟨d, 0, none⟩)] w fun e w' => e = .returned (.int .i64 (doV y s).1) ∧ D1 w0 d (doV y s).2 w' := by
  obtain ⟨m, h1, h2, h3, h4⟩ := h
  refine (do_any h1 hw y hy).mono ?_
  rintro e w' ⟨he, hd, f⟩
  exact ⟨he, D1.turn h2 h3 h4 hd f⟩
theorem d1_sum {w0 w : World} {d : Nat} {s : DS} (h : D1 w0 d s w) (hw : s.WF) : Calls Try.prog 13 #[.pointer (some ⟨d, 0, none⟩)] w fun e w' => e = .returned (.int .i64 (s.all : Int)) ∧ D1 w0 d s w' := by
  obtain ⟨m, h1, h2, h3, h4⟩ := h
  refine (sum_any h1 hw).mono ?_
  rintro e w' ⟨he, f⟩
  exact ⟨he, D1.skip ⟨m, h1, h2, h3, h4⟩ f⟩

set_option maxHeartbeats 4000000 in
theorem walk_DeadSum (W : World) (a1 : Option Addr) (c1 : Nat) (l1 : List StepV) (h1 : StepsAt W a1 l1) :
   Calls Try.prog 3 #[.slice a1 l1.length c1] W fun e w' => e = .returned (.bool true) ∧ Fr none_ W w' := by
  have Hworks := Lib.hid works_any
  have H1 := Lib.hid h1
  have hlen := h1.len
  have Hlen := Lib.hid hlen
  clear h1 hlen
  by_cases hl : 300 < l1.length
  · go_enter Try.func3, Try.ntmps3
    go_wp2_with fail
    refine (Hworks.out _).mono ?_
    rintro e w1 ⟨rfl, f1⟩
    go_wp2_with fail
    refine (Hworks.out _).mono ?_
    rintro e w2 ⟨rfl, f2⟩
    go_wp2_with fail
    go_ret
    exact ⟨rfl, f1.trans f2⟩
  · have hl' : l1.length ≤ 300 := by omega
    go_enter Try.func3, Try.ntmps3
    go_wp2_with fail
    refine (Hworks.out _).mono ?_
    rintro e w1 ⟨rfl, f1⟩
    have G := Lib.hid (d1_new W w1 f1)
    go_wp2_with fail
    refine G.out.mono ?_
    rintro e w2 ⟨d, rfl, h0⟩
    clear G f1
    have hw0 := WF_new
    go_wp2_with fail
    go_loopw [4] (fun i wr => ∃ (k : Nat) (s : DS), Hid (k ≤ l1.length) ∧ i = .int .i64 k ∧ s.WF ∧ D1 W d s wr) (fun i _ => l1.length - (intOf i).toNat)
    case atStart => exact ⟨0, _, Nat.zero_le _, rfl, hw0, h0⟩
    case round =>
      obtain ⟨k, s, hk, rfl, hw, hd⟩ := hrel
      clear h0 hw0
      by_cases hlt : k < l1.length
      · obtain ⟨y, hy⟩ : ∃ y, l1[k]? = some y := ⟨l1[k], List.getElem?_eq_getElem hlt⟩
        have hyo := H1.out.ok y (List.mem_of_getElem? hy)
        rcases H1.out.at_ with h0 | ⟨b, o, rfl, hb, hc⟩
        · rw [h0] at hlt; exact absurd hlt (by simp)
        obtain ⟨c0, c1'⟩ := hc k y hy
        have d0 := Fr.keep hd.fr c0
        have d1 := Fr.keep hd.fr c1'
        have G := Lib.hid (d1_all hd rfl)
        have GD := Lib.hid (d1_do hd hw y hyo)
        obtain ⟨v1, v2⟩ := doV_wf hw y
        clear c0 c1' hc
        have hma := hw.max
        go_wp2_with fail
        refine G.out.mono ?_
        rintro e w3 ⟨rfl, rfl⟩
        go_wp2_with fail
        refine GD.out.mono ?_
        rintro e w3 ⟨rfl, hd3⟩
        generalize (doV y s).1 = V at v2
        generalize (doV y s).2 = t at v1 v2 hd3
        have htm := v1.max
        have e1 : IntKind.i64.wrap ((t.all : Int) - (s.all : Int)) = V := by
          have e : (t.all : Int) - (s.all : Int) = V := by omega
          rw [e]; exact IntWalk.i64_in _ (by omega)
        have e2 : (V != V) = false := bne_self_eq_false _
        have e3 : ((t.all : Int) != (t.all : Int)) = false := bne_self_eq_false _
        have e4 : ¬ (64 : Int) < (t.all : Int) := by omega
        have G2 := Lib.hid (d1_all hd3 rfl)
        have GS := Lib.hid (d1_sum hd3 v1)
        have V2 := Lib.hid v2
        clear v2 d0 d1 hd G GD
        go_wp2_with fail
        refine G2.out.mono ?_
        rintro e w4 ⟨rfl, rfl⟩
        go_wp2_with fail
        refine GS.out.mono ?_
        rintro e w4 ⟨rfl, hd4⟩
        have G4 := Lib.hid (d1_all hd4 rfl)
        go_wp2_with fail
        refine G4.out.mono ?_
        rintro e w5 ⟨rfl, rfl⟩
        go_wp2_with fail
        refine G4.out.mono ?_
        rintro e w5 ⟨rfl, rfl⟩
        go_wp2_with fail
        refine G4.out.mono ?_
        rintro e w5 ⟨rfl, rfl⟩
        go_wp2_with fail
        go_roundw
        case rel => exact ⟨k + 1, t, hlt, by go_num, v1, hd4⟩
        case measure => simp [intOf]; omega
      · go_wp2_with fail
        go_ret
        exact ⟨rfl, hd.fr⟩
end Go.Proofs.Ytkfnfflonjfglaa
