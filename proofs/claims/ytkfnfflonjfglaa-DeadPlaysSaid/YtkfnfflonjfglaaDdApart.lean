/-
  DeadApart (P10.6): what is done to a copy is not seen, and comes to the same when it is done to what was copied.
-/
import Derived.Test.YtkfnfflonjfglaaDdSum
namespace Go.Proofs.Ytkfnfflonjfglaa
open Go.RowKit
set_option linter.unusedVariables false
set_option linter.unusedSimpArgs false
set_option maxRecDepth 100000

/-- Three of them, all apart, all behind what was there. -/
structure D3 (W : World) (d m : Nat) (s : DS) (e n : Nat) (t : DS) (f o : Nat) (u : DS) (wr : World) : Prop where
  a1 : DeadAt wr d m s
  a2 : DeadAt wr e n t
  a3 : DeadAt wr f o u
  fr : Fr none_ W wr
  lo : W.heap.size ≤ d ∧ W.heap.size ≤ m ∧ W.heap.size ≤ e ∧ W.heap.size ≤ n ∧ W.heap.size ≤ f ∧ W.heap.size ≤ o
  ap : d ≠ e ∧ d ≠ n ∧ m ≠ e ∧ m ≠ n ∧ d ≠ f ∧ d ≠ o ∧ m ≠ f ∧ m ≠ o ∧ e ≠ f ∧ e ≠ o ∧ n ≠ f ∧ n ≠ o
section
variable {W wr w1 : World} {d m e n f o : Nat} {s s' t t' u u' : DS}
theorem D3.skip (h : D3 W d m s e n t f o u wr) (g : Fr none_ wr w1) : D3 W d m s e n t f o u w1 := ⟨h.a1.kept0 g, h.a2.kept0 g, h.a3.kept0 g, h.fr.trans g, h.lo, h.ap⟩
theorem D3.turn1 (h : D3 W d m s e n t f o u wr) (ha : DeadAt w1 d m s') (g : Fr (two d m) wr w1) : D3 W d m s' e n t f o u w1 := by
  have hl := h.lo
  have hp := h.ap
  exact ⟨ha, h.a2.kept g (by unfold two; omega) (by unfold two; omega), h.a3.kept g (by unfold two; omega) (by unfold two; omega), h.fr.step g (fun i hi q => by unfold two at q; omega), hl, hp⟩
theorem D3.turn2 (h : D3 W d m s e n t f o u wr) (ha : DeadAt w1 e n t') (g : Fr (two e n) wr w1) : D3 W d m s e n t' f o u w1 := by
  have hl := h.lo
  have hp := h.ap
  exact ⟨h.a1.kept g (by unfold two; omega) (by unfold two; omega), ha, h.a3.kept g (by unfold two; omega) (by unfold two; omega), h.fr.step g (fun i hi q => by unfold two at q; omega), hl, hp⟩
theorem D3.turn3 (h : D3 W d m s e n t f o u wr) (ha : DeadAt w1 f o u') (g : Fr (two f o) wr w1) : D3 W d m s e n t f o u' w1 := by
  have hl := h.lo
  have hp := h.ap
  exact ⟨h.a1.kept g (by unfold two; omega) (by unfold two; omega), h.a2.kept g (by unfold two; omega) (by unfold two; omega), ha, h.fr.step g (fun i hi q => by unfold two at q; omega), hl, hp⟩
/-- Two copies. -/
theorem D3.of {w2 : World} (h1 : DeadAt wr d m s) (l1 : W.heap.size ≤ d) (l2 : W.heap.size ≤ m) (fr : Fr none_ W wr) (h2 : DeadAt w1 e n s) (f1 : Fr none_ wr w1) (g1 : wr.heap.size ≤ e) (g2 : wr.heap.size ≤ n) (h3 : DeadAt w2 f o s) (f2 : Fr none_ w1 w2) (g3 : w1.heap.size ≤ f) (g4 : w1.heap.size ≤ o) : D3 W d m s e n s f o s w2 := by
  have z0 := fr.size
  have z1 := f1.size
  have lt1 := h1.lt
  have lt2 := h2.lt
  exact ⟨(h1.kept0 f1).kept0 f2, h2.kept0 f2, h3, (fr.trans f1).trans f2, by omega, by omega⟩
end

def dgoes (s : DS) (l : List StepV) (k : Nat) : DS := (l.take k).foldl (fun s y => (doV y s).2) s
theorem dgoes_succ (s : DS) (l : List StepV) (k : Nat) (y : StepV) (h : l[k]? = some y) : dgoes s l (k + 1) = (doV y (dgoes s l k)).2 := by
  unfold dgoes; rw [take_succ_get2 l k y h, List.foldl_append]; rfl
theorem dgoes_wf {s : DS} (h : s.WF) (l : List StepV) : ∀ k, k ≤ l.length → (dgoes s l k).WF := by
  intro k
  induction k with
  | zero => intro _; exact h
  | succ k ih =>
    intro hk
    rw [dgoes_succ s l k _ (List.getElem?_eq_getElem (by omega))]
    exact (doV_wf (ih (by omega)) _).1

set_option maxHeartbeats 4000000 in
theorem walk_DeadApart (W : World) (a1 : Option Addr) (c1 : Nat) (l1 : List StepV) (h1 : StepsAt W a1 l1) (a2 : Option Addr) (cc2 : Nat) (l2 : List StepV) (h2 : StepsAt W a2 l2) :
   Calls Try.prog 8 #[.slice a1 l1.length c1, .slice a2 l2.length cc2] W fun e w' => e = .returned (.bool true) ∧ Fr none_ W w' := by
  have Hworks := Lib.hid works_any
  have H1 := Lib.hid h1
  have H2 := Lib.hid h2
  have Hlen := Lib.hid h1.len
  have Hlen2 := Lib.hid h2.len
  clear h1 h2
  by_cases hl : 200 < l1.length
  · go_enter Try.func8, Try.ntmps8
    go_wp2_with fail
    refine (Hworks.out _).mono ?_
    rintro e w1 ⟨rfl, f1⟩
    go_wp2_with fail
    refine (Hworks.out _).mono ?_
    rintro e w2 ⟨rfl, f2⟩
    go_wp2_with fail
    go_ret
    exact ⟨rfl, f1.trans f2⟩
  by_cases hl2 : 200 < l2.length
  · go_enter Try.func8, Try.ntmps8
    go_wp2_with fail
    refine (Hworks.out _).mono ?_
    rintro e w1 ⟨rfl, f1⟩
    go_wp2_with fail
    refine (Hworks.out _).mono ?_
    rintro e w2 ⟨rfl, f2⟩
    go_wp2_with fail
    go_ret
    exact ⟨rfl, f1.trans f2⟩
  · have hl' : l1.length ≤ 200 := by omega
    have hl2' : l2.length ≤ 200 := by omega
    go_enter Try.func8, Try.ntmps8
    go_wp2_with fail
    refine (Hworks.out _).mono ?_
    rintro e w1 ⟨rfl, f1⟩
    have G := Lib.hid (d1_new W w1 f1)
    go_wp2_with fail
    refine G.out.mono ?_
    rintro e w2 ⟨d, rfl, h0⟩
    clear G f1
    have hw0 := WF_new
    go_wp2_with fail
    go_loopw [6] (fun i wr => ∃ (k : Nat) (s : DS), Hid (k ≤ l1.length) ∧ i = .int .i64 k ∧ s.WF ∧ D1 W d s wr) (fun i _ => l1.length - (intOf i).toNat)
    case atStart => exact ⟨0, _, Nat.zero_le _, rfl, hw0, h0⟩
    case round =>
      obtain ⟨k, s, hk, rfl, hw, hd⟩ := hrel
      clear h0 hw0
      by_cases hlt : k < l1.length
      · obtain ⟨y, hy⟩ : ∃ y, l1[k]? = some y := ⟨l1[k], List.getElem?_eq_getElem hlt⟩
        have hyo := H1.out.ok y (List.mem_of_getElem? hy)
        rcases H1.out.at_ with h0 | ⟨b, o, rfl, hb, hc⟩
        · rw [h0] at hlt; exact absurd hlt (by simp)
        obtain ⟨c0, c1'⟩ := hc k y hy
        have d0 := Fr.keep hd.fr c0
        have d1 := Fr.keep hd.fr c1'
        have GD := Lib.hid (d1_do hd hw y hyo)
        obtain ⟨v1, v2⟩ := doV_wf hw y
        clear c0 c1' hc v2
        go_wp2_with fail
        refine GD.out.mono ?_
        rintro e w3 ⟨rfl, hd3⟩
        go_wp2_with fail
        go_roundw
        case rel => exact ⟨k + 1, _, hlt, by go_num, v1, hd3⟩
        case measure => simp [intOf]; omega
      · obtain ⟨m, hd1, ld, lm, hfr⟩ := hd
        have G := Lib.hid (fun w' (f : Fr none_ wr w') => Dead_Copy (hd1.kept0 f))
        go_wp2_with fail
        refine (G.out _ (Fr.refl _ _)).mono ?_
        rintro e w4 ⟨d2, m2, rfl, h2, f2, g1, g2⟩
        go_wp2_with fail
        refine (G.out _ f2).mono ?_
        rintro e w5 ⟨d3, m3, rfl, h3, f3, g3, g4⟩
        have hq0 : D3 W d m s d2 m2 (dgoes s l2 0) d3 m3 s w5 := D3.of hd1 ld lm hfr h2 f2 g1 g2 h3 f3 g3 g4
        clear G hd1 ld lm hfr h2 f2 g1 g2 h3 f3 g3 g4
        have HWF := Lib.hid (dgoes_wf hw l2)
        go_wp2_with fail
        go_loopw [9] (fun i wr => ∃ (j : Nat), Hid (j ≤ l2.length) ∧ i = .int .i64 j ∧ D3 W d m s d2 m2 (dgoes s l2 j) d3 m3 s wr) (fun i _ => l2.length - (intOf i).toNat)
        case atStart => exact ⟨0, Nat.zero_le _, rfl, hq0⟩
        case round =>
          obtain ⟨j, hj, rfl, hq⟩ := hrel
          clear hq0
          by_cases hjl : j < l2.length
          · obtain ⟨y, hy⟩ : ∃ y, l2[j]? = some y := ⟨l2[j], List.getElem?_eq_getElem hjl⟩
            have hyo := H2.out.ok y (List.mem_of_getElem? hy)
            rcases H2.out.at_ with h0 | ⟨b, o, rfl, hb, hc⟩
            · rw [h0] at hjl; exact absurd hjl (by simp)
            obtain ⟨c0, c1'⟩ := hc j y hy
            have e0 := Fr.keep hq.fr c0
            have e1 := Fr.keep hq.fr c1'
            have GD := Lib.hid (do_any hq.a2 (HWF.out j (by omega)) y hyo)
            have HS := Lib.hid (dgoes_succ s l2 j y hy)
            clear c0 c1' hc
            go_wp2_with fail
            refine GD.out.mono ?_
            rintro e w6 ⟨rfl, ha6, f6⟩
            have hq6 := hq.turn2 ha6 f6
            rw [← HS.out] at hq6
            go_wp2_with fail
            go_roundw
            case rel => exact ⟨j + 1, hjl, by go_num, hq6⟩
            case measure => simp [intOf]; omega
          · have hje : j = l2.length := by have := hj.out; omega
            subst hje
            obtain ⟨sc, hsc⟩ : ∃ sc, sc = dgoes s l2 l2.length := ⟨_, rfl⟩
            have hwc : sc.WF := by rw [hsc]; exact HWF.out _ (Nat.le_refl _)
            rw [← hsc] at hq
            have HSC := Lib.hid hsc
            have G := Lib.hid (same_any hq.a1 hq.a3 hw hw (fun _ => rfl))
            clear hsc
            go_wp2_with fail
            refine G.out.mono ?_
            rintro e w6 ⟨rfl, f6⟩
            have hq6 : D3 W d m (dgoes s l2 0) d2 m2 sc d3 m3 s w6 := hq.skip f6
            clear hq G f6
            go_wp2_with fail
            go_loopw [10] (fun i wr => ∃ (j : Nat), Hid (j ≤ l2.length) ∧ i = .int .i64 j ∧ D3 W d m (dgoes s l2 j) d2 m2 sc d3 m3 s wr) (fun i _ => l2.length - (intOf i).toNat)
            case atStart => exact ⟨0, Nat.zero_le _, rfl, hq6⟩
            case round =>
              obtain ⟨j, hj, rfl, hq⟩ := hrel
              clear hq6
              by_cases hjl : j < l2.length
              · obtain ⟨y, hy⟩ : ∃ y, l2[j]? = some y := ⟨l2[j], List.getElem?_eq_getElem hjl⟩
                have hyo := H2.out.ok y (List.mem_of_getElem? hy)
                rcases H2.out.at_ with h0 | ⟨b, o, rfl, hb, hc⟩
                · rw [h0] at hjl; exact absurd hjl (by simp)
                obtain ⟨c0, c1'⟩ := hc j y hy
                have e0 := Fr.keep hq.fr c0
                have e1 := Fr.keep hq.fr c1'
                have GD := Lib.hid (do_any hq.a1 (HWF.out j (by omega)) y hyo)
                have HS := Lib.hid (dgoes_succ s l2 j y hy)
                clear c0 c1' hc
                go_wp2_with fail
                refine GD.out.mono ?_
                rintro e w7 ⟨rfl, ha7, f7⟩
                have hq7 := hq.turn1 ha7 f7
                rw [← HS.out] at hq7
                go_wp2_with fail
                go_roundw
                case rel => exact ⟨j + 1, hjl, by go_num, hq7⟩
                case measure => simp [intOf]; omega
              · have hje : j = l2.length := by have := hj.out; omega
                subst hje
                rw [← HSC.out] at hq
                have G := Lib.hid (same_any hq.a1 hq.a2 hwc hwc (fun _ => rfl))
                go_wp2_with fail
                refine G.out.mono ?_
                rintro e w7 ⟨rfl, f7⟩
                go_wp2_with fail
                go_ret
                exact ⟨rfl, hq.fr.trans f7⟩
end Go.Proofs.Ytkfnfflonjfglaa
