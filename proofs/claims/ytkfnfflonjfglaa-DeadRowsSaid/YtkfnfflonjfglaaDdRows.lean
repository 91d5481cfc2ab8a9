/-
  DeadRows (P10.2): the order of the adds is nothing; one more and one less is nothing.
-/
import Derived.Test.YtkfnfflonjfglaaDdRowsLaw
namespace Go.Proofs.Ytkfnfflonjfglaa
open Go.RowKit
set_option linter.unusedVariables false
set_option linter.unusedSimpArgs false
set_option maxRecDepth 100000

theorem add_isI {w : World} {d m : Nat} {s : DS} (h : DeadAt w d m s) (hw : s.WF) (t : Int) {q : Int} (hq : ((dAdd s t).1 : Int) = q) : Calls Try.prog 14 #[.pointer (some ⟨d, 0, none⟩), .int .i64 t] w fun e w' => e = .returned (.int .i64 q) ∧ DeadAt w' d m (dAdd s t).2 ∧ Fr (two d m) w w' := by
  subst hq; exact Dead_Add h hw.max t (hw.le64 t)
theorem less_is {w : World} {d m : Nat} {s : DS} (h : DeadAt w d m s) (hw : s.WF) (t : Int) {b : Bool} (hb : (dLess s t).1 = b) : Calls Try.prog 16 #[.pointer (some ⟨d, 0, none⟩), .int .i64 t] w fun e w' => e = .returned (.bool b) ∧ DeadAt w' d m (dLess s t).2 ∧ Fr (two d m) w w' := by
  subst hb; exact Dead_Less h hw.max t (hw.le_all t)

set_option maxHeartbeats 8000000 in
theorem walk_DeadRows (W : World) (a1 : Option Addr) (c1 : Nat) (l1 : List Int) (h1 : IntsAt W a1 l1) (x : Int) (hx : (Lit.int .i64 x).wf = true) (y : Int) (hy : (Lit.int .i64 y).wf = true) :
   Calls Try.prog 4 #[.slice a1 l1.length c1, .int .i64 x, .int .i64 y] W fun e w' => e = .returned (.bool true) ∧ Fr none_ W w' := by
  have Hworks := Lib.hid works_any
  have H1 := Lib.hid h1
  clear h1 hx hy
  by_cases hl : 64 < l1.length
  · go_enter Try.func4, Try.ntmps4
    go_wp2_with fail
    refine (Hworks.out _).mono ?_
    rintro e w1 ⟨rfl, f1⟩
    go_wp2_with fail
    refine (Hworks.out _).mono ?_
    rintro e w2 ⟨rfl, f2⟩
    go_wp2_with fail
    go_ret
    exact ⟨rfl, f1.trans f2⟩
  · have hl' : l1.length ≤ 64 := by omega
    obtain ⟨rev, hrev⟩ : ∃ rev : Bool, rev = decide (x.tmod 2 = 0) := ⟨_, rfl⟩
    obtain ⟨mz, hmz⟩ := Int.eq_ofNat_of_zero_le (show 0 ≤ IntKind.u64.wrap x from wrap_u64_nonneg x)
    have HMZ := Lib.hid hmz
    have HREV := Lib.hid hrev
    clear hrev hmz
    go_enter Try.func4, Try.ntmps4
    go_wp2_with fail
    refine (Hworks.out _).mono ?_
    rintro e w1 ⟨rfl, f1⟩
    go_wp2_with fail
    refine (Dead_New _).mono ?_
    rintro e w2 ⟨d, m, rfl, hA, fA, g1, g2⟩
    go_wp2_with fail
    refine (Dead_New _).mono ?_
    rintro e w3 ⟨d2, m2, rfl, hB, fB, g3, g4⟩
    have hq0 : D2 W d m ⟨[], 0⟩ d2 m2 ⟨[], 0⟩ w3 := by
      have z1 := f1.size
      have z2 := fA.size
      have lt1 := hA.lt
      have lt2 := hB.lt
      exact ⟨hA.kept0 fB, hB, (f1.trans fA).trans fB, by omega, by omega⟩
    clear f1 hA fA g1 g2 hB fB g3 g4
    obtain ⟨R, hR⟩ : ∃ R, R = turned rev l1 (mz % l1.length) := ⟨_, rfl⟩
    have HR := Lib.hid hR
    clear hR
    go_wp2_with fail
    go_loopw [9] (fun i wr => ∃ (k : Nat) (s t : DS), Hid (k ≤ l1.length) ∧ i = .int .i64 k ∧ AL s (l1.take k) ∧ AL t (R.take k) ∧ D2 W d m s d2 m2 t wr) (fun i _ => l1.length - (intOf i).toNat)
    case atStart => exact ⟨0, _, _, Nat.zero_le _, rfl, AL.start, AL.start, hq0⟩
    case round =>
      obtain ⟨k, s, t, hk, rfl, hs, ht, hq⟩ := hrel
      clear hq0
      by_cases hlt : k < l1.length
      · obtain ⟨v, hv⟩ : ∃ v, l1[k]? = some v := ⟨l1[k], List.getElem?_eq_getElem hlt⟩
        have hlen : 0 < l1.length := by omega
        have hrl : mz % l1.length < l1.length := Nat.mod_lt _ hlen
        rcases H1.out.at_ with h0 | ⟨b, o, rfl, hb, hc⟩
        · rw [h0] at hlt; exact absurd hlt (by simp)
        have RL : R.length = l1.length := by rw [HR.out]; exact turned_length _ _ _
        obtain ⟨u, hu⟩ : ∃ u, R[k]? = some u := ⟨R[k]'(by rw [RL]; exact hlt), List.getElem?_eq_getElem _⟩
        have hrem : ((mz : Int).tmod (l1.length : Int)) = ((mz % l1.length : Nat) : Int) := rfl
        have hrem2 : ((mz : Int) % (l1.length : Int)) = ((mz % l1.length : Nat) : Int) := rfl
        have hget := HR.out
        generalize mz % l1.length = r at hrl hrem hrem2 hget
        have hj : (k + r) % l1.length < l1.length := Nat.mod_lt _ hlen
        have hrem3 : (((k : Int) + (r : Int)).tmod (l1.length : Int)) = (((k + r) % l1.length : Nat) : Int) := rfl
        have hgy := turned_yes l1 r k hrl hlt
        have hgn := turned_no l1 r k hrl hlt
        generalize (k + r) % l1.length = j at hj hrem3 hgy hgn
        have hs2 := hs.snoc (by rw [List.length_take]; omega) v
        have ht2 := ht.snoc (by rw [List.length_take]; omega) u
        rw [← take_succ_get2 _ _ _ hv] at hs2
        rw [← take_succ_get2 _ _ _ hu] at ht2
        have GA := Lib.hid (Dead_Add hq.a1 hs.wf.max v (hs.wf.le64 v))
        have GB := Lib.hid (fun w' (h : DeadAt w' d2 m2 t) => Dead_Add h ht.wf.max u (ht.wf.le64 u))
        have c0 := fun w' (f : Fr none_ W w') => Fr.keep f (hc k v hv)
        have d0 := c0 _ hq.fr
        have hn : IntKind.u64.wrap (l1.length : Int) = (l1.length : Int) := by rw [IntKind.wrap_u64]; omega
        have hz : ¬ (l1.length : Int) = 0 := by omega
        have w1' : IntKind.i64.wrap (r : Int) = (r : Int) := IntWalk.i64_in _ (by omega)
        have w2' : IntKind.i64.wrap ((k : Int) + (r : Int)) = (k : Int) + (r : Int) := IntWalk.i64_in _ (by omega)
        have hmz := HMZ.out
        clear c0 hs ht hv
        have Hc := Lib.hid hc
        clear hc
        go_wp2_with fail
        refine GA.out.mono ?_
        rintro e w4 ⟨rfl, h4, f4⟩
        have hq4 := hq.turn1 h4 f4
        clear hq h4 f4 GA d0
        cases rev with
        | true =>
          have hx2 : x.tmod 2 = 0 := of_decide_eq_true HREV.out.symm
          have e0 := Fr.keep hq4.fr (Hc.out (l1.length - 1 - j) u (by rw [← hgy, ← hget]; exact hu))
          go_wp2_with fail
          refine (GB.out _ hq4.a2).mono ?_
          rintro e w5 ⟨rfl, h5, f5⟩
          have hq5 := hq4.turn2 h5 f5
          clear hq4 h5 f5 GB
          go_wp2_with fail
          go_roundw
          case rel => exact ⟨k + 1, _, _, hlt, by go_num, hs2, ht2, hq5⟩
          case measure => simp [intOf]; omega
        | false =>
          have hx2 : ¬ x.tmod 2 = 0 := of_decide_eq_false HREV.out.symm
          have e0 := Fr.keep hq4.fr (Hc.out j u (by rw [← hgn, ← hget]; exact hu))
          go_wp2_with fail
          refine (GB.out _ hq4.a2).mono ?_
          rintro e w5 ⟨rfl, h5, f5⟩
          have hq5 := hq4.turn2 h5 f5
          clear hq4 h5 f5 GB
          go_wp2_with fail
          go_roundw
          case rel => exact ⟨k + 1, _, _, hlt, by go_num, hs2, ht2, hq5⟩
          case measure => simp [intOf]; omega
      · have hke : k = l1.length := by have := hk.out; omega
        subst hke
        have RL : R.length = l1.length := by rw [HR.out]; exact turned_length _ _ _
        rw [List.take_length] at hs
        rw [← RL, List.take_length] at ht
        have hsame := hs.same ht (by rw [HR.out]; exact turned_perm _ _ _)
        have HS := Lib.hid hsame
        have GS := Lib.hid (same_any hq.a1 hq.a2 hs.wf ht.wf hsame)
        clear hsame RL
        go_wp2_with fail
        refine GS.out.mono ?_
        rintro e w4 ⟨rfl, f4⟩
        have hq4 := hq.skip f4
        clear hq f4 GS
        by_cases h0 : (dAdd s y).1 = 0
        · obtain ⟨b1, b2, b3⟩ := add_less hs.wf y h0
          have GA := Lib.hid (add_isI hq4.a1 hs.wf y (q := 0) (by rw [h0]; rfl))
          have GL := Lib.hid (fun w' (h : DeadAt w' d m (dAdd s y).2) => less_is h (add_law hs.wf y).1 y b1)
          go_wp2_with fail
          refine GA.out.mono ?_
          rintro e w5 ⟨rfl, h5, f5⟩
          have hq5 := hq4.turn1 h5 f5
          go_wp2_with fail
          refine (GL.out _ hq5.a1).mono ?_
          rintro e w6 ⟨rfl, h6, f6⟩
          have hq6 := hq5.turn1 h6 f6
          clear GA GL h5 f5 h6 f6 hq4 hq5
          cases hb : (dLess t y).1 with
          | true =>
            obtain ⟨e1, e2, e3⟩ := less_add ht.wf y hb
            have GL2 := Lib.hid (less_is hq6.a2 ht.wf y hb)
            have GA2 := Lib.hid (fun w' (h : DeadAt w' d2 m2 (dLess t y).2) => add_isI h (less_law ht.wf y).1 y (q := 0) (by rw [e1]; rfl))
            go_wp2_with fail
            refine GL2.out.mono ?_
            rintro e wA ⟨rfl, hA, fA⟩
            have hqA := hq6.turn2 hA fA
            go_wp2_with fail
            refine (GA2.out _ hqA.a2).mono ?_
            rintro e wB ⟨rfl, hB, fB⟩
            have hqB := hqA.turn2 hB fB
            clear GL2 GA2
            have GZ := Lib.hid (same_any hqB.a1 hqB.a2 b2 e2 (fun k => by rw [b3, e3]; exact HS.out k))
            go_wp2_with fail
            refine GZ.out.mono ?_
            rintro e wZ ⟨rfl, fZ⟩
            go_wp2_with fail
            go_ret
            exact ⟨rfl, (hqB.skip fZ).fr⟩
          | false =>
            obtain ⟨e2, e3⟩ := less_not ht.wf y hb
            have GL2 := Lib.hid (less_is hq6.a2 ht.wf y hb)
            go_wp2_with fail
            refine GL2.out.mono ?_
            rintro e wA ⟨rfl, hA, fA⟩
            have hqA := hq6.turn2 hA fA
            clear GL2
            have GZ := Lib.hid (same_any hqA.a1 hqA.a2 b2 e2 (fun k => by rw [b3, e3]; exact HS.out k))
            go_wp2_with fail
            refine GZ.out.mono ?_
            rintro e wZ ⟨rfl, fZ⟩
            go_wp2_with fail
            go_ret
            exact ⟨rfl, (hqA.skip fZ).fr⟩
        · obtain ⟨b2, b3⟩ := add_not hs.wf y h0
          obtain ⟨Q, hQ⟩ : ∃ Q, (dAdd s y).1 = Q := ⟨_, rfl⟩
          have GA := Lib.hid (add_isI hq4.a1 hs.wf y (q := (Q : Int)) (by rw [hQ]))
          have hQ0 : ((Q : Int) == 0) = false := beq_eq_false_iff_ne.2 (by omega)
          clear hQ
          go_wp2_with fail
          refine GA.out.mono ?_
          rintro e w5 ⟨rfl, h5, f5⟩
          have hq6 := hq4.turn1 h5 f5
          clear GA h5 f5 hq4
          cases hb : (dLess t y).1 with
          | true =>
            obtain ⟨e1, e2, e3⟩ := less_add ht.wf y hb
            have GL2 := Lib.hid (less_is hq6.a2 ht.wf y hb)
            have GA2 := Lib.hid (fun w' (h : DeadAt w' d2 m2 (dLess t y).2) => add_isI h (less_law ht.wf y).1 y (q := 0) (by rw [e1]; rfl))
            go_wp2_with fail
            refine GL2.out.mono ?_
            rintro e wA ⟨rfl, hA, fA⟩
            have hqA := hq6.turn2 hA fA
            go_wp2_with fail
            refine (GA2.out _ hqA.a2).mono ?_
            rintro e wB ⟨rfl, hB, fB⟩
            have hqB := hqA.turn2 hB fB
            clear GL2 GA2
            have GZ := Lib.hid (same_any hqB.a1 hqB.a2 b2 e2 (fun k => by rw [b3, e3]; exact HS.out k))
            go_wp2_with fail
            refine GZ.out.mono ?_
            rintro e wZ ⟨rfl, fZ⟩
            go_wp2_with fail
            go_ret
            exact ⟨rfl, (hqB.skip fZ).fr⟩
          | false =>
            obtain ⟨e2, e3⟩ := less_not ht.wf y hb
            have GL2 := Lib.hid (less_is hq6.a2 ht.wf y hb)
            go_wp2_with fail
            refine GL2.out.mono ?_
            rintro e wA ⟨rfl, hA, fA⟩
            have hqA := hq6.turn2 hA fA
            clear GL2
            have GZ := Lib.hid (same_any hqA.a1 hqA.a2 b2 e2 (fun k => by rw [b3, e3]; exact HS.out k))
            go_wp2_with fail
            refine GZ.out.mono ?_
            rintro e wZ ⟨rfl, fZ⟩
            go_wp2_with fail
            go_ret
            exact ⟨rfl, (hqA.skip fZ).fr⟩
end Go.Proofs.Ytkfnfflonjfglaa
