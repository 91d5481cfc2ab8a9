/-
  'like' of layer 10: a dead and the reference's row that tell the same are alike.
-/
import Derived.Test.YtkfnfflonjfglaaDdRef5
import Derived.Test.YtkfnfflonjfglaaDdPasses
namespace Go.Proofs.Ytkfnfflonjfglaa
open Go.RowKit
set_option linter.unusedVariables false
set_option linter.unusedSimpArgs false
set_option maxRecDepth 100000

set_option maxHeartbeats 8000000 in
theorem like_any {w : World} {d m r cap : Nat} {a : Option Addr} {s : DS} {l : List Int} (h : DeadAt w d m s) (hr : RefAt w r a cap l) (hk : Lnk s l) :
    Calls Try.prog 26 #[.pointer (some ⟨d, 0, none⟩), .pointer (some ⟨r, 0, none⟩)] w fun e w' => e = .returned (.bool true) ∧ Fr none_ w w' := by
  have hl64 : l.length ≤ 64 := by rw [hk.len]; exact hk.wf.max
  have c0 := hr.c0
  have HL := Lib.hid hk.len
  have gA : ∀ n, Calls Try.prog 11 #[.pointer (some ⟨d, 0, none⟩)] (w.drewN n) fun e w' => e = .returned (.int .i64 (l.length : Int)) ∧ w' = w.drewN n := fun n => (all_is (h.kept0 (Fr.drewN none_ w n)) hk.len.symm).mono fun e w' q => ⟨q.1, q.2.symm⟩
  have gC := fun n => Dead_Counts (h.kept0 (Fr.drewN none_ w n)) hk.wf.wfk (by have := hk.wf.len; omega) hk.wf.le64
  have hkl := keys_length s
  obtain ⟨n, hn⟩ : ∃ n, n = s.of.length := ⟨_, rfl⟩
  have hn64 : n ≤ 64 := by rw [hn]; exact hk.wf.len
  rw [← hn] at gC hkl
  have GA := Lib.hid gA
  have GC := Lib.hid gC
  have HKL := Lib.hid hkl
  have HD := Lib.hid h
  have HR := Lib.hid hr
  have HK := Lib.hid hk
  clear gA gC hkl hn h hr hk
  have hUU : ((l.length : Int) != (l.length : Int)) = false := bne_self_eq_false _
  go_enter Try.func26, Try.ntmps26
  go_wp2_with fail
  go_quiet (first | (go_at_call 11; exact Calls.quiet_of_same (GA.out _)))
  go_wp2_with fail
  refine (GC.out _).mono ?_
  rintro e w2 ⟨ca, ccap, rfl, hsl, f2, hnew⟩
  have f02 := (Fr.drewN none_ w nq).trans f2
  have D2 := Lib.hid (HD.out.kept0 f02)
  have R2 := Lib.hid (HR.out.kept0 f02)
  have S2 := Lib.hid hsl
  have F02 := Lib.hid f02
  clear hsl f2 hnew f02 hUU
  go_wp2_with fail
  go_loopw [6, 7] (fun u i wr => ∃ k c : Nat, Hid (k ≤ n) ∧ i = .int .i64 k ∧ u = .int .i64 c ∧ Hid (c = tot (s.counts.take k)) ∧ Hid (Fr none_ w2 wr)) (fun _ i _ => n - (intOf i).toNat)
  case atStart => exact ⟨0, 0, Nat.zero_le _, rfl, rfl, by show 0 = _; simp [tot], Fr.refl _ _⟩
  case round =>
    obtain ⟨k, c, hk, rfl, rfl, hc, hf⟩ := hrel
    by_cases hlt : k < n
    · obtain ⟨T, hT⟩ : ∃ T, s.keys[k]? = some T := ⟨s.keys[k]'(by rw [HKL.out]; exact hlt), List.getElem?_eq_getElem _⟩
      obtain ⟨g, hg⟩ := S2.out.isAddr (by omega)
      subst hg
      have hcg := counts_get hT
      have hfl := flat2_get hcg
      have hN1 : s.cnt T ≠ 0 := (mem_keys HK.out.wf T).1 (List.mem_of_getElem? hT)
      have hN64 := HK.out.wf.le64 T
      have htot := counts_sum HK.out.wf
      have hts := tot_succ s.counts k _ hcg
      have htt := tot_take s.counts (k + 1)
      have hxl : ∀ j, j < s.cnt T → l[tot (s.counts.take k) + j]? = some T := fun j hj => by
        have := expL_at s.counts k j _ hcg hj
        rw [← HK.out.eq] at this
        exact this
      have hcc := hc.out
      rw [← hcc] at hts hxl
      have gO1 : ∀ wq, Fr none_ w2 wq → Calls Try.prog 18 #[.pointer (some ⟨d, 0, none⟩), .int .i64 T] wq fun e w' => e = .returned (.int .i64 (s.cnt T : Int)) ∧ w' = wq := fun wq f => (of_is (D2.out.kept0 f) T rfl).mono fun e w' q => ⟨q.1, q.2.symm⟩
      have gO2 : ∀ wq, Fr none_ w2 wq → Calls Try.prog 27 #[.pointer (some ⟨r, 0, none⟩), .int .i64 T] wq fun e w' => e = .returned (.int .i64 (s.cnt T : Int)) ∧ w' = wq := fun wq f => (Ref_Of (R2.out.kept0 f) (by omega) T).mono fun e w' q => ⟨by rw [← HK.out.cnt T]; exact q.1, q.2.symm⟩
      simp only at hts hfl
      generalize s.cnt T = N at hcg hfl hN1 hN64 hts hxl gO1 gO2
      have hLb : c + N ≤ l.length := by rw [HL.out]; omega
      have HC2 := Lib.hid (show c + N = tot (s.counts.take (k + 1)) from hts.symm)
      have HX := Lib.hid hxl
      have GO1 := Lib.hid gO1
      have GO2 := Lib.hid gO2
      have HE0 := Lib.hid (fun wq (f : Fr none_ w2 wq) => (S2.out.kept0 f).cell (i := k * 2) hfl.1)
      have HE1 := Lib.hid (fun wq (f : Fr none_ w2 wq) => (S2.out.kept0 f).cell (i := k * 2 + 1) hfl.2)
      have e1 := HE1.out _ hf.out
      have HTK := Lib.hid hT
      clear hcg hfl htot hts htt hxl hcc gO1 gO2 hc hT
      go_wp2_with fail
      go_loopw [6, 8] (fun u j wx => ∃ q z : Nat, Hid (q ≤ N) ∧ j = .int .i64 q ∧ u = .int .i64 z ∧ Hid (z = c + q) ∧ Hid (Fr none_ w2 wx)) (fun _ j _ => N - (intOf j).toNat)
      case atStart => exact ⟨0, c, Nat.zero_le _, rfl, rfl, rfl, hf⟩
      case round =>
        obtain ⟨q, z, hq, rfl, rfl, hz, hfx⟩ := hrel
        clear e1
        have e1 := HE1.out _ hfx.out
        by_cases hlq : q < N
        · have hzl : z < l.length := by have := hz.out; omega
          have hx := HX.out q hlq
          rw [← hz.out] at hx
          have e0 := HE0.out _ hfx.out
          have r0 := Fr.keep hfx.out R2.out.c0
          obtain ⟨ga, hga⟩ := R2.out.sl.isAddr (by omega)
          subst hga
          have er := (R2.out.sl.kept0 hfx.out).cell (i := z) (v := .int .i64 T) (by rw [List.getElem?_map, hx]; rfl)
          have hg1 : ¬ (l.length : Int) ≤ (z : Int) := by omega
          have hg2 : (T != T) = false := bne_self_eq_false _
          clear hx c0
          go_wp2_with fail
          go_quiet (fail)
          go_wp2_with fail
          go_roundw
          case rel => exact ⟨q + 1, z + 1, hlq, by go_num, by go_num, by have := hz.out; show z + 1 = _; omega, hfx.out.trans (Fr.drewN _ _ _)⟩
          case measure => simp [intOf]; omega
        · have hqe : q = N := by have := hq.out; omega
          subst hqe
          have e0 := HE0.out _ hfx.out
          have hg1 : ¬ (q : Int) < 1 := by omega
          have hqq : ((q : Int) != (q : Int)) = false := bne_self_eq_false _
          have gq1 := fun nq => GO1.out (wr.drewN nq) (hfx.out.trans (Fr.drewN _ _ _))
          have gq2 := fun nq => GO2.out (wr.drewN nq) (hfx.out.trans (Fr.drewN _ _ _))
          have GQ1 := Lib.hid gq1
          have GQ2 := Lib.hid gq2
          clear gq1 gq2
          have hzz : z = c + q := hz.out
          have HN := Lib.hid (show z = tot (s.counts.take (k + 1)) by rw [hzz]; exact HC2.out)
          clear hzz hz
          by_cases hk0 : 0 < (k : Int)
          · obtain ⟨k1, hk1⟩ : ∃ k1, k = k1 + 1 := ⟨k - 1, by omega⟩
            obtain ⟨T1, hT1⟩ : ∃ T1, s.keys[k1]? = some T1 := ⟨s.keys[k1]'(by rw [HKL.out]; omega), List.getElem?_eq_getElem _⟩
            have hlt1 : T1 ≤ T := by
              have hs := keys_sorted s
              rw [List.pairwise_iff_getElem] at hs
              have a1 := (List.getElem?_eq_some_iff.1 hT1)
              have a2 := (List.getElem?_eq_some_iff.1 HTK.out)
              obtain ⟨a1, b1⟩ := a1
              obtain ⟨a2, b2⟩ := a2
              have := hs k1 k a1 a2 (by omega)
              rw [b1, b2] at this
              exact this
            have hne : T1 ≠ T := by
              intro e
              subst e
              have hnd := keys_nodup HK.out.wf
              have := (List.getElem?_inj (List.getElem?_eq_some_iff.1 hT1).1 hnd).1 (hT1.trans HTK.out.symm)
              omega
            have hcg1 := counts_get hT1
            have e2 := (S2.out.kept0 hfx.out).cell (i := k1 * 2) (flat2_get hcg1).1
            simp only at e2
            have hw1 : IntKind.i64.wrap ((k : Int) - 1) = (k1 : Int) := by rw [show (k : Int) - 1 = (k1 : Int) by omega]; exact IntWalk.i64_in _ (by omega)
            have hw2 : wrap64 ((k : Int) - 1) = (k1 : Int) := by rw [show (k : Int) - 1 = (k1 : Int) by omega]; unfold wrap64; omega
            have hg2 : ¬ T ≤ T1 := by omega
            have hk1n : k1 < n := by omega
            have HK1 := Lib.hid hk1
            have hk0n : 0 < k := by omega
            have hd1 : decide (0 < k) = true := decide_eq_true hk0n
            have hd2 : decide (T ≤ T1) = false := decide_eq_false hg2
            have hd3 : decide ((q : Int) < 1) = false := decide_eq_false hg1
            clear hT1 hlt1 hne hcg1 hk1 c0
            go_wp2_with fail
            go_quiet (first
              | (go_at_call 18; exact Calls.quiet_of_same (GQ1.out _))
              | (go_at_call 27; exact Calls.quiet_of_same (GQ2.out _)))
            go_wp2_with fail
            go_roundw
            case rel => exact ⟨k + 1, z, hlt, by go_num, by go_num, HN.out, hfx.out.trans (Fr.drewN _ _ _)⟩
            case measure => simp [intOf]; omega
          · clear c0
            have hk0n : ¬ 0 < k := by omega
            have hd1 : decide (0 < k) = false := decide_eq_false hk0n
            have hd3 : decide ((q : Int) < 1) = false := decide_eq_false hg1
            go_wp2_with fail
            go_quiet (first
              | (go_at_call 18; exact Calls.quiet_of_same (GQ1.out _))
              | (go_at_call 27; exact Calls.quiet_of_same (GQ2.out _)))
            go_wp2_with fail
            go_roundw
            case rel => exact ⟨k + 1, z, hlt, by go_num, by go_num, HN.out, hfx.out.trans (Fr.drewN _ _ _)⟩
            case measure => simp [intOf]; omega
    · have hke : k = n := by have := hk.out; omega
      have hcl : s.counts.length = n := by unfold DS.counts; rw [List.length_map, HKL.out]
      have hce : c = l.length := by rw [hc.out, hke, List.take_of_length_le (by omega), counts_sum HK.out.wf, HL.out]
      have cR := Fr.keep hf.out R2.out.c0
      have hll : ((l.length : Int) == (l.length : Int)) = true := beq_self_eq_true _
      subst hce
      clear hcl hke c0
      go_wp2_with fail
      go_ret
      exact ⟨rfl, F02.out.trans hf.out⟩
end Go.Proofs.Ytkfnfflonjfglaa
