/-
  ArenaPlays (P4.1, P4.2): the walk.
-/
import Derived.Test.YtncajdefjammiaaRa8
import Derived.Deep.DeepCutAuto
import Derived.Deep.CutBlock
import Derived.Deep.RegionHeld3
namespace Go.Proofs.Ytncajdefjammiaa
open Go.RowKit
set_option linter.unusedVariables false
set_option linter.unusedSimpArgs false
set_option maxRecDepth 100000

set_option maxHeartbeats 32000000 in
theorem walk_ArenaPlays (W : World) (slot : Int) (ws : (Lit.int .i64 slot).wf = true) (a1 : Option Addr) (c1 : Nat) (l1 : List StepV) (h1 : StepsAt W a1 l1) :
   Calls Try.prog 8 #[.int .i64 slot, .slice a1 l1.length c1] W fun e w' => e = .returned (.bool true) ∧ Fr none_ W w' := by
  have Hworks := Lib.hid works_any
  have hlg := large_any W a1 c1 l1 h1
  have H1 := Lib.hid h1
  cases hL : isLarge l1 with
  | true =>
    rw [hL] at hlg
    have Hlg := Lib.hid hlg
    clear hlg hL h1 ws
    go_enter Try.func8, Try.ntmps8
    go_wp2_with fail
    refine Hlg.out.mono ?_
    rintro e w1 ⟨rfl, rfl⟩
    go_wp2_with fail
    refine (Hworks.out _).mono ?_
    rintro e w2 ⟨rfl, f2⟩
    go_wp2_with fail
    go_ret
    exact ⟨rfl, f2⟩
  | false =>
    rw [hL] at hlg
    have hn1 := notLarge hL
    have Hlg := Lib.hid hlg
    clear hlg hL h1 ws
    by_cases hs : slot < 2 ∨ 4096 < slot
    · have GA := Lib.hid (Arena_New_no W slot hs)
      have GX := Lib.hid (Ra_New_no W slot hs)
      unfold err at GA
      clear hs
      go_enter Try.func8, Try.ntmps8
      go_wp2_with fail
      refine Hlg.out.mono ?_
      rintro e w1 ⟨rfl, rfl⟩
      go_wp2_with fail
      refine GA.out.mono ?_
      rintro e w1 ⟨rfl, rfl⟩
      go_wp2_with fail
      refine GX.out.mono ?_
      rintro e w1 ⟨rfl, rfl⟩
      go_wp2_with fail
      refine (Hworks.out _).mono ?_
      rintro e w2 ⟨rfl, f2⟩
      go_wp2_with fail
      go_ret
      exact ⟨rfl, f2⟩
    · obtain ⟨sl, rfl⟩ := Int.eq_ofNat_of_zero_le (show 0 ≤ slot by omega)
      have s2 : 2 ≤ sl := by omega
      have s3 : sl ≤ 4096 := by omega
      have GA := Lib.hid (ar_new W sl s2 s3)
      have GX := Lib.hid (fun w Z hz => Ra_New_yes w sl s2 s3 Z hz)
      clear hs
      go_enter Try.func8, Try.ntmps8
      go_wp2_with fail
      refine Hlg.out.mono ?_
      rintro e w1 ⟨rfl, rfl⟩
      go_wp2_with fail
      refine GA.out.mono ?_
      rintro e w2 ⟨F0, a, rfl, ha, f2, hF0⟩
      go_wp2_with fail
      refine (GX.out _ (zA W F0 none) (fun j hj => by
        rcases hj with e | e | e
        · exact Nat.lt_of_lt_of_le e f2.size
        · exact ha.lt j e
        · exact absurd e (blk_none j))).mono ?_
      rintro e w3 ⟨x, rfl, hx, f3⟩
      have hp0 : PL W a x F0 0 (AS.new sl) [] none 0 w3 := ⟨ha.kept0 f3, ⟨_, _, _, _, _, _, _, hx⟩, SlAt.empty _ _ _, Upto.new s2 s3, fun h hh => by simp at hh, fun j _ => blk_none j, hF0, fun j e => absurd e (blk_none j), f2.trans f3⟩
      clear ha f2 hF0 hx f3 GA GX
      go_wp2_with fail
      go_loopw [9, 10] (fun t i wr => ∃ (k n tc : Nat) (ta : Option Addr) (F : Nat → Prop) (s : AS) (told : List Nat), Hid (k ≤ l1.length) ∧ i = .int .i64 k ∧ t = .slice ta n tc ∧ Hid (n = told.length) ∧ Hid (n ≤ k) ∧ Hid (s.slot = sl) ∧ Hid (PL W a x F k s told ta tc wr)) (fun _ i _ => l1.length - (intOf i).toNat)
      case atStart => exact ⟨0, 0, 0, none, F0, AS.new sl, [], Nat.zero_le _, rfl, rfl, rfl, Nat.zero_le _, rfl, hp0⟩
      case round =>
        obtain ⟨k, n, tc, ta, F, s, told, hk, rfl, rfl, hn, hnk, hsl, hp⟩ := hrel
        clear hp0
        by_cases hlt : k < l1.length
        · obtain ⟨y, hy⟩ : ∃ y, l1[k]? = some y := ⟨l1[k], List.getElem?_eq_getElem hlt⟩
          have hyo := H1.out.ok y (List.mem_of_getElem? hy)
          rcases H1.out.at_ with h0 | ⟨b, o, rfl, hb, hc⟩
          · rw [h0] at hlt; exact absurd hlt (by simp)
          have HC := Lib.hid (hc k y hy)
          have hk200 : k ≤ 200 := by omega
          have hn200 : n ≤ 200 := by have := hnk.out; omega
          clear hy hc
          have GC := Lib.hid (ar_copy hp.out.ar hp.out.up)
          have GX := Lib.hid (fun w' (f : Fr none_ wr w') => rax_copy (hp.out.ra.kept0 f) hp.out.up.wf)
          go_wp2_with fail
          refine GC.out.mono ?_
          rintro e w4 ⟨F2, c, rfl, hcc, f4, hF2⟩
          go_wp2_with fail
          refine (GX.out _ f4).mono ?_
          rintro e w5 ⟨yc, rfl, hyc, f5⟩
          have hm := Lib.hid (hp.out.copies hcc f4 hF2 hyc f5)
          have HFB := Lib.hid (show ∀ j, F j → j < wr.heap.size from hp.out.ar.lt)
          have HUP := Lib.hid hp.out.up
          have HTL := Lib.hid hp.out.tl
          have hts := hm.out.ts
          rw [← hn.out] at hts
          have gof := of_any w5 y hyo told ta tc (by rw [← hn.out]; omega) hm.out.ts
          rw [← hn.out] at gof
          have HOF := Lib.hid gof
          have hdl := ofH_lt hyo hp.out.tl
          obtain ⟨hd, hhd⟩ : ∃ hd, hd = y.ofH told := ⟨_, rfl⟩
          rw [← hhd] at HOF hdl
          have HDL := Lib.hid hdl
          have d0 := Fr.keep hm.out.fr HC.out.1
          have d1 := Fr.keep hm.out.fr HC.out.2.1
          have d2 := Fr.keep hm.out.fr HC.out.2.2.1
          have d3 := Fr.keep hm.out.fr HC.out.2.2.2
          clear GC GX hcc f4 hF2 hyc f5 gof hts hdl hhd
          go_wp2_with fail
          refine HOF.out.mono ?_
          rintro e w6 ⟨rfl, f6⟩
          have hm6 := Lib.hid (hm.out.skip f6)
          clear hm f6 HOF d0 d1 d2 d3
          obtain ⟨b0, hb0⟩ : ∃ b0, named s hd = b0 := ⟨_, rfl⟩
          have GI := Lib.hid (fun wq (h : PM W a x F k s s told ta tc c yc k s wr.heap.size wq) => (show Calls Try.prog 14 #[.pointer (some ⟨a, 0, none⟩), .int .u64 (hd : Int)] wq fun e w' => e = .returned (.bool b0) ∧ Fr none_ wq w' from by have := ar_is h.ar HUP.out HDL.out; rw [hb0] at this; exact this))
          have GY := Lib.hid (fun wq (h : PM W a x F k s s told ta tc c yc k s wr.heap.size wq) => rax_is h.ra HUP.out.wf HDL.out hb0)
          have hbb : (b0 == b0) = true := beq_self_eq_true _
          clear hb0
          go_wp2_with fail
          refine (GI.out _ hm6.out).mono ?_
          rintro e w7 ⟨rfl, f7⟩
          have hm7 := Lib.hid (hm6.out.skip f7)
          clear hm6 f7
          go_wp2_with fail
          refine (GY.out _ hm7.out).mono ?_
          rintro e w8 ⟨rfl, rfl⟩
          clear GI GY
          have d0 := Fr.keep hm7.out.fr HC.out.1
          have hyw := hyo.what
          go_upto_block 2 with fail
          go_cut [9, 13, 14] (fun u v z wx => ∃ (n2 tc2 : Nat) (ta2 : Option Addr) (F' : Nat → Prop) (s1 : AS) (told2 : List Nat) (hd2 : Nat), u = .slice ta2 n2 tc2 ∧ v = .int .u64 (hd2 : Int) ∧ z = .bool true ∧ Hid (n2 = told2.length) ∧ Hid (n2 ≤ k + 1) ∧ Hid (s1.slot = sl) ∧ Hid (hd2 < 18446744073709551616) ∧ Hid (Upto (k + 1) s1) ∧ Hid (∀ h ∈ told2, h < 18446744073709551616) ∧ Hid (PE W a x F' (k + 1) s1 told2 ta2 tc2 c yc k s wx))
          case first =>
            have hkb : k < big := by unfold big; omega
            by_cases k0 : y.what = 0
            · have v0 : ((y.what : Int) == 0) = true := by rw [beq_iff_eq]; omega
              obtain ⟨H, hH⟩ : ∃ H, (aAlloc s).1 = H := ⟨_, rfl⟩
              obtain ⟨E, hE⟩ : ∃ E : Int, ((aAlloc s).2.1 : Int) = E := ⟨_, rfl⟩
              have hHl : H < 18446744073709551616 := by rw [← hH]; exact aAlloc_lt HUP.out (by omega)
              have hHi : ((aAlloc s).1 : Int) = (H : Int) := by rw [hH]
              have GA := Lib.hid (fun wq (h : PM W a x F k s s told ta tc c yc k s wr.heap.size wq) => (show Calls Try.prog 23 #[.pointer (some ⟨a, 0, none⟩)] wq fun e w' => e = .returned (.tuple #[.int .u64 (H : Int), .int .i64 E]) ∧ ∃ F', PM W a x F' k (aAlloc s).2.2 s told ta tc c yc k s wr.heap.size w' from
                (ar_alloc h.ar HUP.out hkb).mono fun e w' q => ⟨by rw [q.1, hHi, hE], by obtain ⟨F', q1, q2, q3⟩ := q.2; exact ⟨F', h.turnA HFB.out q1 q2 q3⟩⟩))
              have GX := Lib.hid (fun wq F' (h : PM W a x F' k (aAlloc s).2.2 s told ta tc c yc k s wr.heap.size wq) => (show Calls Try.prog 30 #[.pointer (some ⟨x, 0, none⟩)] wq fun e w' => e = .returned (.tuple #[.int .u64 (H : Int), .int .i64 E]) ∧ PE W a x F' (k + 1) (aAlloc s).2.2 told ta tc c yc k s w' from
                (rax_alloc h.zx (fun j e => e.2) HUP.out.wf (fun n o => by have := HUP.out.gen n o; omega) (by omega) hHi hE).mono fun e w' q => ⟨q.1, h.turnX q.2.1 q.2.2⟩))
              have HU1 := Lib.hid (show Upto (k + 1) (aAlloc s).2.2 ∧ (aAlloc s).2.2.slot = sl ∧ H < 18446744073709551616 from ⟨HUP.out.alloc, (aAlloc_wf HUP.out.wf).2.trans hsl.out, hHl⟩)
              have HH : ((H : Int) == (H : Int)) = true := beq_self_eq_true _
              have HEE : (E == E) = true := beq_self_eq_true _
              generalize (aAlloc s).2.2 = s1 at GA GX HU1
              clear hH hE hHl hHi k0 hsl hp hkb
              go_wp2_with fail
              refine (GA.out _ hm7.out).mono ?_
              rintro e w9 ⟨rfl, F', hm9⟩
              have HM9 := Lib.hid hm9
              clear hm9 hm7 GA
              go_wp2_with fail
              refine (GX.out _ _ HM9.out).mono ?_
              rintro e wA ⟨rfl, hpe⟩
              have HPE := Lib.hid hpe
              have hts := hpe.ts
              rw [← hn.out] at hts
              clear hpe HM9 GX
              go_wp2_with ((with_reducible refine at_slot 107 ?_); refine wpAppend rfl _ _ _ rfl 32 (.int .u64 0) 1 8 Try.underlying29 handle_info rfl (hts.kept0 (Fr.alloc _ _ _)) rfl ⟨wA.heap.size, 0, none⟩ 1 1 [vH H] rfl rfl (one_cells _ _ _ (by simp [vH])) (by simp [vH, Value.oneCell']) (by omega) (by simp [maxLen]; omega) (by omega) ?_; intro ta6 tc6 w6 hs6 f6 hb6; have hp6 := Lib.hid (HPE.out.push (Fr.alloc none_ _ _) (by rw [← hn.out]; exact hs6) f6 hb6))
              go_meet
              case rel => exact ⟨n + 1, tc6, ta6, F', s1, told ++ [H], H, rfl, rfl, rfl, (by show n + 1 = _; rw [List.length_append, ← hn.out]; rfl), (by show n + 1 ≤ _; have := hnk.out; omega), HU1.out.2.1, HU1.out.2.2, HU1.out.1, (fun h hh => by rcases List.mem_append.1 hh with e | e; exact HTL.out h e; simp at e; rw [e]; exact HU1.out.2.2), hp6.out⟩
            by_cases k1 : y.what = 1
            · have v0 : ((y.what : Int) == 0) = false := beq_eq_false_iff_ne.2 (by omega)
              have v1 : ((y.what : Int) == 1) = true := by rw [beq_iff_eq]; omega
              obtain ⟨E, hE⟩ : ∃ E : Int, ((aFree s hd).1 : Int) = E := ⟨_, rfl⟩
              have GA := Lib.hid (fun wq (h : PM W a x F k s s told ta tc c yc k s wr.heap.size wq) => (show Calls Try.prog 16 #[.pointer (some ⟨a, 0, none⟩), .int .u64 (hd : Int)] wq fun e w' => e = .returned (.int .i64 E) ∧ PM W a x F k (aFree s hd).2 s told ta tc c yc k s wr.heap.size w' from
                (ar_free h.ar HUP.out hkb HDL.out).mono fun e w' q => ⟨by rw [q.1, hE], h.turnA HFB.out q.2.1 q.2.2 (Grow.refl _ _)⟩))
              have GX := Lib.hid (fun wq (h : PM W a x F k (aFree s hd).2 s told ta tc c yc k s wr.heap.size wq) => (show Calls Try.prog 31 #[.pointer (some ⟨x, 0, none⟩), .int .u64 (hd : Int)] wq fun e w' => e = .returned (.int .i64 E) ∧ PE W a x F k (aFree s hd).2 told ta tc c yc k s w' from
                (rax_free h.zx (fun j e => e.2) HUP.out.wf HDL.out hE).mono fun e w' q => ⟨q.1, h.turnX q.2.1 q.2.2⟩))
              have HU1 := Lib.hid (show Upto (k + 1) (aFree s hd).2 ∧ (aFree s hd).2.slot = sl from ⟨(HUP.out.free hd).more (by omega), (aFree_all HUP.out.wf hd).2.1.trans hsl.out⟩)
              have HEE : (E == E) = true := beq_self_eq_true _
              generalize (aFree s hd).2 = s1 at GA GX HU1
              clear hE k0 k1 hsl hp hkb
              go_wp2_with fail
              refine (GA.out _ hm7.out).mono ?_
              rintro e w9 ⟨rfl, hm9⟩
              have HM9 := Lib.hid hm9
              clear hm9 hm7 GA
              go_wp2_with fail
              refine (GX.out _ HM9.out).mono ?_
              rintro e wA ⟨rfl, hpe⟩
              have HPE := Lib.hid (hpe.weakN (N' := k + 1) (by omega) (by omega))
              clear hpe HM9 GX
              go_wp2_with fail
              go_meet
              case rel => exact ⟨n, tc, ta, F, s1, told, hd, rfl, rfl, rfl, hn.out, (by have := hnk.out; show n ≤ _; omega), HU1.out.2, HDL.out, HU1.out.1, HTL.out, HPE.out⟩
            by_cases k2 : y.what = 2
            · have v0 : ((y.what : Int) == 0) = false := beq_eq_false_iff_ne.2 (by omega)
              have v1 : ((y.what : Int) == 1) = false := beq_eq_false_iff_ne.2 (by omega)
              have v2 : ((y.what : Int) == 2) = true := by rw [beq_iff_eq]; omega
              obtain ⟨E, hE⟩ : ∃ E : Int, ((aWrite s hd y.s).1 : Int) = E := ⟨_, rfl⟩
              have GA := Lib.hid (fun wq (h : PM W a x F k s s told ta tc c yc k s wr.heap.size wq) => (show Calls Try.prog 24 #[.pointer (some ⟨a, 0, none⟩), .int .u64 (hd : Int), .string y.s] wq fun e w' => e = .returned (.int .i64 E) ∧ PM W a x F k (aWrite s hd y.s).2 s told ta tc c yc k s wr.heap.size w' from
                (ar_write h.ar HUP.out HDL.out y.s).mono fun e w' q => ⟨by rw [q.1, hE], h.turnA HFB.out q.2.1 q.2.2 (Grow.refl _ _)⟩))
              have GX := Lib.hid (fun wq (h : PM W a x F k (aWrite s hd y.s).2 s told ta tc c yc k s wr.heap.size wq) => (show Calls Try.prog 32 #[.pointer (some ⟨x, 0, none⟩), .int .u64 (hd : Int), .string y.s] wq fun e w' => e = .returned (.int .i64 E) ∧ PE W a x F k (aWrite s hd y.s).2 told ta tc c yc k s w' from
                (rax_write h.zx (fun j e => e.2) HUP.out.wf HDL.out y.s hE).mono fun e w' q => ⟨q.1, h.turnX q.2.1 q.2.2⟩))
              have HU1 := Lib.hid (show Upto (k + 1) (aWrite s hd y.s).2 ∧ (aWrite s hd y.s).2.slot = sl from ⟨(HUP.out.write hd y.s).more (by omega), (aWrite_all HUP.out.wf hd y.s).2.1.trans hsl.out⟩)
              have HEE : (E == E) = true := beq_self_eq_true _
              generalize (aWrite s hd y.s).2 = s1 at GA GX HU1
              have d3 := Fr.keep hm7.out.fr HC.out.2.2.2
              have hq0 := hm7.out
              clear hE k0 k1 k2 hsl hp hkb
              go_wp2_with fail
              go_region_held3 (fun w' => w'.cell? ⟨b, o + k * 4 + 3, none⟩ = some (.string y.s))
                (first | exact Fr.keep hq6.fr HC.out.2.2.2 | exact Fr.keep hq5.fr HC.out.2.2.2 | exact Fr.keep (hq0.skip (Fr.drew _ _)).fr HC.out.2.2.2 | exact Fr.keep hq0.fr HC.out.2.2.2)
                (first | (go_at_call 24; refine (GA.out _ (hq0.skip (Fr.drew _ _))).mono ?_; rintro e w5 ⟨rfl, hq5⟩) | (go_at_call 32; refine (GX.out _ hq5).mono ?_; rintro e w6 ⟨rfl, hq6⟩))
              have HPE := Lib.hid (hq6.weakN (N' := k + 1) (by omega) (by omega))
              clear hq0 hq5 hq6 hm7 GA GX
              go_wp2_with fail
              go_meet
              case rel => exact ⟨n, tc, ta, F, s1, told, hd, rfl, rfl, rfl, hn.out, (by have := hnk.out; show n ≤ _; omega), HU1.out.2, HDL.out, HU1.out.1, HTL.out, HPE.out⟩
            · have v0 : ((y.what : Int) == 0) = false := beq_eq_false_iff_ne.2 (by omega)
              have v1 : ((y.what : Int) == 1) = false := beq_eq_false_iff_ne.2 (by omega)
              have v2 : ((y.what : Int) == 2) = false := beq_eq_false_iff_ne.2 (by omega)
              have HPE := Lib.hid (hm7.out.stay.weakN (N' := k + 1) (by omega) (by omega))
              clear k0 k1 k2 hp hkb hm7
              go_wp2_with fail
              go_meet
              case rel => exact ⟨n, tc, ta, F, s, told, hd, rfl, rfl, rfl, hn.out, (by have := hnk.out; show n ≤ _; omega), hsl.out, HDL.out, HUP.out.more (by omega), HTL.out, HPE.out⟩
          case rest =>
            obtain ⟨n2, tc2, ta2, F', s1, told2, hd2, rfl, rfl, rfl, hn2, hnk2, hsl2, hdl2, hup2, htl2, hpe⟩ := hcut
            obtain ⟨T, hT⟩ : ∃ T, strOf (aRead s1 hd2).1 = T := ⟨_, rfl⟩
            obtain ⟨E, hE⟩ : ∃ E : Int, ((aRead s1 hd2).2 : Int) = E := ⟨_, rfl⟩
            obtain ⟨bI, hbI⟩ : ∃ bI, named s1 hd2 = bI := ⟨_, rfl⟩
            obtain ⟨bJ, hbJ⟩ : ∃ bI, named s hd2 = bI := ⟨_, rfl⟩
            obtain ⟨u1, hu1⟩ : ∃ u : Int, (s1.used : Int) = u := ⟨_, rfl⟩
            obtain ⟨u0, hu0⟩ : ∃ u : Int, (s.used : Int) = u := ⟨_, rfl⟩
            have GR := Lib.hid (fun wq (h : PE W a x F' (k + 1) s1 told2 ta2 tc2 c yc k s wq) => (show Calls Try.prog 15 #[.pointer (some ⟨a, 0, none⟩), .int .u64 (hd2 : Int)] wq fun e w' => e = .returned (.tuple #[.string T, .int .i64 E]) ∧ Fr none_ wq w' from by have := ar_read h.ar hup2.out hdl2.out; rw [hT, hE] at this; exact this))
            have GY := Lib.hid (fun wq (h : PE W a x F' (k + 1) s1 told2 ta2 tc2 c yc k s wq) => rax_read h.ra hup2.out.wf hdl2.out hT hE)
            have G1 := Lib.hid (fun wq (h : PE W a x F' (k + 1) s1 told2 ta2 tc2 c yc k s wq) p bb (hp : (p = a ∧ bb = bI) ∨ (p = c ∧ bb = bJ)) => (show Calls Try.prog 14 #[.pointer (some ⟨p, 0, none⟩), .int .u64 (hd2 : Int)] wq fun e w' => e = .returned (.bool bb) ∧ Fr none_ wq w' from by
              rcases hp with ⟨rfl, rfl⟩ | ⟨rfl, rfl⟩
              · have := ar_is h.ar hup2.out hdl2.out; rw [hbI] at this; exact this
              · obtain ⟨F3, h3, _⟩ := h.cp
                have := ar_is h3 HUP.out hdl2.out; rw [hbJ] at this; exact this))
            have G2 := Lib.hid (fun wq (h : PE W a x F' (k + 1) s1 told2 ta2 tc2 c yc k s wq) p bb (hp : (p = x ∧ bb = bI) ∨ (p = yc ∧ bb = bJ)) => (show Calls Try.prog 29 #[.pointer (some ⟨p, 0, none⟩), .int .u64 (hd2 : Int)] wq fun e w' => e = .returned (.bool bb) ∧ wq = w' from by
              rcases hp with ⟨rfl, rfl⟩ | ⟨rfl, rfl⟩
              · exact rax_is h.ra hup2.out.wf hdl2.out hbI
              · obtain ⟨Z, h3, _⟩ := h.yp
                exact rax_is h3 HUP.out.wf hdl2.out hbJ))
            have G3 := Lib.hid (fun wq (h : PE W a x F' (k + 1) s1 told2 ta2 tc2 c yc k s wq) p bb (hp : (p = a ∧ bb = u1) ∨ (p = c ∧ bb = u0)) => (show Calls Try.prog 21 #[.pointer (some ⟨p, 0, none⟩)] wq fun e w' => e = .returned (.int .i64 bb) ∧ wq = w' from by
              rcases hp with ⟨rfl, rfl⟩ | ⟨rfl, rfl⟩
              · have := ar_used h.ar; rw [hu1] at this; exact this
              · obtain ⟨F3, h3, _⟩ := h.cp
                have := ar_used h3; rw [hu0] at this; exact this))
            have G4 := Lib.hid (fun wq (h : PE W a x F' (k + 1) s1 told2 ta2 tc2 c yc k s wq) p bb (hp : (p = x ∧ bb = u1) ∨ (p = yc ∧ bb = u0)) => (show Calls Try.prog 34 #[.pointer (some ⟨p, 0, none⟩)] wq fun e w' => e = .returned (.int .i64 bb) ∧ wq = w' from by
              rcases hp with ⟨rfl, rfl⟩ | ⟨rfl, rfl⟩
              · exact rax_used h.ra hup2.out.wf hu1
              · obtain ⟨Z, h3, _⟩ := h.yp
                exact rax_used h3 HUP.out.wf hu0))
            obtain ⟨LP, hLP⟩ : ∃ LP, LP = s1.pages.length := ⟨_, rfl⟩
            have G5 := Lib.hid (fun wq (h : PE W a x F' (k + 1) s1 told2 ta2 tc2 c yc k s wq) => (show Calls Try.prog 19 #[.pointer (some ⟨a, 0, none⟩)] wq fun e w' => e = .returned (.int .i64 (LP : Int)) ∧ wq = w' from by have := ar_pages h.ar; rw [← hLP] at this; exact this))
            have G6 := Lib.hid (fun wq (h : PE W a x F' (k + 1) s1 told2 ta2 tc2 c yc k s wq) => (show Calls Try.prog 25 #[.pointer (some ⟨a, 0, none⟩)] wq fun e w' => e = .returned (.int .i64 (sl : Int)) ∧ wq = w' from by have := ar_slot h.ar; rw [hsl2.out] at this; exact this))
            obtain ⟨pa, pc, cx1⟩ : ∃ pa pc, wc.cell? ⟨x, 1, none⟩ = some (.slice pa LP pc) := by
              obtain ⟨pa, pc, ga, gc, qs, G, col, hr⟩ := hpe.out.ra
              exact ⟨pa, pc, by rw [hLP]; exact hr.c1⟩
            have q1 : (E != E) = false := bne_self_eq_false _
            have q2 : (bI != bI) = false := bne_self_eq_false _
            have q3 : (bJ != bJ) = false := bne_self_eq_false _
            have q4 : (u1 != u1) = false := bne_self_eq_false _
            have q5 : (u0 != u0) = false := bne_self_eq_false _
            have q6 : ((LP : Int) != (LP : Int)) = false := bne_self_eq_false _
            have q7 : ((sl : Int) != (sl : Int)) = false := bne_self_eq_false _
            have q8 : (T.toList != T.toList) = false := bne_self_eq_false _
            have hqe := hpe.out
            clear hT hE hbI hbJ hu1 hu0 hLP hpe hm7 d0 hyw hsl hp HTL HFB
            go_wp2_with fail
            refine (GR.out _ hqe).mono ?_
            rintro e w9 ⟨rfl, f9⟩
            have hq9 := hqe.skip f9
            have cx9 := Fr.keep f9 cx1
            clear hqe cx1 f9 GR
            go_wp2_with fail
            refine (GY.out _ hq9).mono ?_
            rintro e wA ⟨rfl, rfl⟩
            clear GY
            go_wp2_with fail
            go_region_held3 (fun w' => PE W a x F' (k + 1) s1 told2 ta2 tc2 c yc k s w' ∧ w'.cell? ⟨x, 1, none⟩ = some (.slice pa LP pc))
              (first | (go_split_ands; refine ⟨?_, ?_⟩; exact PE.skip (by assumption) f6; exact Fr.keep f6 (by assumption)) | (go_split_ands; refine ⟨?_, ?_⟩; exact PE.skip (by assumption) (Fr.drew _ _); assumption) | (go_split_ands; constructor <;> assumption))
              (first | (go_at_call 14; refine (G1.out _ (And.left (by assumption)) _ _ (by first | exact Or.inl ⟨rfl, rfl⟩ | exact Or.inr ⟨rfl, rfl⟩)).mono ?_; rintro e w6 ⟨rfl, f6⟩) | (go_at_call 29; refine (G2.out _ (And.left (by assumption)) _ _ (by first | exact Or.inl ⟨rfl, rfl⟩ | exact Or.inr ⟨rfl, rfl⟩)).mono ?_; rintro e w6 ⟨rfl, rfl⟩) | (go_at_call 21; refine (G3.out _ (And.left (by assumption)) _ _ (by first | exact Or.inl ⟨rfl, rfl⟩ | exact Or.inr ⟨rfl, rfl⟩)).mono ?_; rintro e w6 ⟨rfl, rfl⟩) | (go_at_call 34; refine (G4.out _ (And.left (by assumption)) _ _ (by first | exact Or.inl ⟨rfl, rfl⟩ | exact Or.inr ⟨rfl, rfl⟩)).mono ?_; rintro e w6 ⟨rfl, rfl⟩) | (go_at_call 19; refine (G5.out _ (And.left (by assumption))).mono ?_; rintro e w6 ⟨rfl, rfl⟩) | (go_at_call 25; refine (G6.out _ (And.left (by assumption))).mono ?_; rintro e w6 ⟨rfl, rfl⟩))
            rename_i hh
            obtain ⟨hqF, _⟩ := hh
            have HQF := Lib.hid hqF
            clear hqF hq9 cx9
            go_wp2_with fail
            go_roundw
            case rel => exact ⟨k + 1, n2, tc2, ta2, F', s1, told2, hlt, by go_num, rfl, hn2.out, hnk2.out, hsl2.out, HQF.out.next hup2.out htl2.out⟩
            case measure => simp [intOf]; omega
        · go_wp2_with fail
          refine (Hworks.out _).mono ?_
          rintro e w4 ⟨rfl, f4⟩
          go_wp2_with fail
          go_ret
          exact ⟨rfl, hp.out.fr.trans f4⟩
end Go.Proofs.Ytncajdefjammiaa
