/-
  ArenaAgain (P4.6): the next slot behind a Free is the one that was given back, if its page is the first one that has room.
-/
import Derived.Test.YtncajdefjammiaaArCopyMine
namespace Go.Proofs.Ytncajdefjammiaa
open Go.RowKit
set_option linter.unusedVariables false
set_option linter.unusedSimpArgs false
set_option maxRecDepth 100000

theorem adv_is {slot : Nat} {pages : List PS} : ∀ (d f j : Nat), j = f + d → (∀ i p, f ≤ i → i < j → pages[i]? = some p → full slot p = true) → (∀ i, f ≤ i → i < j → i < pages.length) → (∀ p, pages[j]? = some p → full slot p = false) → adv slot pages f = j := by
  intro d
  induction d with
  | zero => intro f j hj h1 h2 h3; subst hj; exact adv_here h3
  | succ d ih =>
    intro f j hj h1 h2 h3
    have hl := h2 f (Nat.le_refl _) (by omega)
    rw [adv_step (List.getElem?_eq_getElem hl) (h1 f _ (Nat.le_refl _) (by omega) (List.getElem?_eq_getElem hl))]
    exact ih (f + 1) j (by omega) (fun i p a b => h1 i p (by omega) b) (fun i a b => h2 i (by omega) b) h3

theorem again_law {N : Nat} {s : AS} {h : Nat} (hU : Upto N s) (hN' : N < 4294967294) (hn : named s h = true) :
    (aFree s h).1 = 0 ∧ (aAlloc (aFree s h).2).2.1 = 0 ∧
    (if (aAlloc s).2.1 = 0 ∧ hN (aAlloc s).1 < hN h then (aAlloc (aFree s h).2).1 ≠ mkH (hN h) (hO h) (hG h + 1) else (aAlloc (aFree s h).2).1 = mkH (hN h) (hO h) (hG h + 1)) := by
  have hw := hU.wf
  have hf : (aFind s h).isSome = true := hn
  obtain ⟨bs, hb⟩ := Option.isSome_iff_exists.1 hf
  obtain ⟨g1, q, g2, g3⟩ := find_parts hb
  obtain ⟨q1, q2⟩ := PS.at_some g3
  have hqw := hw.pages q (List.mem_of_getElem? g2)
  rw [hqw.2] at q1 q2
  obtain ⟨f1, f2, f3⟩ := hqw.1.free q2
  have hm := mod_set g2 (fun p => p.free (hO h / s.slot))
  have hfe : aFree s h = (0, { s with pages := s.pages.set (hN h) (q.free (hO h / s.slot)), used := s.used - 1, first := min s.first (hN h) }) := by
    unfold aFree; rw [if_pos hf, hm]
  have hwt := (aFree_all hw h).1
  have hlN := (List.getElem?_eq_some_iff.1 g2).1
  have hle := adv_le (slot := s.slot) (pages := s.pages) hw.first
  have hlo := hw.lo
  have hqu : q.used ≤ 4096 / s.slot := by
    have h1 := used_le q
    have h2 := hqw.1.fit
    rw [hqw.2] at h2
    have h3 : q.slots.length ≤ 4096 / s.slot := (Nat.le_div_iff_mul_le (by omega)).2 h2
    omega
  have hroom : full s.slot (q.free (hO h / s.slot)) = false := by
    unfold full; exact decide_eq_false (by omega)
  rw [hfe] at hwt ⊢
  simp only at hwt ⊢
  obtain ⟨t, ht⟩ : ∃ t : AS, t = { s with pages := s.pages.set (hN h) (q.free (hO h / s.slot)), used := s.used - 1, first := min s.first (hN h) } := ⟨_, rfl⟩
  rw [← ht] at hwt ⊢
  have hts : t.slot = s.slot := by rw [ht]
  have htf : t.first = min s.first (hN h) := by rw [ht]
  have htg : ∀ n o, t.genOf n o = s.genOf n o := fun n o => by rw [ht]; rfl
  have htp : ∀ i, t.pages[i]? = if i = hN h then some (q.free (hO h / s.slot)) else s.pages[i]? := by
    intro i
    rw [ht]
    show (s.pages.set (hN h) _)[i]? = _
    by_cases e : i = hN h
    · rw [if_pos e, e, List.getElem?_set_self hlN]
    · rw [if_neg e, List.getElem?_set_ne (Ne.symm e)]
  have htl : t.pages.length = s.pages.length := by rw [ht]; exact List.length_set
  -- pages ahead of the first that has room
  have hful : ∀ i p, i < adv s.slot s.pages s.first → s.pages[i]? = some p → full s.slot p = true := by
    intro i p hi hp
    by_cases h1 : i < s.first
    · exact hw.fulls i p h1 hp
    · exact adv_full (by omega) hi hp
  by_cases hc : adv s.slot s.pages s.first < hN h
  · -- another page has room
    have hA : adv t.slot t.pages t.first = adv s.slot s.pages s.first := by
      rw [hts, htf]
      have e : min s.first (hN h) = s.first := by omega
      rw [e]
      refine adv_is (adv s.slot s.pages s.first - s.first) _ _ (by omega) ?_ ?_ ?_
      · intro i p h1 h2 hp
        rw [htp, if_neg (by omega)] at hp
        exact hful i p h2 hp
      · intro i h1 h2; omega
      · intro p hp
        rw [htp, if_neg (by omega)] at hp
        exact adv_stop hp
    have hs0 : (aAlloc s).2.1 = 0 ∧ hN (aAlloc s).1 = adv s.slot s.pages s.first := by
      rcases aAlloc_cases hw with ⟨h1, h2, e⟩ | ⟨f, k, a, a', h1, h2, h3, h4, h5, h6, h7, h8, e⟩
      · omega
      · rw [e]
        obtain ⟨w1, w2, w3, w4, w5⟩ := h4.alloc h6
        rw [h5] at w4
        have := hU.gen f (k * s.slot)
        exact ⟨rfl, by rw [← h2]; exact hN_mk (by omega) (by omega)⟩
    have ht0 : (aAlloc t).2.1 = 0 ∧ hN (aAlloc t).1 = adv s.slot s.pages s.first := by
      rcases aAlloc_cases hwt with ⟨h1, h2, e⟩ | ⟨f, k, a, a', h1, h2, h3, h4, h5, h6, h7, h8, e⟩
      · omega
      · rw [e]
        obtain ⟨w1, w2, w3, w4, w5⟩ := h4.alloc h6
        rw [h5] at w4
        have := hU.gen f (k * t.slot)
        exact ⟨rfl, by rw [← hA, ← h2]; exact hN_mk (by omega) (by rw [htg]; omega)⟩
    refine ⟨trivial, ht0.1, ?_⟩
    rw [if_pos ⟨hs0.1, by omega⟩]
    intro e
    have h1 := congrArg hN e
    have hg := hU.gen (hN h) (hO h)
    rw [ht0.2, hN_mk (hO_lt' h) (by unfold hG at g1 ⊢; omega)] at h1
    omega
  · have hA : adv t.slot t.pages t.first = hN h := by
      rw [hts, htf]
      by_cases h0 : s.first ≤ hN h
      · have e : min s.first (hN h) = s.first := by omega
        rw [e]
        refine adv_is (hN h - s.first) _ _ (by omega) ?_ ?_ ?_
        · intro i p h1 h2 hp
          rw [htp, if_neg (by omega)] at hp
          exact hful i p (by omega) hp
        · intro i h1 h2; omega
        · intro p hp
          rw [htp, if_pos rfl] at hp
          cases hp; exact hroom
      · have e : min s.first (hN h) = hN h := by omega
        rw [e]
        refine adv_here ?_
        intro p hp
        rw [htp, if_pos rfl] at hp
        cases hp; exact hroom
    have hif : ¬ ((aAlloc s).2.1 = 0 ∧ hN (aAlloc s).1 < hN h) := by
      rintro ⟨e1, e2⟩
      rcases aAlloc_cases hw with ⟨h1, h2, e⟩ | ⟨f, k, a, a', h1, h2, h3, h4, h5, h6, h7, h8, e⟩
      · rw [e] at e1; simp at e1
      · rw [e] at e2
        obtain ⟨w1, w2, w3, w4, w5⟩ := h4.alloc h6
        rw [h5] at w4
        have := hU.gen f (k * s.slot)
        simp only at e2
        rw [hN_mk (by omega) (by omega)] at e2
        omega
    rw [if_neg hif]
    have halt : aAlloc t = (mkH (hN h) (hO h) (hG h + 1), 0, (aAlloc t).2.2) := by
      have hgrown : t.grown = t.pages := by unfold AS.grown; rw [hA, if_neg (by omega)]
      have hal : (q.free (hO h / s.slot)).alloc = some (hO h / s.slot, { (q.free (hO h / s.slot)) with slots := (q.free (hO h / s.slot)).slots.set (hO h / s.slot) (some (zeros q.slot)), back := q.back }) := rfl
      unfold aAlloc
      simp only [hA]
      rw [if_neg (by omega), hgrown, htp, if_pos rfl]
      simp only [Option.bind_some, hal]
      rw [hts, ← q1, htg, g1]
    exact ⟨trivial, by rw [halt], by rw [halt]⟩

theorem build_step (n : Int) (w : World) : (Instr.build 35 #[(1, .int .i64 n)]).run Try.prog w = .ok (.agg #[.int .u8 0, .int .i64 n, .int .u64 0, .string ByteArray.empty]) w := by kernel_rfl

set_option maxHeartbeats 8000000 in
theorem walk_ArenaAgain (W : World) (slot : Int) (ws : (Lit.int .i64 slot).wf = true) (a1 : Option Addr) (c1 : Nat) (l1 : List StepV) (h1 : StepsAt W a1 l1) (which : Int) (ww : (Lit.int .i64 which).wf = true) :
   Calls Try.prog 9 #[.int .i64 slot, .slice a1 l1.length c1, .int .i64 which] W fun e w' => e = .returned (.bool true) ∧ Fr none_ W w' := by
  have hlarge := fun w h => large_any w a1 c1 l1 h
  have Hlarge := Lib.hid hlarge
  have Hworks := Lib.hid works_any
  have H1 := Lib.hid h1
  clear hlarge
  cases hL : isLarge l1 with
  | true =>
    rw [hL] at Hlarge
    clear hL h1
    go_enter Try.func9, Try.ntmps9
    go_wp2_with fail
    refine (Hworks.out _).mono ?_
    rintro e w1 ⟨rfl, f1⟩
    go_wp2_with fail
    refine (Hlarge.out _ (H1.out.kept f1 (fun _ _ e => e))).mono ?_
    rintro e w2 ⟨rfl, rfl⟩
    go_wp2_with fail
    refine (Hworks.out _).mono ?_
    rintro e w3 ⟨rfl, f3⟩
    go_wp2_with fail
    go_ret
    exact ⟨rfl, f1.trans f3⟩
  | false =>
    rw [hL] at Hlarge
    have hn1 := notLarge hL
    by_cases hs : 2 ≤ slot ∧ slot ≤ 4096
    · obtain ⟨sl, rfl⟩ := Int.eq_ofNat_of_zero_le (show 0 ≤ slot by omega)
      have s2 : 2 ≤ sl := by omega
      have s3 : sl ≤ 4096 := by omega
      have hnew := fun w => ar_new w sl s2 s3
      have Hnew := Lib.hid hnew
      have Hww := Lib.hid ww
      clear hL hnew hs ws h1 ww
      go_enter Try.func9, Try.ntmps9
      go_wp2_with fail
      refine (Hworks.out _).mono ?_
      rintro e w1 ⟨rfl, f1⟩
      go_wp2_with fail
      refine (Hlarge.out _ (H1.out.kept f1 (fun _ _ e => e))).mono ?_
      rintro e w2 ⟨rfl, rfl⟩
      go_wp2_with fail
      refine (Hnew.out _).mono ?_
      rintro e w3 ⟨F0, x, rfl, har, f3, hF0⟩
      go_wp2_with fail
      have hp0 : P2 W x (AS.new sl) F0 [] none 0 0 4 [] none 0 0 w3 :=
        ⟨har, SlAt.empty _ _ _, SlAt.empty _ _ _, f1.trans f3, fun _ _ => blk_none _, fun _ _ => blk_none _, fun _ _ => blk_none _, fun k hk => by have := hF0 k hk; have := f1.size; omega, fun k hk => absurd hk (blk_none k), fun k hk => absurd hk (blk_none k)⟩
      have hi0 : LInv sl 0 (AS.new sl) [] := LInv.new s2 s3
      clear har f3 hF0 f1
      go_loopw [9, 10] (fun t i wr => ∃ (k n tc : Nat) (ta : Option Addr) (s : AS) (told : List Nat) (F : Nat → Prop), Hid (k ≤ l1.length) ∧ i = .int .i64 k ∧ t = .slice ta n tc ∧ Hid (n = told.length) ∧ LInv sl k s told ∧ P2 W x s F told ta n tc 4 [] none 0 0 wr) (fun _ i _ => l1.length - (intOf i).toNat)
      case atStart => exact ⟨0, 0, 0, none, AS.new sl, [], F0, Nat.zero_le _, rfl, rfl, rfl, hi0, hp0⟩
      case round =>
        obtain ⟨k, n, tc, ta, s, told, F, hk, rfl, rfl, hn, hi, hp⟩ := hrel
        clear hp0 hi0
        by_cases hlt : k < l1.length
        · obtain ⟨y, hy⟩ : ∃ y, l1[k]? = some y := ⟨l1[k], List.getElem?_eq_getElem hlt⟩
          have hyo := H1.out.ok y (List.mem_of_getElem? hy)
          rcases H1.out.at_ with h0 | ⟨b, o, rfl, hb, hc⟩
          · rw [h0] at hlt; exact absurd hlt (by simp)
          obtain ⟨c0, c1', c2, c3⟩ := hc k y hy
          have d0 := Fr.keep hp.fr c0
          have d1 := Fr.keep hp.fr c1'
          have d2 := Fr.keep hp.fr c2
          have d3 := Fr.keep hp.fr c3
          have hdo := fun w' (f : Fr none_ wr w') => ar_do (hp.ar.kept0 f) hi.up (by unfold big; omega) y hyo told hi.tl.lt ta tc (by have := hi.le; omega) (by have h := hp.ts.kept0 f; rw [hn.out] at h; exact h)
          rw [← hn.out] at hdo
          have Hdo := Lib.hid hdo
          clear c0 c1' c2 c3 hc hdo
          go_wp2_with fail
          refine (Hdo.out _ (Fr.refl _ _)).mono ?_
          rintro e w4 ⟨rfl, F', har, f4, g4⟩
          have hp4 := hp.arena har f4 g4
          generalize hr : y.does told s = r at hp4
          obtain ⟨H, bn, t⟩ := r
          simp only at hp4
          have hn200 : n ≤ 200 := by have := hi.le; have := hn.out; omega
          clear har f4 g4 hp d0 d1 d2 d3 Hdo
          cases bn with
          | true =>
            have hi2 := hi.more (by omega) hyo hr
            have Hi2 := Lib.hid hi2
            clear hr hi hi2
            go_wp2_with ((with_reducible refine at_slot 59 ?_); refine wpAppend rfl _ _ _ rfl 32 (.int .u64 0) 1 8 Try.underlying29 handle_info rfl (hp4.ts.kept0 (Fr.alloc _ _ _)) rfl ⟨w4.heap.size, 0, none⟩ 1 1 [vH H] rfl rfl (one_cells _ _ _ (by simp [vH])) (by simp [vH, Value.oneCell']) (by omega) (by simp [maxLen]; omega) (by omega) ?_; intro ta2 tc2 w5 hs5 f5 hb5; have hp5 := hp4.pushT (Fr.alloc none_ _ _) hs5 f5 hb5)
            go_roundw
            case rel => exact ⟨k + 1, n + 1, tc2, ta2, t, told ++ [H], F', hlt, by go_num, rfl, by show n + 1 = _; rw [List.length_append, ← hn.out]; rfl, Hi2.out, hp5⟩
            case measure => simp [intOf]; omega
          | false =>
            have hi2 := hi.less (by omega) hyo hr
            have Hi2 := Lib.hid hi2
            clear hr hi hi2
            go_wp2_with fail
            go_roundw
            case rel => exact ⟨k + 1, n, tc, ta, t, told, F', hlt, by go_num, rfl, hn, Hi2.out, hp4⟩
            case measure => simp [intOf]; omega
        · have hkb : k ≤ 200 := by have := hk.out; omega
          obtain ⟨y0, hy0⟩ : ∃ y0 : StepV, y0 = ⟨0, which, 0, ByteArray.empty⟩ := ⟨_, rfl⟩
          have hyo : y0.Ok := by rw [hy0]; exact ⟨by simp, Hww.out, by simp, by simp⟩
          have hof := fun w' (f : Fr none_ wr w') => of_any w' y0 hyo told ta tc (by have := hi.le; omega) (by have h := hp.ts.kept0 f; rw [hn.out] at h; exact h)
          rw [← hn.out] at hof
          have hhlt := ofH_lt hyo hi.tl.lt
          obtain ⟨h, hh⟩ : ∃ h, h = y0.ofH told := ⟨_, rfl⟩
          rw [← hh] at hof hhlt
          rw [hy0] at hof
          have hbd := fun w => build_step which w
          have Hof := Lib.hid hof
          have his := fun w' (f : Fr none_ wr w') => ar_is (hp.ar.kept0 f) hi.up hhlt
          have His := Lib.hid his
          clear hof hh hy0 his
          go_wp2_with fail
          refine (Hof.out _ (Fr.refl _ _)).mono ?_
          rintro e w4 ⟨rfl, f4⟩
          go_wp2_with fail
          refine (His.out _ f4).mono ?_
          rintro e w5 ⟨rfl, f5⟩
          cases hnm : named s h with
          | false =>
            go_wp2_with fail
            go_ret
            exact ⟨rfl, hp.fr.trans (f4.trans f5)⟩
          | true =>
            obtain ⟨l1', l2', l3'⟩ := again_law hi.up (by omega) hnm
            have hp5 := (hp.skip f4).skip f5
            have hcp := ar_copy hp5.ar hi.up
            have hupt := hi.up
            have hupf : Upto k (aFree s h).2 := hi.up.free h
            have HL := Lib.hid (And.intro l1' (And.intro l2' l3'))
            have Hcp := Lib.hid hcp
            have Hi := Lib.hid hi
            have Hnm := Lib.hid hnm
            clear l1' l2' l3' hcp hi hnm hbd hp f4 f5
            go_wp2_with fail
            refine Hcp.out.mono ?_
            rintro e w6 ⟨G, y, rfl, hac, f6, hGo⟩
            have hal := ar_alloc hac hupt (by unfold big; omega)
            have Hal := Lib.hid hal
            clear hal
            go_wp2_with fail
            refine Hal.out.mono ?_
            rintro e w7 ⟨rfl, G', hac7, f7, g7⟩
            have f57 : Fr none_ w5 w7 := f6.step f7 (fun i hi' e => by have := hGo i e; omega)
            have hp7 := hp5.skip f57
            have hptH := fun w' => Parts_any w' h hhlt
            have hnr : (aAlloc s).1 < 18446744073709551616 := by
              rcases aAlloc_new hupt (by omega) with ⟨_, q⟩ | ⟨_, q, _⟩
              · exact q.lt
              · rw [q]; omega
            have hptN := fun w' => Parts_any w' (aAlloc s).1 hnr
            have HptH := Lib.hid hptH
            have HptN := Lib.hid hptN
            clear hptH hptN
            go_wp2_with fail
            refine (HptH.out _).mono ?_
            rintro e w8 ⟨rfl, rfl⟩
            go_wp2_with fail
            refine (HptN.out _).mono ?_
            rintro e w8 ⟨rfl, rfl⟩
            have hfr := ar_free hp7.ar hupt (by unfold big; omega) hhlt
            rw [HL.out.1] at hfr
            have Hfr := Lib.hid hfr
            clear hfr
            go_wp2_with fail
            refine Hfr.out.mono ?_
            rintro e w8 ⟨rfl, ha8, f8⟩
            have hp8 := hp7.arena0 ha8 f8
            have hal2 := ar_alloc hp8.ar hupf (by unfold big; omega)
            rw [HL.out.2.1] at hal2
            have Hal2 := Lib.hid hal2
            clear hal2
            go_wp2_with fail
            refine Hal2.out.mono ?_
            rintro e w9 ⟨rfl, F9, ha9, f9, g9⟩
            have hp9 := hp8.arena ha9 f9 g9
            have h3 := HL.out.2.2
            have hgen := (Hi.out.tl.gen h (Hi.out.tl.found h hhlt Hnm.out)).2
            have hgu := hupt.gen (hN h) (hO h)
            have hGb : hG h + 1 < 4294967296 := by omega
            have hNb := hN_lt' hhlt
            have hOb := hO_lt' h
            have hNr := hN_lt' hnr
            have hhd : ∀ w', Calls Try.prog 26 #[.int .u16 (hN h : Int), .int .u16 (hO h : Int), .int .u32 ((hG h : Int) + 1)] w' fun e w'' => e = .returned (.int .u64 (mkH (hN h) (hO h) (hG h + 1) : Int)) ∧ w' = w'' := fun w' => Handle_any w' (hN h) (hO h) (hG h + 1) hNb hOb hGb
            have hgb : hG h < 4294967295 := by omega
            generalize mkH (hN h) (hO h) (hG h + 1) = MK at h3 hhd
            have Hhd := Lib.hid hhd
            generalize hR2 : (aAlloc (aFree s h).2).1 = R2 at h3
            generalize hN h = P at h3 hNb Hhd
            generalize hO h = O at hOb Hhd
            generalize hG h = GN at hgb Hhd
            generalize hN (aAlloc s).1 = P2 at h3 hNr
            generalize (aAlloc s).2.1 = Q at h3
            have f9' := hp9.fr
            have hw32 : IntKind.u32.wrap ((GN : Int) + 1) = (GN : Int) + 1 := by rw [IntKind.wrap_u32]; omega
            clear hR2 hgen hgu hGb hhd hp9 hp8 ha8 ha9 f8 f9 g9 hp7 hac7 f7 g7 hp5 f57 hac f6 hupt hupf hnr
            by_cases hq : Q = 0
            · have b1 : ((Q : Int) == 0) = true := by rw [hq]; rfl
              by_cases hlt2 : P2 < P
              · rw [if_pos ⟨hq, hlt2⟩] at h3
                have b2 : decide (P2 < P) = true := decide_eq_true hlt2
                have b3 : ((R2 : Int) != (MK : Int)) = true := bne_iff_ne.2 (by omega)
                clear h3 hq
                go_wp2_with fail
                refine (Hhd.out _).mono ?_
                rintro e w10 ⟨rfl, rfl⟩
                go_wp2_with fail
                go_ret
                exact ⟨rfl, f9'⟩
              · rw [if_neg (fun e => hlt2 e.2)] at h3
                have b2 : decide (P2 < P) = false := decide_eq_false hlt2
                have b3 : ((R2 : Int) == (MK : Int)) = true := by rw [h3]; exact beq_self_eq_true _
                clear h3 hq
                go_wp2_with fail
                refine (Hhd.out _).mono ?_
                rintro e w10 ⟨rfl, rfl⟩
                go_wp2_with fail
                go_ret
                exact ⟨rfl, f9'⟩
            · have b1 : ((Q : Int) == 0) = false := beq_eq_false_iff_ne.2 (by omega)
              rw [if_neg (fun e => hq e.1)] at h3
              have b3 : ((R2 : Int) == (MK : Int)) = true := by rw [h3]; exact beq_self_eq_true _
              clear h3 hq
              go_wp2_with fail
              refine (Hhd.out _).mono ?_
              rintro e w10 ⟨rfl, rfl⟩
              go_wp2_with fail
              go_ret
              exact ⟨rfl, f9'⟩
    · have hno := fun w => Arena_New_no w slot (by omega)
      have Hno := Lib.hid hno
      clear hno hs hL h1 ws
      go_enter Try.func9, Try.ntmps9
      go_wp2_with fail
      refine (Hworks.out _).mono ?_
      rintro e w1 ⟨rfl, f1⟩
      go_wp2_with fail
      refine (Hlarge.out _ (H1.out.kept f1 (fun _ _ e => e))).mono ?_
      rintro e w2 ⟨rfl, rfl⟩
      go_wp2_with fail
      refine (Hno.out _).mono ?_
      rintro e w3 ⟨rfl, rfl⟩
      go_wp2_with fail
      go_ret
      exact ⟨rfl, f1⟩
end Go.Proofs.Ytncajdefjammiaa
