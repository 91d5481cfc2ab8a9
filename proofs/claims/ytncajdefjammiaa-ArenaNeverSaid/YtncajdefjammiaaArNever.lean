/-
  ArenaNever (P4.3): a handle is told once; what was given back is named by none from then on.
-/
import Derived.Test.YtncajdefjammiaaArPair
import Derived.Deep.DeepCutAuto
namespace Go.Proofs.Ytncajdefjammiaa
open Go.RowKit
set_option linter.unusedVariables false
set_option linter.unusedSimpArgs false
set_option maxRecDepth 100000

structure NInv (k : Nat) (s : AS) (told : List Nat) (vs : List Bool) : Prop where
  up : Upto k s
  tl : Told s told
  le : told.length ≤ k
  len : vs.length = told.length
  gone : ∀ (j h : Nat), told[j]? = some h → vs[j]? = some true → named s h = false

theorem NInv.less {k : Nat} {s t : AS} {told : List Nat} {vs : List Bool} {y : StepV} {H : Nat} (h : NInv k s told vs) (hk : k < 1000) (hy : y.Ok) (hr : y.does told s = (H, false, t)) : NInv (k + 1) t told vs := by
  have h1 := h.up.does y told
  have h2 := h.tl.does h.up (by omega) y hy
  have h3 := fun x hx => gone_stays h.tl h.up (by omega) y (y := x) hx
  rw [hr] at h1 h2 h3
  exact ⟨h1, h2, by have := h.le; omega, h.len, fun j g hj hv => h3 g (List.mem_of_getElem? hj) (h.gone j g hj hv)⟩
theorem NInv.more {k : Nat} {s t : AS} {told : List Nat} {vs : List Bool} {y : StepV} {H : Nat} (h : NInv k s told vs) (hk : k < 1000) (hy : y.Ok) (hr : y.does told s = (H, true, t)) : NInv (k + 1) t (told ++ [H]) (vs ++ [false]) ∧ H ∉ told := by
  have h1 := h.up.does y told
  have h2 := h.tl.does h.up (by omega) y hy
  have h3 := fun x hx => gone_stays h.tl h.up (by omega) y (y := x) hx
  have h4 := does_all h.up (by omega) y told
  rw [hr] at h1 h2 h3
  refine ⟨⟨h1, h2, by rw [List.length_append]; have := h.le; simp; omega, by simp [h.len], ?_⟩, ?_⟩
  · intro j g hj hv
    rcases Nat.lt_or_ge j told.length with q | q
    · rw [List.getElem?_append_left q] at hj
      rw [List.getElem?_append_left (by rw [h.len]; exact q)] at hv
      exact h3 g (List.mem_of_getElem? hj) (h.gone j g hj hv)
    · rw [List.getElem?_append_right (by rw [h.len]; exact q)] at hv
      cases hjj : j - vs.length with
      | zero => rw [hjj] at hv; simp at hv
      | succ m => rw [hjj] at hv; simp at hv
  · cases h4 with
    | more h0 hb hn => rw [hr] at hn; exact hn.fresh h.tl
    | less h1 v hv hh hb hz hr' => rw [hr] at hb; cases hb

theorem NInv.set {k q hh : Nat} {s : AS} {told : List Nat} {vs : List Bool} (h : NInv k s told vs) (hq : told[q]? = some hh) (b : Bool) (hb : named s hh = !b) : NInv k s told (vs.set q b) := by
  refine ⟨h.up, h.tl, h.le, by rw [List.length_set]; exact h.len, fun j g hj hv => ?_⟩
  by_cases e : j = q
  · subst e
    rw [hq] at hj
    cases hj
    have hl : j < vs.length := by rw [h.len]; exact (List.getElem?_eq_some_iff.1 hq).1
    rw [List.getElem?_set_self hl] at hv
    cases hv
    exact hb
  · rw [List.getElem?_set_ne (Ne.symm e)] at hv
    exact h.gone j g hj hv
theorem read_named {s : AS} {h : Nat} (hn : named s h = true) : (aRead s h).2 = 0 := by
  unfold named at hn
  obtain ⟨bs, hb⟩ := Option.isSome_iff_exists.1 hn
  unfold aRead; rw [hb]
theorem read_gone {s : AS} {h : Nat} (hn : named s h = false) : (aRead s h).2 = 5 := by
  unfold named at hn
  have : aFind s h = none := by cases hf : aFind s h with
    | none => rfl
    | some b => rw [hf] at hn; cases hn
  unfold aRead; rw [this]
theorem free_gone {s : AS} {h : Nat} (hn : named s h = false) : aFree s h = (5, s) := by
  unfold named at hn
  unfold aFree; rw [hn]; rfl
theorem set_map (vs : List Bool) (q : Nat) (b : Bool) : (vs.map Value.bool).set q (.bool b) = (vs.set q b).map Value.bool := by rw [List.map_set]

set_option maxHeartbeats 4000000 in
theorem walk_ArenaNever (W : World) (slot : Int) (ws : (Lit.int .i64 slot).wf = true) (a1 : Option Addr) (c1 : Nat) (l1 : List StepV) (h1 : StepsAt W a1 l1) :
   Calls Try.prog 3 #[.int .i64 slot, .slice a1 l1.length c1] W fun e w' => e = .returned (.bool true) ∧ Fr none_ W w' := by
  have hlarge := fun w h => large_any w a1 c1 l1 h
  have Hlarge := Lib.hid hlarge
  have Hworks := Lib.hid works_any
  have H1 := Lib.hid h1
  clear hlarge
  cases hL : isLarge l1 with
  | true =>
    rw [hL] at Hlarge
    clear hL h1
    go_enter Try.func3, Try.ntmps3
    go_wp2_with fail
    refine (Hworks.out _).mono ?_
    rintro e w1 ⟨rfl, f1⟩
    go_wp2_with fail
    refine (Hlarge.out _ (H1.out.kept f1 (fun _ _ e => e))).mono ?_
    rintro e w2 ⟨rfl, rfl⟩
    go_wp2_with fail
    refine (Hworks.out _).mono ?_
    rintro e w3 ⟨rfl, f3⟩
    go_wp2_with fail
    go_ret
    exact ⟨rfl, f1.trans f3⟩
  | false =>
    rw [hL] at Hlarge
    have hn1 := notLarge hL
    by_cases hs : 2 ≤ slot ∧ slot ≤ 4096
    · obtain ⟨sl, rfl⟩ := Int.eq_ofNat_of_zero_le (show 0 ≤ slot by omega)
      have s2 : 2 ≤ sl := by omega
      have s3 : sl ≤ 4096 := by omega
      have hnew := fun w => ar_new w sl s2 s3
      have Hnew := Lib.hid hnew
      clear hL hnew hs ws h1
      go_enter Try.func3, Try.ntmps3
      go_wp2_with fail
      refine (Hworks.out _).mono ?_
      rintro e w1 ⟨rfl, f1⟩
      go_wp2_with fail
      refine (Hlarge.out _ (H1.out.kept f1 (fun _ _ e => e))).mono ?_
      rintro e w2 ⟨rfl, rfl⟩
      go_wp2_with fail
      refine (Hnew.out _).mono ?_
      rintro e w3 ⟨F0, x, rfl, har, f3, hF0⟩
      go_wp2_with fail
      have hp0 : P2 W x (AS.new sl) F0 [] none 0 0 4 ([].map Value.bool) none 0 0 w3 :=
        ⟨har, SlAt.empty _ _ _, SlAt.empty _ _ _, f1.trans f3, fun _ _ => blk_none _, fun _ _ => blk_none _, fun _ _ => blk_none _, fun k hk => by have := hF0 k hk; have := f1.size; omega, fun k hk => absurd hk (blk_none k), fun k hk => absurd hk (blk_none k)⟩
      have hi0 : NInv 0 (AS.new sl) [] [] := ⟨Upto.new s2 s3, Told.new sl, Nat.le_refl _, rfl, fun j h hj => by simp at hj⟩
      clear har f3 hF0 f1
      go_loopw [7, 8, 9] (fun t g i wr => ∃ (k n tc gc : Nat) (ta ga : Option Addr) (s : AS) (told : List Nat) (vs : List Bool) (F : Nat → Prop), Hid (k ≤ l1.length) ∧ i = .int .i64 k ∧ t = .slice ta n tc ∧ g = .slice ga n gc ∧ Hid (n = told.length) ∧ NInv k s told vs ∧ P2 W x s F told ta n tc 4 (vs.map Value.bool) ga n gc wr) (fun _ _ i _ => l1.length - (intOf i).toNat)
      case atStart => exact ⟨0, 0, 0, 0, none, none, AS.new sl, [], [], F0, Nat.zero_le _, rfl, rfl, rfl, rfl, hi0, hp0⟩
      case round =>
        obtain ⟨k, n, tc, gc, ta, ga, s, told, vs, F, hk, rfl, rfl, rfl, hn, hi, hp⟩ := hrel
        clear hp0 hi0
        by_cases hlt : k < l1.length
        · obtain ⟨y, hy⟩ : ∃ y, l1[k]? = some y := ⟨l1[k], List.getElem?_eq_getElem hlt⟩
          have hyo := H1.out.ok y (List.mem_of_getElem? hy)
          rcases H1.out.at_ with h0 | ⟨b, o, rfl, hb, hc⟩
          · rw [h0] at hlt; exact absurd hlt (by simp)
          obtain ⟨c0, c1', c2, c3⟩ := hc k y hy
          have d0 := Fr.keep hp.fr c0
          have d1 := Fr.keep hp.fr c1'
          have d2 := Fr.keep hp.fr c2
          have d3 := Fr.keep hp.fr c3
          have hdo := fun w' (f : Fr none_ wr w') => ar_do (hp.ar.kept0 f) hi.up (by unfold big; omega) y hyo told hi.tl.lt ta tc (by have := hi.le; omega) (by have h := hp.ts.kept0 f; rw [hn.out] at h; exact h)
          rw [← hn.out] at hdo
          have Hdo := Lib.hid hdo
          have hst := hi.tl.does hi.up (by omega) y hyo
          clear c0 c1' c2 c3 hc hdo
          go_wp2_with fail
          refine (Hdo.out _ (Fr.refl _ _)).mono ?_
          rintro e w4 ⟨rfl, F', har, f4, g4⟩
          have hp4 := hp.arena har f4 g4
          generalize hr : y.does told s = r at hp4
          obtain ⟨H, bn, t⟩ := r
          simp only at hp4
          clear har f4 g4 hp hst d0 d1 d2 d3
          have hn200 : n ≤ 200 := by have := hi.le; have := hn.out; omega
          go_upto_if 47 with fail
          go_cut [7, 8] (fun u v wx => ∃ (n2 tc2 gc2 : Nat) (ta2 ga2 : Option Addr) (told2 : List Nat) (vs2 : List Bool), u = .slice ta2 n2 tc2 ∧ v = .slice ga2 n2 gc2 ∧ Hid (n2 = told2.length) ∧ NInv (k + 1) t told2 vs2 ∧ P2 W x t F' told2 ta2 n2 tc2 4 (vs2.map Value.bool) ga2 n2 gc2 wx)
          case first =>
            cases bn with
            | true =>
              obtain ⟨hi2, hfresh⟩ := hi.more (by omega) hyo hr
              have Hr := Lib.hid hr
              have HF := Lib.hid hfresh
              have Hi2 := Lib.hid hi2
              clear hr hfresh hi hi2
              go_wp2_with fail
              go_loop [12] (fun j => ∃ q : Nat, Hid (q ≤ n) ∧ j = .int .i64 q) (fun j => n - (intOf j).toNat)
              case atStart => exact ⟨0, Nat.zero_le _, rfl⟩
              case round =>
                obtain ⟨q, hq, rfl⟩ := hrel
                by_cases hqn : q < n
                · obtain ⟨hh, hhq⟩ : ∃ hh, told[q]? = some hh := ⟨told[q]'(by rw [← hn.out]; exact hqn), List.getElem?_eq_getElem _⟩
                  obtain ⟨gg, rfl⟩ := hp4.ts.isAddr (by omega)
                  have ct := hp4.ts.cell (i := q) (v := vH hh) (by rw [List.getElem?_map, hhq]; rfl)
                  have hne0 : hh ≠ H := fun e => HF.out (e ▸ List.mem_of_getElem? hhq)
                  have hne : ((hh : Int) == (H : Int)) = false := beq_eq_false_iff_ne.2 (by omega)
                  clear hne0
                  unfold vH at ct
                  clear hhq
                  go_wp2_with fail
                  go_round
                  case rel => exact ⟨q + 1, hqn, by go_num⟩
                  case measure => simp [intOf]; omega
                · go_wp2_with (first
                    | ((with_reducible refine at_slot 63 ?_); refine wpAppend rfl _ _ _ rfl 32 (.int .u64 0) 1 8 Try.underlying29 handle_info rfl (hp4.ts.kept0 (Fr.alloc _ _ _)) rfl ⟨w4.heap.size, 0, none⟩ 1 1 [vH H] rfl rfl (one_cells _ _ _ (by simp [vH])) (by simp [vH, Value.oneCell']) (by omega) (by simp [maxLen]; omega) (by omega) ?_; intro ta2 tc2 w5 hs5 f5 hb5; have hp5 := hp4.pushT (Fr.alloc none_ _ _) hs5 f5 hb5)
                    | ((with_reducible refine at_slot 66 ?_); refine wpAppend rfl _ _ _ rfl 4 (.bool false) 1 1 Try.underlying30 bool_info rfl (hp5.gs.kept0 (Fr.alloc _ _ _)) rfl ⟨w5.heap.size, 0, none⟩ 1 1 [.bool false] rfl rfl (one_cells _ _ _ (by simp)) (by simp [Value.oneCell']) (by omega) (by simp [maxLen]; omega) (by omega) ?_; intro ga2 gc2 w6 hs6 f6 hb6; have hp6 := hp5.turnG (Fr.alloc none_ _ _) hs6 f6 hb6))
                  go_meet
                  case rel => exact ⟨n + 1, tc2, gc2, ta2, ga2, told ++ [H], vs ++ [false], rfl, rfl, by show n + 1 = _; rw [List.length_append, ← hn.out]; rfl, Hi2.out, by rw [List.map_append]; exact hp6⟩
            | false =>
              have hi2 := hi.less (by omega) hyo hr
              have Hi2 := Lib.hid hi2
              clear hr hi hi2
              go_wp2_with fail
              go_meet
              case rel => exact ⟨n, tc, gc, ta, ga, told, vs, rfl, rfl, hn, Hi2.out, hp4⟩
          case rest =>
            obtain ⟨n2, tc2, gc2, ta2, ga2, told2, vs2, rfl, rfl, hn2, hi2, hp2⟩ := hcut
            clear hp4 hi hr
            go_wp2_with fail
            go_loopw [13] (fun j wx => ∃ (q : Nat) (vs3 : List Bool), Hid (q ≤ n2) ∧ j = .int .i64 q ∧ NInv (k + 1) t told2 vs3 ∧ P2 W x t F' told2 ta2 n2 tc2 4 (vs3.map Value.bool) ga2 n2 gc2 wx) (fun j _ => n2 - (intOf j).toNat)
            case atStart => exact ⟨0, vs2, Nat.zero_le _, rfl, hi2, hp2⟩
            case round =>
              obtain ⟨q, vs3, hq, rfl, hi3, hp3⟩ := hrel
              clear hp2 hi2
              by_cases hqn : q < n2
              · have hn200' : n2 ≤ 1000 := by have := hi3.le; have := hn2.out; omega
                obtain ⟨hh, hhq⟩ : ∃ hh, told2[q]? = some hh := ⟨told2[q]'(by rw [← hn2.out]; exact hqn), List.getElem?_eq_getElem _⟩
                obtain ⟨bq, hbq⟩ : ∃ bq, vs3[q]? = some bq := ⟨vs3[q]'(by rw [hi3.len, ← hn2.out]; exact hqn), List.getElem?_eq_getElem _⟩
                have hhlt := hi3.tl.lt hh (List.mem_of_getElem? hhq)
                obtain ⟨gg, rfl⟩ := hp3.ts.isAddr (by omega)
                obtain ⟨gh, rfl⟩ := hp3.gs.isAddr (by omega)
                have ct := hp3.ts.cell (i := q) (v := vH hh) (by rw [List.getElem?_map, hhq]; rfl)
                have cg := hp3.gs.cell (i := q) (v := .bool bq) (by rw [List.getElem?_map, hbq]; rfl)
                have zg := hp3.gs.free q
                unfold vH at ct
                have his := fun w' (f : Fr none_ wr w') => ar_is (hp3.ar.kept0 f) hi3.up hhlt
                have hrd := fun w' (f : Fr none_ wr w') => ar_read (hp3.ar.kept0 f) hi3.up hhlt
                have His := Lib.hid his
                have Hrd := Lib.hid hrd
                have Hhq := Lib.hid hhq
                cases hnm : named t hh with
                | true =>
                  have hbf : bq = false := by
                    cases hbb : bq with
                    | false => rfl
                    | true => rw [hbb] at hbq; have := hi3.gone q hh hhq hbq; rw [hnm] at this; cases this
                  subst hbf
                  have Hnm := Lib.hid hnm
                  rw [read_named hnm] at Hrd
                  rw [hnm] at His
                  clear hhq hbq his hrd hnm
                  go_wp2_with fail
                  refine (His.out _ (Fr.refl _ _)).mono ?_
                  rintro e w7 ⟨rfl, f7⟩
                  have ct7 := Fr.keep f7 ct
                  have cg7 := Fr.keep f7 cg
                  clear ct cg zg
                  go_wp2_with fail
                  refine (Hrd.out _ f7).mono ?_
                  rintro e w8 ⟨rfl, f8⟩
                  have hp8 := (hp3.skip f7).skip f8
                  have ct8 := Fr.keep f8 ct7
                  have cg8 := Fr.keep f8 cg7
                  have zg8 := hp8.gs.free q
                  clear ct7 cg7
                  go_wp2_with fail
                  go_roundw
                  case rel =>
                    have hp9 := hp8.setG (i := q) (v := .bool false) (by omega)
                    rw [set_map] at hp9
                    refine ⟨q + 1, vs3.set q false, hqn, by go_num, hi3.set Hhq.out false Hnm.out, hp9⟩
                  case measure => simp [intOf]; omega
                | false =>
                  have hfre := fun w' (f : Fr none_ wr w') => ar_free (hp3.ar.kept0 f) hi3.up (by unfold big; omega) hhlt
                  rw [free_gone hnm] at hfre
                  have Hfre := Lib.hid hfre
                  have Hnm := Lib.hid hnm
                  rw [read_gone hnm] at Hrd
                  rw [hnm] at His
                  clear hhq hbq his hrd hnm hfre
                  go_wp2_with fail
                  refine (His.out _ (Fr.refl _ _)).mono ?_
                  rintro e w7 ⟨rfl, f7⟩
                  have ct7 := Fr.keep f7 ct
                  have cg7 := Fr.keep f7 cg
                  clear ct cg zg
                  go_wp2_with fail
                  refine (Hrd.out _ f7).mono ?_
                  rintro e w8 ⟨rfl, f8⟩
                  have hp8 := (hp3.skip f7).skip f8
                  have ct8 := Fr.keep f8 ct7
                  have cg8 := Fr.keep f8 cg7
                  clear ct7 cg7
                  have f08 := f7.trans f8
                  cases bq
                  all_goals
                    go_wp2_with fail
                    refine (Hfre.out _ f08).mono ?_
                    rintro e w9 ⟨rfl, ha9, f9⟩
                    have hp9 := hp8.arena0 ha9 f9
                    have zg9 := hp9.gs.free q
                    have cg9 := Fr.keepF (p := ⟨gh, q, none⟩) f9 (fun e => hp8.dG gh e ⟨_, rfl, rfl⟩) cg8
                    clear cg8 ct8
                    go_wp2_with fail
                    go_roundw
                    case rel =>
                      have hp10 := hp9.setG (i := q) (v := .bool true) (by omega)
                      rw [set_map] at hp10
                      refine ⟨q + 1, vs3.set q true, hqn, by go_num, hi3.set Hhq.out true Hnm.out, hp10⟩
                    case measure => simp [intOf]; omega
              · have hz := fun w' (f : Fr none_ wr w') => ar_is (hp3.ar.kept0 f) hi3.up (hd := 0) (by omega)
                rw [hi3.tl.zero] at hz
                have Hz := Lib.hid hz
                clear hz
                go_wp2_with fail
                refine (Hz.out _ (Fr.refl _ _)).mono ?_
                rintro e w7 ⟨rfl, f7⟩
                go_wp2_with fail
                go_roundw
                case rel => exact ⟨k + 1, n2, tc2, gc2, ta2, ga2, t, told2, vs3, F', hlt, by go_num, rfl, rfl, hn2, hi3, hp3.skip f7⟩
                case measure => simp [intOf]; omega
        · go_wp2_with fail
          go_ret
          exact ⟨rfl, hp.fr⟩
    · have hno := fun w => Arena_New_no w slot (by omega)
      have Hno := Lib.hid hno
      clear hno hs hL h1 ws
      go_enter Try.func3, Try.ntmps3
      go_wp2_with fail
      refine (Hworks.out _).mono ?_
      rintro e w1 ⟨rfl, f1⟩
      go_wp2_with fail
      refine (Hlarge.out _ (H1.out.kept f1 (fun _ _ e => e))).mono ?_
      rintro e w2 ⟨rfl, rfl⟩
      go_wp2_with fail
      refine (Hno.out _).mono ?_
      rintro e w3 ⟨rfl, rfl⟩
      go_wp2_with fail
      go_ret
      exact ⟨rfl, f1⟩
end Go.Proofs.Ytncajdefjammiaa
