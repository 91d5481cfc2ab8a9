/-
  ArenaMany (P4.5, P4.6): Used is how many handles name something; pages are no more than was needed; the first page that has room gives.
-/
import Derived.Test.YtncajdefjammiaaArPair
import Derived.Test.YtncajdefjammiaaMax
import Derived.Deep.DeepCutAuto
import Derived.Deep.QuietTactic
import Derived.BigQuiet
namespace Go.Proofs.Ytncajdefjammiaa
open Go.RowKit
set_option linter.unusedVariables false
set_option linter.unusedSimpArgs false
set_option maxRecDepth 100000

structure MInv (sl k : Nat) (s : AS) (told : List Nat) (most : Nat) : Prop where
  up : Upto k s
  tl : Told s told
  le : told.length ≤ k
  slot : s.slot = sl
  mo : s.used ≤ most
  mle : most ≤ k
  pages : s.pages.length ≤ (most + 4096 / sl - 1) / (4096 / sl)

def ofAt (t : AS) (told : List Nat) (q p : Nat) : Nat := (told.take q).countP (fun h => decide (hN h = p) && named t h)
def ofs (t : AS) (told : List Nat) (q : Nat) : List Nat := (List.range t.pages.length).map (ofAt t told q)
theorem ofs_get {t : AS} {told : List Nat} {q p : Nat} (hp : p < t.pages.length) : (ofs t told q)[p]? = some (ofAt t told q p) := by
  unfold ofs; rw [List.getElem?_map, List.getElem?_range hp]; rfl
theorem ofs_zero (t : AS) (told : List Nat) : ofs t told 0 = List.replicate t.pages.length 0 := by
  apply List.ext_getElem?
  intro p
  by_cases hp : p < t.pages.length
  · rw [ofs_get hp, List.getElem?_replicate, if_pos hp]; rfl
  · rw [List.getElem?_eq_none (by unfold ofs; simp; omega), List.getElem?_eq_none (by simp; omega)]
theorem ofAt_succ {t : AS} {told : List Nat} {q hh : Nat} (h : told[q]? = some hh) (p : Nat) : ofAt t told (q + 1) p = ofAt t told q p + if hN hh = p ∧ named t hh = true then 1 else 0 := by
  unfold ofAt
  rw [take_succ_get _ _ _ h, List.countP_append]
  simp [List.countP_cons, Bool.and_eq_true]
theorem ofs_no {t : AS} {told : List Nat} {q hh : Nat} (h : told[q]? = some hh) (hn : named t hh = false) : ofs t told (q + 1) = ofs t told q := by
  unfold ofs
  apply List.map_congr_left
  intro p _
  rw [ofAt_succ h, hn]; simp
theorem ofs_yes {t : AS} {told : List Nat} {q hh : Nat} (h : told[q]? = some hh) (hn : named t hh = true) : ofs t told (q + 1) = (ofs t told q).set (hN hh) (ofAt t told q (hN hh) + 1) := by
  apply List.ext_getElem?
  intro p
  by_cases hp : p < t.pages.length
  · rw [ofs_get hp, ofAt_succ h, hn]
    by_cases e : hN hh = p
    · rw [e, List.getElem?_set_self (by unfold ofs; simpa using hp)]; simp
    · rw [List.getElem?_set_ne e, ofs_get hp]; simp [e]
  · rw [List.getElem?_eq_none (by unfold ofs; simp; omega), List.getElem?_eq_none (by unfold ofs; simp; omega)]
theorem used_succ {t : AS} {told : List Nat} {q hh : Nat} (h : told[q]? = some hh) : (told.take (q + 1)).countP (named t) = (told.take q).countP (named t) + if named t hh = true then 1 else 0 := by
  rw [take_succ_get _ _ _ h, List.countP_append]
  simp [List.countP_cons]
theorem named_page {t : AS} {h : Nat} (hn : named t h = true) : hN h < t.pages.length := by
  unfold named at hn
  obtain ⟨bs, hb⟩ := Option.isSome_iff_exists.1 hn
  obtain ⟨_, q, hq, _⟩ := find_parts hb
  exact (List.getElem?_eq_some_iff.1 hq).1

theorem each_pos {sl : Nat} (h2 : 2 ≤ sl) (h3 : sl ≤ 4096) : 1 ≤ 4096 / sl ∧ 4096 / sl ≤ 2048 := by
  constructor
  · exact (Nat.le_div_iff_mul_le (by omega)).2 (by omega)
  · have : 4096 / sl ≤ 4096 / 2 := Nat.div_le_div_left h2 (by omega)
    omega
theorem MInv.less {sl k : Nat} {s t : AS} {told : List Nat} {most : Nat} {y : StepV} {H : Nat} (h : MInv sl k s told most) (hk : k < 1000) (hy : y.Ok) (hr : y.does told s = (H, false, t)) : told.countP (named t) = t.used ∧ MInv sl (k + 1) t told (max most t.used) := by
  have h1 := h.up.does y told
  have h2 := h.tl.does h.up (by omega) y hy
  have h4 := does_all h.up (by omega) y told
  have h5 := does_slot h.up y told
  rw [hr] at h1 h2 h5
  have h2 : Told t told := h2
  have hus : t.used ≤ s.used ∧ t.pages.length = s.pages.length := by
    cases h4 with
    | more h0 hb hn => rw [hr] at hb; cases hb
    | less h1 v hv hh hb hz hr' =>
      rw [hr] at hr'
      have hr' : OldR s h1 v t := hr'
      have hu := hr'.used
      exact ⟨by omega, hr'.len⟩
  have hm := h.mo
  have e : max most t.used = most := by omega
  rw [e]
  exact ⟨h2.tot, h1, h2, by have := h.le; omega, h5.trans h.slot, by omega, by have := h.mle; omega, by rw [hus.2]; exact h.pages⟩
theorem ceil_more {p e m : Nat} (he : 1 ≤ e) (hm : p * e + 1 ≤ m) : p + 1 ≤ (m + e - 1) / e := by
  rw [Nat.le_div_iff_mul_le (by omega), Nat.add_mul]; omega
theorem MInv.more {sl k : Nat} {s t : AS} {told : List Nat} {most : Nat} {y : StepV} {H : Nat} (h : MInv sl k s told most) (h2' : 2 ≤ sl) (h3' : sl ≤ 4096) (hk : k < 1000) (hy : y.Ok) (hr : y.does told s = (H, true, t)) :
    told.countP (named t) + 1 = t.used ∧ (∀ p, p < hN H → ofAt t told told.length p = 4096 / sl) ∧ hN H < t.pages.length ∧ hO H % sl = 0 ∧ hO H + sl ≤ 4096 ∧ H < 18446744073709551616 ∧ MInv sl (k + 1) t (told ++ [H]) (max most t.used) := by
  have h1 := h.up.does y told
  have h2 := h.tl.does h.up (by omega) y hy
  have h4 := does_all h.up (by omega) y told
  have h5 := does_slot h.up y told
  rw [hr] at h1 h2 h5
  have h2 : Told t (told ++ [H]) := h2
  cases h4 with
  | less h1 v hv hh hb hz hr' => rw [hr] at hb; cases hb
  | more h0 hb hn =>
    rw [hr] at hn
    have hn : NewR s H t := hn
    have hnm : named t H = true := by unfold named; rw [hn.find H hn.lt, if_pos rfl]; rfl
    have htot := h2.tot
    rw [List.countP_append] at htot
    simp [hnm] at htot
    have heach := each_pos h2' h3'
    have hlen := hn.len
    have hu := hn.used
    have hmost := h.mo
    have hmk := h.mle
    have hp := h.pages
    refine ⟨htot, ?_, hlen.1, by rw [← h.slot]; exact hn.off.1, by rw [← h.slot]; exact hn.off.2, hn.lt, h1, h2, by rw [List.length_append]; have := h.le; simp; omega, h5.trans h.slot, by omega, ?_, ?_⟩
    · intro p hpH
      have hc := h2.cnt p
      rw [List.countP_append] at hc
      have e0 : [H].countP (fun h => decide (hN h = p) && named t h) = 0 := by simp; omega
      rw [e0, Nat.add_zero] at hc
      unfold ofAt
      rw [List.take_length, hc, hn.fulls p hpH, h.slot]
    · have := h.up.used; omega
    · rcases hlen.2 with e | ⟨e, e2⟩
      · rw [e]
        exact Nat.le_trans hp (Nat.div_le_div_right (by omega))
      · rw [e]
        rw [h.slot] at e2
        exact ceil_more heach.1 (by omega)
theorem ints_set (vs : List Nat) (q n : Nat) : (vs.map intN).set q (.int .i64 (n : Int)) = (vs.set q n).map intN := by rw [List.map_set]; rfl
theorem int_info : (Try.prog.info? 3).map (fun i => (i.zero, i.size, i.bytes)) = some (some (.int .i64 0), 1, 8) := by kernel_rfl

set_option maxHeartbeats 8000000 in
theorem walk_ArenaMany (W : World) (slot : Int) (ws : (Lit.int .i64 slot).wf = true) (a1 : Option Addr) (c1 : Nat) (l1 : List StepV) (h1 : StepsAt W a1 l1) :
   Calls Try.prog 5 #[.int .i64 slot, .slice a1 l1.length c1] W fun e w' => e = .returned (.bool true) ∧ Fr none_ W w' := by
  have hlarge := fun w h => large_any w a1 c1 l1 h
  have Hlarge := Lib.hid hlarge
  have Hworks := Lib.hid works_any
  have H1 := Lib.hid h1
  clear hlarge
  cases hL : isLarge l1 with
  | true =>
    rw [hL] at Hlarge
    clear hL h1
    go_enter Try.func5, Try.ntmps5
    go_wp2_with fail
    refine (Hworks.out _).mono ?_
    rintro e w1 ⟨rfl, f1⟩
    go_wp2_with fail
    refine (Hlarge.out _ (H1.out.kept f1 (fun _ _ e => e))).mono ?_
    rintro e w2 ⟨rfl, rfl⟩
    go_wp2_with fail
    refine (Hworks.out _).mono ?_
    rintro e w3 ⟨rfl, f3⟩
    go_wp2_with fail
    go_ret
    exact ⟨rfl, f1.trans f3⟩
  | false =>
    rw [hL] at Hlarge
    have hn1 := notLarge hL
    by_cases hs : 2 ≤ slot ∧ slot ≤ 4096
    · obtain ⟨sl, rfl⟩ := Int.eq_ofNat_of_zero_le (show 0 ≤ slot by omega)
      have s2 : 2 ≤ sl := by omega
      have s3 : sl ≤ 4096 := by omega
      have hnew := fun w => ar_new w sl s2 s3
      have Hnew := Lib.hid hnew
      obtain ⟨E, hE⟩ : ∃ E, E = 4096 / sl := ⟨_, rfl⟩
      have hEb := each_pos s2 s3
      rw [← hE] at hEb
      have hq1 : (4096 : Int).tdiv (sl : Int) = (E : Int) := by rw [hE]; rfl
      have hq2 : (4096 : Int) / (sl : Int) = (E : Int) := by rw [hE]; rfl
      have hsz : ¬ (sl : Int) = 0 := by omega
      have HE := Lib.hid hE
      clear hL hnew hs ws h1 hE
      go_enter Try.func5, Try.ntmps5
      go_wp2_with fail
      refine (Hworks.out _).mono ?_
      rintro e w1 ⟨rfl, f1⟩
      go_wp2_with fail
      refine (Hlarge.out _ (H1.out.kept f1 (fun _ _ e => e))).mono ?_
      rintro e w2 ⟨rfl, rfl⟩
      go_wp2_with fail
      refine (Hnew.out _).mono ?_
      rintro e w3 ⟨F0, x, rfl, har, f3, hF0⟩
      go_wp2_with fail
      have hp0 : P2 W x (AS.new sl) F0 [] none 0 0 3 ([].map intN) none 0 0 w3 :=
        ⟨har, SlAt.empty _ _ _, SlAt.empty _ _ _, f1.trans f3, fun _ _ => blk_none _, fun _ _ => blk_none _, fun _ _ => blk_none _, fun k hk => by have := hF0 k hk; have := f1.size; omega, fun k hk => absurd hk (blk_none k), fun k hk => absurd hk (blk_none k)⟩
      have hi0 : MInv sl 0 (AS.new sl) [] 0 := ⟨Upto.new s2 s3, Told.new sl, Nat.le_refl _, rfl, Nat.le_refl _, Nat.le_refl _, Nat.zero_le _⟩
      clear har f3 hF0 f1 hq1 hq2
      go_loopw [8, 9, 10] (fun t m i wr => ∃ (k n tc gn gc most : Nat) (ta ga : Option Addr) (s : AS) (told vs : List Nat) (F : Nat → Prop), Hid (k ≤ l1.length) ∧ i = .int .i64 k ∧ t = .slice ta n tc ∧ m = .int .i64 most ∧ Hid (n = told.length) ∧ MInv sl k s told most ∧ P2 W x s F told ta n tc 3 (vs.map intN) ga gn gc wr) (fun _ _ i _ => l1.length - (intOf i).toNat)
      case atStart => exact ⟨0, 0, 0, 0, 0, 0, none, none, AS.new sl, [], [], F0, Nat.zero_le _, rfl, rfl, rfl, rfl, hi0, hp0⟩
      case round =>
        obtain ⟨k, n, tc, gn, gc, most, ta, ga, s, told, vs, F, hk, rfl, rfl, rfl, hn, hi, hp⟩ := hrel
        clear hp0 hi0
        by_cases hlt : k < l1.length
        · obtain ⟨y, hy⟩ : ∃ y, l1[k]? = some y := ⟨l1[k], List.getElem?_eq_getElem hlt⟩
          have hyo := H1.out.ok y (List.mem_of_getElem? hy)
          rcases H1.out.at_ with h0 | ⟨b, o, rfl, hb, hc⟩
          · rw [h0] at hlt; exact absurd hlt (by simp)
          obtain ⟨c0, c1', c2, c3⟩ := hc k y hy
          have d0 := Fr.keep hp.fr c0
          have d1 := Fr.keep hp.fr c1'
          have d2 := Fr.keep hp.fr c2
          have d3 := Fr.keep hp.fr c3
          have hdo := fun w' (f : Fr none_ wr w') => ar_do (hp.ar.kept0 f) hi.up (by unfold big; omega) y hyo told hi.tl.lt ta tc (by have := hi.le; omega) (by have h := hp.ts.kept0 f; rw [hn.out] at h; exact h)
          rw [← hn.out] at hdo
          have Hdo := Lib.hid hdo
          clear c0 c1' c2 c3 hc hdo
          go_wp2_with fail
          refine (Hdo.out _ (Fr.refl _ _)).mono ?_
          rintro e w4 ⟨rfl, F', har, f4, g4⟩
          have hp4 := hp.arena har f4 g4
          generalize hr : y.does told s = r at hp4
          obtain ⟨H, bn, t⟩ := r
          simp only at hp4
          have hn200 : n ≤ 200 := by have := hi.le; have := hn.out; omega
          have htl : t.pages.length ≤ 4096 ∧ Upto (k + 1) t := by have := hi.up.does y told; rw [hr] at this; exact ⟨this.wf.len, this⟩
          have htold : ∀ h ∈ told, h < 18446744073709551616 := hi.tl.lt
          have hpg := ar_pages hp4.ar
          have Hpg := Lib.hid hpg
          have Hi := Lib.hid hi
          have Hr := Lib.hid hr
          clear har f4 g4 hp d0 d1 d2 d3 Hdo hpg hi hr
          obtain ⟨htl1, hupt⟩ := htl
          go_wp2_with fail
          refine Hpg.out.mono ?_
          rintro e w5 ⟨rfl, rfl⟩
          go_wp2_with ((with_reducible refine at_slot 57 ?_); refine wpMakeInts rfl _ _ _ 3 rfl Try.underlying45 int_info .i64 .i64 t.pages.length rfl rfl (by omega) ?_; intro w6 hs6 f6 hz6)
          have hp6 := hp4.newG f6 hs6 (fun k hk => by rw [blk_some] at hk; omega)
          rw [← ofs_zero t told] at hp6
          clear hs6 f6 hp4
          obtain ⟨B, hB⟩ : ∃ B, B = w4.heap.size := ⟨_, rfl⟩
          rw [← hB] at hp6 ⊢
          clear hB hz6
          have hq0 : Hid ((0 : Nat) = (told.take 0).countP (named t)) := by show 0 = _; simp
          have hupt' := hupt
          go_loopw [14, 15] (fun u j wx => ∃ (q c : Nat), Hid (q ≤ n) ∧ j = .int .i64 q ∧ u = .int .i64 c ∧ Hid (c = (told.take q).countP (named t)) ∧ P2 W x t F' told ta n tc 3 ((ofs t told q).map intN) (some ⟨B, 0, none⟩) t.pages.length t.pages.length wx) (fun _ j _ => n - (intOf j).toNat)
          case atStart => exact ⟨0, 0, Nat.zero_le _, rfl, rfl, hq0, hp6⟩
          case round =>
            obtain ⟨q, c, hq, rfl, rfl, hc, hp7⟩ := hrel
            clear hp6 hq0
            by_cases hqn : q < n
            · obtain ⟨hh, hhq⟩ : ∃ hh, told[q]? = some hh := ⟨told[q]'(by rw [← hn.out]; exact hqn), List.getElem?_eq_getElem _⟩
              have hhlt := htold hh (List.mem_of_getElem? hhq)
              have hcb : c ≤ 200 := by
                have h1 := hc.out
                have h2 := List.countP_le_length (p := named t) (l := told.take q)
                have h3 := List.length_take_le q told
                omega
              obtain ⟨gg, rfl⟩ := hp7.ts.isAddr (by omega)
              have ct := hp7.ts.cell (i := q) (v := vH hh) (by rw [List.getElem?_map, hhq]; rfl)
              unfold vH at ct
              have his := fun w' (f : Fr none_ wr w') => ar_is (hp7.ar.kept0 f) hupt hhlt
              have hpt := fun w' => Parts_any w' hh hhlt
              have His := Lib.hid his
              have Hpt := Lib.hid hpt
              cases hnm : named t hh with
              | true =>
                have hpgl := named_page hnm
                have hN16 := hN_lt' hhlt
                rw [hnm] at His
                have Hof := Lib.hid (ofs_yes hhq hnm)
                have Huc := Lib.hid (used_succ (t := t) hhq)
                have hov : ofAt t told q (hN hh) ≤ 200 := by
                  unfold ofAt
                  have h2 := List.countP_le_length (p := fun h => decide (hN h = hN hh) && named t h) (l := told.take q)
                  have h3 := List.length_take_le q told
                  omega
                obtain ⟨P, hP⟩ : ∃ P, P = hN hh := ⟨_, rfl⟩
                have cg := hp7.gs.cell (i := hN hh) (v := intN (ofAt t told q (hN hh))) (by rw [List.getElem?_map, ofs_get hpgl]; rfl)
                unfold intN at cg
                generalize ofAt t told q (hN hh) = V at cg hov Hof
                rw [← hP] at Hpt hpgl hN16 cg Hof
                generalize hO hh = O at Hpt
                generalize hG hh = G at Hpt
                have Hnm := Lib.hid hnm
                have zg := hp7.gs.free P
                have hge : (P : Int) < (t.pages.length : Int) := by omega
                have hw1 : IntKind.i64.wrap ((V : Int) + 1) = (V : Int) + 1 := IntWalk.i64_in _ (by omega)
                have hw2 : IntKind.i64.wrap ((c : Int) + 1) = (c : Int) + 1 := IntWalk.i64_in _ (by omega)
                clear hhq hnm hP his hpt
                go_wp2_with fail
                refine (His.out _ (Fr.refl _ _)).mono ?_
                rintro e w7 ⟨rfl, f7⟩
                have ct7 := Fr.keep f7 ct
                have cg7 := Fr.keep f7 cg
                have hp8 := hp7.skip f7
                have zg7 := hp8.gs.free P
                clear ct cg zg
                go_wp2_with fail
                refine (Hpt.out _).mono ?_
                rintro e w8 ⟨rfl, rfl⟩
                go_wp2_with fail
                go_roundw
                case rel =>
                  have hp9 := hp8.setG (i := P) (v := .int .i64 ((V + 1 : Nat) : Int)) hpgl
                  rw [ints_set, ← Hof.out] at hp9
                  refine ⟨q + 1, c + 1, hqn, by go_num, by go_num, ?_, ?_⟩
                  · have h1 := Huc.out
                    rw [if_pos Hnm.out, ← hc.out] at h1
                    exact h1.symm
                  · have e : ((V : Int) + 1) = ((V + 1 : Nat) : Int) := by omega
                    rw [e]; exact hp9
                case measure => simp [intOf]; omega
              | false =>
                rw [hnm] at His
                have Hof := Lib.hid (ofs_no hhq hnm)
                have Huc := Lib.hid (used_succ (t := t) hhq)
                have Hnm := Lib.hid hnm
                clear hhq hnm his hpt
                go_wp2_with fail
                refine (His.out _ (Fr.refl _ _)).mono ?_
                rintro e w7 ⟨rfl, f7⟩
                go_wp2_with fail
                go_roundw
                case rel =>
                  refine ⟨q + 1, c, hqn, by go_num, rfl, ?_, ?_⟩
                  · have h1 := Huc.out
                    rw [Hnm.out, if_neg (by simp), ← hc.out] at h1
                    exact h1.symm
                  · rw [Hof.out]; exact hp7.skip f7
                case measure => simp [intOf]; omega
            · have hqe : q = told.length := by have := hq.out; have := hn.out; omega
              have hc2 : c = told.countP (named t) := by have := hc.out; rw [hqe, List.take_length] at this; exact this
              have Hqe := Lib.hid hqe
              have Hc2 := Lib.hid hc2
              rw [hqe] at hp7
              clear hqe hc2
              have hcb : c ≤ 200 := by
                have h1 := Hc2.out
                have h2 := List.countP_le_length (p := named t) (l := told)
                have := hn.out
                omega
              go_upto_if 92 with fail
              go_cut [8, 14] (fun u v wx => ∃ (n2 tc2 : Nat) (ta2 : Option Addr) (told2 vs2 : List Nat), u = .slice ta2 n2 tc2 ∧ v = .int .i64 (t.used : Int) ∧ Hid (n2 = told2.length) ∧ MInv sl (k + 1) t told2 (max most t.used) ∧ P2 W x t F' told2 ta2 n2 tc2 3 (vs2.map intN) (some ⟨B, 0, none⟩) t.pages.length t.pages.length wx)
              case first =>
                cases bn with
                | true =>
                  obtain ⟨m1, m2, m3, m4, m5, m6, m7⟩ := Hi.out.more s2 s3 (by omega) hyo Hr.out
                  have hpt := fun w' => Parts_any w' H m6
                  have Hpt := Lib.hid hpt
                  have Hm1 := Lib.hid m1
                  have Hm2 := Lib.hid m2
                  have Hm7 := Lib.hid m7
                  have hN16 := hN_lt' m6
                  have hO16 := hO_lt' H
                  have Hm4 := Lib.hid m4
                  generalize hP : hN H = P at Hpt m3 hN16
                  generalize hO' : hO H = O at Hpt m5 hO16
                  generalize hG H = G at Hpt
                  have HP := Lib.hid hP
                  have HO := Lib.hid hO'
                  have hge : (P : Int) < (t.pages.length : Int) := by omega
                  have hr1 : (O : Int).tmod (sl : Int) = 0 := by
                    have h4 := Hm4.out
                    rw [HO.out] at h4
                    have : ((O % sl : Nat) : Int) = 0 := by omega
                    exact this
                  have hr2 : (O : Int) % (sl : Int) = 0 := by
                    have h4 := Hm4.out
                    rw [HO.out] at h4
                    have : ((O % sl : Nat) : Int) = 0 := by omega
                    exact this
                  have hs5 : IntKind.i64.wrap ((O : Int) + (sl : Int)) = (O : Int) + (sl : Int) := IntWalk.i64_in _ (by omega)
                  have hg5 : ¬ (4096 : Int) < (O : Int) + (sl : Int) := by omega
                  have hn200b : n ≤ 200 := hn200
                  clear m1 m2 m7 m4 hpt hP hO'
                  go_wp2_with fail
                  refine (Hpt.out _).mono ?_
                  rintro e w8 ⟨rfl, rfl⟩
                  go_wp2_with fail
                  go_loop [22] (fun j => ∃ q2 : Nat, Hid (q2 ≤ P) ∧ j = .int .i64 q2) (fun j => P - (intOf j).toNat)
                  case atStart => exact ⟨0, Nat.zero_le _, rfl⟩
                  case round =>
                    obtain ⟨q2, hq2, rfl⟩ := hrel
                    by_cases hqp : q2 < P
                    · have cg := hp7.gs.cell (i := q2) (v := intN E) (by
                        have h2 := Hm2.out q2 (by rw [HP.out]; exact hqp)
                        rw [List.getElem?_map, ofs_get (by omega), h2, HE.out]; rfl)
                      unfold intN at cg
                      have hne : ((E : Int) != (E : Int)) = false := bne_self_eq_false _
                      have hq3 : (q2 : Int) < (t.pages.length : Int) := by omega
                      go_wp2_with fail
                      go_round
                      case rel => exact ⟨q2 + 1, hqp, by go_num⟩
                      case measure => simp [intOf]; omega
                    · have hw2 : IntKind.i64.wrap ((c : Int) + 1) = (c : Int) + 1 := IntWalk.i64_in _ (by omega)
                      go_wp2_with ((with_reducible refine at_slot 135 ?_); refine wpAppend rfl _ _ _ rfl 32 (.int .u64 0) 1 8 Try.underlying29 handle_info rfl (hp7.ts.kept0 (Fr.alloc _ _ _)) rfl _ 1 1 [vH H] rfl rfl (one_cells _ _ _ (by simp [vH])) (by simp [vH, Value.oneCell']) (by omega) (by simp [maxLen]; omega) (by omega) ?_; intro ta2 tc2 w9 hs9 f9 hb9; have hp9 := hp7.pushT (Fr.alloc none_ _ _) hs9 f9 hb9)
                      go_meet
                      case rel => exact ⟨n + 1, tc2, ta2, told ++ [H], _, rfl, by have h1 := Hm1.out; rw [← Hc2.out] at h1; rw [← h1]; rfl, by show n + 1 = _; rw [List.length_append, ← hn.out]; rfl, Hm7.out, hp9⟩
                | false =>
                  obtain ⟨m1, m2⟩ := Hi.out.less (by omega) hyo Hr.out
                  have Hm2 := Lib.hid m2
                  have Hm1 := Lib.hid m1
                  clear m1 m2
                  go_wp2_with fail
                  go_meet
                  case rel => exact ⟨n, tc, ta, told, _, rfl, by rw [Hc2.out, Hm1.out], hn, Hm2.out, hp7⟩
              case rest =>
                obtain ⟨n2, tc2, ta2, told2, vs2, rfl, rfl, hn2, hi2, hp8⟩ := hcut
                have hub : t.used ≤ 1000 := by have := hi2.up.used; omega
                have hmb : max most t.used ≤ 1000 := by have := hi2.mle; omega
                have hpgs := hi2.pages
                have hus : ∀ i, Calls Try.prog 21 #[.pointer (some ⟨x, 0, none⟩)] (wc.drewN i) fun e w' => e = .returned (.int .i64 (t.used : Int)) ∧ w' = wc.drewN i := fun i => (ar_used (hp8.ar.kept0 (Fr.drewN none_ wc i))).mono fun e w' ⟨he, hw⟩ => ⟨he, hw.symm⟩
                have hpp : ∀ i, Calls Try.prog 19 #[.pointer (some ⟨x, 0, none⟩)] (wc.drewN i) fun e w' => e = .returned (.int .i64 (t.pages.length : Int)) ∧ w' = wc.drewN i := fun i => (ar_pages (hp8.ar.kept0 (Fr.drewN none_ wc i))).mono fun e w' ⟨he, hw⟩ => ⟨he, hw.symm⟩
                have Hus := Lib.hid hus
                have Hpp := Lib.hid hpp
                obtain ⟨mx, hmx⟩ : ∃ mx, mx = max most t.used := ⟨_, rfl⟩
                rw [← hmx] at hmb hpgs hi2
                rw [← HE.out] at hpgs
                have Hmx := Lib.hid hmx
                have Hpgs := Lib.hid hpgs
                obtain ⟨C, hC⟩ : ∃ C, C = (mx + E - 1) / E := ⟨_, rfl⟩
                have hle : ¬ (C : Int) < (t.pages.length : Int) := by rw [← hC] at hpgs; omega
                have hdc2 : decide (C < t.pages.length) = false := decide_eq_false (Nat.not_lt.2 (by rw [hC]; exact hpgs))
                have hdv : ((mx : Int) + (E : Int) - 1).tdiv (E : Int) = (C : Int) := by
                  have e : ((mx : Int) + (E : Int) - 1) = ((mx + E - 1 : Nat) : Int) := by omega
                  rw [e, hC]; rfl
                have hdv2 : ((mx : Int) + (E : Int) - 1) / (E : Int) = (C : Int) := by
                  have e : ((mx : Int) + (E : Int) - 1) = ((mx + E - 1 : Nat) : Int) := by omega
                  rw [e, hC]; rfl
                have hE0 : ¬ (E : Int) = 0 := by omega
                have hCb : C ≤ 10000 := by rw [hC]; exact Nat.le_trans (Nat.div_le_self _ _) (by omega)
                have hw3 : IntKind.i64.wrap (C : Int) = (C : Int) := IntWalk.i64_in _ (by omega)
                have hw4 : wrap64 (C : Int) = (C : Int) := by unfold wrap64; omega
                have hu1 : IntKind.i64.wrap ((mx : Int) + (E : Int)) = (mx : Int) + (E : Int) := IntWalk.i64_in _ (by omega)
                have hu2 : IntKind.i64.wrap ((mx : Int) + (E : Int) - 1) = (mx : Int) + (E : Int) - 1 := IntWalk.i64_in _ (by omega)
                have HK := Lib.hid hle
                have hdc : decide ((C : Int) < (t.pages.length : Int)) = false := decide_eq_false hle
                clear hmx hC hpgs hus hpp hle
                go_wp2_with ((with_reducible refine at_slot 138 ?_); refine wpMax rfl _ _ _ rfl .i64 .i64 most t.used mx Hmx.out rfl rfl ?_)
                generalize hU : t.used = U at Hus hub
                have hUU : ((U : Int) != (U : Int)) = false := bne_self_eq_false _
                clear hU
                go_quiet (first
                  | (go_at_call 21; exact Calls.quiet_of_same (Hus.out _))
                  | (go_at_call 19; exact Calls.quiet_of_same (Hpp.out _)))
                go_wp2
                go_roundw
                case rel => exact ⟨k + 1, n2, tc2, _, _, mx, ta2, _, t, told2, vs2, F', hlt, by go_num, rfl, rfl, hn2, hi2, hp8.skip (Fr.drewN _ _ _)⟩
                case measure => simp [intOf]; omega
        · go_wp2_with fail
          go_ret
          exact ⟨rfl, hp.fr⟩
    · have hno := fun w => Arena_New_no w slot (by omega)
      have Hno := Lib.hid hno
      clear hno hs hL h1 ws
      go_enter Try.func5, Try.ntmps5
      go_wp2_with fail
      refine (Hworks.out _).mono ?_
      rintro e w1 ⟨rfl, f1⟩
      go_wp2_with fail
      refine (Hlarge.out _ (H1.out.kept f1 (fun _ _ e => e))).mono ?_
      rintro e w2 ⟨rfl, rfl⟩
      go_wp2_with fail
      refine (Hno.out _).mono ?_
      rintro e w3 ⟨rfl, rfl⟩
      go_wp2_with fail
      go_ret
      exact ⟨rfl, f1⟩
end Go.Proofs.Ytncajdefjammiaa
