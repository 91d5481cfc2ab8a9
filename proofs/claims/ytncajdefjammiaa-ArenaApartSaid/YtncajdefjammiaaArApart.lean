/-
  ArenaApart (P4.4): what is written to a slot is read, till something else is, or it is given back.
-/
import Derived.Test.YtncajdefjammiaaArPair
import Derived.Test.YtncajdefjammiaaHeld
import Derived.Deep.DeepCutAuto
import Derived.Deep.RegionHeld3
namespace Go.Proofs.Ytncajdefjammiaa
open Go.RowKit
set_option linter.unusedVariables false
set_option linter.unusedSimpArgs false
set_option maxRecDepth 100000

structure AInv (sl k : Nat) (s : AS) (told : List Nat) (hs : List ByteArray) : Prop where
  up : Upto k s
  tl : Told s told
  le : told.length ≤ k
  slot : s.slot = sl
  len : hs.length = told.length
  sz : ∀ b ∈ hs, b.size ≤ sl
  val : ∀ (j h : Nat) (b : ByteArray) (bs : List UInt8), told[j]? = some h → hs[j]? = some b → aFind s h = some bs → bs = newBytes sl b
def want (y : StepV) (own sl h : Nat) (b : ByteArray) : ByteArray := if y.what = 2 ∧ h = own ∧ y.s.size ≤ sl then y.s else b
theorem want_want (y : StepV) (own sl h : Nat) (b : ByteArray) : want y own sl h (want y own sl h b) = want y own sl h b := by
  unfold want; split <;> rfl
structure BInv (sl k : Nat) (y : StepV) (own q : Nat) (s : AS) (told : List Nat) (hs : List ByteArray) : Prop where
  up : Upto k s
  tl : Told s told
  le : told.length ≤ k
  slot : s.slot = sl
  len : hs.length = told.length
  sz : ∀ b ∈ hs, b.size ≤ sl
  val : ∀ (j h : Nat) (b : ByteArray) (bs : List UInt8), told[j]? = some h → hs[j]? = some b → aFind s h = some bs → bs = newBytes sl (want y own sl h b)
  done : ∀ (j h : Nat) (b : ByteArray), j < q → told[j]? = some h → hs[j]? = some b → b = want y own sl h b
theorem BInv.all {sl k own q : Nat} {y : StepV} {s : AS} {told : List Nat} {hs : List ByteArray} (h : BInv sl k y own q s told hs) (hq : told.length ≤ q) : AInv sl k s told hs := by
  refine ⟨h.up, h.tl, h.le, h.slot, h.len, h.sz, fun j g b bs hj hb hf => ?_⟩
  have := h.done j g b (by have := (List.getElem?_eq_some_iff.1 hj).1; omega) hj hb
  rw [this]; exact h.val j g b bs hj hb hf
theorem BInv.next {sl k own q hh : Nat} {y : StepV} {s : AS} {told : List Nat} {hs : List ByteArray} {b : ByteArray} (h : BInv sl k y own q s told hs) (hq : told[q]? = some hh) (hb : hs[q]? = some b) : BInv sl k y own (q + 1) s told (hs.set q (want y own sl hh b)) := by
  have hl : q < hs.length := (List.getElem?_eq_some_iff.1 hb).1
  have hget : ∀ j, (hs.set q (want y own sl hh b))[j]? = if j = q then some (want y own sl hh b) else hs[j]? := by
    intro j
    by_cases e : j = q
    · subst e; rw [if_pos rfl, List.getElem?_set_self hl]
    · rw [if_neg e, List.getElem?_set_ne (Ne.symm e)]
  refine ⟨h.up, h.tl, h.le, h.slot, by rw [List.length_set]; exact h.len, ?_, ?_, ?_⟩
  · intro c hc
    rcases List.mem_or_eq_of_mem_set hc with hc | rfl
    · exact h.sz c hc
    · unfold want; split
      · rename_i e; exact e.2.2
      · exact h.sz b (List.mem_of_getElem? hb)
  · intro j g c bs hj hc hf
    rw [hget] at hc
    split at hc
    · rename_i e; subst e
      rw [hq] at hj; cases hj; cases hc
      rw [want_want]; exact h.val j hh b bs hq hb hf
    · exact h.val j g c bs hj hc hf
  · intro j g c hjq hj hc
    rw [hget] at hc
    split at hc
    · rename_i e; subst e
      rw [hq] at hj; cases hj; cases hc
      exact (want_want y own sl hh b).symm
    · exact h.done j g c (by omega) hj hc
theorem newBytes_empty (sl : Nat) : newBytes sl ByteArray.empty = zeros sl := by
  unfold newBytes; rfl
theorem AInv.less {sl k : Nat} {s t : AS} {told : List Nat} {hs : List ByteArray} {y : StepV} {H : Nat} (h : AInv sl k s told hs) (hk : k < 1000) (hy : y.Ok) (hr : y.does told s = (H, false, t)) : BInv sl (k + 1) y (y.ofH told) 0 t told hs := by
  have h1 := h.up.does y told
  have h2 := h.tl.does h.up (by omega) y hy
  have h4 := does_all h.up (by omega) y told
  have h5 := does_slot h.up y told
  rw [hr] at h1 h2 h5
  refine ⟨h1, h2, by have := h.le; omega, h5.trans h.slot, h.len, h.sz, ?_, fun j _ _ hj => by omega⟩
  intro j g b bs hj hb hf
  cases h4 with
  | more h0 hb' hn => rw [hr] at hb'; cases hb'
  | less h1 v hv hh hb' hz hr' =>
    rw [hr] at hr'
    have hf' := hr'.find g
    rw [hf] at hf'
    by_cases e : g = h1 ∧ (aFind s h1).isSome = true ∧ v.isSome = true
    · rw [if_pos e] at hf'
      rcases hv with ⟨rfl, hw⟩ | ⟨rfl, hw⟩ | ⟨rfl, hw⟩
      · simp at hf'
      · by_cases hsz : y.s.size ≤ s.slot
        · rw [if_pos hsz] at hf'
          simp only [Option.getD_some, Option.some.injEq] at hf'
          unfold want
          rw [if_pos ⟨hw, e.1.trans hh, by rw [← h.slot]; exact hsz⟩, hf', h.slot]
        · rw [if_neg hsz] at e; simp at e
      · simp at e
    · rw [if_neg e] at hf'
      have hval := h.val j g b bs hj hb hf'.symm
      unfold want
      split
      · rename_i q
        exfalso
        apply e
        refine ⟨q.2.1.trans hh.symm, ?_, ?_⟩
        · rw [hh, ← q.2.1, ← hf']; rfl
        · rcases hv with ⟨rfl, hw⟩ | ⟨rfl, hw⟩ | ⟨rfl, hw⟩
          · rfl
          · rw [if_pos (by rw [h.slot]; exact q.2.2)]; rfl
          · exact absurd q.1 hw
      · exact hval
theorem AInv.more {sl k : Nat} {s t : AS} {told : List Nat} {hs : List ByteArray} {y : StepV} {H : Nat} (h : AInv sl k s told hs) (hk : k < 1000) (hy : y.Ok) (hr : y.does told s = (H, true, t)) : BInv sl (k + 1) y (y.ofH told) 0 t (told ++ [H]) (hs ++ [ByteArray.empty]) := by
  have h1 := h.up.does y told
  have h2 := h.tl.does h.up (by omega) y hy
  have h4 := does_all h.up (by omega) y told
  have h5 := does_slot h.up y told
  rw [hr] at h1 h2 h5
  refine ⟨h1, h2, by rw [List.length_append]; have := h.le; simp; omega, h5.trans h.slot, by simp [h.len], ?_, ?_, fun j _ _ hj => by omega⟩
  · intro b hb
    rcases List.mem_append.1 hb with hb | hb
    · exact h.sz b hb
    · simp at hb; subst hb; simp
  intro j g b bs hj hb hf
  cases h4 with
  | less h1 v hv hh hb' hz hr' => rw [hr] at hb'; cases hb'
  | more h0 hb' hn =>
    rw [hr] at hn
    have hwant : want y (y.ofH told) sl g b = b := by unfold want; rw [if_neg (by omega)]
    rw [hwant]
    rcases Nat.lt_or_ge j told.length with q | q
    · rw [List.getElem?_append_left q] at hj
      rw [List.getElem?_append_left (by rw [h.len]; exact q)] at hb
      have hm := List.mem_of_getElem? hj
      rw [hn.find g (h.tl.lt g hm), if_neg (show ¬ g = H from fun e => hn.fresh h.tl (e ▸ hm))] at hf
      exact h.val j g b bs hj hb hf
    · rw [List.getElem?_append_right q] at hj
      rw [List.getElem?_append_right (by rw [h.len]; exact q)] at hb
      rw [h.len] at hb
      cases hjj : j - told.length with
      | zero =>
        rw [hjj] at hj hb
        simp at hj hb
        subst hj; subst hb
        rw [hn.find H hn.lt, if_pos rfl] at hf
        simp only [Option.some.injEq] at hf
        rw [← hf, h.slot]; exact (newBytes_empty sl).symm
      | succ m => rw [hjj] at hj; simp at hj
theorem set_same {α : Type} {l : List α} {q : Nat} {b : α} (h : l[q]? = some b) : l.set q b = l := by
  apply List.ext_getElem?
  intro j
  by_cases e : j = q
  · subst e; rw [List.getElem?_set_self (List.getElem?_eq_some_iff.1 h).1, h]
  · rw [List.getElem?_set_ne (Ne.symm e)]
theorem setS_map (vs : List ByteArray) (q : Nat) (b : ByteArray) : (vs.map Value.string).set q (.string b) = (vs.set q b).map Value.string := by rw [List.map_set]
theorem str_info : (Try.prog.info? 9).map (fun i => (i.zero, i.size, i.bytes)) = some (some (.string ByteArray.empty), 1, 16) := by kernel_rfl

set_option maxHeartbeats 8000000 in
theorem walk_ArenaApart (W : World) (slot : Int) (ws : (Lit.int .i64 slot).wf = true) (a1 : Option Addr) (c1 : Nat) (l1 : List StepV) (h1 : StepsAt W a1 l1) :
   Calls Try.prog 4 #[.int .i64 slot, .slice a1 l1.length c1] W fun e w' => e = .returned (.bool true) ∧ Fr none_ W w' := by
  have hlarge := fun w h => large_any w a1 c1 l1 h
  have Hlarge := Lib.hid hlarge
  have Hworks := Lib.hid works_any
  have H1 := Lib.hid h1
  clear hlarge
  cases hL : isLarge l1 with
  | true =>
    rw [hL] at Hlarge
    clear hL h1
    go_enter Try.func4, Try.ntmps4
    go_wp2_with fail
    refine (Hworks.out _).mono ?_
    rintro e w1 ⟨rfl, f1⟩
    go_wp2_with fail
    refine (Hlarge.out _ (H1.out.kept f1 (fun _ _ e => e))).mono ?_
    rintro e w2 ⟨rfl, rfl⟩
    go_wp2_with fail
    refine (Hworks.out _).mono ?_
    rintro e w3 ⟨rfl, f3⟩
    go_wp2_with fail
    go_ret
    exact ⟨rfl, f1.trans f3⟩
  | false =>
    rw [hL] at Hlarge
    have hn1 := notLarge hL
    by_cases hs : 2 ≤ slot ∧ slot ≤ 4096
    · obtain ⟨sl, rfl⟩ := Int.eq_ofNat_of_zero_le (show 0 ≤ slot by omega)
      have s2 : 2 ≤ sl := by omega
      have s3 : sl ≤ 4096 := by omega
      have hnew := fun w => ar_new w sl s2 s3
      have Hnew := Lib.hid hnew
      clear hL hnew hs ws h1
      go_enter Try.func4, Try.ntmps4
      go_wp2_with fail
      refine (Hworks.out _).mono ?_
      rintro e w1 ⟨rfl, f1⟩
      go_wp2_with fail
      refine (Hlarge.out _ (H1.out.kept f1 (fun _ _ e => e))).mono ?_
      rintro e w2 ⟨rfl, rfl⟩
      go_wp2_with fail
      refine (Hnew.out _).mono ?_
      rintro e w3 ⟨F0, x, rfl, har, f3, hF0⟩
      go_wp2_with fail
      have hp0 : P2 W x (AS.new sl) F0 [] none 0 0 9 ([].map Value.string) none 0 0 w3 :=
        ⟨har, SlAt.empty _ _ _, SlAt.empty _ _ _, f1.trans f3, fun _ _ => blk_none _, fun _ _ => blk_none _, fun _ _ => blk_none _, fun k hk => by have := hF0 k hk; have := f1.size; omega, fun k hk => absurd hk (blk_none k), fun k hk => absurd hk (blk_none k)⟩
      have hi0 : AInv sl 0 (AS.new sl) [] [] := ⟨Upto.new s2 s3, Told.new sl, Nat.le_refl _, rfl, rfl, by simp, fun j h b bs hj => by simp at hj⟩
      clear har f3 hF0 f1
      go_loopw [7, 8, 9] (fun t g i wr => ∃ (k n tc gc : Nat) (ta ga : Option Addr) (s : AS) (told : List Nat) (vs : List ByteArray) (F : Nat → Prop), Hid (k ≤ l1.length) ∧ i = .int .i64 k ∧ t = .slice ta n tc ∧ g = .slice ga n gc ∧ Hid (n = told.length) ∧ AInv sl k s told vs ∧ P2 W x s F told ta n tc 9 (vs.map Value.string) ga n gc wr) (fun _ _ i _ => l1.length - (intOf i).toNat)
      case atStart => exact ⟨0, 0, 0, 0, none, none, AS.new sl, [], [], F0, Nat.zero_le _, rfl, rfl, rfl, rfl, hi0, hp0⟩
      case round =>
        obtain ⟨k, n, tc, gc, ta, ga, s, told, vs, F, hk, rfl, rfl, rfl, hn, hi, hp⟩ := hrel
        clear hp0 hi0
        by_cases hlt : k < l1.length
        · obtain ⟨y, hy⟩ : ∃ y, l1[k]? = some y := ⟨l1[k], List.getElem?_eq_getElem hlt⟩
          have hyo := H1.out.ok y (List.mem_of_getElem? hy)
          rcases H1.out.at_ with h0 | ⟨b, o, rfl, hb, hc⟩
          · rw [h0] at hlt; exact absurd hlt (by simp)
          obtain ⟨c0, c1', c2, c3⟩ := hc k y hy
          have d0 := Fr.keep hp.fr c0
          have d1 := Fr.keep hp.fr c1'
          have d2 := Fr.keep hp.fr c2
          have d3 := Fr.keep hp.fr c3
          have HC := Lib.hid (And.intro c0 (And.intro c1' (And.intro c2 c3)))
          have hof := fun w' (f : Fr none_ wr w') => of_any w' y hyo told ta tc (by have := hi.le; omega) (by have h := hp.ts.kept0 f; rw [hn.out] at h; exact h)
          have hdo := fun w' (f : Fr none_ wr w') => ar_do (hp.ar.kept0 f) hi.up (by unfold big; omega) y hyo told hi.tl.lt ta tc (by have := hi.le; omega) (by have h := hp.ts.kept0 f; rw [hn.out] at h; exact h)
          rw [← hn.out] at hdo hof
          have Hdo := Lib.hid hdo
          have Hof := Lib.hid hof
          have hown := ofH_lt hyo hi.tl.lt
          clear c0 c1' c2 c3 hc hdo hof
          go_wp2_with fail
          refine (Hof.out _ (Fr.refl _ _)).mono ?_
          rintro e w4 ⟨rfl, f4⟩
          have e0 := Fr.keep f4 d0
          have e1 := Fr.keep f4 d1
          have e2 := Fr.keep f4 d2
          have e3 := Fr.keep f4 d3
          clear d0 d1 d2 d3
          go_wp2_with fail
          refine (Hdo.out _ f4).mono ?_
          rintro e w5 ⟨rfl, F', har, f5, g5⟩
          have hp5 := (hp.skip f4).arena har f5 g5
          generalize hr : y.does told s = r at hp5
          obtain ⟨H, bn, t⟩ := r
          simp only at hp5
          clear har f5 g5 hp e0 e1 e2 e3
          have hn200 : n ≤ 200 := by have := hi.le; have := hn.out; omega
          obtain ⟨own, hwn⟩ : ∃ own, own = y.ofH told := ⟨_, rfl⟩
          rw [← hwn] at hown ⊢
          have Hwn := Lib.hid hwn
          clear hwn
          go_upto_if 50 with fail
          go_cut [7, 8] (fun u v wx => ∃ (n2 tc2 gc2 : Nat) (ta2 ga2 : Option Addr) (told2 : List Nat) (vs2 : List ByteArray), u = .slice ta2 n2 tc2 ∧ v = .slice ga2 n2 gc2 ∧ Hid (n2 = told2.length) ∧ BInv sl (k + 1) y own 0 t told2 vs2 ∧ P2 W x t F' told2 ta2 n2 tc2 9 (vs2.map Value.string) ga2 n2 gc2 wx)
          case first =>
            cases bn with
            | true =>
              have hi2 := hi.more (by omega) hyo hr
              rw [← Hwn.out] at hi2
              have Hi2 := Lib.hid hi2
              clear hr hi hi2
              go_wp2_with (first
                | ((with_reducible refine at_slot 54 ?_); refine wpAppend rfl _ _ _ rfl 32 (.int .u64 0) 1 8 Try.underlying29 handle_info rfl (hp5.ts.kept0 (Fr.alloc _ _ _)) rfl ⟨w5.heap.size, 0, none⟩ 1 1 [vH H] rfl rfl (one_cells _ _ _ (by simp [vH])) (by simp [vH, Value.oneCell']) (by omega) (by simp [maxLen]; omega) (by omega) ?_; intro ta2 tc2 w6 hs6 f6 hb6; have hp6 := hp5.pushT (Fr.alloc none_ _ _) hs6 f6 hb6)
                | ((with_reducible refine at_slot 57 ?_); refine wpAppend rfl _ _ _ rfl 9 (.string ByteArray.empty) 1 16 Try.underlying42 str_info rfl (hp6.gs.kept0 (Fr.alloc _ _ _)) rfl ⟨w6.heap.size, 0, none⟩ 1 1 [.string ByteArray.empty] rfl rfl (one_cells _ _ _ (by simp; rfl)) (by simp [Value.oneCell']) (by omega) (by simp [maxLen]; omega) (by omega) ?_; intro ga2 gc2 w7 hs7 f7 hb7; have hp7 := hp6.turnG (Fr.alloc none_ _ _) hs7 f7 hb7))
              go_meet
              case rel => exact ⟨n + 1, tc2, gc2, ta2, ga2, told ++ [H], vs ++ [ByteArray.empty], rfl, rfl, by show n + 1 = _; rw [List.length_append, ← hn.out]; rfl, Hi2.out, by rw [List.map_append]; exact hp7⟩
            | false =>
              have hi2 := hi.less (by omega) hyo hr
              rw [← Hwn.out] at hi2
              have Hi2 := Lib.hid hi2
              clear hr hi hi2
              go_wp2_with fail
              go_meet
              case rel => exact ⟨n, tc, gc, ta, ga, told, vs, rfl, rfl, hn, Hi2.out, hp5⟩
          case rest =>
            obtain ⟨n2, tc2, gc2, ta2, ga2, told2, vs2, rfl, rfl, hn2, hi2, hp2⟩ := hcut
            clear hp5 hi hr Hdo Hof
            go_wp2_with fail
            go_loopw [13] (fun j wx => ∃ (q : Nat) (vs3 : List ByteArray), Hid (q ≤ n2) ∧ j = .int .i64 q ∧ BInv sl (k + 1) y own q t told2 vs3 ∧ P2 W x t F' told2 ta2 n2 tc2 9 (vs3.map Value.string) ga2 n2 gc2 wx) (fun j _ => n2 - (intOf j).toNat)
            case atStart => exact ⟨0, vs2, Nat.zero_le _, rfl, hi2, hp2⟩
            case round =>
              obtain ⟨q, vs3, hq, rfl, hi3, hp3⟩ := hrel
              clear hp2 hi2
              by_cases hqn : q < n2
              · have hn200' : n2 ≤ 1000 := by have := hi3.le; have := hn2.out; omega
                obtain ⟨hh, hhq⟩ : ∃ hh, told2[q]? = some hh := ⟨told2[q]'(by rw [← hn2.out]; exact hqn), List.getElem?_eq_getElem _⟩
                obtain ⟨bq, hbq⟩ : ∃ bq, vs3[q]? = some bq := ⟨vs3[q]'(by rw [hi3.len, ← hn2.out]; exact hqn), List.getElem?_eq_getElem _⟩
                have hhlt := hi3.tl.lt hh (List.mem_of_getElem? hhq)
                obtain ⟨gg, rfl⟩ := hp3.ts.isAddr (by omega)
                obtain ⟨gh, rfl⟩ := hp3.gs.isAddr (by omega)
                have ct := hp3.ts.cell (i := q) (v := vH hh) (by rw [List.getElem?_map, hhq]; rfl)
                have cg := hp3.gs.cell (i := q) (v := .string bq) (by rw [List.getElem?_map, hbq]; rfl)
                have zg := hp3.gs.free q
                have d0 := Fr.keep hp3.fr HC.out.1
                have d3 := Fr.keep hp3.fr HC.out.2.2.2
                have hnx := hi3.next hhq hbq
                have hys := hyo.s
                unfold vH at ct
                obtain ⟨C, hC⟩ : ∃ C : Prop, C = (y.what = 2 ∧ hh = own ∧ y.s.size ≤ sl) := ⟨_, rfl⟩
                have HCC := Lib.hid hC
                clear hC
                have Hhq := Lib.hid hhq
                have Hbq := Lib.hid hbq
                have Hnx := Lib.hid hnx
                clear hhq hbq hnx
                obtain ⟨cb, hcb⟩ : ∃ cb : Bool, cb = true ↔ C := ⟨@decide C (Classical.propDecidable C), by simp⟩
                have HCB := Lib.hid hcb
                clear hcb
                go_upto_region 19 with fail
                go_cut [87] (fun c wx => c = .bool cb ∧ wx = wr)
                case first =>
                  by_cases q1 : y.what = 2
                  · have b1 : ((y.what : Int) == 2) = true := by rw [q1]; rfl
                    by_cases q2 : hh = own
                    · have b2 : ((hh : Int) == (own : Int)) = true := by rw [q2]; exact beq_self_eq_true _
                      by_cases q3 : y.s.size ≤ sl
                      · have b3 : decide (y.s.size ≤ sl) = true := decide_eq_true q3
                        have hcb : cb = true := HCB.out.2 (by rw [HCC.out]; exact ⟨q1, q2, q3⟩)
                        subst hcb
                        clear q1 q2 q3
                        go_wp2_with fail
                        go_meet
                        case rel => exact ⟨rfl, rfl⟩
                      · have b3 : decide (y.s.size ≤ sl) = false := decide_eq_false q3
                        have hcb : cb = false := Bool.eq_false_iff.2 (fun e => by have := HCB.out.1 e; rw [HCC.out] at this; exact q3 this.2.2)
                        subst hcb
                        clear q1 q2 q3
                        go_wp2_with fail
                        go_meet
                        case rel => exact ⟨rfl, rfl⟩
                    · have b2 : ((hh : Int) == (own : Int)) = false := beq_eq_false_iff_ne.2 (by omega)
                      have hcb : cb = false := Bool.eq_false_iff.2 (fun e => by have := HCB.out.1 e; rw [HCC.out] at this; exact q2 this.2.1)
                      subst hcb
                      clear q1 q2
                      go_wp2_with fail
                      go_meet
                      case rel => exact ⟨rfl, rfl⟩
                  · have b1 : ((y.what : Int) == 2) = false := beq_eq_false_iff_ne.2 (by omega)
                    have hcb : cb = false := Bool.eq_false_iff.2 (fun e => by have := HCB.out.1 e; rw [HCC.out] at this; exact q1 this.1)
                    subst hcb
                    clear q1
                    go_wp2_with fail
                    go_meet
                    case rel => exact ⟨rfl, rfl⟩
                case rest =>
                  obtain ⟨rfl, rfl⟩ := hcut
                  trace "2"
                  go_upto_if 87 with fail
                  go_cut [87] (fun c wx => c = .bool cb ∧ P2 W x t F' told2 (some ⟨gg, 0, none⟩) n2 tc2 9 ((vs3.set q (want y own sl hh bq)).map Value.string) (some ⟨gh, 0, none⟩) n2 gc2 wx)
                  case first =>
                    cases cb with
                    | true =>
                      have hw : want y own sl hh bq = y.s := by unfold want; rw [if_pos (by rw [← HCC.out]; exact HCB.out.1 rfl)]
                      have HW := Lib.hid hw
                      clear hw
                      go_wp2_with fail
                      go_meet
                      case rel => exact ⟨rfl, by rw [HW.out, ← setS_map]; exact hp3.setG (by omega)⟩
                    | false =>
                      have hw : want y own sl hh bq = bq := by
                        unfold want; rw [if_neg (fun e => by rw [← HCC.out] at e; have := HCB.out.2 e; cases this)]
                      have HW := Lib.hid hw
                      have HS := Lib.hid (set_same Hbq.out)
                      clear hw
                      go_wp2_with fail
                      go_meet
                      case rel => exact ⟨rfl, by rw [HW.out, HS.out]; exact hp3⟩
                  case rest =>
                    obtain ⟨rfl, hp4⟩ := hcut
                    clear hp3 d0 d3 ct cg zg
                    have hb2 : (vs3.set q (want y own sl hh bq))[q]? = some (want y own sl hh bq) := List.getElem?_set_self (List.getElem?_eq_some_iff.1 Hbq.out).1
                    have hi4 := Hnx.out
                    generalize hvs : vs3.set q (want y own sl hh bq) = vs4 at hp4 hb2 hi4
                    generalize want y own sl hh bq = b4 at hb2
                    clear hvs
                    have hb4 := hi4.sz b4 (List.mem_of_getElem? hb2)
                    have hb4' : b4.size ≤ 4096 := by omega
                    have ct := hp4.ts.cell (i := q) (v := vH hh) (by rw [List.getElem?_map, Hhq.out]; rfl)
                    have cg := hp4.gs.cell (i := q) (v := .string b4) (by rw [List.getElem?_map, hb2]; rfl)
                    have d0 := Fr.keep hp4.fr HC.out.1
                    unfold vH at ct
                    have his := fun w' (f : Fr none_ wc w') => ar_is (hp4.ar.kept0 f) hi4.up hhlt
                    have His := Lib.hid his
                    have fS : Fr none_ wc wc := Fr.refl _ _
                    cases hnm : named t hh with
                    | true =>
                      have hfn : aFind t hh = some (newBytes t.slot b4) := by
                        obtain ⟨bs, hbs⟩ := Option.isSome_iff_exists.1 hnm
                        have h7 := hi4.val q hh b4 bs Hhq.out hb2 hbs
                        rw [← hi4.done q hh b4 (by omega) Hhq.out hb2, ← hi4.slot] at h7
                        rw [hbs, h7]
                      have hrds := fun w' (f : Fr none_ wc w') => ar_reads (hp4.ar.kept0 f) hi4.up hhlt b4 (by rw [hi4.slot]; exact hb4) hfn
                      have Hrds := Lib.hid hrds
                      rw [hnm] at His
                      clear hnm hfn hrds his hb2
                      go_wp2_with fail
                      go_region_held3 (fun w' => Fr none_ wc w' ∧ w'.cell? ⟨gg, q, none⟩ = some (.int .u64 (hh : Int)) ∧ w'.cell? ⟨gh, q, none⟩ = some (.string b4))
                        (first | (go_split_ands; refine ⟨?_, ?_, ?_⟩; exact Fr.trans (by assumption) f6; all_goals exact Fr.keep f6 (by assumption)) | (go_split_ands; refine ⟨?_, ?_, ?_⟩; exact Fr.trans (by assumption) (Fr.drew _ _); all_goals assumption) | go_keep)
                        (first | (go_at_call 14; refine (His.out _ (And.left (by assumption))).mono ?_; rintro e w6 ⟨rfl, f6⟩) | (go_at_call 18; refine (Hrds.out _ (And.left (by assumption))).mono ?_; rintro e w6 ⟨rfl, f6⟩))
                      rename_i hh2
                      obtain ⟨hF, e1, e2⟩ := hh2
                      clear ct cg fS
                      go_wp2_with fail
                      refine (His.out _ hF).mono ?_
                      rintro e w7 ⟨rfl, f7⟩
                      have e17 := Fr.keep f7 e1
                      clear e1
                      go_wp2_with fail
                      refine (His.out _ (hF.trans f7)).mono ?_
                      rintro e w8 ⟨rfl, f8⟩
                      go_wp2_with fail
                      go_roundw
                      case rel => exact ⟨q + 1, vs4, hqn, by go_num, hi4, hp4.skip ((hF.trans f7).trans f8)⟩
                      case measure => simp [intOf]; omega
                    | false =>
                      rw [hnm] at His
                      clear hnm his
                      go_wp2_with fail
                      refine wp_region_held_drew (S := fun w' => Fr none_ wc w' ∧ w'.cell? ⟨gg, q, none⟩ = some (.int .u64 (hh : Int)) ∧ w'.cell? ⟨gh, q, none⟩ = some (.string b4)) (by kernel_rfl) ⟨Fr.drew _ _, ct, cg⟩ (fun hHeld => ?_)
                      refine held_take 0 96 (v := ?_) rfl rfl (by kernel_rfl) (by kernel_rfl) (by kernel_rfl) (fun _ _ _ h => h) (by rfl) ?ay0 (by assumption) ?_
                      case ay0 => (intro w hSw; (try dsimp only at hSw); go_simp; try (with_reducible rfl))
                      try simp only [List.setIfInBounds_toArray, List.set_cons_zero, List.set_cons_succ]
                      refine held_take 1 97 (v := ?_) rfl rfl (by kernel_rfl) (by kernel_rfl) (by kernel_rfl) (fun _ _ _ h => h) (by rfl) ?ay1 (by assumption) ?_
                      case ay1 => (intro w hSw; (try dsimp only at hSw); go_simp; try (with_reducible rfl))
                      try simp only [List.setIfInBounds_toArray, List.set_cons_zero, List.set_cons_succ]
                      refine held_take 2 98 (v := ?_) rfl rfl (by kernel_rfl) (by kernel_rfl) (by kernel_rfl) (fun _ _ _ h => h) (by rfl) ?ay2 (by assumption) ?_
                      case ay2 => (intro w hSw; (try dsimp only at hSw); go_simp; try (with_reducible rfl))
                      try simp only [List.setIfInBounds_toArray, List.set_cons_zero, List.set_cons_succ]
                      refine held_take 3 99 (v := ?_) rfl rfl (by kernel_rfl) (by kernel_rfl) (by kernel_rfl) (fun _ _ _ h => h) (by rfl) ?ay3 (by assumption) ?_
                      case ay3 => (intro w hSw; (try dsimp only at hSw); go_simp; try (with_reducible rfl))
                      try simp only [List.setIfInBounds_toArray, List.set_cons_zero, List.set_cons_succ]
                      refine held_take 4 100 (v := ?_) rfl rfl (by kernel_rfl) (by kernel_rfl) (by kernel_rfl) (fun _ _ _ h => h) (by rfl) ?ay4 (by assumption) ?_
                      case ay4 => (intro w hSw; (try dsimp only at hSw); go_simp; try (with_reducible rfl))
                      try simp only [List.setIfInBounds_toArray, List.set_cons_zero, List.set_cons_succ]
                      refine wpAnyH_ready (rs := [5]) (by kernel_rfl) (by simp) ?_
                      refine AllReadyH.cons rfl (fun K hK => ?_) AllReadyH.nil
                      go_simp
                      refine (His.out _ (And.left hHeld)).mono ?_
                      rintro e w6 ⟨rfl, f6⟩
                      go_wp2_with fail
                      refine hK.out _ _ ⟨hHeld.1.trans f6, Fr.keep f6 hHeld.2.1, Fr.keep f6 hHeld.2.2⟩ (fun hHeld => ?_)
                      clear hK K
                      try simp only [Act.put]
                      try simp only [List.setIfInBounds_toArray, List.set_cons_zero, List.set_cons_succ]
                      refine held_take 6 102 (v := ?_) rfl rfl (by kernel_rfl) (by kernel_rfl) (by kernel_rfl) (fun _ _ _ h => h) (by rfl) ?ay6 (by assumption) ?_
                      case ay6 => (intro w hSw; (try dsimp only at hSw); go_simp; try (with_reducible rfl))
                      try simp only [List.setIfInBounds_toArray, List.set_cons_zero, List.set_cons_succ]
                      refine held_skip 7 103 rfl rfl (by kernel_rfl) (by kernel_rfl) (by kernel_rfl) (fun _ _ _ h => h) (by rfl) (by assumption) ?_
                      try simp only [List.setIfInBounds_toArray, List.set_cons_zero, List.set_cons_succ]
                      refine held_skip 8 104 rfl rfl (by kernel_rfl) (by kernel_rfl) (by kernel_rfl) (fun _ _ _ h => h) (by rfl) (by assumption) ?_
                      try simp only [List.setIfInBounds_toArray, List.set_cons_zero, List.set_cons_succ]
                      refine held_skip 9 105 rfl rfl (by kernel_rfl) (by kernel_rfl) (by kernel_rfl) (fun _ _ _ h => h) (by rfl) (by assumption) ?_
                      try simp only [List.setIfInBounds_toArray, List.set_cons_zero, List.set_cons_succ]
                      refine held_skip 10 106 rfl rfl (by kernel_rfl) (by kernel_rfl) (by kernel_rfl) (fun _ _ _ h => h) (by rfl) (by assumption) ?_
                      try simp only [List.setIfInBounds_toArray, List.set_cons_zero, List.set_cons_succ]
                      refine held_skip 11 107 rfl rfl (by kernel_rfl) (by kernel_rfl) (by kernel_rfl) (fun _ _ _ h => h) (by rfl) (by assumption) ?_
                      try simp only [List.setIfInBounds_toArray, List.set_cons_zero, List.set_cons_succ]
                      refine held_skip 12 108 rfl rfl (by kernel_rfl) (by kernel_rfl) (by kernel_rfl) (fun _ _ _ h => h) (by rfl) (by assumption) ?_
                      try simp only [List.setIfInBounds_toArray, List.set_cons_zero, List.set_cons_succ]
                      refine held_skip 13 109 rfl rfl (by kernel_rfl) (by kernel_rfl) (by kernel_rfl) (fun _ _ _ h => h) (by rfl) (by assumption) ?_
                      try simp only [List.setIfInBounds_toArray, List.set_cons_zero, List.set_cons_succ]
                      refine held_skip 14 110 rfl rfl (by kernel_rfl) (by kernel_rfl) (by kernel_rfl) (fun _ _ _ h => h) (by rfl) (by assumption) ?_
                      try simp only [List.setIfInBounds_toArray, List.set_cons_zero, List.set_cons_succ]
                      refine held_skip 15 111 rfl rfl (by kernel_rfl) (by kernel_rfl) (by kernel_rfl) (fun _ _ _ h => h) (by rfl) (by assumption) ?_
                      try simp only [List.setIfInBounds_toArray, List.set_cons_zero, List.set_cons_succ]
                      refine held_skip 16 112 rfl rfl (by kernel_rfl) (by kernel_rfl) (by kernel_rfl) (fun _ _ _ h => h) (by rfl) (by assumption) ?_
                      try simp only [List.setIfInBounds_toArray, List.set_cons_zero, List.set_cons_succ]
                      refine held_skip 17 113 rfl rfl (by kernel_rfl) (by kernel_rfl) (by kernel_rfl) (fun _ _ _ h => h) (by rfl) (by assumption) ?_
                      try simp only [List.setIfInBounds_toArray, List.set_cons_zero, List.set_cons_succ]
                      refine held_take 18 114 (v := ?_) rfl rfl (by kernel_rfl) (by kernel_rfl) (by kernel_rfl) (fun _ _ _ h => h) (by rfl) ?ay18 (by assumption) ?_
                      case ay18 => (intro w hSw; (try dsimp only at hSw); go_simp; try (with_reducible rfl))
                      try simp only [List.setIfInBounds_toArray, List.set_cons_zero, List.set_cons_succ]
                      refine wpAnyH_done (by kernel_rfl) ?_ _
                      obtain ⟨hF, e1, e2⟩ := hHeld
                      clear ct cg fS
                      by_cases hw0 : y.what = 0
                      · rw [hw0] at d0
                        clear hw0
                        have d0 := Fr.keep hF d0
                        go_wp2_with fail
                        refine (His.out _ hF).mono ?_
                        rintro e w7 ⟨rfl, f7⟩
                        have d07 := Fr.keep f7 d0
                        go_wp2_with fail
                        go_roundw
                        case rel => exact ⟨q + 1, vs4, hqn, by go_num, hi4, hp4.skip (hF.trans f7)⟩
                        case measure => simp [intOf]; omega
                      · have b0 : ((y.what : Int) == 0) = false := beq_eq_false_iff_ne.2 (by omega)
                        have d0 := Fr.keep hF d0
                        clear hw0
                        go_wp2_with fail
                        refine (His.out _ hF).mono ?_
                        rintro e w7 ⟨rfl, f7⟩
                        have d07 := Fr.keep f7 d0
                        have e17 := Fr.keep f7 e1
                        have e27 := Fr.keep f7 e2
                        clear d0 e1 e2
                        go_wp2_with fail
                        refine (His.out _ (hF.trans f7)).mono ?_
                        rintro e w8 ⟨rfl, f8⟩
                        have d08 := Fr.keep f8 d07
                        have e28 := Fr.keep f8 e27
                        clear d07 e17 e27
                        by_cases hbe : b4 = ByteArray.empty
                        · have HNE := Lib.hid (show (!decide (b4 = ByteArray.empty)) = false by rw [decide_eq_true hbe]; rfl)
                          clear hbe
                          go_wp2_with ((with_reducible refine at_slot 142 ?_); refine wpNeqStr rfl _ _ _ _ rfl b4 ByteArray.empty rfl rfl ?_; rw [HNE.out])
                          go_roundw
                          case rel => exact ⟨q + 1, vs4, hqn, by go_num, hi4, hp4.skip ((hF.trans f7).trans f8)⟩
                          case measure => simp [intOf]; omega
                        · have HNE := Lib.hid (show (!decide (b4 = ByteArray.empty)) = true by rw [decide_eq_false hbe]; rfl)
                          clear hbe
                          by_cases hw1 : y.what = 1
                          · rw [hw1] at d08
                            clear hw1
                            go_wp2_with ((with_reducible refine at_slot 142 ?_); refine wpNeqStr rfl _ _ _ _ rfl b4 ByteArray.empty rfl rfl ?_; rw [HNE.out])
                            go_roundw
                            case rel => exact ⟨q + 1, vs4, hqn, by go_num, hi4, hp4.skip ((hF.trans f7).trans f8)⟩
                            case measure => simp [intOf]; omega
                          · have b1 : ((y.what : Int) != 1) = true := bne_iff_ne.2 (by omega)
                            clear hw1
                            go_wp2_with ((with_reducible refine at_slot 142 ?_); refine wpNeqStr rfl _ _ _ _ rfl b4 ByteArray.empty rfl rfl ?_; rw [HNE.out])
                            go_roundw
                            case rel => exact ⟨q + 1, vs4, hqn, by go_num, hi4, hp4.skip ((hF.trans f7).trans f8)⟩
                            case measure => simp [intOf]; omega
              · go_wp2_with fail
                go_roundw
                case rel => exact ⟨k + 1, n2, tc2, gc2, ta2, ga2, t, told2, vs3, F', hlt, by go_num, rfl, rfl, hn2, hi3.all (by have := hn2.out; omega), hp3⟩
                case measure => simp [intOf]; omega
        · go_wp2_with fail
          go_ret
          exact ⟨rfl, hp.fr⟩
    · have hno := fun w => Arena_New_no w slot (by omega)
      have Hno := Lib.hid hno
      clear hno hs hL h1 ws
      go_enter Try.func4, Try.ntmps4
      go_wp2_with fail
      refine (Hworks.out _).mono ?_
      rintro e w1 ⟨rfl, f1⟩
      go_wp2_with fail
      refine (Hlarge.out _ (H1.out.kept f1 (fun _ _ e => e))).mono ?_
      rintro e w2 ⟨rfl, rfl⟩
      go_wp2_with fail
      refine (Hno.out _).mono ?_
      rintro e w3 ⟨rfl, rfl⟩
      go_wp2_with fail
      go_ret
      exact ⟨rfl, f1⟩
end Go.Proofs.Ytncajdefjammiaa
