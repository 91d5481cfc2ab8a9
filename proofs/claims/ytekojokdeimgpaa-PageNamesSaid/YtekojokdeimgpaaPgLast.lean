/-
  PageLast (P3.5): given back is taken again, last back first, blank; a new page's offsets go up.
-/
import Derived.Test.YtekojokdeimgpaaPgMany
import Derived.Test.YtekojokdeimgpaaMin
namespace Go.Proofs.Ytekojokdeimgpaa
open Go.RowKit
set_option linter.unusedVariables false
set_option linter.unusedSimpArgs false
set_option maxRecDepth 100000

/-- After the first 'k' of the used were given back. -/
structure Given (s0 : PS) (used : List Nat) (k : Nat) (s : PS) : Prop where
  slot : s.slot = s0.slot
  wf : s.WF
  back : s.back = ((used.take k).reverse.map (· / s0.slot)) ++ s0.back
  at_ : ∀ o, o ∉ used.take k → s.at_ o = s0.at_ o

theorem Given.zero {s0 : PS} (h : s0.WF) (used : List Nat) : Given s0 used 0 s0 := ⟨rfl, h, by simp, fun _ _ => rfl⟩
theorem Given.next {s0 s : PS} {used : List Nat} {k o : Nat} (h : Given s0 used k s) (ho : used[k]? = some o) (hn : used.Nodup) {bs : List UInt8} (hb : s0.at_ o = some bs) :
    s.at_ o = some bs ∧ Given s0 used (k + 1) (s.free (o / s.slot)) := by
  have hni : o ∉ used.take k := by
    intro hm
    obtain ⟨i, hi, e⟩ := List.getElem_of_mem hm
    rw [List.getElem_take] at e
    rw [List.length_take] at hi
    have h2 := List.getElem?_eq_some_iff.1 ho
    have hiu : i < used.length := by omega
    have := (List.getElem_inj hn (h₀ := hiu) (h₁ := h2.1)).1 (by rw [e, h2.2])
    omega
  have ha := h.at_ o hni
  rw [hb] at ha
  obtain ⟨e1, hk⟩ := PS.at_some ha
  obtain ⟨w1, w2, w3⟩ := h.wf.free hk
  refine ⟨ha, h.slot, w1, ?_, ?_⟩
  · rw [take_succ_get used k o ho]
    simp only [PS.free, h.back, List.reverse_append, List.reverse_cons, List.reverse_nil, List.nil_append, List.singleton_append, List.map_cons, List.cons_append, h.slot]
  · intro x hx
    rw [take_succ_get used k o ho, List.mem_append] at hx
    have hxo : ¬ x = o / s.slot * s.slot := by rw [← e1]; intro e; exact hx (.inr (by simp [e]))
    rw [w2, if_neg hxo]
    exact h.at_ x (fun e => hx (.inl e))

/-- While they are taken again: 'j' are still back. -/
structure Again (s0 : PS) (used : List Nat) (j : Nat) (s : PS) : Prop where
  slot : s.slot = s0.slot
  wf : s.WF
  back : s.back = ((used.take j).reverse.map (· / s0.slot)) ++ s0.back

theorem Given.again {s0 s : PS} {used : List Nat} {k : Nat} (h : Given s0 used k s) : Again s0 used k s := ⟨h.slot, h.wf, h.back⟩
theorem Again.next {s0 s : PS} {used : List Nat} {j o : Nat} (h : Again s0 used (j + 1) s) (ho : used[j]? = some o) {bs : List UInt8} (hb : s0.at_ o = some bs) :
    ∃ s', s.alloc = some (o / s0.slot, s') ∧ o / s0.slot * s.slot = o ∧ s'.at_ o = some (zeros s0.slot) ∧ Again s0 used j s' := by
  obtain ⟨e1, hk⟩ := PS.at_some hb
  have hbk : s.back = (o / s0.slot) :: (((used.take j).reverse.map (· / s0.slot)) ++ s0.back) := by
    rw [h.back, take_succ_get used j o ho]
    simp
  have ha : s.alloc = some (o / s0.slot, { s with slots := s.slots.set (o / s0.slot) (some (zeros s.slot)), back := ((used.take j).reverse.map (· / s0.slot)) ++ s0.back }) := by
    unfold PS.alloc; rw [hbk]
  obtain ⟨w1, w2, w3, w4, w5⟩ := h.wf.alloc ha
  refine ⟨_, ha, by rw [h.slot]; exact e1.symm, ?_, ⟨h.slot, w1, rfl⟩⟩
  rw [w3, if_pos (by rw [h.slot]; exact e1), h.slot]

/-- A page with 'k' slots taken, none given back. -/
def stair (slot k : Nat) : PS := { slot := slot, slots := List.replicate k (some (zeros slot)), back := [] }
theorem stair_alloc {slot k : Nat} (h : (k + 1) * slot ≤ 4096) : (stair slot k).alloc = some (k, stair slot (k + 1)) := by
  unfold stair PS.alloc
  simp only [List.length_replicate]
  rw [if_pos h, List.replicate_succ' (n := k)]

theorem strOf_zeros (n : Nat) : strOf (zeros n) = strOf (List.replicate n 0) := rfl

set_option maxHeartbeats 4000000 in
theorem walk_PageLast (W : World) (slot : Int) (ws : (Lit.int .i64 slot).wf = true) (a1 : Option Addr) (c1 : Nat) (l1 : List StepV) (h1 : StepsAt W a1 l1) (many : Int) (wm : (Lit.int .i64 many).wf = true) :
   Calls Try.prog 4 #[.int .i64 slot, .slice a1 l1.length c1, .int .i64 many] W fun e w' => e = .returned (.bool true) ∧ Fr none_ W w' := by
  have hlong := fun w h => long_any w a1 c1 l1 h
  cases hL : isLong l1 with
  | true =>
    have hlg := hlong _ h1
    rw [hL] at hlg
    have Hlg := Lib.hid hlg
    clear hlg hL hlong
    go_enter Try.func4, Try.ntmps4
    go_wp2_with (first
      | (go_at_call 9; refine Hlg.out.mono ?_; rintro e w1 ⟨rfl, rfl⟩)
      | (go_at_call 10; refine (awake_any _).mono ?_; rintro e w2 ⟨rfl, f2⟩))
    go_ret
    exact ⟨rfl, f2⟩
  | false =>
    have hlg := hlong _ h1
    rw [hL] at hlg
    have hn := notLong hL
    have Hlg := Lib.hid hlg
    have H1 := Lib.hid h1
    clear hlg hL h1 hlong
    by_cases hs : 2 ≤ slot ∧ slot ≤ 4096
    · obtain ⟨sl, rfl⟩ := Int.eq_ofNat_of_zero_le (show 0 ≤ slot by omega)
      have s2 : 2 ≤ sl := by omega
      have s3 : sl ≤ 4096 := by omega
      have hry := fun w h => run_yes w sl s2 s3 a1 c1 l1 h hn
      obtain ⟨hinv, hisl⟩ := UInv.run s2 s3 l1
      unfold RunPost at hry
      generalize l1.foldl (stepRun sl) (PS.new sl, []) = st at hry hinv hisl
      have Hry := Lib.hid hry
      have Hslot := Lib.hid hisl
      have hnew := fun w => Page_New_yes w sl s2 s3
      have HNew := Lib.hid hnew
      obtain ⟨mz, hmz⟩ := Int.eq_ofNat_of_zero_le (show 0 ≤ IntKind.u64.wrap many from wrap_u64_nonneg many)
      obtain ⟨mq, hmq, hmq2⟩ : ∃ mq : Nat, (mz : Int) % 50 = (mq : Int) ∧ mq < 50 := ⟨mz % 50, by omega, by omega⟩
      clear hs ws hry hisl hnew
      go_enter Try.func4, Try.ntmps4
      go_wp2_with (first
        | (go_at_call 9; refine Hlg.out.mono ?_; rintro e w1 ⟨rfl, rfl⟩)
        | (go_at_call 10; refine (awake_any _).mono ?_; rintro e w2 ⟨rfl, f2⟩)
        | (go_at_call 11; refine (Hry.out _ (H1.out.kept f2 (fun _ _ e => e))).mono ?_; rintro e w3 ⟨p, m, ua, un, uc, rfl, hr⟩; obtain ⟨M, hM⟩ : ∃ M, M = min mq un := ⟨_, rfl⟩; have HM := Lib.hid hM; clear hM)
        | (with_reducible refine at_slot 43 ?_; refine wpMin rfl _ _ _ rfl .i64 .i64 mq un M HM.out (by kernel_rfl) (by kernel_rfl) ?_))
      have hMu : M ≤ un := by have := HM.out; omega
      have hMb : M < 50 := by have := HM.out; omega
      have hlen := Lib.hid hr.len
      clear hmz hmq hmq2 HM
      have g0 := Given.zero hinv.wf st.2
      have p0 := hr.page
      go_loopw [10] (fun i wr => ∃ (k : Nat) (s : PS), Hid (k ≤ M) ∧ i = .int .i64 k ∧ PageIs wr p m s ∧ Given st.1 st.2 k s ∧ Fr (two p m) w3 wr) (fun i _ => M - (intOf i).toNat)
      case atStart => exact ⟨0, _, Nat.zero_le _, rfl, p0, g0, Fr.refl _ _⟩
      case round =>
        obtain ⟨k, s, hk, rfl, hp, hgv, hf⟩ := hrel
        clear p0 g0
        have hu := hr.sl.kept hf (fun i hi e => by rcases e with e | e; exact (hr.own i hi).2.1 e; exact (hr.own i hi).2.2 e)
        by_cases hkM : k < M
        · obtain ⟨o, ho⟩ : ∃ o, st.2[k]? = some o := ⟨st.2[k]'(by rw [← hlen.out]; omega), List.getElem?_eq_getElem _⟩
          obtain ⟨g, rfl⟩ := hr.sl.isAddr (by omega)
          have cu := hu.cell (i := k) (v := v16 o) (by rw [List.getElem?_map, ho]; rfl)
          unfold v16 at cu
          obtain ⟨bs, hbs⟩ := Option.isSome_iff_exists.1 ((hinv.mem o).1 (List.mem_of_getElem? ho))
          obtain ⟨q1, q2⟩ := hgv.next ho hinv.nodup hbs
          have hfr := Page_Free_yes hp q1
          unfold ptr v16 err at hfr
          have HG := Lib.hid q2
          have hku : (k : Int) < (un : Int) := by omega
          clear ho hbs q1 q2
          go_wp2_with (go_at_call 15; refine hfr.mono ?_; rintro e w5 ⟨rfl, hp5, f5⟩)
          go_roundw
          case rel => exact ⟨k + 1, _, hkM, by go_num, hp5, HG.out, hf.trans f5⟩
          case measure => simp [intOf]; omega
        · have hkk : M = k := by have := hk; unfold Hid at this; omega
          subst hkk
          have ha0 := hgv.again
          go_wp2_with fail
          go_loopw [11] (fun i wr => ∃ (j : Nat) (s : PS), Hid (j ≤ M) ∧ i = .int .i64 ((j : Int) - 1) ∧ PageIs wr p m s ∧ Again st.1 st.2 j s ∧ Fr (two p m) w3 wr) (fun i _ => (intOf i + 1).toNat)
          case atStart => exact ⟨M, s, Nat.le_refl _, rfl, hp, ha0, hf⟩
          case round =>
            obtain ⟨j, s4, hj, rfl, hp4, ha4, hf4⟩ := hrel
            clear hp ha0 hgv hf hu
            cases j with
            | zero =>
              have hQ : ((4096 : Int).tdiv (sl : Int)) = ((4096 / sl : Nat) : Int) := rfl
              have hQle : 4096 / sl ≤ 4096 := Nat.div_le_self _ _
              have hQf : ∀ k, k < 4096 / sl → (k + 1) * sl ≤ 4096 := fun k hk => (Nat.le_div_iff_mul_le (by omega)).1 hk
              generalize 4096 / sl = Q at hQ hQle hQf
              have hQ1 : IntKind.i64.wrap ((4096 : Int).tdiv (sl : Int)) = (Q : Int) := by rw [hQ]; exact IntWalk.i64_in _ (by omega)
              have hz : ¬ (sl : Int) = 0 := by omega
              have fA : Fr none_ W wr := Fr.step (f2.trans hr.fr) hf4 (fun i hi e => by have := hr.pb; have := f2.size; rcases e with rfl | rfl <;> omega)
              have hnw := HNew.out wr
              unfold ptr err at hnw
              have HQf := Lib.hid hQf
              obtain ⟨R, hR⟩ : ∃ R, R = min Q 60 := ⟨_, rfl⟩
              have HR := Lib.hid hR
              have hR60 : R ≤ 60 := by omega
              clear hQ hQf hR
              go_wp2_with (go_at_call 17; refine hnw.mono ?_; rintro e w7 ⟨q, mm, rfl, hq7, f7, hqb, hmb⟩)
              have hq0 : PageIs w7 q mm (stair sl 0) := hq7
              clear hq7
              go_loopw [18] (fun i wr => ∃ k : Nat, Hid (k ≤ R) ∧ i = .int .i64 k ∧ PageIs wr q mm (stair sl k) ∧ Fr (two q mm) w7 wr) (fun i _ => R - (intOf i).toNat)
              case atStart => exact ⟨0, Nat.zero_le _, rfl, hq0, Fr.refl _ _⟩
              case round =>
                obtain ⟨k, hk, rfl, hq, hf9⟩ := hrel
                clear hq0
                by_cases hkR : k < R
                · have hks := HQf.out k (by have := HR.out; omega)
                  have hal := Page_Alloc_yes hq (stair_alloc hks)
                  have hks2 : k * sl + sl ≤ 4096 := by rw [Nat.add_mul] at hks; omega
                  have hmul : IntKind.i64.wrap ((k : Int) * (sl : Int)) = ((k * sl : Nat) : Int) := by rw [← Int.natCast_mul]; exact IntWalk.i64_in _ (by omega)
                  rw [show (stair sl k).slot = sl from rfl] at hal
                  unfold ptr v16 err at hal
                  generalize k * sl = of at hal hmul hks2
                  have hkRi : (k : Int) < (R : Int) := by omega
                  clear hks
                  go_wp2_with (first
                    | ((with_reducible refine at_slot 102 ?_); refine wpMin rfl _ _ _ rfl .i64 .i64 Q 60 R HR.out (by kernel_rfl) (by kernel_rfl) ?_)
                    | (go_at_call 14; refine hal.mono ?_; rintro e w9 ⟨rfl, hq9, f9⟩))
                  go_roundw
                  case rel => exact ⟨k + 1, hkR, by go_num, hq9, hf9.trans f9⟩
                  case measure => simp [intOf]; omega
                · go_wp2_with ((with_reducible refine at_slot 102 ?_); refine wpMin rfl _ _ _ rfl .i64 .i64 Q 60 R HR.out (by kernel_rfl) (by kernel_rfl) ?_)
                  go_ret
                  refine ⟨rfl, Fr.step (fA.trans f7) hf9 (fun i hi e => ?_)⟩
                  have := fA.size
                  rcases e with rfl | rfl <;> omega
            | succ j =>
              rw [show ((j + 1 : Nat) : Int) - 1 = (j : Int) by omega]
              have hu := hr.sl.kept hf4 (fun i hi e => by rcases e with e | e; exact (hr.own i hi).2.1 e; exact (hr.own i hi).2.2 e)
              obtain ⟨o, ho⟩ : ∃ o, st.2[j]? = some o := ⟨st.2[j]'(by rw [← hlen.out]; have := hj; unfold Hid at this; omega), List.getElem?_eq_getElem _⟩
              obtain ⟨g, rfl⟩ := hr.sl.isAddr (by have := hj; unfold Hid at this; omega)
              obtain ⟨bs, hbs⟩ := Option.isSome_iff_exists.1 ((hinv.mem o).1 (List.mem_of_getElem? ho))
              obtain ⟨s5, q1, q2, q3, q4⟩ := ha4.next ho hbs
              have hal := Page_Alloc_yes hp4 q1
              rw [q2] at hal
              rw [Hslot.out] at q3
              have cu : ∀ w5, Fr (two p m) w3 w5 → w5.cell? _ = some _ := fun w5 f5 => (hr.sl.kept f5 (fun i hi e => by rcases e with e | e; exact (hr.own i hi).2.1 e; exact (hr.own i hi).2.2 e)).cell (i := j) (v := v16 o) (by rw [List.getElem?_map, ho]; rfl)
              unfold v16 at cu
              have hrd : ∀ w5, PageIs w5 p m s5 → Calls Try.prog 12 #[.pointer (some ⟨p, 0, none⟩), .int .u16 (o : Int)] w5 fun e w' => e = .returned (.tuple #[.string (strOf (zeros sl)), .int .i64 0]) ∧ Fr none_ w5 w' := fun w5 h5 => Page_Read_yes h5 q3
              unfold ptr v16 err at hal
              have Hrd := Lib.hid hrd
              have HA := Lib.hid q4
              have hwj : IntKind.i64.wrap ((j : Int) - 1) = (j : Int) - 1 := IntWalk.i64_in _ (by have := hj; unfold Hid at this; omega)
              have Hcu := Lib.hid cu
              have hju : (j : Int) < (un : Int) := by have := hj; unfold Hid at this; omega
              clear ho hbs q1 q2 q3 q4 hrd hu cu
              go_wp2_with (first
                | (go_at_call 14; refine hal.mono ?_; rintro e w5 ⟨rfl, hp5, f5⟩)
                | (go_at_call 12; refine (Hrd.out _ hp5).mono ?_; rintro e w6 ⟨rfl, f6⟩; have cu6 := Hcu.out w6 (hf4.trans (f5.trans f6.none)))
                | ((with_reducible refine at_slot 90 ?_); refine wpMakeBytes rfl _ _ _ 5 rfl Try.underlying43 u8_info .i64 .i64 sl sl rfl rfl (Nat.le_refl _) (by omega) ?_; intro w7 hrow f7 hs7)
                | ((with_reducible refine at_slot 91 ?_); refine wpString rfl _ _ _ 5 rfl hrow Try.underlying43 Try.underlying5 Try.underlying9 0 sl sl rfl (zeros sl) List.length_replicate (fun i hi => by simp [zeros, List.getD, hi]) ?_)
                | ((with_reducible refine at_slot 92 ?_); refine wpNeqStr rfl _ _ _ _ rfl (strOf (zeros sl)) (strOf (zeros sl)) rfl rfl ?_))
              go_roundw
              case rel => exact ⟨j, s5, by have := hj; unfold Hid at this ⊢; omega, by first | go_num | rfl, hp5.kept (f6.trans f7) (fun e => e) (fun e => e), HA.out, hf4.trans (f5.trans (f6.trans f7).none)⟩
              case measure => simp [intOf]
    · have hrn := fun w v => run_no w slot (by omega) v
      have Hrn := Lib.hid hrn
      clear hrn hs
      go_enter Try.func4, Try.ntmps4
      go_wp2_with (first
        | (go_at_call 9; refine Hlg.out.mono ?_; rintro e w1 ⟨rfl, rfl⟩)
        | (go_at_call 10; refine (awake_any _).mono ?_; rintro e w2 ⟨rfl, f2⟩)
        | (go_at_call 11; refine (Hrn.out _ _).mono ?_; rintro e w3 ⟨rfl, rfl⟩))
      go_ret
      exact ⟨rfl, f2⟩
end Go.Proofs.Ytekojokdeimgpaa
