/-
  The walk of PageMany: whatever the steps, it returns true and writes nothing that was there.
-/
import Derived.Test.YtekojokdeimgpaaPgApart
namespace Go.Proofs.Ytekojokdeimgpaa
open Go.RowKit
set_option linter.unusedVariables false
set_option linter.unusedSimpArgs false
set_option maxRecDepth 100000

theorem filter_full {α : Type} (p : α → Bool) (l : List α) (h : ∀ x ∈ l, p x = true) : (l.filter p).length = l.length := by
  rw [List.filter_eq_self.2 h]
theorem filter_less {α : Type} (p : α → Bool) (l : List α) (x : α) (hx : x ∈ l) (h : p x = false) : (l.filter p).length < l.length := by
  have h1 := List.length_filter_le p l
  rcases Nat.lt_or_ge (l.filter p).length l.length with q | q
  · exact q
  · have e : (l.filter p).length = l.length := by omega
    have := List.length_filter_eq_length_iff.1 e x hx
    rw [h] at this; cases this

/-- There is a slot just where fewer are used than there may be. -/
theorem PS.WF.alloc_iff {s : PS} (h : s.WF) : s.alloc.isSome = decide (s.used < 4096 / s.slot) := by
  have hlo := h.lo
  have hle := used_le s
  have hfit : s.slots.length ≤ 4096 / s.slot := (Nat.le_div_iff_mul_le (by omega)).2 h.fit
  unfold PS.alloc
  cases hb : s.back with
  | cons k r =>
    have hk := (h.backs k).1 (by rw [hb]; simp)
    have := filter_less (fun x : Option (List UInt8) => x.isSome) s.slots none (List.mem_of_getElem? hk) rfl
    have hu : s.used < s.slots.length := this
    simp only [Option.isSome_some]
    symm; exact decide_eq_true (by omega)
  | nil =>
    have hall : ∀ x ∈ s.slots, x.isSome = true := by
      intro x hx
      cases x with
      | some _ => rfl
      | none =>
        obtain ⟨i, hi, e⟩ := List.getElem_of_mem hx
        have := (h.backs i).2 (by rw [List.getElem?_eq_getElem hi, e])
        rw [hb] at this; simp at this
    have hu : s.used = s.slots.length := filter_full (fun x : Option (List UInt8) => x.isSome) s.slots hall
    rw [hu]
    simp only
    by_cases q : (s.slots.length + 1) * s.slot ≤ 4096
    · rw [if_pos q]
      have := (Nat.le_div_iff_mul_le (k := s.slot) (x := s.slots.length + 1) (y := 4096) (by omega)).2 q
      simp only [Option.isSome_some]
      symm; exact decide_eq_true (by omega)
    · rw [if_neg q]
      have : ¬ s.slots.length + 1 ≤ 4096 / s.slot := fun e => q ((Nat.le_div_iff_mul_le (by omega)).1 e)
      simp only [Option.isSome_none]
      symm; exact decide_eq_false (by omega)

theorem PageIs.drewN {w : World} {p m : Nat} {s : PS} (h : PageIs w p m s) (n : Nat) : PageIs (w.drewN n) p m s := h.kept (Fr.drewN none_ w n) (fun e => e) (fun e => e)

set_option maxHeartbeats 4000000 in
theorem walk_PageMany (W : World) (slot : Int) (ws : (Lit.int .i64 slot).wf = true) (a1 : Option Addr) (c1 : Nat) (l1 : List StepV) (h1 : StepsAt W a1 l1) :
   Calls Try.prog 5 #[.int .i64 slot, .slice a1 l1.length c1] W fun e w' => e = .returned (.bool true) ∧ Fr none_ W w' := by
  have hlong := fun w h => long_any w a1 c1 l1 h
  cases hL : isLong l1 with
  | true =>
    have hlg := hlong _ h1
    rw [hL] at hlg
    have Hlg := Lib.hid hlg
    clear hlg hL hlong
    go_enter Try.func5, Try.ntmps5
    go_wp2_with (first
      | (go_at_call 9; refine Hlg.out.mono ?_; rintro e w1 ⟨rfl, rfl⟩)
      | (go_at_call 10; refine (awake_any _).mono ?_; rintro e w2 ⟨rfl, f2⟩))
    go_ret
    exact ⟨rfl, f2⟩
  | false =>
    have hlg := hlong _ h1
    rw [hL] at hlg
    have hn := notLong hL
    have Hlg := Lib.hid hlg
    have H1 := Lib.hid h1
    clear hlg hL h1 hlong
    by_cases hs : 2 ≤ slot ∧ slot ≤ 4096
    · obtain ⟨sl, rfl⟩ := Int.eq_ofNat_of_zero_le (show 0 ≤ slot by omega)
      have s2 : 2 ≤ sl := by omega
      have s3 : sl ≤ 4096 := by omega
      have hry := fun w h => run_yes w sl s2 s3 a1 c1 l1 h hn
      obtain ⟨hinv, hisl⟩ := UInv.run s2 s3 l1
      unfold RunPost at hry
      generalize l1.foldl (stepRun sl) (PS.new sl, []) = st at hry hinv hisl
      have Hry := Lib.hid hry
      have Hslot := Lib.hid hisl
      clear hs ws hry hisl
      go_enter Try.func5, Try.ntmps5
      go_wp2_with (first
        | (go_at_call 9; refine Hlg.out.mono ?_; rintro e w1 ⟨rfl, rfl⟩)
        | (go_at_call 10; refine (awake_any _).mono ?_; rintro e w2 ⟨rfl, f2⟩)
        | (go_at_call 11; refine (Hry.out _ (H1.out.kept f2 (fun _ _ e => e))).mono ?_; rintro e w3 ⟨p, m, ua, un, uc, rfl, hr⟩))
      have hu : st.1.used = un := by rw [← hinv.count, ← hr.len]
      have hQ : ((4096 : Int).tdiv (sl : Int)) = ((4096 / sl : Nat) : Int) := rfl
      have hfit : un ≤ 4096 / sl := by
        rw [← hu]; exact Nat.le_trans (used_le _) (by rw [← Hslot.out]; exact (Nat.le_div_iff_mul_le (by have := hinv.wf.lo; omega)).2 hinv.wf.fit)
      have hQle : 4096 / sl ≤ 4096 := Nat.div_le_self _ _
      have cU : ∀ n, Calls Try.prog 18 #[.pointer (some ⟨p, 0, none⟩)] (w3.drewN n) fun e w' => e = .returned (.int .i64 (un : Int)) ∧ w' = w3.drewN n := by
        intro n
        have := Page_Used (hr.page.drewN n)
        rw [hu] at this
        exact this.mono fun e w' ⟨he, hw⟩ => ⟨he, hw.symm⟩
      have cR : ∀ n, Calls Try.prog 19 #[.pointer (some ⟨p, 0, none⟩)] (w3.drewN n) fun e w' => e = .returned (.int .i64 (((4096 / sl : Nat) : Int) - (un : Int))) ∧ ∃ m, w' = (w3.drewN n).drewN m := by
        intro n
        have := Page_Room (hr.page.drewN n)
        rw [hu, Hslot.out] at this
        exact this.mono fun e w' ⟨he, hw⟩ => ⟨he, 1, hw⟩
      obtain ⟨Q, hQd⟩ : ∃ Q, Q = 4096 / sl := ⟨_, rfl⟩
      rw [← hQd] at hQ hfit hQle cR
      have hQ1 : IntKind.i64.wrap ((4096 : Int).tdiv (sl : Int)) = (Q : Int) := by rw [hQ]; exact IntWalk.i64_in _ (by omega)
      have hQ2 : IntKind.i64.wrap ((un : Int) + ((Q : Int) - (un : Int))) = (Q : Int) := by
        rw [show (un : Int) + ((Q : Int) - (un : Int)) = (Q : Int) by omega]; exact IntWalk.i64_in _ (by omega)
      have hz : ¬ (sl : Int) = 0 := by omega
      have CU := Lib.hid cU
      have CR := Lib.hid cR
      have HU := Lib.hid hu
      have HQd := Lib.hid hQd
      have HQ := Lib.hid hQ
      clear cU cR hu hQd hQ
      go_quiet (first
        | (go_at_call 18; exact Calls.quiet_of_same (CU.out _))
        | (go_at_call 19; exact Calls.quiet_of (CR.out _)))
      have hf0 := Fr.drewN none_ w3 nq
      clear hQ2
      go_wp2
      have hHU := Lib.hid hr.len
      go_loopw [8] (fun i wr => ∃ k : Nat, Hid (k ≤ un) ∧ i = .int .i64 k ∧ Fr none_ w3 wr) (fun i _ => un - (intOf i).toNat)
      case atStart => exact ⟨0, Nat.zero_le _, rfl, hf0⟩
      case round =>
        obtain ⟨k, hk, rfl, hf⟩ := hrel
        clear hf0
        by_cases hku : k < un
        · obtain ⟨o, ho⟩ : ∃ o, st.2[k]? = some o := ⟨st.2[k]'(by rw [← hHU.out]; exact hku), List.getElem?_eq_getElem _⟩
          obtain ⟨g, rfl⟩ := hr.sl.isAddr (by omega)
          have cu := (hr.sl.kept0 hf).cell (i := k) (v := v16 o) (by rw [List.getElem?_map, ho]; rfl)
          unfold v16 at cu
          have hou := (hinv.mem o).1 (List.mem_of_getElem? ho)
          obtain ⟨bs, hbs⟩ := Option.isSome_iff_exists.1 hou
          obtain ⟨e1, hk1⟩ := PS.at_some hbs
          rw [Hslot.out] at e1 hk1
          have hkl := (List.getElem?_eq_some_iff.1 hk1).1
          have hfit1 : o + sl ≤ 4096 := by
            have h1 := hinv.wf.fit
            rw [Hslot.out] at h1
            have := apart (n := sl) hkl
            omega
          have hi := Page_Is (hr.page.kept hf (fun e => e) (fun e => e)) o
          rw [hou] at hi
          unfold ptr v16 at hi
          have hrem : ((o : Int).tmod (sl : Int)) = 0 := by
            have : o % sl = 0 := by rw [e1]; exact Nat.mul_mod_left _ _
            exact (show ((o : Int).tmod (sl : Int)) = ((o % sl : Nat) : Int) from rfl).trans (by rw [this]; rfl)
          have hsum : IntKind.i64.wrap ((o : Int) + (sl : Int)) = (o : Int) + (sl : Int) := IntWalk.i64_in _ (by omega)
          have hle : ¬ (4096 : Int) < (o : Int) + (sl : Int) := by omega
          have Ho := Lib.hid ho
          have Hi := Lib.hid hi
          have Hfit1 := Lib.hid hfit1
          clear ho hbs e1 hk1 hkl hou hi hfit1
          go_wp2_with (go_at_call 20; refine Hi.out.mono ?_; rintro e w5 ⟨rfl, f5⟩; have cu5 := Fr.keep f5 cu)
          have hf5 := hf.trans f5
          go_loopw [9] (fun i wr => ∃ j : Nat, Hid (j ≤ k) ∧ i = .int .i64 j ∧ Fr none_ w3 wr) (fun i _ => k - (intOf i).toNat)
          case atStart => exact ⟨0, Nat.zero_le _, rfl, hf5⟩
          case round =>
            obtain ⟨j, hj, rfl, hf6⟩ := hrel
            clear hf5 cu
            by_cases hjk : j < k
            · obtain ⟨y, hy⟩ : ∃ y, st.2[j]? = some y := ⟨st.2[j]'(by have := hHU.out; omega), List.getElem?_eq_getElem _⟩
              have cy := (hr.sl.kept0 hf6).cell (i := j) (v := v16 y) (by rw [List.getElem?_map, hy]; rfl)
              have co := (hr.sl.kept0 hf6).cell (i := k) (v := v16 o) (by rw [List.getElem?_map, Ho.out]; rfl)
              unfold v16 at cy co
              have hne : ((y : Int) == (o : Int)) = false := by
                rw [beq_eq_false_iff_ne]
                intro e
                have e : y = o := by omega
                have h1 := List.getElem?_eq_some_iff.1 hy
                have h2 := List.getElem?_eq_some_iff.1 Ho.out
                have := (List.getElem_inj hinv.nodup (h₀ := h1.1) (h₁ := h2.1)).1 (by rw [h1.2, h2.2, e])
                omega
              have hju : (j : Int) < (un : Int) := by omega
              have hku' : (k : Int) < (un : Int) := by omega
              clear hy
              go_wp2_with fail
              go_quiet (fail)
              go_wp2
              go_roundw
              case rel => exact ⟨j + 1, hjk, by go_num, hf6.trans (Fr.drewN _ _ _)⟩
              case measure => simp [intOf]; omega
            · go_wp2
              go_roundw
              case rel => exact ⟨k + 1, hku, by go_num, hf6⟩
              case measure => simp [intOf]; omega
        · have hpg := hr.page.kept hf (fun e => e) (fun e => e)
          have hai := hinv.wf.alloc_iff
          rw [HU.out, Hslot.out, ← HQd.out] at hai
          cases ha : st.1.alloc with
          | none =>
            rw [ha] at hai
            have hno := Page_Alloc_no hpg ha
            unfold ptr v16 err at hno
            have hlq : ¬ un < Q := by have := of_decide_eq_false hai.symm; exact this
            have hlq2 : decide ((un : Int) < (Q : Int)) = false := decide_eq_false (by omega)
            clear hai ha
            go_wp2_with (go_at_call 14; refine hno.mono ?_; rintro e w5 ⟨rfl, rfl⟩)
            go_loop [12] (fun i => ∃ j : Nat, Hid (j ≤ un) ∧ i = .int .i64 j) (fun i => un - (intOf i).toNat)
            case atStart => exact ⟨0, Nat.zero_le _, rfl⟩
            case round =>
              obtain ⟨j, hj, rfl⟩ := hrel
              by_cases hju : j < un
              · go_wp2
                go_round
                case rel => exact ⟨j + 1, hju, by go_num⟩
                case measure => simp [intOf]; omega
              · go_wp2
                go_ret
                exact ⟨rfl, (f2.trans (hr.fr.trans hf)).trans (Fr.drew _ _)⟩
          | some ks =>
            obtain ⟨ki, s'⟩ := ks
            rw [ha] at hai
            have hyes := Page_Alloc_yes hpg ha
            obtain ⟨_, q2, _⟩ := hinv.wf.alloc ha
            rw [Hslot.out] at hyes q2
            generalize ki * sl = of at hyes q2
            unfold ptr v16 err at hyes
            have hlq : un < Q := of_decide_eq_true hai.symm
            have hlq2 : decide ((un : Int) < (Q : Int)) = true := decide_eq_true (by omega)
            have Q2 := Lib.hid q2
            clear hai ha q2
            go_wp2_with (go_at_call 14; refine hyes.mono ?_; rintro e w5 ⟨rfl, hp5, f5⟩)
            have hsl5 := (hr.sl.kept0 hf).kept f5 (fun i hi e => by rcases e with e | e; exact (hr.own i hi).2.1 e; exact (hr.own i hi).2.2 e)
            go_loop [12] (fun i => ∃ j : Nat, Hid (j ≤ un) ∧ i = .int .i64 j) (fun i => un - (intOf i).toNat)
            case atStart => exact ⟨0, Nat.zero_le _, rfl⟩
            case round =>
              obtain ⟨j, hj, rfl⟩ := hrel
              by_cases hju : j < un
              · obtain ⟨y, hy⟩ : ∃ y, st.2[j]? = some y := ⟨st.2[j]'(by have := hHU.out; omega), List.getElem?_eq_getElem _⟩
                obtain ⟨g, rfl⟩ := hr.sl.isAddr (by omega)
                have cy := hsl5.cell (i := j) (v := v16 y) (by rw [List.getElem?_map, hy]; rfl)
                unfold v16 at cy
                have hne : ((y : Int) == (of : Int)) = false := by
                  rw [beq_eq_false_iff_ne]
                  intro e
                  have e : y = of := by omega
                  have := (hinv.mem y).1 (List.mem_of_getElem? hy)
                  rw [e, Q2.out] at this; simp at this
                clear hy
                go_wp2
                go_round
                case rel => exact ⟨j + 1, hju, by go_num⟩
                case measure => simp [intOf]; omega
              · go_wp2
                go_ret
                exact ⟨rfl, Fr.step (f2.trans (hr.fr.trans hf)) f5 (fun i hi e => by have := hr.pb; have := f2.size; rcases e with rfl | rfl <;> omega)⟩
    · have hrn := fun w v => run_no w slot (by omega) v
      have Hrn := Lib.hid hrn
      clear hrn hs
      go_enter Try.func5, Try.ntmps5
      go_wp2_with (first
        | (go_at_call 9; refine Hlg.out.mono ?_; rintro e w1 ⟨rfl, rfl⟩)
        | (go_at_call 10; refine (awake_any _).mono ?_; rintro e w2 ⟨rfl, f2⟩)
        | (go_at_call 11; refine (Hrn.out _ _).mono ?_; rintro e w3 ⟨rfl, rfl⟩))
      go_ret
      exact ⟨rfl, f2⟩
end Go.Proofs.Ytekojokdeimgpaa
