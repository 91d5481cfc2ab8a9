/-
  Package view: Sees, busy, Least, Same, Copy, as the program computes them.
-/
import Derived.Test.YtnnomeichppkpaaShelf
import Derived.Test.YtnnomeichppkpaaSlx
import Derived.Test.YtnnomeichppkpaaVwP
import Derived.Deep.QuietTactic
import Derived.BigQuiet
namespace Go.Proofs.Ytnnomeichppkpaa
open Go.RowKit Go.Sort
set_option linter.unusedVariables false
set_option linter.unusedSimpArgs false
set_option maxRecDepth 100000

def encI : Int → Value := Value.int .i64
theorem encI_one (x : Int) : (encI x).oneCell' = true := rfl
/-- A slice of ints that reads as a list. -/
abbrev IntsAt (w : World) (a : Option Addr) (l : List Int) : Prop := LsAt w a 1 (fun x => [encI x]) l
theorem IntsAt.cells {w : World} {b o : Nat} {l : List Int} (h : IntsAt w (some ⟨b, o, none⟩) l) : ∀ j, j < l.length → w.cell? ⟨b, o + j, none⟩ = some (.int .i64 (l.getD j 0)) := by
  intro j hj
  rcases h with h | ⟨b', o', e, hb, hc⟩
  · subst h; simp at hj
  · cases e
    have := hc j _ (List.getElem?_eq_getElem hj) 0 _ rfl
    simp only [Nat.mul_one, Nat.add_zero] at this
    rw [this]
    simp [encI, List.getD, hj]
theorem IntsAt.some_ {w : World} {a : Option Addr} {l : List Int} (h : IntsAt w a l) (hn : l ≠ []) : ∃ b o, a = some ⟨b, o, none⟩ := by
  rcases h with h | ⟨b', o', e, hb, hc⟩
  · exact absurd h hn
  · exact ⟨b', o', e⟩

theorem contains_any (w : World) (a : Option Addr) (n c : Nat) (l : List Int) (x : Int) (h : IntsAt w a l) (hn : n = l.length) (hb : n ≤ 1000000) :
    Calls Try.prog 29 #[.slice a n c, .int .i64 x] w fun e w' => e = .returned (.bool (hasI l x)) ∧ w = w' := by
  subst hn
  by_cases hl : l = []
  · subst hl
    refine (AnyG.slices_Contains_int_empty containsA a c x w).mono ?_
    rintro e w' ⟨rfl, rfl⟩; exact ⟨by simp [hasI], rfl⟩
  · obtain ⟨b, o, rfl⟩ := h.some_ hl
    refine (AnyG.slices_Contains_int containsA b o l.length c l x w (Nat.le_refl _) (by omega) h.cells).mono ?_
    rintro e w' ⟨rfl, rfl⟩; exact ⟨by rw [List.take_length]; rfl, rfl⟩
theorem equal_lens (w : World) (a a' : Option Addr) (n c n' c' : Nat) (h : ((n : Int) != (n' : Int)) = true) :
    Calls Try.prog 22 #[.slice a n c, .slice a' n' c'] w fun e w' => e = .returned (.bool false) ∧ w = w' := by
  go_enter Try.func22, Try.ntmps22
  go_wp2
  go_ret
  exact ⟨rfl, rfl⟩
theorem equal_any (w : World) (a a' : Option Addr) (n c n' c' : Nat) (l m : List Int) (h : IntsAt w a l) (hn : n = l.length) (hb : n ≤ 1000000) (h' : IntsAt w a' m) (hn' : n' = m.length) (hb' : n' ≤ 1000000) :
    Calls Try.prog 22 #[.slice a n c, .slice a' n' c'] w fun e w' => e = .returned (.bool (decide (l = m))) ∧ Fr none_ w w' := by
  subst hn; subst hn'
  by_cases hl : l = []
  · subst hl
    refine (AnyG.slices_Equal_int_empty equalA a a' c m.length c' w (by omega)).mono ?_
    rintro e w' ⟨rfl, rfl⟩
    refine ⟨?_, Fr.refl _ _⟩
    congr 2
    cases m <;> simp
  · obtain ⟨b, o, rfl⟩ := h.some_ hl
    by_cases hm : m = []
    · subst hm
      refine (equal_lens w _ a' l.length c 0 c' (by
        have : 0 < l.length := List.length_pos_iff.2 hl
        simp; omega)).mono ?_
      rintro e w' ⟨rfl, rfl⟩
      exact ⟨by simp [hl], Fr.refl _ _⟩
    · obtain ⟨b', o', rfl⟩ := h'.some_ hm
      refine (AnyG.slices_Equal_int equalA b o l.length c b' o' m.length c' l m w (Nat.le_refl _) (Nat.le_refl _) (by omega) (by omega) h.cells h'.cells).mono ?_
      rintro e w' ⟨rfl, q, rfl⟩
      refine ⟨?_, Fr.drewN _ _ _⟩
      rw [List.take_length, List.take_length]
      congr 2
      rw [Bool.eq_iff_iff]; simp
theorem clone_any (w : World) (a : Option Addr) (n c : Nat) (l : List Int) (h : IntsAt w a l) (hn : n = l.length) (hb : n ≤ 1000000) :
    Calls Try.prog 24 #[.slice a n c] w fun e w' => ∃ a' cap', e = .returned (.slice a' n cap') ∧ SlAt w' a' n cap' 3 1 (l.map encI) ∧ Fr none_ w w' ∧ ∀ k, blk a' k → w.heap.size ≤ k := by
  subst hn
  cases a with
  | none =>
    refine (AnyG.slices_Clone_int_nil cloneA l.length c w).mono ?_
    rintro e w' ⟨rfl, rfl⟩
    rcases h with h | ⟨b, o, e, _⟩
    · subst h
      exact ⟨none, 0, rfl, SlAt.empty _ _ _, Fr.refl _ _, fun k hk => absurd hk (blk_none k)⟩
    · cases e
  | some ad =>
    by_cases hl : l = []
    · subst hl
      refine (AnyG.slices_Clone_int_zero cloneA ad c w).mono ?_
      rintro e w' ⟨v, rfl, ho, _, hbl⟩
      obtain ⟨a', cap, rfl, q1, q2⟩ := SlAt.of_owns ho
      exact ⟨a', cap, rfl, q1, Fr.of_below hbl none_ (fun k h1 h2 => by omega), q2⟩
    · obtain ⟨b, o, e⟩ := h.some_ hl
      cases e
      refine (AnyG.slices_Clone_int cloneA b o l.length c l w (Nat.le_refl _) (by omega) h.cells).mono ?_
      rintro e w' ⟨v, rfl, ho, _, hbl⟩
      rw [List.take_length] at ho
      obtain ⟨a', cap, rfl, q1, q2⟩ := SlAt.of_owns ho
      exact ⟨a', cap, rfl, q1, Fr.of_below hbl none_ (fun k h1 h2 => by omega), q2⟩

/-- The view's value. -/
def vwV (own high : Int) (a : Option Addr) (n c : Nat) : Value := .agg #[.int .i64 own, .int .i64 high, .slice a n c]

theorem busy1_any (w : World) (b : Nat) (a : Option Addr) (n c : Nat) (l : List Int) (x : Int) (hc : w.cell? ⟨b, 2, none⟩ = some (.slice a n c)) (h : IntsAt w a l) (hn : n = l.length) (hb : n ≤ 1000000) :
    Calls Try.prog 28 #[.int .i64 x, .pointer (some ⟨b, 0, none⟩)] w fun e w' => e = .returned (.bool (hasI l x)) ∧ w = w' := by
  have C := Lib.hid (contains_any w a n c l x h hn hb)
  clear h hn hb
  go_enter Try.func28, Try.ntmps28
  go_wp2_with fail
  refine C.out.mono ?_
  rintro e w' ⟨rfl, rfl⟩
  go_wp2
  go_ret
  exact ⟨rfl, rfl⟩
theorem busy_any (w : World) (own high : Int) (a : Option Addr) (n c : Nat) :
    Calls Try.prog 21 #[.agg #[.int .i64 own, .int .i64 high, .slice a n c]] w fun e w' => e = .returned (.func (.func 28) #[] #[.pointer (some ⟨w.heap.size, 0, none⟩)]) ∧ w' = w.alloc (.cells #[.int .i64 own, .int .i64 high, .slice a n c] 25) := by
  go_enter Try.func21, Try.ntmps21
  go_wp2
  go_ret
  exact ⟨rfl, rfl⟩
theorem fr_box (w : World) (o : Obj) : Fr none_ w (w.alloc o) := Fr.alloc _ _ _
set_option maxHeartbeats 1000000 in
theorem Sees_any (w : World) (own high : Int) (a : Option Addr) (n c : Nat) (l : List Int) (x : Int) (h : IntsAt w a l) (hn : n = l.length) (hb : n ≤ 1000000) :
    Calls Try.prog 9 #[.agg #[.int .i64 own, .int .i64 high, .slice a n c], .int .i64 x] w fun e w' => e = .returned (.bool (vwSees own high l x)) ∧ Fr none_ w w' := by
  by_cases h1 : 1 ≤ x
  · by_cases h2 : x = own
    · have hs : vwSees own high l x = true := vwSees_iff.2 ⟨h1, Or.inl h2⟩
      have b2 : (x == own) = true := by simpa using h2
      rw [hs]
      clear hs h2 h hn
      go_enter Try.func9, Try.ntmps9
      go_wp2
      go_ret
      exact ⟨rfl, fr_box _ _⟩
    · have b2 : (x == own) = false := by simpa using h2
      by_cases h3 : x < high
      · have hs : vwSees own high l x = !hasI l x := by
          unfold vwSees
          rw [b2]
          simp [h1, h3]
        rw [hs]
        have B := fun w => busy_any w own high a n c
        have BB := Lib.hid B
        have C := Lib.hid (fun w' (f : Fr none_ w w') (b : Nat) (hc : w'.cell? ⟨b, 2, none⟩ = some (.slice a n c)) => busy1_any w' b a n c l x hc (h.kept0 f) hn hb)
        clear hs h2 h hn hb B
        go_enter Try.func9, Try.ntmps9
        go_wp2_with fail
        refine (BB.out _).mono ?_
        rintro e w1 ⟨rfl, rfl⟩
        go_wp2_with fail
        refine (C.out _ ((fr_box _ _).alloc_r _) _ (by simp)).mono ?_
        rintro e w1 ⟨rfl, rfl⟩
        go_wp2
        go_ret
        exact ⟨rfl, (fr_box _ _).alloc_r _⟩
      · have hs : vwSees own high l x = false := by
          cases hq : vwSees own high l x with
          | false => rfl
          | true =>
            rcases (vwSees_iff.1 hq).2 with e | e
            · exact absurd e h2
            · exact absurd e.1 h3
        rw [hs]
        clear hs h2 h hn
        go_enter Try.func9, Try.ntmps9
        go_wp2
        go_ret
        exact ⟨rfl, fr_box _ _⟩
  · have hs : vwSees own high l x = false := by
      cases hq : vwSees own high l x with
      | false => rfl
      | true => exact absurd (vwSees_iff.1 hq).1 h1
    rw [hs]
    clear hs h hn
    go_enter Try.func9, Try.ntmps9
    go_wp2
    go_ret
    exact ⟨rfl, fr_box _ _⟩

/-- Are two views the same? -/
def vwSame (o1 h1 : Int) (l1 : List Int) (o2 h2 : Int) (l2 : List Int) : Bool := o1 == o2 && h1 == h2 && decide (l1 = l2)
set_option maxHeartbeats 1000000 in
theorem Same_any (w : World) (o1 h1 : Int) (a1 : Option Addr) (n1 c1 : Nat) (l1 : List Int) (o2 h2 : Int) (a2 : Option Addr) (n2 c2 : Nat) (l2 : List Int) (q1 : IntsAt w a1 l1) (hn1 : n1 = l1.length) (hb1 : n1 ≤ 1000000) (q2 : IntsAt w a2 l2) (hn2 : n2 = l2.length) (hb2 : n2 ≤ 1000000) :
    Calls Try.prog 11 #[.agg #[.int .i64 o1, .int .i64 h1, .slice a1 n1 c1], .agg #[.int .i64 o2, .int .i64 h2, .slice a2 n2 c2]] w fun e w' => e = .returned (.bool (vwSame o1 h1 l1 o2 h2 l2)) ∧ Fr none_ w w' := by
  have C := Lib.hid (fun w' (f : Fr none_ w w') => equal_any w' a1 a2 n1 c1 n2 c2 l1 l2 (q1.kept0 f) hn1 hb1 (q2.kept0 f) hn2 hb2)
  clear q1 q2 hn1 hb1 hn2 hb2
  unfold vwSame
  cases b1 : (o1 == o2)
  · go_enter Try.func11, Try.ntmps11
    go_wp2
    go_ret
    exact ⟨rfl, (fr_box _ _).alloc_r _⟩
  · cases b2 : (h1 == h2)
    · go_enter Try.func11, Try.ntmps11
      go_wp2
      go_ret
      exact ⟨rfl, (fr_box _ _).alloc_r _⟩
    · obtain ⟨r, HR⟩ : ∃ r, Hid (r = decide (l1 = l2)) := ⟨_, rfl⟩
      have C' := Lib.hid (fun w' (f : Fr none_ w w') => by have := C.out w' f; rw [← HR.out] at this; exact this)
      rw [← HR.out]
      clear C HR
      go_enter Try.func11, Try.ntmps11
      go_wp2_with fail
      refine (C'.out _ ((fr_box _ _).alloc_r _)).mono ?_
      rintro e w1 ⟨rfl, f⟩
      go_wp2
      go_ret
      exact ⟨rfl, ((fr_box _ _).alloc_r _).trans f⟩
end Go.Proofs.Ytnnomeichppkpaa
