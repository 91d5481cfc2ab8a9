/-
  Package view, plainly: which writers are busy for a view; what it sees; the least one that it does not see. Nothing of the program in it.
-/
import Derived.Test.YtnnomeichppkpaaOwn
import Derived.Lib.SlicesCompact
namespace Go.Proofs.Ytnnomeichppkpaa
open Go.RowKit
set_option linter.unusedVariables false
set_option linter.unusedSimpArgs false

/-- Rising, none twice. -/
abbrev Rise (l : List Int) : Prop := l.Pairwise (· < ·)
theorem rise_ext {l m : List Int} (h1 : Rise l) (h2 : Rise m) (h : ∀ x, x ∈ l ↔ x ∈ m) : l = m := by
  have n1 : l.Nodup := h1.imp (fun hab e => by omega)
  have n2 : m.Nodup := h2.imp (fun hab e => by omega)
  refine List.Perm.eq_of_pairwise (le := fun a b : Int => a < b) ?_ h1 h2 ((List.perm_ext_iff_of_nodup n1 n2).2 h)
  intro a b _ _ q1 q2; omega

theorem compactUpTo_rise (d : Array Int) (hs : ∀ i j, i ≤ j → j < d.size → d[i]! ≤ d[j]!) : ∀ m, m ≤ d.size → Rise (Lib.compactUpTo d m) ∧ ∀ x, x ∈ Lib.compactUpTo d m ↔ ∃ j, j < m ∧ d[j]! = x
  | 0, _ => ⟨by simp [Lib.compactUpTo], by simp [Lib.compactUpTo]⟩
  | m + 1, hm => by
    obtain ⟨h1, h2⟩ := compactUpTo_rise d hs m (by omega)
    rw [Lib.compactUpTo_succ]
    by_cases hk : Lib.keeps d m = true
    · rw [if_pos hk]
      have hk' : m = 0 ∨ d[m]! ≠ d[m - 1]! := of_decide_eq_true hk
      constructor
      · refine List.pairwise_append.2 ⟨h1, by simp, fun a ha b hb => ?_⟩
        simp only [List.mem_singleton] at hb
        subst hb
        obtain ⟨j, hj, rfl⟩ := (h2 a).1 ha
        have q1 := hs j (m - 1) (by omega) (by omega)
        have q2 := hs (m - 1) m (by omega) (by omega)
        rcases hk' with h0 | h0
        · omega
        · omega
      · intro x
        rw [List.mem_append, h2, List.mem_singleton]
        constructor
        · rintro (⟨j, hj, e⟩ | e)
          · exact ⟨j, by omega, e⟩
          · exact ⟨m, by omega, e.symm⟩
        · rintro ⟨j, hj, e⟩
          by_cases hjm : j = m
          · subst hjm; exact Or.inr e.symm
          · exact Or.inl ⟨j, by omega, e⟩
    · rw [if_neg hk, List.append_nil]
      have hk' : ¬ (m = 0 ∨ d[m]! ≠ d[m - 1]!) := fun h => hk (decide_eq_true h)
      refine ⟨h1, fun x => ?_⟩
      rw [h2]
      constructor
      · rintro ⟨j, hj, e⟩; exact ⟨j, by omega, e⟩
      · rintro ⟨j, hj, e⟩
        by_cases hjm : j = m
        · subst hjm
          refine ⟨j - 1, by omega, ?_⟩
          have : ¬ d[j]! ≠ d[j - 1]! := fun h => hk' (Or.inr h)
          rw [← e]; exact (Classical.not_not.1 this).symm
        · exact ⟨j, by omega, e⟩

theorem compact_rise {l : List Int} (hs : l.Pairwise (· ≤ ·)) : Rise (Lib.compact l) ∧ ∀ x, x ∈ Lib.compact l ↔ x ∈ l := by
  have key := compactUpTo_rise l.toArray (fun i j hij hj => by
    have hj' : j < l.length := by simpa using hj
    rw [getElem!_pos l.toArray i (by simp; omega), getElem!_pos l.toArray j hj]
    simp only [List.getElem_toArray]
    by_cases e : i = j
    · subst e; exact Int.le_refl _
    · exact List.pairwise_iff_getElem.1 hs i j (by omega) hj' (by omega)) l.length (by simp)
  refine ⟨key.1, fun x => (key.2 x).trans ?_⟩
  constructor
  · rintro ⟨j, hj, e⟩
    rw [getElem!_pos l.toArray j (by simpa using hj)] at e
    rw [← e]; simp
  · intro h
    obtain ⟨j, hj, e⟩ := List.getElem_of_mem h
    exact ⟨j, hj, by rw [getElem!_pos l.toArray j (by simpa using hj)]; simpa using e⟩

/-- Is a writer not one that counts? -/
def vwOut (own high w : Int) : Bool := decide (w < 1) || decide (high ≤ w) || w == own
theorem vwOut_iff {own high w : Int} : vwOut own high w = false ↔ 1 ≤ w ∧ w < high ∧ w ≠ own := by
  unfold vwOut; simp [beq_eq_false_iff_ne]; omega
def vwLeft (own high : Int) (l : List Int) : List Int := l.filter (fun x => !vwOut own high x)
def vwBusy (own high : Int) (l : List Int) : List Int := Lib.compact ((vwLeft own high l).mergeSort (fun x y => decide (x ≤ y)))
theorem vwBusy_spec (own high : Int) (l : List Int) : Rise (vwBusy own high l) ∧ ∀ x, x ∈ vwBusy own high l ↔ x ∈ l ∧ 1 ≤ x ∧ x < high ∧ x ≠ own := by
  have hs : ((vwLeft own high l).mergeSort (fun x y => decide (x ≤ y))).Pairwise (· ≤ ·) :=
    (List.pairwise_mergeSort (fun a b c h1 h2 => by have := of_decide_eq_true h1; have := of_decide_eq_true h2; exact decide_eq_true (by omega)) (fun a b => by simp; omega) _).imp (fun h => of_decide_eq_true h)
  obtain ⟨h1, h2⟩ := compact_rise hs
  refine ⟨h1, fun x => (h2 x).trans ?_⟩
  rw [List.mem_mergeSort]
  unfold vwLeft
  rw [List.mem_filter]
  simp only [Bool.not_eq_true', vwOut_iff]
theorem vwBusy_length (own high : Int) (l : List Int) : (vwBusy own high l).length ≤ l.length := by
  unfold vwBusy
  have h1 : ∀ z : List Int, (Lib.compact z).length ≤ z.length := by
    intro z
    unfold Lib.compact Lib.compactUpTo
    rw [List.length_map]
    exact Nat.le_trans (List.length_filter_le _ _) (by simp)
  refine Nat.le_trans (h1 _) ?_
  rw [List.length_mergeSort]
  exact List.length_filter_le _ _

/-- Is a number among these? -/
def hasI (l : List Int) (x : Int) : Bool := l.contains x
theorem hasI_iff {l : List Int} {x : Int} : hasI l x = true ↔ x ∈ l := by unfold hasI; simp
/-- What a view sees. -/
def vwSees (own high : Int) (l : List Int) (w : Int) : Bool := decide (1 ≤ w) && (w == own || (decide (w < high) && !hasI l w))
theorem vwSees_iff {own high : Int} {l : List Int} {w : Int} : vwSees own high l w = true ↔ 1 ≤ w ∧ (w = own ∨ (w < high ∧ w ∉ l)) := by
  unfold vwSees hasI; simp

def mostI : Int := 9223372036854775807
def vwFrom (high : Int) : Int := max 1 high
/-- The least writer that a view does not see, of those that are asked. -/
def vwLeastOf (own high : Int) (l : List Int) : List Int → Int → Int
  | [], acc => acc
  | w :: r, acc => vwLeastOf own high l r (if (1 ≤ w ∧ w < acc) ∧ vwSees own high l w = false then w else acc)
def vwLeast (own high : Int) (l : List Int) : Int :=
  vwLeastOf own high l (vwFrom high :: (min (vwFrom high) (mostI - 1) + 1) :: l) mostI

theorem vwLeastOf_spec (own high : Int) (l : List Int) : ∀ (c : List Int) (acc : Int), vwLeastOf own high l c acc ≤ acc ∧ (∀ w ∈ c, 1 ≤ w → vwSees own high l w = false → vwLeastOf own high l c acc ≤ w) ∧ (vwLeastOf own high l c acc = acc ∨ (vwLeastOf own high l c acc ∈ c ∧ 1 ≤ vwLeastOf own high l c acc ∧ vwSees own high l (vwLeastOf own high l c acc) = false))
  | [], acc => ⟨Int.le_refl _, by simp, Or.inl rfl⟩
  | w :: r, acc => by
    have ih := vwLeastOf_spec own high l r (if (1 ≤ w ∧ w < acc) ∧ vwSees own high l w = false then w else acc)
    show vwLeastOf own high l r (if (1 ≤ w ∧ w < acc) ∧ vwSees own high l w = false then w else acc) ≤ acc ∧ _
    change _ ∧ (∀ x ∈ w :: r, 1 ≤ x → vwSees own high l x = false → vwLeastOf own high l r (if (1 ≤ w ∧ w < acc) ∧ vwSees own high l w = false then w else acc) ≤ x) ∧ (vwLeastOf own high l r (if (1 ≤ w ∧ w < acc) ∧ vwSees own high l w = false then w else acc) = acc ∨ (vwLeastOf own high l r (if (1 ≤ w ∧ w < acc) ∧ vwSees own high l w = false then w else acc) ∈ w :: r ∧ 1 ≤ vwLeastOf own high l r (if (1 ≤ w ∧ w < acc) ∧ vwSees own high l w = false then w else acc) ∧ vwSees own high l (vwLeastOf own high l r (if (1 ≤ w ∧ w < acc) ∧ vwSees own high l w = false then w else acc)) = false))
    by_cases h : (1 ≤ w ∧ w < acc) ∧ vwSees own high l w = false
    · rw [if_pos h] at ih ⊢
      generalize vwLeastOf own high l r w = m at ih ⊢
      refine ⟨by omega, fun x hx h1 h2 => ?_, ?_⟩
      · rcases List.mem_cons.1 hx with rfl | hx
        · exact ih.1
        · exact ih.2.1 x hx h1 h2
      · rcases ih.2.2 with e | ⟨q1, q2, q3⟩
        · subst e; exact Or.inr ⟨List.mem_cons_self .., h.1.1, h.2⟩
        · exact Or.inr ⟨List.mem_cons_of_mem _ q1, q2, q3⟩
    · rw [if_neg h] at ih ⊢
      generalize vwLeastOf own high l r acc = m at ih ⊢
      refine ⟨ih.1, fun x hx h1 h2 => ?_, ?_⟩
      · rcases List.mem_cons.1 hx with rfl | hx
        · have : ¬ x < acc := fun hlt => h ⟨⟨h1, hlt⟩, h2⟩
          have := ih.1; omega
        · exact ih.2.1 x hx h1 h2
      · rcases ih.2.2 with e | ⟨q1, q2, q3⟩
        · exact Or.inl e
        · exact Or.inr ⟨List.mem_cons_of_mem _ q1, q2, q3⟩

/-- What the least one is. -/
structure LeastIs (own high : Int) (l : List Int) (m : Int) : Prop where
  one : 1 ≤ m
  most : m ≤ mostI
  not_ : m < mostI → vwSees own high l m = false
  below : ∀ w, 1 ≤ w → w < m → vwSees own high l w = true
theorem LeastIs.uniq {own high : Int} {l : List Int} {m n : Int} (h : LeastIs own high l m) (k : LeastIs own high l n) : m = n := by
  rcases Int.lt_trichotomy m n with q | q | q
  · have h1 := k.below m h.one q
    have h2 := h.not_ (by have := k.most; omega)
    rw [h1] at h2; cases h2
  · exact q
  · have h1 := h.below n k.one q
    have h2 := k.not_ (by have := h.most; omega)
    rw [h1] at h2; cases h2
theorem vwSees_false {own high : Int} {l : List Int} {w : Int} (h1 : 1 ≤ w) : vwSees own high l w = false ↔ w ≠ own ∧ (high ≤ w ∨ w ∈ l) := by
  constructor
  · intro h
    constructor
    · intro e
      have := (vwSees_iff (own := own) (high := high) (l := l) (w := w)).2 ⟨h1, Or.inl e⟩
      rw [h] at this; cases this
    · by_cases h2 : high ≤ w
      · exact Or.inl h2
      · by_cases h3 : w ∈ l
        · exact Or.inr h3
        · have := (vwSees_iff (own := own) (high := high) (l := l) (w := w)).2 ⟨h1, Or.inr ⟨by omega, h3⟩⟩
          rw [h] at this; cases this
  · rintro ⟨h2, h3⟩
    cases hq : vwSees own high l w with
    | false => rfl
    | true =>
      rcases (vwSees_iff.1 hq).2 with e | e
      · exact absurd e h2
      · rcases h3 with h3 | h3
        · omega
        · exact absurd h3 e.2
theorem vwLeast_is (own high : Int) (l : List Int) (hh : high ≤ mostI) : LeastIs own high l (vwLeast own high l) := by
  obtain ⟨h1, h2, h3⟩ := vwLeastOf_spec own high l (vwFrom high :: (min (vwFrom high) (mostI - 1) + 1) :: l) mostI
  change vwLeast own high l ≤ mostI at h1
  change ∀ w ∈ (vwFrom high :: (min (vwFrom high) (mostI - 1) + 1) :: l), 1 ≤ w → vwSees own high l w = false → vwLeast own high l ≤ w at h2
  change vwLeast own high l = mostI ∨ (vwLeast own high l ∈ (vwFrom high :: (min (vwFrom high) (mostI - 1) + 1) :: l) ∧ 1 ≤ vwLeast own high l ∧ vwSees own high l (vwLeast own high l) = false) at h3
  generalize vwLeast own high l = m at h1 h2 h3 ⊢
  have hf1 : 1 ≤ vwFrom high := by unfold vwFrom; omega
  have hf2 : high ≤ vwFrom high := by unfold vwFrom; omega
  have hf3 : vwFrom high ≤ mostI := by unfold vwFrom mostI at *; omega
  have hf4 : vwFrom high = high ∨ vwFrom high = 1 := by unfold vwFrom; omega
  generalize vwFrom high = f at *
  have hm : mostI = 9223372036854775807 := rfl
  refine ⟨?_, h1, fun hlt => ?_, fun w w1 w2 => ?_⟩
  · rcases h3 with h3 | h3
    · omega
    · exact h3.2.1
  · rcases h3 with h3 | h3
    · omega
    · exact h3.2.2
  · cases hq : vwSees own high l w with
    | true => rfl
    | false =>
      exfalso
      obtain ⟨q1, q2⟩ := (vwSees_false w1).1 hq
      rcases q2 with q2 | q2
      · have hfw : f ≤ w := by rcases hf4 with e | e <;> omega
        by_cases hfo : f = own
        · have hmin : min f (mostI - 1) = f := by omega
          have := h2 (min f (mostI - 1) + 1) (by simp) (by omega) ((vwSees_false (by omega)).2 ⟨by omega, Or.inl (by omega)⟩)
          omega
        · have := h2 f (by simp) hf1 ((vwSees_false hf1).2 ⟨hfo, Or.inl hf2⟩)
          omega
      · have := h2 w (by simp [q2]) w1 hq
        omega

def vrStep (own high acc w : Int) : Int := if ((1 ≤ w ∧ w < high) ∧ w ≠ own) ∧ w < acc then w else acc
def vrMin (own high : Int) : List Int → Int → Int
  | [], acc => acc
  | w :: r, acc => vrMin own high r (vrStep own high acc w)
theorem vrMin_snoc (own high x : Int) : ∀ (l : List Int) (acc : Int), vrMin own high (l ++ [x]) acc = vrStep own high (vrMin own high l acc) x
  | [], acc => rfl
  | y :: l, acc => vrMin_snoc own high x l _
theorem vrMin_spec (own high : Int) : ∀ (l : List Int) (acc : Int), vrMin own high l acc ≤ acc ∧ (∀ w ∈ l, 1 ≤ w → w < high → w ≠ own → vrMin own high l acc ≤ w) ∧ (vrMin own high l acc = acc ∨ (vrMin own high l acc ∈ l ∧ 1 ≤ vrMin own high l acc ∧ vrMin own high l acc < high ∧ vrMin own high l acc ≠ own))
  | [], acc => ⟨Int.le_refl _, by simp, Or.inl rfl⟩
  | w :: r, acc => by
    have ih := vrMin_spec own high r (vrStep own high acc w)
    have e : vrMin own high (w :: r) acc = vrMin own high r (vrStep own high acc w) := rfl
    rw [e]
    generalize vrMin own high r (vrStep own high acc w) = m at ih ⊢
    unfold vrStep at ih
    by_cases h : ((1 ≤ w ∧ w < high) ∧ w ≠ own) ∧ w < acc
    · rw [if_pos h] at ih
      refine ⟨by omega, fun x hx h1 h2 h3 => ?_, ?_⟩
      · rcases List.mem_cons.1 hx with rfl | hx
        · exact ih.1
        · exact ih.2.1 x hx h1 h2 h3
      · rcases ih.2.2 with e | ⟨q1, q2⟩
        · subst e; exact Or.inr ⟨List.mem_cons_self .., h.1.1.1, h.1.1.2, h.1.2⟩
        · exact Or.inr ⟨List.mem_cons_of_mem _ q1, q2⟩
    · rw [if_neg h] at ih
      refine ⟨ih.1, fun x hx h1 h2 h3 => ?_, ?_⟩
      · rcases List.mem_cons.1 hx with rfl | hx
        · have : ¬ x < acc := fun hlt => h ⟨⟨⟨h1, h2⟩, h3⟩, hlt⟩
          have := ih.1; omega
        · exact ih.2.1 x hx h1 h2 h3
      · rcases ih.2.2 with e | ⟨q1, q2⟩
        · exact Or.inl e
        · exact Or.inr ⟨List.mem_cons_of_mem _ q1, q2⟩
/-- The reference's least one is the same. -/
theorem vrLeast_eq (own high : Int) (l : List Int) (hh : high ≤ mostI) (f f' : Int) (hf : f = if 1 < high then high else 1) (hf' : f' = if f = own ∧ f < mostI then f + 1 else f) :
    (if f' < vrMin own high l mostI then f' else vrMin own high l mostI) = vwLeast own high l := by
  refine LeastIs.uniq (own := own) (high := high) (l := l) ?_ (vwLeast_is own high l hh)
  obtain ⟨h1, h2, h3⟩ := vrMin_spec own high l mostI
  generalize vrMin own high l mostI = r at h1 h2 h3 ⊢
  have hm : mostI = 9223372036854775807 := rfl
  have hf1 : 1 ≤ f := by rw [hf]; split <;> omega
  have hf2 : high ≤ f := by rw [hf]; split <;> omega
  have hf3 : f ≤ mostI := by rw [hf]; split <;> omega
  have hf4 : f = high ∨ f = 1 := by rw [hf]; split <;> simp
  have g1 : f ≤ f' := by rw [hf']; split <;> omega
  have g2 : f' ≤ mostI := by rw [hf']; split <;> omega
  have g3 : f' < mostI → f' ≠ own := by rw [hf']; split <;> omega
  have g4 : f' = f ∨ (f' = f + 1 ∧ f = own) := by rw [hf']; split <;> omega
  clear hf hf'
  by_cases hlt : f' < r
  · rw [if_pos hlt]
    refine ⟨by omega, g2, fun hq => (vwSees_false (by omega)).2 ⟨g3 hq, Or.inl (by omega)⟩, fun w w1 w2 => ?_⟩
    cases hq : vwSees own high l w with
    | true => rfl
    | false =>
      exfalso
      obtain ⟨q1, q2⟩ := (vwSees_false w1).1 hq
      by_cases hw : high ≤ w
      · have : f ≤ w := by rcases hf4 with e | e <;> omega
        rcases g4 with e | e <;> omega
      · rcases q2 with q2 | q2
        · exact hw q2
        · have := h2 w q2 w1 (by omega) q1
          omega
  · rw [if_neg hlt]
    have hr1 : 1 ≤ r := by rcases h3 with h3 | h3; omega; exact h3.2.1
    refine ⟨hr1, h1, fun hq => ?_, fun w w1 w2 => ?_⟩
    · rcases h3 with h3 | h3
      · omega
      · exact (vwSees_false hr1).2 ⟨h3.2.2.2, Or.inr h3.1⟩
    · cases hq : vwSees own high l w with
      | true => rfl
      | false =>
        exfalso
        obtain ⟨q1, q2⟩ := (vwSees_false w1).1 hq
        by_cases hw : high ≤ w
        · have : f ≤ w := by rcases hf4 with e | e <;> omega
          rcases g4 with e | e <;> omega
        · rcases q2 with q2 | q2
          · exact hw q2
          · have := h2 w q2 w1 (by omega) q1
            omega
end Go.Proofs.Ytnnomeichppkpaa
