/-
  A slice that reads as a list, each element as so many cells. Nothing of the program in it.
-/
import Derived.Test.YteefcfndlggajaaMgSlice
namespace Go.Proofs.Yteefcfndlggajaa
open Go.RowKit
set_option linter.unusedVariables false
set_option linter.unusedSimpArgs false

/-- A slice that reads as a list, each element as that many cells. -/
def LsAt {α : Type} (w : World) (a : Option Addr) (sz : Nat) (cells : α → List Value) (l : List α) : Prop :=
  l = [] ∨ ∃ b o, a = some ⟨b, o, none⟩ ∧ b < w.heap.size ∧ ∀ i x, l[i]? = some x → ∀ j v, (cells x)[j]? = some v → w.cell? ⟨b, o + i * sz + j, none⟩ = some v
theorem LsAt.kept {α : Type} {w w' : World} {a : Option Addr} {sz : Nat} {cells : α → List Value} {l : List α} {F : Nat → Prop} (h : LsAt w a sz cells l) (f : Fr F w w') (hn : ∀ k, blk a k → ¬ F k) : LsAt w' a sz cells l := by
  rcases h with h | ⟨b, o, ha, hb, hc⟩
  · exact Or.inl h
  · refine Or.inr ⟨b, o, ha, Nat.lt_of_lt_of_le hb f.size, fun i x hx j v hv => f.keepF (hn b ⟨_, ha, rfl⟩) (hc i x hx j v hv)⟩
theorem LsAt.kept0 {α : Type} {w w' : World} {a : Option Addr} {sz : Nat} {cells : α → List Value} {l : List α} (h : LsAt w a sz cells l) (f : Fr none_ w w') : LsAt w' a sz cells l := h.kept f (fun _ _ e => e)
theorem LsAt.get {α : Type} {w : World} {a : Option Addr} {sz : Nat} {cells : α → List Value} {l : List α} (h : LsAt w a sz cells l) {i : Nat} {x : α} (hx : l[i]? = some x) : ∃ b o, a = some ⟨b, o, none⟩ ∧ b < w.heap.size ∧ ∀ i x, l[i]? = some x → ∀ j v, (cells x)[j]? = some v → w.cell? ⟨b, o + i * sz + j, none⟩ = some v := by
  rcases h with h | h
  · rw [h] at hx; simp at hx
  · exact h
theorem flat_cells {α : Type} (cells : α → List Value) (sz : Nat) (hsz : ∀ x, (cells x).length = sz) : ∀ (l : List α) (i : Nat) (x : α), l[i]? = some x → ∀ j v, (cells x)[j]? = some v → (l.flatMap cells)[i * sz + j]? = some v
  | [], i, x, h => by simp at h
  | y :: r, 0, x, h => by
    intro j v hv
    simp at h; subst h
    rw [List.flatMap_cons, List.getElem?_append_left (by have := (List.getElem?_eq_some_iff.1 hv).1; omega)]
    simpa using hv
  | y :: r, i + 1, x, h => by
    intro j v hv
    have h' : r[i]? = some x := by simpa using h
    rw [List.flatMap_cons, List.getElem?_append_right (by rw [hsz, Nat.add_mul]; omega), hsz]
    have e : (i + 1) * sz + j - sz = i * sz + j := by rw [Nat.add_mul]; omega
    rw [e]
    exact flat_cells cells sz hsz r i x h' j v hv
theorem flat_one {α : Type} (enc : α → Value) (l : List α) : (l.flatMap fun x => [enc x]) = l.map enc := by
  induction l with
  | nil => rfl
  | cons x r ih => simp [List.flatMap_cons, ih]
theorem SlAt.ls1 {α : Type} {w : World} {a : Option Addr} {n cap : Nat} {e : TypeId} {enc : α → Value} {l : List α} (h : SlAt w a n cap e 1 (l.map enc)) (hn : n = l.length) : LsAt w a 1 (fun x => [enc x]) l := by
  cases l with
  | nil => exact Or.inl rfl
  | cons x r =>
    obtain ⟨g, rfl⟩ := h.isAddr (by rw [hn]; simp)
    refine Or.inr ⟨g, 0, rfl, h.lt g ⟨_, rfl, rfl⟩, fun i y hy j v hv => ?_⟩
    have hj : j = 0 := by have := (List.getElem?_eq_some_iff.1 hv).1; simp at this; omega
    subst hj
    have hv' : v = enc y := by simpa using hv.symm
    subst hv'
    rw [Nat.zero_add, Nat.mul_one, Nat.add_zero]
    exact h.cell (by rw [List.getElem?_map, hy]; rfl)
theorem SlAt.ls {α : Type} {w : World} {a : Option Addr} {n cap : Nat} {e : TypeId} {sz : Nat} {cells : α → List Value} {l : List α} (hsz : ∀ x, (cells x).length = sz) (h : SlAt w a n cap e sz (l.flatMap cells)) (hn : n = l.length) : LsAt w a sz cells l := by
  cases l with
  | nil => exact Or.inl rfl
  | cons x r =>
    obtain ⟨g, rfl⟩ := h.isAddr (by rw [hn]; simp)
    refine Or.inr ⟨g, 0, rfl, h.lt g ⟨_, rfl, rfl⟩, fun i y hy j v hv => ?_⟩
    rw [Nat.zero_add]
    exact h.cell (flat_cells cells sz hsz _ i y hy j v hv)
end Go.Proofs.Yteefcfndlggajaa
