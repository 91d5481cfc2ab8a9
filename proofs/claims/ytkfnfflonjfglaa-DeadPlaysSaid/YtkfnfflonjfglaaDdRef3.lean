/-
  The reference of layer 10: what Add makes of a row (plain).
-/
import Derived.Test.YtkfnfflonjfglaaDdRef
namespace Go.Proofs.Ytkfnfflonjfglaa
open Go.RowKit
set_option linter.unusedVariables false
set_option linter.unusedSimpArgs false
set_option maxRecDepth 100000

def insT (t : Int) : List Int → List Int
  | [] => [t]
  | x :: r => if t < x then t :: x :: r else x :: insT t r
def anyT (t : Int) (l : List Int) : Bool := l.any (fun x => decide (t < x))
def preT (t : Int) (l : List Int) : List Int := if anyT t l then insT t l else l
theorem anyT_snoc (t : Int) (l : List Int) (v : Int) : anyT t (l ++ [v]) = (anyT t l || decide (t < v)) := by
  unfold anyT; rw [List.any_append]; simp
theorem insT_any (t : Int) (l m : List Int) (h : anyT t l = true) : insT t (l ++ m) = insT t l ++ m := by
  induction l with
  | nil => simp [anyT] at h
  | cons x r ih =>
    simp only [List.cons_append, insT]
    by_cases e : t < x
    · rw [if_pos e, if_pos e]; rfl
    · rw [if_neg e, if_neg e]
      have : anyT t r = true := by unfold anyT at h ⊢; simpa [e] using h
      rw [ih this]; rfl
theorem insT_not (t : Int) (l m : List Int) (h : anyT t l = false) : insT t (l ++ m) = l ++ insT t m := by
  induction l with
  | nil => rfl
  | cons x r ih =>
    have e : ¬ t < x := by intro q; unfold anyT at h; simp [q] at h
    have h2 : anyT t r = false := by unfold anyT at h ⊢; simpa [e] using h
    simp only [List.cons_append, insT]
    rw [if_neg e, ih h2]
theorem insT_last (t : Int) (l : List Int) (h : anyT t l = false) : insT t l = l ++ [t] := by
  have := insT_not t l [] h
  rw [List.append_nil] at this
  exact this
theorem insT_perm (t : Int) (l : List Int) : (insT t l).Perm (t :: l) := by
  induction l with
  | nil => exact List.Perm.refl _
  | cons x r ih =>
    unfold insT
    by_cases e : t < x
    · rw [if_pos e]
    · rw [if_neg e]; exact (ih.cons x).trans (List.Perm.swap _ _ _)
theorem preT_done (t v : Int) (l : List Int) (h : anyT t l = true) : preT t (l ++ [v]) = preT t l ++ [v] := by
  unfold preT
  rw [if_pos h, if_pos (by rw [anyT_snoc, h]; rfl), insT_any _ _ _ h]
theorem preT_now (t v : Int) (l : List Int) (h : anyT t l = false) (e : t < v) : preT t (l ++ [v]) = preT t l ++ [t] ++ [v] := by
  unfold preT
  rw [if_pos (by rw [anyT_snoc]; simp [e]), if_neg (by rw [h]; simp), insT_not _ _ _ h]
  simp [insT, e]
theorem preT_yet (t v : Int) (l : List Int) (h : anyT t l = false) (e : ¬ t < v) : preT t (l ++ [v]) = preT t l ++ [v] := by
  unfold preT
  have h2 : anyT t (l ++ [v]) = false := by rw [anyT_snoc, h]; simp [e]; try omega
  rw [h, h2]; rfl
end Go.Proofs.Ytkfnfflonjfglaa
