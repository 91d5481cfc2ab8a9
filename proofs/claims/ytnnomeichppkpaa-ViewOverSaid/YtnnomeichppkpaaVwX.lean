/-
  Layer 9's statements: a view in a variable of the call's own.
-/
import Derived.Test.YtnnomeichppkpaaVwAw
import Derived.Test.YtnnomeichppkpaaVwArgs
import Derived.Deep.DeepCutAuto
namespace Go.Proofs.Ytnnomeichppkpaa
open Go.RowKit Go.Sort
set_option linter.unusedVariables false
set_option linter.unusedSimpArgs false
set_option maxRecDepth 100000

structure VX (W w : World) (X : Nat) (own high : Int) (a : Option Addr) (n c : Nat) (l : List Int) : Prop where
  row : Row w X #[.int .i64 own, .int .i64 high, .slice a n c] 25
  at_ : IntsAt w a l
  len : n = l.length
  le : n ≤ 1000
  fr : Fr none_ W w
theorem VX.keep {W w w' : World} {X : Nat} {own high : Int} {a : Option Addr} {n c : Nat} {l : List Int} (h : VX W w X own high a n c l) (f : Fr none_ w w') : VX W w' X own high a n c l :=
  ⟨h.row.kept f (fun e => e), h.at_.kept0 f, h.len, h.le, h.fr.trans f⟩
theorem VX.sees {W w : World} {X : Nat} {own high : Int} {a : Option Addr} {n c : Nat} {l : List Int} (h : VX W w X own high a n c l) (x : Int) (b : Bool) (hb : vwSees own high l x = b) :
    Calls Try.prog 9 #[.agg #[.int .i64 own, .int .i64 high, .slice a n c], .int .i64 x] w fun e w' => e = .returned (.bool b) ∧ VX W w' X own high a n c l ∧ Fr none_ w w' := by
  refine (Sees_any w own high a n c l x h.at_ h.len (by have := h.le; omega)).mono ?_
  rintro e w' ⟨rfl, f⟩
  exact ⟨by rw [hb], h.keep f, f⟩
theorem VX.least {W w : World} {X : Nat} {own high : Int} {a : Option Addr} {n c : Nat} {l : List Int} (h : VX W w X own high a n c l) (hh : high ≤ mostI) (m : Int) (hm : m = vwLeast own high l) :
    Calls Try.prog 10 #[.agg #[.int .i64 own, .int .i64 high, .slice a n c]] w fun e w' => e = .returned (.int .i64 m) ∧ VX W w' X own high a n c l ∧ Fr none_ w w' := by
  refine (Least_any w own high a n c l h.at_ h.len (by have := h.le; omega) hh).mono ?_
  rintro e w' ⟨rfl, f⟩
  exact ⟨by rw [hm], h.keep f, f⟩
theorem VX.same {W w : World} {X : Nat} {own high : Int} {a : Option Addr} {n c : Nat} {l : List Int} (h : VX W w X own high a n c l) {o2 h2 : Int} {a2 : Option Addr} {n2 c2 : Nat} {l2 : List Int} (q : IntsAt w a2 l2) (hn : n2 = l2.length) (hb : n2 ≤ 1000) (b : Bool) (hv : vwSame own high l o2 h2 l2 = b) :
    Calls Try.prog 11 #[.agg #[.int .i64 own, .int .i64 high, .slice a n c], .agg #[.int .i64 o2, .int .i64 h2, .slice a2 n2 c2]] w fun e w' => e = .returned (.bool b) ∧ VX W w' X own high a n c l ∧ Fr none_ w w' := by
  refine (Same_any w own high a n c l o2 h2 a2 n2 c2 l2 h.at_ h.len (by have := h.le; omega) q hn (by omega)).mono ?_
  rintro e w' ⟨rfl, f⟩
  exact ⟨by rw [hv], h.keep f, f⟩
theorem VX.c0 {W w : World} {X : Nat} {own high : Int} {a : Option Addr} {n c : Nat} {l : List Int} (h : VX W w X own high a n c l) : w.cell? ⟨X, 0, none⟩ = some (.int .i64 own) := h.row.cell 0
theorem VX.c1 {W w : World} {X : Nat} {own high : Int} {a : Option Addr} {n c : Nat} {l : List Int} (h : VX W w X own high a n c l) : w.cell? ⟨X, 1, none⟩ = some (.int .i64 high) := h.row.cell 1
theorem VX.c2 {W w : World} {X : Nat} {own high : Int} {a : Option Addr} {n c : Nat} {l : List Int} (h : VX W w X own high a n c l) : w.cell? ⟨X, 2, none⟩ = some (.slice a n c) := h.row.cell 2
theorem wf_le {x : Int} (h : (Lit.int .i64 x).wf = true) : -9223372036854775808 ≤ x ∧ x ≤ mostI := by
  unfold mostI
  simp only [Lit.wf, Bool.and_eq_true, decide_eq_true_eq] at h
  have h1 : IntKind.i64.min = -9223372036854775808 := by decide
  have h2 : IntKind.i64.max = 9223372036854775807 := by decide
  omega
end Go.Proofs.Ytnnomeichppkpaa
