/-
  Go's builtin 'min' of two.
-/
import Derived.Test.YteefcfndlggajaaMem
namespace Go.Proofs.Yteefcfndlggajaa
open Go.RowKit
set_option linter.unusedVariables false
set_option linter.unusedSimpArgs false

theorem run_min_nat {P : Program} {w : World} (ts : Array TypeId) (t : TypeId) (k k' : IntKind) (i j m : Nat) (hm : m = min i j) : (Builtin.min_ ts t #[.int k (i : Int), .int k' (j : Int)]).run P w = .ok (.int k (m : Int)) w := by
  have e : (if (j : Int) < (i : Int) then (j : Int) else (i : Int)) = (m : Int) := by subst hm; split <;> omega
  rw [run_min_int2, e]
section arms
variable {P : Program} {ops : Array Oper} {Q : Exit → Act → World → Prop} {rest : List Oper} {o : Oper} {a : Act} {w : World}
theorem wpMin (hg : Region.wanted o (yielded ops a.tmps) = true) (x y : Operand) (ts : Array TypeId) (hop : o.op = Op.call { callee := Callee.builtin Builtin.min, args := #[x, y], argTypes := ts }) (k k' : IntKind) (i j m : Nat) (hm : m = min i j)
    (hx : a.eval x = .int k (i : Int)) (hy : a.eval y = .int k' (j : Int)) (hK : wpList P ops Q rest (a.put o.dst (.int k (m : Int))) w) : wpList P ops Q (o :: rest) a w := by
  refine wpList_go hg fun K' hK' => ?_
  unfold Oper.wp
  have hrun := run_min_nat (P := P) (w := w) ts o.type k k' i j m hm
  simp [execOp, hop, resolve, invoke, builtin, hx, hy, hrun, Result.andThen]
  exact hK' _ _ hK
end arms
end Go.Proofs.Yteefcfndlggajaa
