/-
  append of nothing: the slice's value stays as it was. Nothing of the program in it.
-/
import Derived.Test.YtdbnopfpopeefaaSlice
namespace Go.Proofs.Ytdbnopfpopeefaa
open Go.RowKit
set_option linter.unusedVariables false
set_option linter.unusedSimpArgs false

theorem run_append_zero {P : Program} {w : World} (t ty e : TypeId) (i : TypeInfo) (ht : P.underlying t = some (.slice e)) (hi : P.info? e = some i) (a : Option Addr) (n cap : Nat) (h : n ≤ cap) (xa : Option Addr) (c : Nat) :
    (Builtin.append_ #[t, t] ty #[.slice a n cap, .slice xa 0 c]).run P w = .ok (.slice a n cap) w := by
  cases xa with
  | none => cases a <;> simp [Builtin.append_, run_underlying ht, sizeOf, typeInfo, hi, Builtin.lenOf, h, Builtin.firstCells, storeCells]
  | some xa =>
    have hf := run_firstCells_some (P := P) w i.size 0 xa 0 c [] (by simp) (by simp)
    cases a <;> simp [Builtin.append_, run_underlying ht, sizeOf, typeInfo, hi, Builtin.lenOf, h, hf, storeCells]

section arms
variable {P : Program} {w : World} {ops : Array Oper} {rest : List Oper} {o : Oper} {a : Act} {Q : Exit → Act → World → Prop}
theorem wpAppend0 (hg : Region.wanted o (yielded ops a.tmps) = true) (s x : Operand) (t : TypeId) (hop : o.op = Op.call { callee := Callee.builtin Builtin.append, args := #[s, x], argTypes := #[t, t] }) (e : TypeId) (z : Value) (size bytes : Nat) (ht : P.underlying t = some (.slice e)) (hinfo : (P.info? e).map (fun i => (i.zero, i.size, i.bytes)) = some (some z, size, bytes))
    {sa : Option Addr} {n cap : Nat} (h : n ≤ cap) (hs : a.eval s = .slice sa n cap) (xa : Option Addr) (c : Nat) (hx : a.eval x = .slice xa 0 c)
    (hK : wpList P ops Q rest (a.put o.dst (.slice sa n cap)) w) : wpList P ops Q (o :: rest) a w := by
  refine wpList_go hg fun K' hK' => ?_
  obtain ⟨i, hi, hz, hsize, hby⟩ := info_parts hinfo
  have hrun := run_append_zero (P := P) (w := w) t o.type e i ht hi sa n cap h xa c
  unfold Oper.wp
  simp [execOp, hop, resolve, invoke, builtin, hs, hx, hrun, Result.andThen]
  exact hK' _ _ hK
end arms
end Go.Proofs.Ytdbnopfpopeefaa
