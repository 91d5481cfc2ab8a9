/-
  Go's builtin 'max' of two; make([]int, n). Nothing of the program in it.
-/
import Derived.Test.YtckkccnebjacdaaGreatMgSlice
namespace Go.Proofs.YtckkccnebjacdaaGreat
open Go.RowKit
set_option linter.unusedVariables false
set_option linter.unusedSimpArgs false

theorem run_max_nat {P : Program} {w : World} (ts : Array TypeId) (t : TypeId) (k k' : IntKind) (i j m : Nat) (hm : m = max i j) : (Builtin.max_ ts t #[.int k (i : Int), .int k' (j : Int)]).run P w = .ok (.int k (m : Int)) w := by
  have e : (if (j : Int) > (i : Int) then (j : Int) else (i : Int)) = (m : Int) := by subst hm; split <;> omega
  rw [run_max_int2, e]
def intN (n : Nat) : Value := .int .i64 (n : Int)
theorem made_ints (n : Nat) : madeCells #[Value.int .i64 0] n = ((List.replicate n (0 : Nat)).map intN).toArray := by
  apply Array.ext'
  unfold madeCells
  apply List.ext_getElem
  · simp
  · intro i h1 h2
    simp [Nat.mod_one, intN]
section arms
variable {P : Program} {ops : Array Oper} {Q : Exit → Act → World → Prop} {rest : List Oper} {o : Oper} {a : Act} {w : World}
theorem wpMax (hg : Region.wanted o (yielded ops a.tmps) = true) (x y : Operand) (ts : Array TypeId) (hop : o.op = Op.call { callee := Callee.builtin Builtin.max, args := #[x, y], argTypes := ts }) (k k' : IntKind) (i j m : Nat) (hm : m = max i j)
    (hx : a.eval x = .int k (i : Int)) (hy : a.eval y = .int k' (j : Int)) (hK : wpList P ops Q rest (a.put o.dst (.int k (m : Int))) w) : wpList P ops Q (o :: rest) a w := by
  refine wpList_go hg fun K' hK' => ?_
  unfold Oper.wp
  have hrun := run_max_nat (P := P) (w := w) ts o.type k k' i j m hm
  simp [execOp, hop, resolve, invoke, builtin, hx, hy, hrun, Result.andThen]
  exact hK' _ _ hK
/-- make([]int, n). -/
theorem wpMakeInts (hg : Region.wanted o (yielded ops a.tmps) = true) (x y : Operand) (t e : TypeId) (hop : o.op = Op.makeSlice t x y) (ht : P.underlying t = some (.slice e)) (hinfo : (P.info? e).map (fun i => (i.zero, i.size, i.bytes)) = some (some (.int .i64 0), 1, 8))
    (kl kc : IntKind) (c : Nat) (hx : a.eval x = .int kl (c : Int)) (hy : a.eval y = .int kc (c : Int)) (hc : c ≤ 1000000)
    (hK : ∀ w', SlAt w' (some ⟨w.heap.size, 0, none⟩) c c e 1 ((List.replicate c (0 : Nat)).map intN) → Fr none_ w w' → w'.heap.size = w.heap.size + 1 → wpList P ops Q rest (a.put o.dst (.slice (some ⟨w.heap.size, 0, none⟩) c c)) w') : wpList P ops Q (o :: rest) a w := by
  refine wpList_go hg fun K' hK' => ?_
  obtain ⟨i, hi, hz, hsize, hby⟩ := info_parts hinfo
  have hr := run_make (P := P) w t e i (.int .i64 0) ht hi hz kl kc c c (by omega) (by omega) (by rw [hby]; omega) (by omega)
  rw [hsize] at hr
  simp only [Int.toNat_natCast, Nat.mul_one, Value.cells, made_ints] at hr
  obtain ⟨C, hC⟩ : ∃ C, C = ((List.replicate c (0 : Nat)).map intN).toArray := ⟨_, rfl⟩
  rw [← hC] at hr
  unfold Oper.wp
  simp [execOp, hop, hx, hy, hr, Result.andThen]
  refine hK' _ _ (hK _ ⟨by simp, Nat.le_refl _, by simp [maxLen]; omega, fun h => (by cases h), ?_⟩ (Fr.alloc _ _ _) (by simp))
  intro ad had
  cases had
  refine ⟨rfl, rfl, _, Row.new w C e, by rw [hC]; simp, ?_⟩
  rw [hC]
  simp
end arms
end Go.Proofs.YtckkccnebjacdaaGreat
