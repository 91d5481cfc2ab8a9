/-
  append of a slice that is known whole, of no or some elements: straight, and as a step of a region that draws. Nothing of the program in it.
-/
import Derived.Test.YtdbnopfpopeefaaAppend0
namespace Go.Proofs.Ytdbnopfpopeefaa
open Go.RowKit
set_option linter.unusedVariables false
set_option linter.unusedSimpArgs false

theorem run_append_sl {P : Program} {w : World} (t ty e : TypeId) (z : Value) (size bytes : Nat) (ht : P.underlying t = some (.slice e)) (hinfo : (P.info? e).map (fun i => (i.zero, i.size, i.bytes)) = some (some z, size, bytes))
    (hzs : z.cells.size = size) {sa xa : Option Addr} {n cap m c : Nat} {xs news : List Value} (h : SlAt w sa n cap e size xs) (h2 : SlAt w xa m c e size news) (h1 : ∀ u ∈ news, u.oneCell' = true)
    (h63 : n + m ≤ maxLen) (hbytes : (n + m) * bytes ≤ 140737488355328) :
    ∃ a' cap' w', (Builtin.append_ #[t, t] ty #[.slice sa n cap, .slice xa m c]).run P w = .ok (.slice a' (n + m) cap') w' ∧ SlAt w' a' (n + m) cap' e size (xs ++ news) ∧ Fr (blk sa) w w' ∧ (∀ k, blk a' k → blk sa k ∨ w.heap.size ≤ k) := by
  by_cases hm : m = 0
  · subst hm
    have hn : news = [] := List.eq_nil_of_length_eq_zero (by simpa using h2.1)
    subst hn
    obtain ⟨i, hi, hz, hsize, hby⟩ := info_parts hinfo
    refine ⟨sa, cap, w, run_append_zero t ty e i ht hi sa n cap h.2.1 xa c, ?_, Fr.refl _ _, fun k hk => Or.inl hk⟩
    rw [List.append_nil]; exact h
  · obtain ⟨g, rfl⟩ := h2.isAddr (by omega)
    exact run_append_at t ty e z size bytes ht hinfo hzs h ⟨g, 0, none⟩ m c news h2.1 (fun j u hu => by rw [Addr.add_lit, Nat.zero_add]; exact h2.cell hu) h1 (by omega) h63 hbytes
theorem SlAt.made' (w : World) (e : TypeId) (size : Nat) : SlAt (w.alloc (.cells #[] e)) (some ⟨w.heap.size, 0, none⟩) 0 0 e size [] := by
  refine ⟨by simp, Nat.le_refl _, Nat.zero_le _, (fun h => by cases h), ?_⟩
  intro ad had
  cases had
  exact ⟨rfl, rfl, _, Row.new w _ e, by simp, by simp⟩
theorem SlAt.one (w : World) (e : TypeId) (v : Value) : SlAt (w.alloc (.cells #[v] e)) (some ⟨w.heap.size, 0, none⟩) 1 1 e 1 [v] := by
  refine ⟨rfl, Nat.le_refl _, by simp [maxLen], (fun h => by cases h), ?_⟩
  intro ad had
  cases had
  exact ⟨rfl, rfl, _, Row.new w _ e, rfl, rfl⟩
theorem SlAt.setAt {w : World} {g n cap size : Nat} {e : TypeId} {xs : List Value} (h : SlAt w (some ⟨g, 0, none⟩) n cap e size xs) (i : Nat) (v : Value) : SlAt (w.setCell ⟨g, i, none⟩ v) (some ⟨g, 0, none⟩) n cap e size (xs.set i v) := by
  obtain ⟨h1, h2, h3, h4, h5⟩ := h
  refine ⟨by rw [List.length_set]; exact h1, h2, h3, h4, ?_⟩
  intro ad had
  cases had
  obtain ⟨q1, q2, cur, q3, q4, q5⟩ := h5 _ rfl
  refine ⟨rfl, rfl, _, q3.set i v, by rw [Array.size_setIfInBounds]; exact q4, ?_⟩
  rw [Array.toList_setIfInBounds, List.take_set, q5]
theorem SlAt.cut {w : World} {a : Option Addr} {n m cap : Nat} {e : TypeId} {xs : List Value} (h : SlAt w a n cap e 1 xs) (hm : m ≤ n) : SlAt w a m cap e 1 (xs.take m) := by
  obtain ⟨h1, h2, h3, h4, h5⟩ := h
  refine ⟨by rw [List.length_take, h1]; omega, by omega, h3, h4, ?_⟩
  intro ad had
  obtain ⟨q1, q2, cur, q3, q4, q5⟩ := h5 _ had
  refine ⟨q1, q2, cur, q3, q4, ?_⟩
  rw [← q5, List.take_take, Nat.mul_one, Nat.mul_one, Nat.min_eq_left hm]

section arms
variable {P : Program} {w : World} {ops : Array Oper} {rest : List Oper} {o : Oper} {a : Act} {Q : Exit → Act → World → Prop}
theorem wpAppendS (hg : Region.wanted o (yielded ops a.tmps) = true) (s x : Operand) (t : TypeId) (hop : o.op = Op.call { callee := Callee.builtin Builtin.append, args := #[s, x], argTypes := #[t, t] }) (e : TypeId) (z : Value) (size bytes : Nat) (ht : P.underlying t = some (.slice e)) (hinfo : (P.info? e).map (fun i => (i.zero, i.size, i.bytes)) = some (some z, size, bytes))
    (hzs : z.cells.size = size) {sa xa : Option Addr} {n cap m c : Nat} {xs news : List Value} (h : SlAt w sa n cap e size xs) (h2 : SlAt w xa m c e size news) (hs : a.eval s = .slice sa n cap) (hx : a.eval x = .slice xa m c) (h1 : ∀ u ∈ news, u.oneCell' = true)
    (h63 : n + m ≤ maxLen) (hbytes : (n + m) * bytes ≤ 140737488355328)
    (hK : ∀ a' cap' w', SlAt w' a' (n + m) cap' e size (xs ++ news) → Fr (blk sa) w w' → (∀ k, blk a' k → blk sa k ∨ w.heap.size ≤ k) → wpList P ops Q rest (a.put o.dst (.slice a' (n + m) cap')) w') : wpList P ops Q (o :: rest) a w := by
  refine wpList_go hg fun K' hK' => ?_
  obtain ⟨a', cap', w', hrun, r1, r2, r3⟩ := run_append_sl (P := P) t o.type e z size bytes ht hinfo hzs h h2 h1 h63 hbytes
  unfold Oper.wp
  simp [execOp, hop, resolve, invoke, builtin, hs, hx, hrun, Result.andThen]
  exact hK' _ _ (hK _ _ _ r1 r2 r3)
theorem stepAppendS {K : Act → World → Prop} {E : Prop} (hgd : o.guard = none) (s x : Operand) (t : TypeId) (hop : o.op = Op.call { callee := Callee.builtin Builtin.append, args := #[s, x], argTypes := #[t, t] }) (e : TypeId) (z : Value) (size bytes : Nat) (ht : P.underlying t = some (.slice e)) (hinfo : (P.info? e).map (fun i => (i.zero, i.size, i.bytes)) = some (some z, size, bytes))
    (hzs : z.cells.size = size) {sa xa : Option Addr} {n cap m c : Nat} {xs news : List Value} (h : SlAt w sa n cap e size xs) (h2 : SlAt w xa m c e size news) (hs : a.eval s = .slice sa n cap) (hx : a.eval x = .slice xa m c) (h1 : ∀ u ∈ news, u.oneCell' = true)
    (h63 : n + m ≤ maxLen) (hbytes : (n + m) * bytes ≤ 140737488355328)
    (hK : ∀ a' cap' w', SlAt w' a' (n + m) cap' e size (xs ++ news) → Fr (blk sa) w w' → (∀ k, blk a' k → blk sa k ∨ w.heap.size ≤ k) → K (a.put o.dst (.slice a' (n + m) cap')) w') : if Region.wanted o (yielded ops a.tmps) = true then Oper.wp P o a w K Q else E := by
  have hw : Region.wanted o (yielded ops a.tmps) = true := by simp [Region.wanted, hgd]
  rw [if_pos hw]
  obtain ⟨a', cap', w', hrun, r1, r2, r3⟩ := run_append_sl (P := P) t o.type e z size bytes ht hinfo hzs h h2 h1 h63 hbytes
  unfold Oper.wp
  simp [execOp, hop, resolve, invoke, builtin, hs, hx, hrun, Result.andThen]
  exact hK _ _ _ r1 r2 r3
end arms
end Go.Proofs.Ytdbnopfpopeefaa
