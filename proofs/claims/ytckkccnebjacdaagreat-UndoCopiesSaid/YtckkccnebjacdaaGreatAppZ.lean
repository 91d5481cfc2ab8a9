/-
  append(s, make([]T, n)...): n zeros behind a slice of the call's own. Nothing of the program in it.
-/
import Derived.Test.YtckkccnebjacdaaGreatMgOwn
import Derived.Test.YtckkccnebjacdaaGreatMgSlice
namespace Go.Proofs.YtckkccnebjacdaaGreat
open Go.RowKit
set_option linter.unusedVariables false
set_option linter.unusedSimpArgs false
set_option maxRecDepth 100000

theorem zeroCells_one (z : Value) (m : Nat) : Builtin.zeroCells #[z] m = (List.replicate m z).toArray := by
  unfold Builtin.zeroCells
  apply Array.ext'
  apply List.ext_getElem
  · simp
  · intro i h1 h2
    simp [Nat.mod_one]
theorem run_append_zeros {P : Program} {w : World} (t it ty e : TypeId) (z : Value) (bytes : Nat) (ht : P.underlying t = some (.slice e)) (hit : P.underlying it = some (.int .i64)) (hinfo : (P.info? e).map (fun i => (i.zero, i.size, i.bytes)) = some (some z, 1, bytes)) (hz : z.cells = #[z]) (h1 : z.oneCell' = true)
    {g n cap : Nat} {xs : List Value} (h : SlAt w (some ⟨g, 0, none⟩) n cap e 1 xs) (m : Nat) (hm : 0 < m) (h63 : n + m ≤ maxLen) (hbytes : (n + m) * bytes ≤ 140737488355328) :
    ∃ a' cap' w', (Builtin.append_ #[t, it] ty #[.slice (some ⟨g, 0, none⟩) n cap, .int .i64 (m : Int)]).run P w = .ok (.slice a' (n + m) cap') w' ∧ SlAt w' a' (n + m) cap' e 1 (xs ++ List.replicate m z) ∧ Fr (one g) w w' ∧ (∀ k, blk a' k → k = g ∨ w.heap.size ≤ k) := by
  obtain ⟨i, hi, hzr, hsize, hby⟩ := info_parts hinfo
  have hml : m ≤ 9223372036854775807 := by unfold maxLen at h63; omega
  have hw : IntKind.i64.wrap (m : Int) = (m : Int) := IntWalk.i64_in _ (by omega)
  have hneg : ¬ (m : Int) < 0 := by omega
  have hmb : m * bytes ≤ 140737488355328 := Nat.le_trans (Nat.mul_le_mul_right _ (by omega)) hbytes
  have hmb' : ¬ (281474976710656 : Int) < (m : Int) * (bytes : Int) := by
    have : ((m * bytes : Nat) : Int) = (m : Int) * (bytes : Int) := by simp
    omega
  obtain ⟨hl, hnc, hcm, _, hrow⟩ := h
  obtain ⟨_, _, cur, q3, q4, q5⟩ := hrow _ rfl
  simp only [Nat.mul_one] at hl q4 q5
  have hne : ¬ m = 0 := by omega
  by_cases hroom : n + m ≤ cap
  · have hst := run_store_row (P := P) q3 n (List.replicate m z) (by simp; omega) (by intro v hv; rw [List.eq_of_mem_replicate hv]; exact h1)
    refine ⟨some ⟨g, 0, none⟩, cap, w.setRow g (putAtA cur n (List.replicate m z)), ?_, ⟨?_, hroom, hcm, (fun h => by cases h), ?_⟩, Fr.setRow (F := one g) q3 _ rfl, ?_⟩
    · simp [Builtin.append_, run_underlying ht, run_underlying hit, sizeOf, typeInfo, zeroValue, hi, hzr, hsize, hby, asInt, asIntOf, hw, hneg, hmb', hne, hz, zeroCells_one, hroom, Addr.add_lit]
      rw [hst]; rfl
    · simp [hl]
    · intro ad had
      cases had
      refine ⟨rfl, rfl, _, q3.setRow _, ?_, ?_⟩
      · rw [putAtA_size _ _ _ (by simp; omega), q4]; simp
      · unfold putAtA putAt
        rw [q5, Nat.mul_one]
        simp only [List.length_replicate]
        exact List.take_left' (by simp [hl])
    · rintro k ⟨_, h, rfl⟩; cases h; left; rfl
  · have h63' : ¬ (9223372036854775807 < ((n : Int) + (m : Int))) := by unfold maxLen at h63; omega
    have hfit := growslice_fits (need := n + m) (old := cap) (bytes := bytes) (by omega) hbytes
    have h48' : ¬ (281474976710656 < Builtin.nextslicecap (n + m) cap * bytes) := by omega
    have hfo := run_firstCells_some (P := P) w.drew 1 n ⟨g, 0, none⟩ n cap xs (by omega) (fun j v hv => by
      have : w.cell? ⟨g, j, none⟩ = some v := by
        rw [q3.cell j]
        rw [← q5, List.getElem?_take] at hv
        split at hv
        · simpa using hv
        · cases hv
      rw [Addr.add_lit, Nat.zero_add]; exact this)
    refine ⟨some ⟨w.heap.size, 0, none⟩, grownCap w (n + m) cap e, w.drew.alloc (.cells (xs.toArray ++ (List.replicate m z).toArray ++ Builtin.zeroCells z.cells (grownCap w (n + m) cap e - (n + m))) e), ?_, ⟨?_, grownCap_ge w (n + m) cap e, grownCap_le_maxLen w (n + m) cap e h63, (fun h => by cases h), ?_⟩, (Fr.refl _ _).drew_r.alloc_r _, ?_⟩
    · simp [Builtin.append_, run_underlying ht, run_underlying hit, sizeOf, typeInfo, zeroValue, hi, hzr, hsize, hby, asInt, asIntOf, hw, hneg, hmb', hne, hroom, h63', h48', Question.forced, hfo, newRow, grownCap]
      congr 2
      rw [hz, zeroCells_one]
      apply Array.ext'
      simp [List.append_assoc]
    · simp [hl]
    · intro ad had
      cases had
      refine ⟨rfl, rfl, _, Row.new w.drew _ e, ?_, ?_⟩
      · rw [hz, zeroCells_one]
        have := grownCap_ge w (n + m) cap e
        simp only [Array.size_append, List.size_toArray, List.length_replicate, hl]
        omega
      · simp only [Array.toList_append, Nat.mul_one]
        exact List.take_left' (by simp [hl])
    · rintro k ⟨_, h, rfl⟩; cases h; right; exact Nat.le_refl _
section arms
variable {P : Program} {w : World} {ops : Array Oper} {rest : List Oper} {o : Oper} {a : Act} {Q : Exit → Act → World → Prop}
theorem wpAppendZ (hg : Region.wanted o (yielded ops a.tmps) = true) (s x : Operand) (t it : TypeId) (hop : o.op = Op.call { callee := Callee.builtin Builtin.append, args := #[s, x], argTypes := #[t, it] }) (e : TypeId) (z : Value) (bytes : Nat) (ht : P.underlying t = some (.slice e)) (hit : P.underlying it = some (.int .i64)) (hinfo : (P.info? e).map (fun i => (i.zero, i.size, i.bytes)) = some (some z, 1, bytes)) (hz : z.cells = #[z]) (h1 : z.oneCell' = true)
    {g n cap : Nat} {xs : List Value} (h : SlAt w (some ⟨g, 0, none⟩) n cap e 1 xs) (m : Nat) (hs : a.eval s = .slice (some ⟨g, 0, none⟩) n cap) (hx : a.eval x = .int .i64 (m : Int)) (hm : 0 < m) (h63 : n + m ≤ maxLen) (hbytes : (n + m) * bytes ≤ 140737488355328)
    (hK : ∀ a' N cap' w', Hid (N = n + m) → SlAt w' a' N cap' e 1 (xs ++ List.replicate m z) → Fr (one g) w w' → (∀ k, blk a' k → k = g ∨ w.heap.size ≤ k) → wpList P ops Q rest (a.put o.dst (.slice a' N cap')) w') : wpList P ops Q (o :: rest) a w := by
  refine wpList_go hg fun K' hK' => ?_
  obtain ⟨a', cap', w', hrun, r1, r2, r3⟩ := run_append_zeros (P := P) t it o.type e z bytes ht hit hinfo hz h1 h m hm h63 hbytes
  unfold Oper.wp
  simp [execOp, hop, resolve, invoke, builtin, hs, hx, hrun, Result.andThen]
  exact hK' _ _ (hK a' _ cap' w' (Lib.hid rfl) r1 r2 r3)
end arms
end Go.Proofs.YtckkccnebjacdaaGreat
