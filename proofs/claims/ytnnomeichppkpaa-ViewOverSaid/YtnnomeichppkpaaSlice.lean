/-
  A slice that the call itself has made: 'SlAt w a n cap e size xs': the slice's value (address a, length n, capacity cap) owns the cells xs. append, with the word on which block the new value has. Nothing of the program in it.
-/
import Derived.Test.YtnnomeichppkpaaMem
namespace Go.Proofs.Ytnnomeichppkpaa
open Go.RowKit
set_option linter.unusedVariables false
set_option linter.unusedSimpArgs false

def SlAt (w : World) (a : Option Addr) (n cap : Nat) (e : TypeId) (size : Nat) (xs : List Value) : Prop :=
  xs.length = n * size ∧ n ≤ cap ∧ cap ≤ maxLen ∧ (a = none → cap = 0) ∧
    ∀ ad, a = some ad → ad.off = 0 ∧ ad.spot = none ∧ ∃ cur, Row w ad.block cur e ∧ cur.size = cap * size ∧ cur.toList.take (n * size) = xs
/-- The block of a slice's value. -/
def blk (a : Option Addr) : Nat → Prop := fun k => ∃ ad, a = some ad ∧ ad.block = k

theorem blk_none (k : Nat) : ¬ blk none k := by rintro ⟨_, h, _⟩; cases h
theorem blk_some (g o : Nat) (k : Nat) : blk (some ⟨g, o, none⟩) k ↔ g = k := by
  constructor
  · rintro ⟨_, h, e⟩; cases h; exact e
  · intro e; exact ⟨_, rfl, e⟩

theorem SlAt.empty (w : World) (e : TypeId) (size : Nat) : SlAt w none 0 0 e size [] := ⟨by simp, Nat.le_refl _, Nat.zero_le _, fun _ => rfl, fun _ h => by cases h⟩
theorem SlAt.kept {F : Nat → Prop} {w w' : World} {a : Option Addr} {n cap : Nat} {e : TypeId} {size : Nat} {xs : List Value} (h : SlAt w a n cap e size xs) (f : Fr F w w') (hn : ∀ k, blk a k → ¬ F k) : SlAt w' a n cap e size xs := by
  obtain ⟨h1, h2, h3, h4, h5⟩ := h
  refine ⟨h1, h2, h3, h4, fun ad ha => ?_⟩
  obtain ⟨q1, q2, cur, q3, q4, q5⟩ := h5 ad ha
  exact ⟨q1, q2, cur, q3.kept f (hn _ ⟨ad, ha, rfl⟩), q4, q5⟩
theorem SlAt.kept0 {w w' : World} {a : Option Addr} {n cap : Nat} {e : TypeId} {size : Nat} {xs : List Value} (h : SlAt w a n cap e size xs) (f : Fr none_ w w') : SlAt w' a n cap e size xs := h.kept f (fun _ _ x => x)
theorem SlAt.lt {w : World} {a : Option Addr} {n cap : Nat} {e : TypeId} {size : Nat} {xs : List Value} (h : SlAt w a n cap e size xs) : ∀ k, blk a k → k < w.heap.size := by
  rintro k ⟨ad, ha, rfl⟩
  obtain ⟨_, _, cur, q3, _⟩ := h.2.2.2.2 ad ha
  exact q3.lt
theorem SlAt.isAddr {w : World} {a : Option Addr} {n cap : Nat} {e : TypeId} {size : Nat} {xs : List Value} (h : SlAt w a n cap e size xs) (hn : 0 < n) : ∃ g, a = some ⟨g, 0, none⟩ := by
  cases a with
  | none => have := h.2.2.2.1 rfl; have := h.2.1; omega
  | some ad =>
    obtain ⟨q1, q2, _⟩ := h.2.2.2.2 ad rfl
    obtain ⟨b, o, s⟩ := ad
    simp only at q1 q2
    subst q1; subst q2
    exact ⟨b, rfl⟩
theorem SlAt.cell {w : World} {g n cap : Nat} {e : TypeId} {size : Nat} {xs : List Value} (h : SlAt w (some ⟨g, 0, none⟩) n cap e size xs) {i : Nat} {v : Value} (hv : xs[i]? = some v) : w.cell? ⟨g, i, none⟩ = some v := by
  obtain ⟨_, _, cur, q3, _, q5⟩ := h.2.2.2.2 _ rfl
  rw [q3.cell i]
  rw [← q5, List.getElem?_take] at hv
  split at hv
  · simpa using hv
  · cases hv
theorem SlAt.free {w : World} {g n cap : Nat} {e : TypeId} {size : Nat} {xs : List Value} (h : SlAt w (some ⟨g, 0, none⟩) n cap e size xs) (i : Nat) : w.frozen? ⟨g, i, none⟩ = false := by
  obtain ⟨_, _, cur, q3, _, q5⟩ := h.2.2.2.2 _ rfl
  exact q3.free i

theorem run_append_at {P : Program} {w : World} (t ty e : TypeId) (z : Value) (size bytes : Nat) (ht : P.underlying t = some (.slice e)) (hinfo : (P.info? e).map (fun i => (i.zero, i.size, i.bytes)) = some (some z, size, bytes))
    (hzs : z.cells.size = size) {a : Option Addr} {n cap : Nat} {xs : List Value} (h : SlAt w a n cap e size xs)
    (ad : Addr) (m c : Nat) (news : List Value) (hl : news.length = m * size) (hnews : ∀ j u, news[j]? = some u → w.cell? (ad.add j) = some u) (h1 : ∀ u ∈ news, u.oneCell' = true)
    (hm : 0 < m) (h63 : n + m ≤ maxLen) (hbytes : (n + m) * bytes ≤ 140737488355328) :
    ∃ a' cap' w', (Builtin.append_ #[t, t] ty #[.slice a n cap, .slice (some ad) m c]).run P w = .ok (.slice a' (n + m) cap') w' ∧ SlAt w' a' (n + m) cap' e size (xs ++ news) ∧ Fr (blk a) w w' ∧ (∀ k, blk a' k → blk a k ∨ w.heap.size ≤ k) := by
  obtain ⟨i, hi, hz, hsize, hby⟩ := info_parts hinfo
  subst hsize; subst hby
  have hsmall : n + m ≤ 9223372036854775807 := by simp only [maxLen] at h63; omega
  have hlen : (xs ++ news).length = (n + m) * i.size := by rw [List.length_append, h.1, hl, Nat.add_mul]
  cases a with
  | none =>
    have hc0 := h.2.2.2.1 rfl
    subst hc0
    have hn0 : n = 0 := by have := h.2.1; omega
    subst hn0
    have hx : xs = [] := List.eq_nil_of_length_eq_zero (by simpa using h.1)
    subst hx
    have hr := run_append_nil (P := P) w t ty e i z ht hi hz ad m c news hl hnews (by omega) (by omega) (by simp only [Nat.zero_add] at hbytes; omega)
    refine ⟨_, _, _, by rw [Nat.zero_add]; exact hr, ⟨hlen, ?_, ?_, (fun h => by cases h), ?_⟩, (Fr.refl _ _).drew_r.alloc_r _, ?_⟩
    · rw [Nat.zero_add]; exact grownCap_ge w m 0 e
    · exact grownCap_le_maxLen w m 0 e (by omega)
    · intro ad' had
      cases had
      refine ⟨rfl, rfl, _, Row.new w.drew _ e, ?_, ?_⟩
      · simp only [Array.size_append, List.size_toArray, size_zeroCells, hzs, hl]
        have := grownCap_ge w m 0 e
        rw [← Nat.add_mul]; congr 1; omega
      · rw [← hlen]
        simp only [Array.toList_append, List.nil_append]
        exact List.take_left
    · rintro k ⟨_, h, rfl⟩; cases h; right; exact Nat.le_refl _
  | some ad0 =>
    obtain ⟨q1, q2, cur, q3, q4, q5⟩ := h.2.2.2.2 ad0 rfl
    obtain ⟨g, o, sp⟩ := ad0
    simp only at q1 q2 q3
    subst q1; subst q2
    by_cases hroom : n + m ≤ cap
    · have hfit : n * i.size + news.length ≤ cur.size := by rw [hl, q4, ← Nat.add_mul]; exact Nat.mul_le_mul_right _ hroom
      have hr := run_append_room (P := P) w t ty e i ht hi g n cap cur q3 ad m c news hl hnews h1 hroom hfit
      refine ⟨_, _, _, hr, ⟨hlen, hroom, h.2.2.1, (fun h => by cases h), ?_⟩, Fr.setRow q3 _ ⟨_, rfl, rfl⟩, fun k hk => Or.inl hk⟩
      intro ad' had
      cases had
      refine ⟨rfl, rfl, _, q3.setRow _, ?_, ?_⟩
      · simp only [List.size_toArray, List.length_append, List.length_take, List.length_drop, Array.length_toList]
        omega
      · rw [q5, ← hlen]
        exact List.take_left
    · have holds : ∀ j u, xs[j]? = some u → w.cell? ((⟨g, 0, none⟩ : Addr).add j) = some u := by
        intro j u hu
        rw [Addr.add_lit, Nat.zero_add]; exact h.cell hu
      have hr := run_append_grow (P := P) w t ty e i z ht hi hz ⟨g, 0, none⟩ n cap xs h.1 holds ad m c news hl hnews (by omega) (by omega) (growslice_fits (by omega) hbytes)
      refine ⟨_, _, _, hr, ⟨hlen, ?_, ?_, (fun h => by cases h), ?_⟩, (Fr.refl _ _).drew_r.alloc_r _, ?_⟩
      · exact grownCap_ge w (n + m) cap e
      · exact grownCap_le_maxLen w (n + m) cap e h63
      · intro ad' had
        cases had
        refine ⟨rfl, rfl, _, Row.new w.drew _ e, ?_, ?_⟩
        · simp only [Array.size_append, List.size_toArray, size_zeroCells, hzs, hl, h.1]
          have := grownCap_ge w (n + m) cap e
          rw [← Nat.add_mul, ← Nat.add_mul]; congr 1; omega
        · rw [← hlen]
          simp only [Array.toList_append, List.append_assoc]
          rw [← List.append_assoc]
          exact List.take_left
      · rintro k ⟨_, h, rfl⟩; cases h; right; exact Nat.le_refl _

section arms
variable {P : Program} {w : World} {ops : Array Oper} {rest : List Oper} {o : Oper} {a : Act} {Q : Exit → Act → World → Prop}
theorem wpAppend (hg : Region.wanted o (yielded ops a.tmps) = true) (s x : Operand) (t : TypeId) (hop : o.op = Op.call { callee := Callee.builtin Builtin.append, args := #[s, x], argTypes := #[t, t] }) (e : TypeId) (z : Value) (size bytes : Nat) (ht : P.underlying t = some (.slice e)) (hinfo : (P.info? e).map (fun i => (i.zero, i.size, i.bytes)) = some (some z, size, bytes))
    (hzs : z.cells.size = size) {sa : Option Addr} {n cap : Nat} {xs : List Value} (h : SlAt w sa n cap e size xs) (hs : a.eval s = .slice sa n cap)
    (ad : Addr) (m c : Nat) (news : List Value) (hx : a.eval x = .slice (some ad) m c) (hl : news.length = m * size) (hnews : ∀ j u, news[j]? = some u → w.cell? (ad.add j) = some u) (h1 : ∀ u ∈ news, u.oneCell' = true)
    (hm : 0 < m) (h63 : n + m ≤ maxLen) (hbytes : (n + m) * bytes ≤ 140737488355328)
    (hK : ∀ a' cap' w', SlAt w' a' (n + m) cap' e size (xs ++ news) → Fr (blk sa) w w' → (∀ k, blk a' k → blk sa k ∨ w.heap.size ≤ k) → wpList P ops Q rest (a.put o.dst (.slice a' (n + m) cap')) w') : wpList P ops Q (o :: rest) a w := by
  refine wpList_go hg fun K' hK' => ?_
  obtain ⟨a', cap', w', hrun, r1, r2, r3⟩ := run_append_at (P := P) t o.type e z size bytes ht hinfo hzs h ad m c news hl hnews h1 hm h63 hbytes
  unfold Oper.wp
  simp [execOp, hop, resolve, invoke, builtin, hs, hx, hrun, Result.andThen]
  exact hK' _ _ (hK a' cap' w' r1 r2 r3)
end arms
end Go.Proofs.Ytnnomeichppkpaa
