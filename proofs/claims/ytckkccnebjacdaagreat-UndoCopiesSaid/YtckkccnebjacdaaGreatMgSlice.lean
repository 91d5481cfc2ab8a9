/-
  A slice that the call itself has made: 'SlAt w a n cap e size xs': the slice's value (address a, length n, capacity cap) owns the cells xs. append, with the word on which block the new value has. Nothing of the program in it.
  Of a page's states alone: what each method answers, what keeps standing; and each method's contract, whatever is asked.
-/
import Derived.Test.YtckkccnebjacdaaGreatMgOwn
import Derived.Test.YtckkccnebjacdaaGreatMgPageAbs
namespace Go.Proofs.YtckkccnebjacdaaGreat
open Go.RowKit
set_option linter.unusedVariables false
set_option linter.unusedSimpArgs false

def SlAt (w : World) (a : Option Addr) (n cap : Nat) (e : TypeId) (size : Nat) (xs : List Value) : Prop :=
  xs.length = n * size ∧ n ≤ cap ∧ cap ≤ maxLen ∧ (a = none → cap = 0) ∧
    ∀ ad, a = some ad → ad.off = 0 ∧ ad.spot = none ∧ ∃ cur, Row w ad.block cur e ∧ cur.size = cap * size ∧ cur.toList.take (n * size) = xs
/-- The block of a slice's value. -/
def blk (a : Option Addr) : Nat → Prop := fun k => ∃ ad, a = some ad ∧ ad.block = k

theorem blk_none (k : Nat) : ¬ blk none k := by rintro ⟨_, h, _⟩; cases h
theorem blk_some (g o : Nat) (k : Nat) : blk (some ⟨g, o, none⟩) k ↔ g = k := by
  constructor
  · rintro ⟨_, h, e⟩; cases h; exact e
  · intro e; exact ⟨_, rfl, e⟩

theorem SlAt.empty (w : World) (e : TypeId) (size : Nat) : SlAt w none 0 0 e size [] := ⟨by simp, Nat.le_refl _, Nat.zero_le _, fun _ => rfl, fun _ h => by cases h⟩
theorem SlAt.kept {F : Nat → Prop} {w w' : World} {a : Option Addr} {n cap : Nat} {e : TypeId} {size : Nat} {xs : List Value} (h : SlAt w a n cap e size xs) (f : Fr F w w') (hn : ∀ k, blk a k → ¬ F k) : SlAt w' a n cap e size xs := by
  obtain ⟨h1, h2, h3, h4, h5⟩ := h
  refine ⟨h1, h2, h3, h4, fun ad ha => ?_⟩
  obtain ⟨q1, q2, cur, q3, q4, q5⟩ := h5 ad ha
  exact ⟨q1, q2, cur, q3.kept f (hn _ ⟨ad, ha, rfl⟩), q4, q5⟩
theorem SlAt.kept0 {w w' : World} {a : Option Addr} {n cap : Nat} {e : TypeId} {size : Nat} {xs : List Value} (h : SlAt w a n cap e size xs) (f : Fr none_ w w') : SlAt w' a n cap e size xs := h.kept f (fun _ _ x => x)
theorem SlAt.lt {w : World} {a : Option Addr} {n cap : Nat} {e : TypeId} {size : Nat} {xs : List Value} (h : SlAt w a n cap e size xs) : ∀ k, blk a k → k < w.heap.size := by
  rintro k ⟨ad, ha, rfl⟩
  obtain ⟨_, _, cur, q3, _⟩ := h.2.2.2.2 ad ha
  exact q3.lt
theorem SlAt.isAddr {w : World} {a : Option Addr} {n cap : Nat} {e : TypeId} {size : Nat} {xs : List Value} (h : SlAt w a n cap e size xs) (hn : 0 < n) : ∃ g, a = some ⟨g, 0, none⟩ := by
  cases a with
  | none => have := h.2.2.2.1 rfl; have := h.2.1; omega
  | some ad =>
    obtain ⟨q1, q2, _⟩ := h.2.2.2.2 ad rfl
    obtain ⟨b, o, s⟩ := ad
    simp only at q1 q2
    subst q1; subst q2
    exact ⟨b, rfl⟩
theorem SlAt.cell {w : World} {g n cap : Nat} {e : TypeId} {size : Nat} {xs : List Value} (h : SlAt w (some ⟨g, 0, none⟩) n cap e size xs) {i : Nat} {v : Value} (hv : xs[i]? = some v) : w.cell? ⟨g, i, none⟩ = some v := by
  obtain ⟨_, _, cur, q3, _, q5⟩ := h.2.2.2.2 _ rfl
  rw [q3.cell i]
  rw [← q5, List.getElem?_take] at hv
  split at hv
  · simpa using hv
  · cases hv
theorem SlAt.free {w : World} {g n cap : Nat} {e : TypeId} {size : Nat} {xs : List Value} (h : SlAt w (some ⟨g, 0, none⟩) n cap e size xs) (i : Nat) : w.frozen? ⟨g, i, none⟩ = false := by
  obtain ⟨_, _, cur, q3, _, q5⟩ := h.2.2.2.2 _ rfl
  exact q3.free i

theorem run_append_at {P : Program} {w : World} (t ty e : TypeId) (z : Value) (size bytes : Nat) (ht : P.underlying t = some (.slice e)) (hinfo : (P.info? e).map (fun i => (i.zero, i.size, i.bytes)) = some (some z, size, bytes))
    (hzs : z.cells.size = size) {a : Option Addr} {n cap : Nat} {xs : List Value} (h : SlAt w a n cap e size xs)
    (ad : Addr) (m c : Nat) (news : List Value) (hl : news.length = m * size) (hnews : ∀ j u, news[j]? = some u → w.cell? (ad.add j) = some u) (h1 : ∀ u ∈ news, u.oneCell' = true)
    (hm : 0 < m) (h63 : n + m ≤ maxLen) (hbytes : (n + m) * bytes ≤ 140737488355328) :
    ∃ a' cap' w', (Builtin.append_ #[t, t] ty #[.slice a n cap, .slice (some ad) m c]).run P w = .ok (.slice a' (n + m) cap') w' ∧ SlAt w' a' (n + m) cap' e size (xs ++ news) ∧ Fr (blk a) w w' ∧ (∀ k, blk a' k → blk a k ∨ w.heap.size ≤ k) := by
  obtain ⟨i, hi, hz, hsize, hby⟩ := info_parts hinfo
  subst hsize; subst hby
  have hsmall : n + m ≤ 9223372036854775807 := by simp only [maxLen] at h63; omega
  have hlen : (xs ++ news).length = (n + m) * i.size := by rw [List.length_append, h.1, hl, Nat.add_mul]
  cases a with
  | none =>
    have hc0 := h.2.2.2.1 rfl
    subst hc0
    have hn0 : n = 0 := by have := h.2.1; omega
    subst hn0
    have hx : xs = [] := List.eq_nil_of_length_eq_zero (by simpa using h.1)
    subst hx
    have hr := run_append_nil (P := P) w t ty e i z ht hi hz ad m c news hl hnews (by omega) (by omega) (by simp only [Nat.zero_add] at hbytes; omega)
    refine ⟨_, _, _, by rw [Nat.zero_add]; exact hr, ⟨hlen, ?_, ?_, (fun h => by cases h), ?_⟩, (Fr.refl _ _).drew_r.alloc_r _, ?_⟩
    · rw [Nat.zero_add]; exact grownCap_ge w m 0 e
    · exact grownCap_le_maxLen w m 0 e (by omega)
    · intro ad' had
      cases had
      refine ⟨rfl, rfl, _, Row.new w.drew _ e, ?_, ?_⟩
      · simp only [Array.size_append, List.size_toArray, size_zeroCells, hzs, hl]
        have := grownCap_ge w m 0 e
        rw [← Nat.add_mul]; congr 1; omega
      · rw [← hlen]
        simp only [Array.toList_append, List.nil_append]
        exact List.take_left
    · rintro k ⟨_, h, rfl⟩; cases h; right; exact Nat.le_refl _
  | some ad0 =>
    obtain ⟨q1, q2, cur, q3, q4, q5⟩ := h.2.2.2.2 ad0 rfl
    obtain ⟨g, o, sp⟩ := ad0
    simp only at q1 q2 q3
    subst q1; subst q2
    by_cases hroom : n + m ≤ cap
    · have hfit : n * i.size + news.length ≤ cur.size := by rw [hl, q4, ← Nat.add_mul]; exact Nat.mul_le_mul_right _ hroom
      have hr := run_append_room (P := P) w t ty e i ht hi g n cap cur q3 ad m c news hl hnews h1 hroom hfit
      refine ⟨_, _, _, hr, ⟨hlen, hroom, h.2.2.1, (fun h => by cases h), ?_⟩, Fr.setRow q3 _ ⟨_, rfl, rfl⟩, fun k hk => Or.inl hk⟩
      intro ad' had
      cases had
      refine ⟨rfl, rfl, _, q3.setRow _, ?_, ?_⟩
      · simp only [List.size_toArray, List.length_append, List.length_take, List.length_drop, Array.length_toList]
        omega
      · rw [q5, ← hlen]
        exact List.take_left
    · have holds : ∀ j u, xs[j]? = some u → w.cell? ((⟨g, 0, none⟩ : Addr).add j) = some u := by
        intro j u hu
        rw [Addr.add_lit, Nat.zero_add]; exact h.cell hu
      have hr := run_append_grow (P := P) w t ty e i z ht hi hz ⟨g, 0, none⟩ n cap xs h.1 holds ad m c news hl hnews (by omega) (by omega) (growslice_fits (by omega) hbytes)
      refine ⟨_, _, _, hr, ⟨hlen, ?_, ?_, (fun h => by cases h), ?_⟩, (Fr.refl _ _).drew_r.alloc_r _, ?_⟩
      · exact grownCap_ge w (n + m) cap e
      · exact grownCap_le_maxLen w (n + m) cap e h63
      · intro ad' had
        cases had
        refine ⟨rfl, rfl, _, Row.new w.drew _ e, ?_, ?_⟩
        · simp only [Array.size_append, List.size_toArray, size_zeroCells, hzs, hl, h.1]
          have := grownCap_ge w (n + m) cap e
          rw [← Nat.add_mul, ← Nat.add_mul]; congr 1; omega
        · rw [← hlen]
          simp only [Array.toList_append, List.append_assoc]
          rw [← List.append_assoc]
          exact List.take_left
      · rintro k ⟨_, h, rfl⟩; cases h; right; exact Nat.le_refl _

section arms
variable {P : Program} {w : World} {ops : Array Oper} {rest : List Oper} {o : Oper} {a : Act} {Q : Exit → Act → World → Prop}
theorem wpAppend (hg : Region.wanted o (yielded ops a.tmps) = true) (s x : Operand) (t : TypeId) (hop : o.op = Op.call { callee := Callee.builtin Builtin.append, args := #[s, x], argTypes := #[t, t] }) (e : TypeId) (z : Value) (size bytes : Nat) (ht : P.underlying t = some (.slice e)) (hinfo : (P.info? e).map (fun i => (i.zero, i.size, i.bytes)) = some (some z, size, bytes))
    (hzs : z.cells.size = size) {sa : Option Addr} {n cap : Nat} {xs : List Value} (h : SlAt w sa n cap e size xs) (hs : a.eval s = .slice sa n cap)
    (ad : Addr) (m c : Nat) (news : List Value) (hx : a.eval x = .slice (some ad) m c) (hl : news.length = m * size) (hnews : ∀ j u, news[j]? = some u → w.cell? (ad.add j) = some u) (h1 : ∀ u ∈ news, u.oneCell' = true)
    (hm : 0 < m) (h63 : n + m ≤ maxLen) (hbytes : (n + m) * bytes ≤ 140737488355328)
    (hK : ∀ a' cap' w', SlAt w' a' (n + m) cap' e size (xs ++ news) → Fr (blk sa) w w' → (∀ k, blk a' k → blk sa k ∨ w.heap.size ≤ k) → wpList P ops Q rest (a.put o.dst (.slice a' (n + m) cap')) w') : wpList P ops Q (o :: rest) a w := by
  refine wpList_go hg fun K' hK' => ?_
  obtain ⟨a', cap', w', hrun, r1, r2, r3⟩ := run_append_at (P := P) t o.type e z size bytes ht hinfo hzs h ad m c news hl hnews h1 hm h63 hbytes
  unfold Oper.wp
  simp [execOp, hop, resolve, invoke, builtin, hs, hx, hrun, Result.andThen]
  exact hK' _ _ (hK a' cap' w' r1 r2 r3)
end arms
end Go.Proofs.YtckkccnebjacdaaGreat
namespace Go.Proofs.YtckkccnebjacdaaGreat
open Go.RowKit
set_option linter.unusedVariables false
set_option linter.unusedSimpArgs false
set_option maxRecDepth 100000

theorem take_succ_get {α : Type} (l : List α) (k : Nat) (x : α) (h : l[k]? = some x) : l.take (k + 1) = l.take k ++ [x] := by
  rw [List.take_add_one, h]; rfl
theorem alloc_slot {s s' : PS} {k : Nat} (h : s.alloc = some (k, s')) : s'.slot = s.slot := by
  unfold PS.alloc at h
  split at h
  · simp only [Option.some.injEq, Prod.mk.injEq] at h; rw [← h.2]
  · split at h
    · simp only [Option.some.injEq, Prod.mk.injEq] at h; rw [← h.2]
    · simp at h

structure PS.WF (s : PS) : Prop where
  lo : 2 ≤ s.slot
  hi : s.slot ≤ 4096
  fit : s.slots.length * s.slot ≤ 4096
  nodup : s.back.Nodup
  backs : ∀ k, k ∈ s.back ↔ s.slots[k]? = some none
  len : ∀ (k : Nat) (bs : List UInt8), s.slots[k]? = some (some bs) → bs.length = s.slot

theorem PS.at_iff {s : PS} (h : 0 < s.slot) (o : Nat) (bs : List UInt8) : s.at_ o = some bs ↔ ∃ k, o = k * s.slot ∧ s.slots[k]? = some (some bs) := by
  constructor
  · intro h
    obtain ⟨a, b⟩ := PS.at_some h
    exact ⟨_, a, b⟩
  · rintro ⟨k, rfl, hk⟩
    unfold PS.at_
    rw [if_pos (Nat.mul_mod_left _ _), Nat.mul_div_cancel _ h, hk]; rfl

theorem at_set (s : PS) (h : 0 < s.slot) (k : Nat) (v : Option (List UInt8)) (hk : k < s.slots.length) (b : List Nat) (o : Nat) :
    (PS.at_ { slot := s.slot, slots := s.slots.set k v, back := b } o) = if o = k * s.slot then v else s.at_ o := by
  unfold PS.at_
  simp only
  by_cases e : o = k * s.slot
  · subst e
    rw [if_pos (Nat.mul_mod_left _ _), Nat.mul_div_cancel _ h, set_get _ _ _ _ hk, if_pos rfl, if_pos rfl]
    rfl
  · rw [if_neg e]
    by_cases hm : o % s.slot = 0
    · rw [if_pos hm, if_pos hm, set_get _ _ _ _ hk, if_neg]
      intro q
      apply e
      have := Nat.div_add_mod o s.slot
      rw [hm, q, Nat.mul_comm] at this; omega
    · rw [if_neg hm, if_neg hm]
theorem at_push (s : PS) (h : 0 < s.slot) (v : Option (List UInt8)) (b : List Nat) (o : Nat) :
    (PS.at_ { slot := s.slot, slots := s.slots ++ [v], back := b } o) = if o = s.slots.length * s.slot then v else s.at_ o := by
  have happ : ∀ j, (s.slots ++ [v])[j]? = if j = s.slots.length then some v else s.slots[j]? := by
    intro j
    by_cases e1 : j = s.slots.length
    · subst e1; simp
    · rw [if_neg e1]
      rcases Nat.lt_or_ge j s.slots.length with q | q
      · rw [List.getElem?_append_left q]
      · rw [List.getElem?_eq_none (by simp; omega), List.getElem?_eq_none q]
  unfold PS.at_
  simp only
  by_cases e : o = s.slots.length * s.slot
  · subst e
    rw [if_pos (Nat.mul_mod_left _ _), Nat.mul_div_cancel _ h, happ, if_pos rfl, if_pos rfl]
    rfl
  · rw [if_neg e]
    by_cases hm : o % s.slot = 0
    · rw [if_pos hm, if_pos hm, happ, if_neg]
      intro q
      apply e
      have := Nat.div_add_mod o s.slot
      rw [hm, q, Nat.mul_comm] at this; omega
    · rw [if_neg hm, if_neg hm]

theorem PS.WF.new {slot : Nat} (h2 : 2 ≤ slot) (h3 : slot ≤ 4096) : (PS.new slot).WF := by
  refine ⟨h2, h3, ?_, List.nodup_nil, ?_, ?_⟩
  · simp [PS.new]
  · intro k; simp [PS.new]
  · intro k bs h; simp [PS.new] at h

theorem alloc_cases {s s' : PS} {k : Nat} (h : s.alloc = some (k, s')) :
    (∃ r, s.back = k :: r ∧ s' = { s with slots := s.slots.set k (some (zeros s.slot)), back := r }) ∨
    (s.back = [] ∧ k = s.slots.length ∧ (s.slots.length + 1) * s.slot ≤ 4096 ∧ s' = { s with slots := s.slots ++ [some (zeros s.slot)] }) := by
  unfold PS.alloc at h
  split at h
  · rename_i k' r hb
    simp only [Option.some.injEq, Prod.mk.injEq] at h
    obtain ⟨rfl, rfl⟩ := h
    exact Or.inl ⟨r, hb, rfl⟩
  · rename_i hb
    split at h
    · rename_i hf
      simp only [Option.some.injEq, Prod.mk.injEq] at h
      obtain ⟨rfl, rfl⟩ := h
      exact Or.inr ⟨hb, rfl, hf, rfl⟩
    · simp at h

theorem PS.WF.alloc {s s' : PS} {k : Nat} (h : s.WF) (ha : s.alloc = some (k, s')) :
    s'.WF ∧ s.at_ (k * s.slot) = none ∧ (∀ o, s'.at_ o = if o = k * s.slot then some (zeros s.slot) else s.at_ o) ∧ k * s.slot + s.slot ≤ 4096 ∧ s'.used = s.used + 1 := by
  have hlo := h.lo
  have hz : (zeros s.slot).length = s.slot := List.length_replicate
  rcases alloc_cases ha with ⟨r, hb, rfl⟩ | ⟨hb, rfl, hf, rfl⟩
  · have hk := (h.backs k).1 (by rw [hb]; simp)
    have hlt := (List.getElem?_eq_some_iff.1 hk).1
    have hnd := h.nodup
    rw [hb, List.nodup_cons] at hnd
    refine ⟨⟨h.lo, h.hi, by simpa using h.fit, hnd.2, ?_, ?_⟩, ?_, fun o => at_set s (by omega) k _ hlt r o, ?_, ?_⟩
    · intro j
      show j ∈ r ↔ (s.slots.set k (some (zeros s.slot)))[j]? = some none
      rw [set_get _ _ _ _ hlt]
      have := h.backs j
      rw [hb, List.mem_cons] at this
      by_cases e1 : j = k
      · subst e1; simp [hnd.1]
      · rw [if_neg e1, ← this]; simp [e1]
    · intro j bs hj
      have hj : (s.slots.set k (some (zeros s.slot)))[j]? = some (some bs) := hj
      rw [set_get _ _ _ _ hlt] at hj
      by_cases e1 : j = k
      · rw [if_pos e1] at hj; simp at hj; rw [← hj]; exact hz
      · rw [if_neg e1] at hj; exact h.len j bs hj
    · unfold PS.at_
      rw [if_pos (Nat.mul_mod_left _ _), Nat.mul_div_cancel _ (by omega), hk]; rfl
    · have := apart (n := s.slot) hlt; have := h.fit; omega
    · have := filter_set (fun x : Option (List UInt8) => x.isSome) s.slots k (some (zeros s.slot)) _ hk
      simp at this
      simp [PS.used]; omega
  · refine ⟨⟨h.lo, h.hi, by simpa using hf, h.nodup, ?_, ?_⟩, ?_, fun o => at_push s (by omega) _ _ o, ?_, ?_⟩
    · intro j
      show j ∈ s.back ↔ (s.slots ++ [some (zeros s.slot)])[j]? = some none
      rw [hb]
      rcases Nat.lt_or_ge j s.slots.length with q | q
      · rw [List.getElem?_append_left q, ← h.backs j, hb]
      · rw [List.getElem?_append_right q]
        cases hjj : j - s.slots.length <;> simp
    · intro j bs hj
      have hj : (s.slots ++ [some (zeros s.slot)])[j]? = some (some bs) := hj
      rcases Nat.lt_or_ge j s.slots.length with q | q
      · rw [List.getElem?_append_left q] at hj; exact h.len j bs hj
      · rw [List.getElem?_append_right q] at hj
        cases hjj : j - s.slots.length with
        | zero => rw [hjj] at hj; simp at hj; rw [← hj]; exact hz
        | succ m => rw [hjj] at hj; simp at hj
    · unfold PS.at_
      rw [if_pos (Nat.mul_mod_left _ _), Nat.mul_div_cancel _ (by omega), List.getElem?_eq_none (Nat.le_refl _)]; rfl
    · rw [Nat.add_mul] at hf; omega
    · simp [PS.used, List.filter_append]

theorem PS.WF.free {s : PS} (h : s.WF) {k : Nat} {bs : List UInt8} (hk : s.slots[k]? = some (some bs)) :
    (s.free k).WF ∧ (∀ o, (s.free k).at_ o = if o = k * s.slot then none else s.at_ o) ∧ (s.free k).used + 1 = s.used := by
  have hlo := h.lo
  have hlt := (List.getElem?_eq_some_iff.1 hk).1
  have hkb : k ∉ s.back := by
    intro hh; have := (h.backs k).1 hh; rw [hk] at this; simp at this
  refine ⟨⟨h.lo, h.hi, by simpa [PS.free] using h.fit, List.nodup_cons.2 ⟨hkb, h.nodup⟩, ?_, ?_⟩, fun o => at_set s (by omega) k none hlt _ o, ?_⟩
  · intro j
    show j ∈ k :: s.back ↔ (s.slots.set k none)[j]? = some none
    rw [set_get _ _ _ _ hlt, List.mem_cons, h.backs j]
    by_cases e1 : j = k
    · simp [e1]
    · rw [if_neg e1]; simp [e1]
  · intro j b hj
    have hj : (s.slots.set k none)[j]? = some (some b) := hj
    rw [set_get _ _ _ _ hlt] at hj
    by_cases e1 : j = k
    · rw [if_pos e1] at hj; simp at hj
    · rw [if_neg e1] at hj; exact h.len j b hj
  · have := filter_set (fun x : Option (List UInt8) => x.isSome) s.slots k none _ hk
    simp at this
    simp [PS.used, PS.free]; omega

def newBytes (slot : Nat) (b : ByteArray) : List UInt8 := b.data.toList ++ zeros (slot - b.size)
theorem PS.WF.write {s : PS} (h : s.WF) {k : Nat} {bs : List UInt8} (hk : s.slots[k]? = some (some bs)) (b : ByteArray) (hb : b.size ≤ s.slot) :
    (s.write k b).WF ∧ (∀ o, (s.write k b).at_ o = if o = k * s.slot then some (newBytes s.slot b) else s.at_ o) ∧ (s.write k b).used = s.used := by
  have hlo := h.lo
  have hlt := (List.getElem?_eq_some_iff.1 hk).1
  have hlen : (newBytes s.slot b).length = s.slot := by
    unfold newBytes zeros
    rw [List.length_append, List.length_replicate]
    have : b.data.toList.length = b.size := Array.length_toList
    omega
  refine ⟨⟨h.lo, h.hi, by simpa [PS.write] using h.fit, h.nodup, ?_, ?_⟩, fun o => at_set s (by omega) k _ hlt _ o, ?_⟩
  · intro j
    show j ∈ s.back ↔ (s.slots.set k (some (newBytes s.slot b)))[j]? = some none
    rw [set_get _ _ _ _ hlt, h.backs j]
    by_cases e1 : j = k
    · subst e1; simp [hk]
    · rw [if_neg e1]
  · intro j x hj
    have hj : (s.slots.set k (some (newBytes s.slot b)))[j]? = some (some x) := hj
    rw [set_get _ _ _ _ hlt] at hj
    by_cases e1 : j = k
    · rw [if_pos e1] at hj; simp at hj; rw [← hj]; exact hlen
    · rw [if_neg e1] at hj; exact h.len j x hj
  · have := filter_set (fun x : Option (List UInt8) => x.isSome) s.slots k (some (newBytes s.slot b)) _ hk
    simp at this
    simp [PS.used, PS.write]
    exact this


theorem filter_full {α : Type} (p : α → Bool) (l : List α) (h : ∀ x ∈ l, p x = true) : (l.filter p).length = l.length := by
  rw [List.filter_eq_self.2 h]
theorem filter_less {α : Type} (p : α → Bool) (l : List α) (x : α) (hx : x ∈ l) (h : p x = false) : (l.filter p).length < l.length := by
  have h1 := List.length_filter_le p l
  rcases Nat.lt_or_ge (l.filter p).length l.length with q | q
  · exact q
  · have e : (l.filter p).length = l.length := by omega
    have := List.length_filter_eq_length_iff.1 e x hx
    rw [h] at this; cases this

/-- There is a slot just where fewer are used than there may be. -/
theorem PS.WF.alloc_iff {s : PS} (h : s.WF) : s.alloc.isSome = decide (s.used < 4096 / s.slot) := by
  have hlo := h.lo
  have hle := used_le s
  have hfit : s.slots.length ≤ 4096 / s.slot := (Nat.le_div_iff_mul_le (by omega)).2 h.fit
  unfold PS.alloc
  cases hb : s.back with
  | cons k r =>
    have hk := (h.backs k).1 (by rw [hb]; simp)
    have := filter_less (fun x : Option (List UInt8) => x.isSome) s.slots none (List.mem_of_getElem? hk) rfl
    have hu : s.used < s.slots.length := this
    simp only [Option.isSome_some]
    symm; exact decide_eq_true (by omega)
  | nil =>
    have hall : ∀ x ∈ s.slots, x.isSome = true := by
      intro x hx
      cases x with
      | some _ => rfl
      | none =>
        obtain ⟨i, hi, e⟩ := List.getElem_of_mem hx
        have := (h.backs i).2 (by rw [List.getElem?_eq_getElem hi, e])
        rw [hb] at this; simp at this
    have hu : s.used = s.slots.length := filter_full (fun x : Option (List UInt8) => x.isSome) s.slots hall
    rw [hu]
    simp only
    by_cases q : (s.slots.length + 1) * s.slot ≤ 4096
    · rw [if_pos q]
      have := (Nat.le_div_iff_mul_le (k := s.slot) (x := s.slots.length + 1) (y := 4096) (by omega)).2 q
      simp only [Option.isSome_some]
      symm; exact decide_eq_true (by omega)
    · rw [if_neg q]
      have : ¬ s.slots.length + 1 ≤ 4096 / s.slot := fun e => q ((Nat.le_div_iff_mul_le (by omega)).1 e)
      simp only [Option.isSome_none]
      symm; exact decide_eq_false (by omega)


def allocR (s : PS) : Nat × Nat × PS :=
  match s.alloc with
  | some (k, s') => (k * s.slot, 0, s')
  | none => (0, 41, s)
def freeR (s : PS) (off : Nat) : Nat × PS := if (s.at_ off).isSome then (0, s.free (off / s.slot)) else (5, s)
def writeR (s : PS) (off : Nat) (b : ByteArray) : Nat × PS :=
  if (s.at_ off).isSome then (if b.size ≤ s.slot then (0, s.write (off / s.slot) b) else (40, s)) else (5, s)
def readR (s : PS) (off : Nat) : List UInt8 × Nat := match s.at_ off with | some bs => (bs, 0) | none => ([], 5)

section calls
variable {w : World} {p m : Nat} {s : PS}
theorem alloc_any (h : PageIs w p m s) : Calls Tryz.prog 125 #[.pointer (some ⟨p, 0, none⟩)] w fun e w' => e = .returned (.tuple #[.int .u16 ((allocR s).1 : Int), .int .i64 ((allocR s).2.1 : Int)]) ∧ PageIs w' p m (allocR s).2.2 ∧ Fr (two p m) w w' := by
  unfold allocR
  cases ha : s.alloc with
  | none => exact (Page_Alloc_no h ha).mono fun e w' ⟨he, hw⟩ => ⟨he, by subst hw; exact ⟨h, Fr.drew _ _⟩⟩
  | some ks => exact Page_Alloc_yes h ha
theorem free_any (h : PageIs w p m s) (off : Nat) : Calls Tryz.prog 94 #[.pointer (some ⟨p, 0, none⟩), .int .u16 (off : Int)] w fun e w' => e = .returned (.int .i64 ((freeR s off).1 : Int)) ∧ PageIs w' p m (freeR s off).2 ∧ Fr (two p m) w w' := by
  unfold freeR
  cases ha : s.at_ off with
  | none => exact (Page_Free_no h ha).mono fun e w' ⟨he, hf⟩ => ⟨he, h.kept hf (fun e => e) (fun e => e), hf.none⟩
  | some bs => exact Page_Free_yes h ha
theorem write_any (h : PageIs w p m s) (off : Nat) (b : ByteArray) : Calls Tryz.prog 88 #[.pointer (some ⟨p, 0, none⟩), .int .u16 (off : Int), .string b] w fun e w' => e = .returned (.int .i64 ((writeR s off b).1 : Int)) ∧ PageIs w' p m (writeR s off b).2 ∧ Fr (two p m) w w' := by
  unfold writeR
  cases ha : s.at_ off with
  | none => exact (Page_Write_no h ha b).mono fun e w' ⟨he, hf⟩ => ⟨he, h.kept hf (fun e => e) (fun e => e), hf.none⟩
  | some bs =>
    simp only [Option.isSome_some, if_pos]
    by_cases hb : b.size ≤ s.slot
    · rw [if_pos hb]; exact (Page_Write_yes h ha b hb).mono fun e w' ⟨he, hp, hf⟩ => ⟨he, hp, hf.mono fun k _ e => Or.inl e⟩
    · rw [if_neg hb]; exact (Page_Write_big h ha b (by omega)).mono fun e w' ⟨he, hf⟩ => ⟨he, h.kept hf (fun e => e) (fun e => e), hf.none⟩
theorem read_any (h : PageIs w p m s) (off : Nat) : Calls Tryz.prog 112 #[.pointer (some ⟨p, 0, none⟩), .int .u16 (off : Int)] w fun e w' => e = .returned (.tuple #[.string (strOf (readR s off).1), .int .i64 ((readR s off).2 : Int)]) ∧ Fr none_ w w' := by
  unfold readR
  cases ha : s.at_ off with
  | none => exact Page_Read_no h ha
  | some bs => exact Page_Read_yes h ha
end calls

theorem allocR_slot (s : PS) : (allocR s).2.2.slot = s.slot := by
  unfold allocR; split
  · rename_i h; exact alloc_slot h
  · rfl
theorem freeR_slot (s : PS) (o : Nat) : (freeR s o).2.slot = s.slot := by unfold freeR; split <;> rfl
theorem writeR_slot (s : PS) (o : Nat) (b : ByteArray) : (writeR s o b).2.slot = s.slot := by
  unfold writeR; split
  · split <;> rfl
  · rfl
theorem allocR_wf {s : PS} (h : s.WF) : (allocR s).2.2.WF ∧ (allocR s).1 < 65536 ∧ (allocR s).2.1 < 256 := by
  unfold allocR; split
  · rename_i ha
    obtain ⟨q1, q2, q3, q4, q5⟩ := h.alloc ha
    exact ⟨q1, by simp only; omega, by simp⟩
  · exact ⟨h, by simp, by simp⟩
theorem freeR_wf {s : PS} (h : s.WF) (o : Nat) : (freeR s o).2.WF ∧ (freeR s o).1 < 256 := by
  unfold freeR; split
  · rename_i ha
    obtain ⟨bs, hb⟩ := Option.isSome_iff_exists.1 ha
    obtain ⟨_, hk⟩ := PS.at_some hb
    exact ⟨(h.free hk).1, by simp⟩
  · exact ⟨h, by simp⟩
theorem writeR_wf {s : PS} (h : s.WF) (o : Nat) (b : ByteArray) : (writeR s o b).2.WF ∧ (writeR s o b).1 < 256 := by
  unfold writeR; split
  · rename_i ha
    obtain ⟨bs, hb⟩ := Option.isSome_iff_exists.1 ha
    obtain ⟨_, hk⟩ := PS.at_some hb
    split
    · rename_i hs; exact ⟨(h.write hk b hs).1, by simp⟩
    · exact ⟨h, by simp⟩
  · exact ⟨h, by simp⟩
theorem readR_b (s : PS) (o : Nat) : (readR s o).2 < 256 := by unfold readR; split <;> simp
theorem readR_len {s : PS} (h : s.WF) (o : Nat) : (readR s o).1.length ≤ s.slot := by
  unfold readR; split
  · rename_i bs ha
    obtain ⟨_, hk⟩ := PS.at_some ha
    rw [h.len _ _ hk]; exact Nat.le_refl _
  · simp

theorem PageIs.drewN {w : World} {p m : Nat} {s : PS} (h : PageIs w p m s) (n : Nat) : PageIs (w.drewN n) p m s := h.kept (Fr.drewN none_ w n) (fun e => e) (fun e => e)
end Go.Proofs.YtckkccnebjacdaaGreat
