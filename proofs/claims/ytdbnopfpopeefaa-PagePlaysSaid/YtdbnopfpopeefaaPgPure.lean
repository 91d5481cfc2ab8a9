/-
  Plain law, no program: what steps make of a page's state, and of the list of offsets that are used.
-/
import Derived.Test.YtdbnopfpopeefaaPgRun
namespace Go.Proofs.Ytdbnopfpopeefaa
open Go.RowKit
set_option linter.unusedVariables false
set_option linter.unusedSimpArgs false

/-- A state that may be. -/
structure PS.WF (s : PS) : Prop where
  lo : 2 ≤ s.slot
  hi : s.slot ≤ 4096
  fit : s.slots.length * s.slot ≤ 4096
  nodup : s.back.Nodup
  backs : ∀ k, k ∈ s.back ↔ s.slots[k]? = some none
  len : ∀ (k : Nat) (bs : List UInt8), s.slots[k]? = some (some bs) → bs.length = s.slot

theorem PS.at_iff {s : PS} (h : 0 < s.slot) (o : Nat) (bs : List UInt8) : s.at_ o = some bs ↔ ∃ k, o = k * s.slot ∧ s.slots[k]? = some (some bs) := by
  constructor
  · intro h
    obtain ⟨a, b⟩ := PS.at_some h
    exact ⟨_, a, b⟩
  · rintro ⟨k, rfl, hk⟩
    unfold PS.at_
    rw [if_pos (Nat.mul_mod_left _ _), Nat.mul_div_cancel _ h, hk]; rfl

theorem at_set (s : PS) (h : 0 < s.slot) (k : Nat) (v : Option (List UInt8)) (hk : k < s.slots.length) (b : List Nat) (o : Nat) :
    (PS.at_ { slot := s.slot, slots := s.slots.set k v, back := b } o) = if o = k * s.slot then v else s.at_ o := by
  unfold PS.at_
  simp only
  by_cases e : o = k * s.slot
  · subst e
    rw [if_pos (Nat.mul_mod_left _ _), Nat.mul_div_cancel _ h, set_get _ _ _ _ hk, if_pos rfl, if_pos rfl]
    rfl
  · rw [if_neg e]
    by_cases hm : o % s.slot = 0
    · rw [if_pos hm, if_pos hm, set_get _ _ _ _ hk, if_neg]
      intro q
      apply e
      have := Nat.div_add_mod o s.slot
      rw [hm, q, Nat.mul_comm] at this; omega
    · rw [if_neg hm, if_neg hm]
theorem at_push (s : PS) (h : 0 < s.slot) (v : Option (List UInt8)) (b : List Nat) (o : Nat) :
    (PS.at_ { slot := s.slot, slots := s.slots ++ [v], back := b } o) = if o = s.slots.length * s.slot then v else s.at_ o := by
  have happ : ∀ j, (s.slots ++ [v])[j]? = if j = s.slots.length then some v else s.slots[j]? := by
    intro j
    by_cases e1 : j = s.slots.length
    · subst e1; simp
    · rw [if_neg e1]
      rcases Nat.lt_or_ge j s.slots.length with q | q
      · rw [List.getElem?_append_left q]
      · rw [List.getElem?_eq_none (by simp; omega), List.getElem?_eq_none q]
  unfold PS.at_
  simp only
  by_cases e : o = s.slots.length * s.slot
  · subst e
    rw [if_pos (Nat.mul_mod_left _ _), Nat.mul_div_cancel _ h, happ, if_pos rfl, if_pos rfl]
    rfl
  · rw [if_neg e]
    by_cases hm : o % s.slot = 0
    · rw [if_pos hm, if_pos hm, happ, if_neg]
      intro q
      apply e
      have := Nat.div_add_mod o s.slot
      rw [hm, q, Nat.mul_comm] at this; omega
    · rw [if_neg hm, if_neg hm]

theorem PS.WF.new {slot : Nat} (h2 : 2 ≤ slot) (h3 : slot ≤ 4096) : (PS.new slot).WF := by
  refine ⟨h2, h3, ?_, List.nodup_nil, ?_, ?_⟩
  · simp [PS.new]
  · intro k; simp [PS.new]
  · intro k bs h; simp [PS.new] at h

theorem alloc_cases {s s' : PS} {k : Nat} (h : s.alloc = some (k, s')) :
    (∃ r, s.back = k :: r ∧ s' = { s with slots := s.slots.set k (some (zeros s.slot)), back := r }) ∨
    (s.back = [] ∧ k = s.slots.length ∧ (s.slots.length + 1) * s.slot ≤ 4096 ∧ s' = { s with slots := s.slots ++ [some (zeros s.slot)] }) := by
  unfold PS.alloc at h
  split at h
  · rename_i k' r hb
    simp only [Option.some.injEq, Prod.mk.injEq] at h
    obtain ⟨rfl, rfl⟩ := h
    exact Or.inl ⟨r, hb, rfl⟩
  · rename_i hb
    split at h
    · rename_i hf
      simp only [Option.some.injEq, Prod.mk.injEq] at h
      obtain ⟨rfl, rfl⟩ := h
      exact Or.inr ⟨hb, rfl, hf, rfl⟩
    · simp at h

theorem PS.WF.alloc {s s' : PS} {k : Nat} (h : s.WF) (ha : s.alloc = some (k, s')) :
    s'.WF ∧ s.at_ (k * s.slot) = none ∧ (∀ o, s'.at_ o = if o = k * s.slot then some (zeros s.slot) else s.at_ o) ∧ k * s.slot + s.slot ≤ 4096 ∧ s'.used = s.used + 1 := by
  have hlo := h.lo
  have hz : (zeros s.slot).length = s.slot := List.length_replicate
  rcases alloc_cases ha with ⟨r, hb, rfl⟩ | ⟨hb, rfl, hf, rfl⟩
  · have hk := (h.backs k).1 (by rw [hb]; simp)
    have hlt := (List.getElem?_eq_some_iff.1 hk).1
    have hnd := h.nodup
    rw [hb, List.nodup_cons] at hnd
    refine ⟨⟨h.lo, h.hi, by simpa using h.fit, hnd.2, ?_, ?_⟩, ?_, fun o => at_set s (by omega) k _ hlt r o, ?_, ?_⟩
    · intro j
      show j ∈ r ↔ (s.slots.set k (some (zeros s.slot)))[j]? = some none
      rw [set_get _ _ _ _ hlt]
      have := h.backs j
      rw [hb, List.mem_cons] at this
      by_cases e1 : j = k
      · subst e1; simp [hnd.1]
      · rw [if_neg e1, ← this]; simp [e1]
    · intro j bs hj
      have hj : (s.slots.set k (some (zeros s.slot)))[j]? = some (some bs) := hj
      rw [set_get _ _ _ _ hlt] at hj
      by_cases e1 : j = k
      · rw [if_pos e1] at hj; simp at hj; rw [← hj]; exact hz
      · rw [if_neg e1] at hj; exact h.len j bs hj
    · unfold PS.at_
      rw [if_pos (Nat.mul_mod_left _ _), Nat.mul_div_cancel _ (by omega), hk]; rfl
    · have := apart (n := s.slot) hlt; have := h.fit; omega
    · have := filter_set (fun x : Option (List UInt8) => x.isSome) s.slots k (some (zeros s.slot)) _ hk
      simp at this
      simp [PS.used]; omega
  · refine ⟨⟨h.lo, h.hi, by simpa using hf, h.nodup, ?_, ?_⟩, ?_, fun o => at_push s (by omega) _ _ o, ?_, ?_⟩
    · intro j
      show j ∈ s.back ↔ (s.slots ++ [some (zeros s.slot)])[j]? = some none
      rw [hb]
      rcases Nat.lt_or_ge j s.slots.length with q | q
      · rw [List.getElem?_append_left q, ← h.backs j, hb]
      · rw [List.getElem?_append_right q]
        cases hjj : j - s.slots.length <;> simp
    · intro j bs hj
      have hj : (s.slots ++ [some (zeros s.slot)])[j]? = some (some bs) := hj
      rcases Nat.lt_or_ge j s.slots.length with q | q
      · rw [List.getElem?_append_left q] at hj; exact h.len j bs hj
      · rw [List.getElem?_append_right q] at hj
        cases hjj : j - s.slots.length with
        | zero => rw [hjj] at hj; simp at hj; rw [← hj]; exact hz
        | succ m => rw [hjj] at hj; simp at hj
    · unfold PS.at_
      rw [if_pos (Nat.mul_mod_left _ _), Nat.mul_div_cancel _ (by omega), List.getElem?_eq_none (Nat.le_refl _)]; rfl
    · rw [Nat.add_mul] at hf; omega
    · simp [PS.used, List.filter_append]

theorem PS.WF.free {s : PS} (h : s.WF) {k : Nat} {bs : List UInt8} (hk : s.slots[k]? = some (some bs)) :
    (s.free k).WF ∧ (∀ o, (s.free k).at_ o = if o = k * s.slot then none else s.at_ o) ∧ (s.free k).used + 1 = s.used := by
  have hlo := h.lo
  have hlt := (List.getElem?_eq_some_iff.1 hk).1
  have hkb : k ∉ s.back := by
    intro hh; have := (h.backs k).1 hh; rw [hk] at this; simp at this
  refine ⟨⟨h.lo, h.hi, by simpa [PS.free] using h.fit, List.nodup_cons.2 ⟨hkb, h.nodup⟩, ?_, ?_⟩, fun o => at_set s (by omega) k none hlt _ o, ?_⟩
  · intro j
    show j ∈ k :: s.back ↔ (s.slots.set k none)[j]? = some none
    rw [set_get _ _ _ _ hlt, List.mem_cons, h.backs j]
    by_cases e1 : j = k
    · simp [e1]
    · rw [if_neg e1]; simp [e1]
  · intro j b hj
    have hj : (s.slots.set k none)[j]? = some (some b) := hj
    rw [set_get _ _ _ _ hlt] at hj
    by_cases e1 : j = k
    · rw [if_pos e1] at hj; simp at hj
    · rw [if_neg e1] at hj; exact h.len j b hj
  · have := filter_set (fun x : Option (List UInt8) => x.isSome) s.slots k none _ hk
    simp at this
    simp [PS.used, PS.free]; omega

def newBytes (slot : Nat) (b : ByteArray) : List UInt8 := b.data.toList ++ zeros (slot - b.size)
theorem PS.WF.write {s : PS} (h : s.WF) {k : Nat} {bs : List UInt8} (hk : s.slots[k]? = some (some bs)) (b : ByteArray) (hb : b.size ≤ s.slot) :
    (s.write k b).WF ∧ (∀ o, (s.write k b).at_ o = if o = k * s.slot then some (newBytes s.slot b) else s.at_ o) ∧ (s.write k b).used = s.used := by
  have hlo := h.lo
  have hlt := (List.getElem?_eq_some_iff.1 hk).1
  have hlen : (newBytes s.slot b).length = s.slot := by
    unfold newBytes zeros
    rw [List.length_append, List.length_replicate]
    have : b.data.toList.length = b.size := Array.length_toList
    omega
  refine ⟨⟨h.lo, h.hi, by simpa [PS.write] using h.fit, h.nodup, ?_, ?_⟩, fun o => at_set s (by omega) k _ hlt _ o, ?_⟩
  · intro j
    show j ∈ s.back ↔ (s.slots.set k (some (newBytes s.slot b)))[j]? = some none
    rw [set_get _ _ _ _ hlt, h.backs j]
    by_cases e1 : j = k
    · subst e1; simp [hk]
    · rw [if_neg e1]
  · intro j x hj
    have hj : (s.slots.set k (some (newBytes s.slot b)))[j]? = some (some x) := hj
    rw [set_get _ _ _ _ hlt] at hj
    by_cases e1 : j = k
    · rw [if_pos e1] at hj; simp at hj; rw [← hj]; exact hlen
    · rw [if_neg e1] at hj; exact h.len j x hj
  · have := filter_set (fun x : Option (List UInt8) => x.isSome) s.slots k (some (newBytes s.slot b)) _ hk
    simp at this
    simp [PS.used, PS.write]
    exact this

/-- The list tells just the offsets that are used, none twice. -/
structure UInv (st : PS × List Nat) : Prop where
  wf : st.1.WF
  mem : ∀ o, o ∈ st.2 ↔ (st.1.at_ o).isSome = true
  nodup : st.2.Nodup
  count : st.2.length = st.1.used

theorem UInv.new {slot : Nat} (h2 : 2 ≤ slot) (h3 : slot ≤ 4096) : UInv (PS.new slot, []) := by
  refine ⟨PS.WF.new h2 h3, ?_, List.nodup_nil, ?_⟩
  · intro o
    have : (PS.new slot).at_ o = none := by unfold PS.at_ PS.new; simp
    simp [this]
  · simp [PS.used, PS.new]

theorem without_length {l : List Nat} (hn : l.Nodup) {o : Nat} (ho : o ∈ l) : (without l o).length + 1 = l.length := by
  induction l with
  | nil => simp at ho
  | cons x r ih =>
    rw [List.nodup_cons] at hn
    unfold without at ih ⊢
    rw [List.filter_cons]
    by_cases e : x = o
    · subst e
      have : List.filter (fun y => decide (y ≠ x)) r = r := by
        apply List.filter_eq_self.2
        intro y hy
        simp only [ne_eq, decide_not, Bool.not_eq_true', decide_eq_false_iff_not]
        intro q; subst q; exact hn.1 hy
      simp only [ne_eq, not_true_eq_false, decide_false, Bool.false_eq_true, if_false, List.length_cons]
      rw [this]
    · have ho' : o ∈ r := by
        rcases List.mem_cons.1 ho with q | q
        · exact absurd q.symm e
        · exact q
      simp only [ne_eq, e, not_false_eq_true, decide_true, if_true, List.length_cons]
      have := ih hn.2 ho'
      simp only [ne_eq] at this
      omega

theorem UInv.step {slot : Nat} {st : PS × List Nat} (h : UInv st) (hs : st.1.slot = slot) (x : StepV) : UInv (stepRun slot st x) := by
  subst hs
  have hlo := h.wf.lo
  unfold stepRun
  split
  · split
    · rename_i k s' ha
      obtain ⟨q1, q2, q3, q4, q5⟩ := h.wf.alloc ha
      refine ⟨q1, ?_, ?_, ?_⟩
      · intro o
        show o ∈ st.2 ++ [k * st.1.slot] ↔ _
        rw [q3 o, List.mem_append, List.mem_singleton, h.mem o]
        by_cases e : o = k * st.1.slot
        · simp [e]
        · simp [e]
      · show (st.2 ++ [k * st.1.slot]).Nodup
        rw [List.nodup_append]
        refine ⟨h.nodup, by simp, ?_⟩
        intro a ha b hb e
        simp at hb
        rw [e, hb] at ha
        have := (h.mem _).1 ha
        rw [q2] at this; simp at this
      · show (st.2 ++ [k * st.1.slot]).length = s'.used
        rw [List.length_append, List.length_singleton, q5, h.count]
    · exact h
  · split
    · split
      · rename_i hu
        obtain ⟨bs, hbs⟩ := Option.isSome_iff_exists.1 hu
        obtain ⟨e, hk⟩ := PS.at_some hbs
        obtain ⟨q1, q2, q3⟩ := h.wf.free hk
        refine ⟨q1, ?_, h.nodup.filter _, ?_⟩
        · intro o
          show o ∈ List.filter _ st.2 ↔ _
          rw [q2 o, ← e, List.mem_filter, h.mem o]
          by_cases e1 : o = x.offset st.1.slot
          · simp [e1]
          · simp [e1]
        · have := without_length h.nodup ((h.mem _).2 hu)
          have hc := h.count
          show (without st.2 (x.offset st.1.slot)).length = _
          show (without st.2 (x.offset st.1.slot)).length = (st.1.free (x.offset st.1.slot / st.1.slot)).used
          omega
      · exact h
    · split
      · split
        · rename_i hu
          obtain ⟨bs, hbs⟩ := Option.isSome_iff_exists.1 hu.1
          obtain ⟨e, hk⟩ := PS.at_some hbs
          obtain ⟨q1, q2, q3⟩ := h.wf.write hk x.s hu.2
          refine ⟨q1, ?_, h.nodup, ?_⟩
          · intro o
            show o ∈ st.2 ↔ _
            rw [q2 o, ← e, h.mem o]
            by_cases e1 : o = x.offset st.1.slot
            · rw [e1, if_pos rfl]; simp [hu.1]
            · rw [if_neg e1]
          · show st.2.length = (st.1.write (x.offset st.1.slot / st.1.slot) x.s).used
            rw [q3, h.count]
        · exact h
      · exact h

theorem UInv.run {slot : Nat} (h2 : 2 ≤ slot) (h3 : slot ≤ 4096) (l : List StepV) : UInv (l.foldl (stepRun slot) (PS.new slot, [])) ∧ (l.foldl (stepRun slot) (PS.new slot, [])).1.slot = slot := by
  have key : ∀ (l : List StepV) (st : PS × List Nat), UInv st → st.1.slot = slot → UInv (l.foldl (stepRun slot) st) ∧ (l.foldl (stepRun slot) st).1.slot = slot := by
    intro l
    induction l with
    | nil => intro st h hs; exact ⟨h, hs⟩
    | cons x r ih => intro st h hs; exact ih _ (h.step hs x) ((stepRun_slot slot st x).trans hs)
  exact key l _ (UInv.new h2 h3) rfl
end Go.Proofs.Ytdbnopfpopeefaa
