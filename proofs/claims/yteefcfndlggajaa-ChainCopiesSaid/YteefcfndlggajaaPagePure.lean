/-
  Of a page's states alone: what each method answers, what keeps standing; and each method's contract, whatever is asked.
-/
import Derived.Test.YteefcfndlggajaaPageIs
import Derived.Test.YteefcfndlggajaaSlice
namespace Go.Proofs.Yteefcfndlggajaa
open Go.RowKit
set_option linter.unusedVariables false
set_option linter.unusedSimpArgs false
set_option maxRecDepth 100000

theorem take_succ_get {α : Type} (l : List α) (k : Nat) (x : α) (h : l[k]? = some x) : l.take (k + 1) = l.take k ++ [x] := by
  rw [List.take_add_one, h]; rfl
theorem alloc_slot {s s' : PS} {k : Nat} (h : s.alloc = some (k, s')) : s'.slot = s.slot := by
  unfold PS.alloc at h
  split at h
  · simp only [Option.some.injEq, Prod.mk.injEq] at h; rw [← h.2]
  · split at h
    · simp only [Option.some.injEq, Prod.mk.injEq] at h; rw [← h.2]
    · simp at h

structure PS.WF (s : PS) : Prop where
  lo : 2 ≤ s.slot
  hi : s.slot ≤ 4096
  fit : s.slots.length * s.slot ≤ 4096
  nodup : s.back.Nodup
  backs : ∀ k, k ∈ s.back ↔ s.slots[k]? = some none
  len : ∀ (k : Nat) (bs : List UInt8), s.slots[k]? = some (some bs) → bs.length = s.slot

theorem PS.at_iff {s : PS} (h : 0 < s.slot) (o : Nat) (bs : List UInt8) : s.at_ o = some bs ↔ ∃ k, o = k * s.slot ∧ s.slots[k]? = some (some bs) := by
  constructor
  · intro h
    obtain ⟨a, b⟩ := PS.at_some h
    exact ⟨_, a, b⟩
  · rintro ⟨k, rfl, hk⟩
    unfold PS.at_
    rw [if_pos (Nat.mul_mod_left _ _), Nat.mul_div_cancel _ h, hk]; rfl

theorem at_set (s : PS) (h : 0 < s.slot) (k : Nat) (v : Option (List UInt8)) (hk : k < s.slots.length) (b : List Nat) (o : Nat) :
    (PS.at_ { slot := s.slot, slots := s.slots.set k v, back := b } o) = if o = k * s.slot then v else s.at_ o := by
  unfold PS.at_
  simp only
  by_cases e : o = k * s.slot
  · subst e
    rw [if_pos (Nat.mul_mod_left _ _), Nat.mul_div_cancel _ h, set_get _ _ _ _ hk, if_pos rfl, if_pos rfl]
    rfl
  · rw [if_neg e]
    by_cases hm : o % s.slot = 0
    · rw [if_pos hm, if_pos hm, set_get _ _ _ _ hk, if_neg]
      intro q
      apply e
      have := Nat.div_add_mod o s.slot
      rw [hm, q, Nat.mul_comm] at this; omega
    · rw [if_neg hm, if_neg hm]
theorem at_push (s : PS) (h : 0 < s.slot) (v : Option (List UInt8)) (b : List Nat) (o : Nat) :
    (PS.at_ { slot := s.slot, slots := s.slots ++ [v], back := b } o) = if o = s.slots.length * s.slot then v else s.at_ o := by
  have happ : ∀ j, (s.slots ++ [v])[j]? = if j = s.slots.length then some v else s.slots[j]? := by
    intro j
    by_cases e1 : j = s.slots.length
    · subst e1; simp
    · rw [if_neg e1]
      rcases Nat.lt_or_ge j s.slots.length with q | q
      · rw [List.getElem?_append_left q]
      · rw [List.getElem?_eq_none (by simp; omega), List.getElem?_eq_none q]
  unfold PS.at_
  simp only
  by_cases e : o = s.slots.length * s.slot
  · subst e
    rw [if_pos (Nat.mul_mod_left _ _), Nat.mul_div_cancel _ h, happ, if_pos rfl, if_pos rfl]
    rfl
  · rw [if_neg e]
    by_cases hm : o % s.slot = 0
    · rw [if_pos hm, if_pos hm, happ, if_neg]
      intro q
      apply e
      have := Nat.div_add_mod o s.slot
      rw [hm, q, Nat.mul_comm] at this; omega
    · rw [if_neg hm, if_neg hm]

theorem PS.WF.new {slot : Nat} (h2 : 2 ≤ slot) (h3 : slot ≤ 4096) : (PS.new slot).WF := by
  refine ⟨h2, h3, ?_, List.nodup_nil, ?_, ?_⟩
  · simp [PS.new]
  · intro k; simp [PS.new]
  · intro k bs h; simp [PS.new] at h

theorem alloc_cases {s s' : PS} {k : Nat} (h : s.alloc = some (k, s')) :
    (∃ r, s.back = k :: r ∧ s' = { s with slots := s.slots.set k (some (zeros s.slot)), back := r }) ∨
    (s.back = [] ∧ k = s.slots.length ∧ (s.slots.length + 1) * s.slot ≤ 4096 ∧ s' = { s with slots := s.slots ++ [some (zeros s.slot)] }) := by
  unfold PS.alloc at h
  split at h
  · rename_i k' r hb
    simp only [Option.some.injEq, Prod.mk.injEq] at h
    obtain ⟨rfl, rfl⟩ := h
    exact Or.inl ⟨r, hb, rfl⟩
  · rename_i hb
    split at h
    · rename_i hf
      simp only [Option.some.injEq, Prod.mk.injEq] at h
      obtain ⟨rfl, rfl⟩ := h
      exact Or.inr ⟨hb, rfl, hf, rfl⟩
    · simp at h

theorem PS.WF.alloc {s s' : PS} {k : Nat} (h : s.WF) (ha : s.alloc = some (k, s')) :
    s'.WF ∧ s.at_ (k * s.slot) = none ∧ (∀ o, s'.at_ o = if o = k * s.slot then some (zeros s.slot) else s.at_ o) ∧ k * s.slot + s.slot ≤ 4096 ∧ s'.used = s.used + 1 := by
  have hlo := h.lo
  have hz : (zeros s.slot).length = s.slot := List.length_replicate
  rcases alloc_cases ha with ⟨r, hb, rfl⟩ | ⟨hb, rfl, hf, rfl⟩
  · have hk := (h.backs k).1 (by rw [hb]; simp)
    have hlt := (List.getElem?_eq_some_iff.1 hk).1
    have hnd := h.nodup
    rw [hb, List.nodup_cons] at hnd
    refine ⟨⟨h.lo, h.hi, by simpa using h.fit, hnd.2, ?_, ?_⟩, ?_, fun o => at_set s (by omega) k _ hlt r o, ?_, ?_⟩
    · intro j
      show j ∈ r ↔ (s.slots.set k (some (zeros s.slot)))[j]? = some none
      rw [set_get _ _ _ _ hlt]
      have := h.backs j
      rw [hb, List.mem_cons] at this
      by_cases e1 : j = k
      · subst e1; simp [hnd.1]
      · rw [if_neg e1, ← this]; simp [e1]
    · intro j bs hj
      have hj : (s.slots.set k (some (zeros s.slot)))[j]? = some (some bs) := hj
      rw [set_get _ _ _ _ hlt] at hj
      by_cases e1 : j = k
      · rw [if_pos e1] at hj; simp at hj; rw [← hj]; exact hz
      · rw [if_neg e1] at hj; exact h.len j bs hj
    · unfold PS.at_
      rw [if_pos (Nat.mul_mod_left _ _), Nat.mul_div_cancel _ (by omega), hk]; rfl
    · have := apart (n := s.slot) hlt; have := h.fit; omega
    · have := filter_set (fun x : Option (List UInt8) => x.isSome) s.slots k (some (zeros s.slot)) _ hk
      simp at this
      simp [PS.used]; omega
  · refine ⟨⟨h.lo, h.hi, by simpa using hf, h.nodup, ?_, ?_⟩, ?_, fun o => at_push s (by omega) _ _ o, ?_, ?_⟩
    · intro j
      show j ∈ s.back ↔ (s.slots ++ [some (zeros s.slot)])[j]? = some none
      rw [hb]
      rcases Nat.lt_or_ge j s.slots.length with q | q
      · rw [List.getElem?_append_left q, ← h.backs j, hb]
      · rw [List.getElem?_append_right q]
        cases hjj : j - s.slots.length <;> simp
    · intro j bs hj
      have hj : (s.slots ++ [some (zeros s.slot)])[j]? = some (some bs) := hj
      rcases Nat.lt_or_ge j s.slots.length with q | q
      · rw [List.getElem?_append_left q] at hj; exact h.len j bs hj
      · rw [List.getElem?_append_right q] at hj
        cases hjj : j - s.slots.length with
        | zero => rw [hjj] at hj; simp at hj; rw [← hj]; exact hz
        | succ m => rw [hjj] at hj; simp at hj
    · unfold PS.at_
      rw [if_pos (Nat.mul_mod_left _ _), Nat.mul_div_cancel _ (by omega), List.getElem?_eq_none (Nat.le_refl _)]; rfl
    · rw [Nat.add_mul] at hf; omega
    · simp [PS.used, List.filter_append]

theorem PS.WF.free {s : PS} (h : s.WF) {k : Nat} {bs : List UInt8} (hk : s.slots[k]? = some (some bs)) :
    (s.free k).WF ∧ (∀ o, (s.free k).at_ o = if o = k * s.slot then none else s.at_ o) ∧ (s.free k).used + 1 = s.used := by
  have hlo := h.lo
  have hlt := (List.getElem?_eq_some_iff.1 hk).1
  have hkb : k ∉ s.back := by
    intro hh; have := (h.backs k).1 hh; rw [hk] at this; simp at this
  refine ⟨⟨h.lo, h.hi, by simpa [PS.free] using h.fit, List.nodup_cons.2 ⟨hkb, h.nodup⟩, ?_, ?_⟩, fun o => at_set s (by omega) k none hlt _ o, ?_⟩
  · intro j
    show j ∈ k :: s.back ↔ (s.slots.set k none)[j]? = some none
    rw [set_get _ _ _ _ hlt, List.mem_cons, h.backs j]
    by_cases e1 : j = k
    · simp [e1]
    · rw [if_neg e1]; simp [e1]
  · intro j b hj
    have hj : (s.slots.set k none)[j]? = some (some b) := hj
    rw [set_get _ _ _ _ hlt] at hj
    by_cases e1 : j = k
    · rw [if_pos e1] at hj; simp at hj
    · rw [if_neg e1] at hj; exact h.len j b hj
  · have := filter_set (fun x : Option (List UInt8) => x.isSome) s.slots k none _ hk
    simp at this
    simp [PS.used, PS.free]; omega

def newBytes (slot : Nat) (b : ByteArray) : List UInt8 := b.data.toList ++ zeros (slot - b.size)
theorem PS.WF.write {s : PS} (h : s.WF) {k : Nat} {bs : List UInt8} (hk : s.slots[k]? = some (some bs)) (b : ByteArray) (hb : b.size ≤ s.slot) :
    (s.write k b).WF ∧ (∀ o, (s.write k b).at_ o = if o = k * s.slot then some (newBytes s.slot b) else s.at_ o) ∧ (s.write k b).used = s.used := by
  have hlo := h.lo
  have hlt := (List.getElem?_eq_some_iff.1 hk).1
  have hlen : (newBytes s.slot b).length = s.slot := by
    unfold newBytes zeros
    rw [List.length_append, List.length_replicate]
    have : b.data.toList.length = b.size := Array.length_toList
    omega
  refine ⟨⟨h.lo, h.hi, by simpa [PS.write] using h.fit, h.nodup, ?_, ?_⟩, fun o => at_set s (by omega) k _ hlt _ o, ?_⟩
  · intro j
    show j ∈ s.back ↔ (s.slots.set k (some (newBytes s.slot b)))[j]? = some none
    rw [set_get _ _ _ _ hlt, h.backs j]
    by_cases e1 : j = k
    · subst e1; simp [hk]
    · rw [if_neg e1]
  · intro j x hj
    have hj : (s.slots.set k (some (newBytes s.slot b)))[j]? = some (some x) := hj
    rw [set_get _ _ _ _ hlt] at hj
    by_cases e1 : j = k
    · rw [if_pos e1] at hj; simp at hj; rw [← hj]; exact hlen
    · rw [if_neg e1] at hj; exact h.len j x hj
  · have := filter_set (fun x : Option (List UInt8) => x.isSome) s.slots k (some (newBytes s.slot b)) _ hk
    simp at this
    simp [PS.used, PS.write]
    exact this


theorem filter_full {α : Type} (p : α → Bool) (l : List α) (h : ∀ x ∈ l, p x = true) : (l.filter p).length = l.length := by
  rw [List.filter_eq_self.2 h]
theorem filter_less {α : Type} (p : α → Bool) (l : List α) (x : α) (hx : x ∈ l) (h : p x = false) : (l.filter p).length < l.length := by
  have h1 := List.length_filter_le p l
  rcases Nat.lt_or_ge (l.filter p).length l.length with q | q
  · exact q
  · have e : (l.filter p).length = l.length := by omega
    have := List.length_filter_eq_length_iff.1 e x hx
    rw [h] at this; cases this

/-- There is a slot just where fewer are used than there may be. -/
theorem PS.WF.alloc_iff {s : PS} (h : s.WF) : s.alloc.isSome = decide (s.used < 4096 / s.slot) := by
  have hlo := h.lo
  have hle := used_le s
  have hfit : s.slots.length ≤ 4096 / s.slot := (Nat.le_div_iff_mul_le (by omega)).2 h.fit
  unfold PS.alloc
  cases hb : s.back with
  | cons k r =>
    have hk := (h.backs k).1 (by rw [hb]; simp)
    have := filter_less (fun x : Option (List UInt8) => x.isSome) s.slots none (List.mem_of_getElem? hk) rfl
    have hu : s.used < s.slots.length := this
    simp only [Option.isSome_some]
    symm; exact decide_eq_true (by omega)
  | nil =>
    have hall : ∀ x ∈ s.slots, x.isSome = true := by
      intro x hx
      cases x with
      | some _ => rfl
      | none =>
        obtain ⟨i, hi, e⟩ := List.getElem_of_mem hx
        have := (h.backs i).2 (by rw [List.getElem?_eq_getElem hi, e])
        rw [hb] at this; simp at this
    have hu : s.used = s.slots.length := filter_full (fun x : Option (List UInt8) => x.isSome) s.slots hall
    rw [hu]
    simp only
    by_cases q : (s.slots.length + 1) * s.slot ≤ 4096
    · rw [if_pos q]
      have := (Nat.le_div_iff_mul_le (k := s.slot) (x := s.slots.length + 1) (y := 4096) (by omega)).2 q
      simp only [Option.isSome_some]
      symm; exact decide_eq_true (by omega)
    · rw [if_neg q]
      have : ¬ s.slots.length + 1 ≤ 4096 / s.slot := fun e => q ((Nat.le_div_iff_mul_le (by omega)).1 e)
      simp only [Option.isSome_none]
      symm; exact decide_eq_false (by omega)


def allocR (s : PS) : Nat × Nat × PS :=
  match s.alloc with
  | some (k, s') => (k * s.slot, 0, s')
  | none => (0, 41, s)
def freeR (s : PS) (off : Nat) : Nat × PS := if (s.at_ off).isSome then (0, s.free (off / s.slot)) else (5, s)
def writeR (s : PS) (off : Nat) (b : ByteArray) : Nat × PS :=
  if (s.at_ off).isSome then (if b.size ≤ s.slot then (0, s.write (off / s.slot) b) else (40, s)) else (5, s)
def readR (s : PS) (off : Nat) : List UInt8 × Nat := match s.at_ off with | some bs => (bs, 0) | none => ([], 5)

section calls
variable {w : World} {p m : Nat} {s : PS}
theorem alloc_any (h : PageIs w p m s) : Calls Try.prog 72 #[.pointer (some ⟨p, 0, none⟩)] w fun e w' => e = .returned (.tuple #[.int .u16 ((allocR s).1 : Int), .int .i64 ((allocR s).2.1 : Int)]) ∧ PageIs w' p m (allocR s).2.2 ∧ Fr (two p m) w w' := by
  unfold allocR
  cases ha : s.alloc with
  | none => exact (Page_Alloc_no h ha).mono fun e w' ⟨he, hw⟩ => ⟨he, by subst hw; exact ⟨h, Fr.drew _ _⟩⟩
  | some ks => exact Page_Alloc_yes h ha
theorem free_any (h : PageIs w p m s) (off : Nat) : Calls Try.prog 67 #[.pointer (some ⟨p, 0, none⟩), .int .u16 (off : Int)] w fun e w' => e = .returned (.int .i64 ((freeR s off).1 : Int)) ∧ PageIs w' p m (freeR s off).2 ∧ Fr (two p m) w w' := by
  unfold freeR
  cases ha : s.at_ off with
  | none => exact (Page_Free_no h ha).mono fun e w' ⟨he, hf⟩ => ⟨he, h.kept hf (fun e => e) (fun e => e), hf.none⟩
  | some bs => exact Page_Free_yes h ha
theorem write_any (h : PageIs w p m s) (off : Nat) (b : ByteArray) : Calls Try.prog 74 #[.pointer (some ⟨p, 0, none⟩), .int .u16 (off : Int), .string b] w fun e w' => e = .returned (.int .i64 ((writeR s off b).1 : Int)) ∧ PageIs w' p m (writeR s off b).2 ∧ Fr (two p m) w w' := by
  unfold writeR
  cases ha : s.at_ off with
  | none => exact (Page_Write_no h ha b).mono fun e w' ⟨he, hf⟩ => ⟨he, h.kept hf (fun e => e) (fun e => e), hf.none⟩
  | some bs =>
    simp only [Option.isSome_some, if_pos]
    by_cases hb : b.size ≤ s.slot
    · rw [if_pos hb]; exact (Page_Write_yes h ha b hb).mono fun e w' ⟨he, hp, hf⟩ => ⟨he, hp, hf.mono fun k _ e => Or.inl e⟩
    · rw [if_neg hb]; exact (Page_Write_big h ha b (by omega)).mono fun e w' ⟨he, hf⟩ => ⟨he, h.kept hf (fun e => e) (fun e => e), hf.none⟩
theorem read_any (h : PageIs w p m s) (off : Nat) : Calls Try.prog 62 #[.pointer (some ⟨p, 0, none⟩), .int .u16 (off : Int)] w fun e w' => e = .returned (.tuple #[.string (strOf (readR s off).1), .int .i64 ((readR s off).2 : Int)]) ∧ Fr none_ w w' := by
  unfold readR
  cases ha : s.at_ off with
  | none => exact Page_Read_no h ha
  | some bs => exact Page_Read_yes h ha
end calls

theorem allocR_slot (s : PS) : (allocR s).2.2.slot = s.slot := by
  unfold allocR; split
  · rename_i h; exact alloc_slot h
  · rfl
theorem freeR_slot (s : PS) (o : Nat) : (freeR s o).2.slot = s.slot := by unfold freeR; split <;> rfl
theorem writeR_slot (s : PS) (o : Nat) (b : ByteArray) : (writeR s o b).2.slot = s.slot := by
  unfold writeR; split
  · split <;> rfl
  · rfl
theorem allocR_wf {s : PS} (h : s.WF) : (allocR s).2.2.WF ∧ (allocR s).1 < 65536 ∧ (allocR s).2.1 < 256 := by
  unfold allocR; split
  · rename_i ha
    obtain ⟨q1, q2, q3, q4, q5⟩ := h.alloc ha
    exact ⟨q1, by simp only; omega, by simp⟩
  · exact ⟨h, by simp, by simp⟩
theorem freeR_wf {s : PS} (h : s.WF) (o : Nat) : (freeR s o).2.WF ∧ (freeR s o).1 < 256 := by
  unfold freeR; split
  · rename_i ha
    obtain ⟨bs, hb⟩ := Option.isSome_iff_exists.1 ha
    obtain ⟨_, hk⟩ := PS.at_some hb
    exact ⟨(h.free hk).1, by simp⟩
  · exact ⟨h, by simp⟩
theorem writeR_wf {s : PS} (h : s.WF) (o : Nat) (b : ByteArray) : (writeR s o b).2.WF ∧ (writeR s o b).1 < 256 := by
  unfold writeR; split
  · rename_i ha
    obtain ⟨bs, hb⟩ := Option.isSome_iff_exists.1 ha
    obtain ⟨_, hk⟩ := PS.at_some hb
    split
    · rename_i hs; exact ⟨(h.write hk b hs).1, by simp⟩
    · exact ⟨h, by simp⟩
  · exact ⟨h, by simp⟩
theorem readR_b (s : PS) (o : Nat) : (readR s o).2 < 256 := by unfold readR; split <;> simp
theorem readR_len {s : PS} (h : s.WF) (o : Nat) : (readR s o).1.length ≤ s.slot := by
  unfold readR; split
  · rename_i bs ha
    obtain ⟨_, hk⟩ := PS.at_some ha
    rw [h.len _ _ hk]; exact Nat.le_refl _
  · simp

theorem PageIs.drewN {w : World} {p m : Nat} {s : PS} (h : PageIs w p m s) (n : Nat) : PageIs (w.drewN n) p m s := h.kept (Fr.drewN none_ w n) (fun e => e) (fun e => e)
end Go.Proofs.Yteefcfndlggajaa
