/-
  A page's memory stays of the state ('PInv') through Write, Free, Alloc.
-/
import Derived.Test.YteefcfndlggajaaPageAbs
namespace Go.Proofs.Yteefcfndlggajaa
open Go.RowKit
set_option linter.unusedVariables false
set_option linter.unusedSimpArgs false

theorem set_get {α : Type} (l : List α) (k : Nat) (x : α) (j : Nat) (h : k < l.length) : (l.set k x)[j]? = if j = k then some x else l[j]? := by
  rw [List.getElem?_set]
  by_cases e : k = j
  · subst e; simp [h]
  · rw [if_neg e, if_neg (fun q => e q.symm)]

/-- Slots do not overlap. -/
theorem putAt_out {α : Type} (l : List α) (o : Nat) (vs : List α) (h : o + vs.length ≤ l.length) (i : Nat) (hi : i < o ∨ o + vs.length ≤ i) : (putAt l o vs)[i]? = l[i]? := by
  rw [putAt_get l o vs h]
  rcases hi with hi | hi
  · rw [if_pos hi]
  · rw [if_neg (by omega), if_neg (by omega)]
theorem putAt_in {α : Type} (l : List α) (o : Nat) (vs : List α) (h : o + vs.length ≤ l.length) (i : Nat) (hi : i < vs.length) : (putAt l o vs)[o + i]? = vs[i]? := by
  rw [putAt_get l o vs h, if_neg (by omega), if_pos (by omega)]; congr 1; omega
theorem slot_out {k j n i : Nat} (h : k ≠ j) (hi : i < n) : j * n + i < k * n ∨ k * n + n ≤ j * n + i := by
  rcases Nat.lt_or_gt_of_ne h with h | h
  · right; have := apart (n := n) h; omega
  · left; have := apart (n := n) h; omega

theorem filter_set {α : Type} (p : α → Bool) : ∀ (l : List α) (k : Nat) (x y : α), l[k]? = some y → ((l.set k x).filter p).length + (if p y then 1 else 0) = (l.filter p).length + (if p x then 1 else 0)
  | [], k, x, y, h => by simp at h
  | a :: l, 0, x, y, h => by
    simp at h; subst h
    simp only [List.set_cons_zero, List.filter_cons]
    by_cases hx : p x <;> by_cases ha : p a <;> simp [hx, ha]
  | a :: l, k + 1, x, y, h => by
    simp at h
    have ih := filter_set p l k x y h
    simp only [List.set_cons_succ, List.filter_cons]
    by_cases ha : p a <;> simp [ha] <;> omega

theorem PInv.write {c : PC} {s : PS} (h : PInv c s) {k : Nat} {old : List UInt8} (hk : s.slots[k]? = some (some old)) (b : ByteArray) (hb : b.size ≤ s.slot) :
    PInv (c.write ((k * s.slot : Nat) : Int) b) (s.write k b) := by
  have hlt := (List.getElem?_eq_some_iff.1 hk).1
  have hf := h.kfit hlt
  have hlo := h.lo
  have hsz : b.data.toList.length = b.size := Array.length_toList
  have hsl : c.slot.toNat = s.slot := by rw [h.slot]; omega
  have hlen : (b.data.toList ++ List.replicate (c.slot.toNat - b.size) (0 : UInt8)).length = s.slot := by
    rw [List.length_append, List.length_replicate, hsz, hsl]; omega
  have hoff : ((k * s.slot : Nat) : Int).toNat = k * s.slot := by omega
  have hml : k * s.slot + (b.data.toList ++ List.replicate (c.slot.toNat - b.size) (0 : UInt8)).length ≤ c.mem.length := by rw [hlen, h.mem]; exact hf
  have hmem : (c.write ((k * s.slot : Nat) : Int) b).mem = putAt c.mem (k * s.slot) (b.data.toList ++ List.replicate (c.slot.toNat - b.size) 0) := by unfold PC.write; rw [hoff]
  refine ⟨h.lo, h.hi, h.slot, ?_, ?_, ?_, ?_, ?_, ?_, h.head, ?_, h.nodup, ?_⟩
  · show c.fresh = _; rw [h.fresh]; simp [PS.write]
  · simpa [PS.write] using h.fit
  · rw [hmem, putAt_length _ _ _ hml, h.mem]
  · intro off
    show kvGet c.used off = some () ↔ _
    rw [h.keys off]
    constructor
    · rintro ⟨j, bs, hj, e⟩
      by_cases e1 : j = k
      · subst e1; exact ⟨j, _, by simp only [PS.write]; rw [set_get _ _ _ _ hlt, if_pos rfl], e⟩
      · exact ⟨j, bs, by simp only [PS.write]; rw [set_get _ _ _ _ hlt, if_neg e1]; exact hj, e⟩
    · rintro ⟨j, bs, hj, e⟩
      simp only [PS.write] at hj
      rw [set_get _ _ _ _ hlt] at hj
      by_cases e1 : j = k
      · subst e1; exact ⟨j, old, hk, e⟩
      · rw [if_neg e1] at hj; exact ⟨j, bs, hj, e⟩
  · show c.used.length = _
    rw [h.count]
    have := filter_set (fun x : Option (List UInt8) => x.isSome) s.slots k (some (b.data.toList ++ zeros (s.slot - b.size))) _ hk
    simp at this
    simp [PS.used, PS.write]; omega
  · intro j bs hj
    simp only [PS.write] at hj
    rw [set_get _ _ _ _ hlt] at hj
    rw [hmem]
    by_cases e1 : j = k
    · subst e1
      rw [if_pos rfl] at hj
      have e : bs = b.data.toList ++ List.replicate (c.slot.toNat - b.size) 0 := by
        rw [hsl]; simp only [Option.some.injEq] at hj; rw [← hj]; rfl
      rw [e]
      exact ⟨hlen, fun i hi => putAt_in _ _ _ hml i (by rw [hlen]; exact hi)⟩
    · rw [if_neg e1] at hj
      obtain ⟨q1, q2⟩ := h.bytes j bs hj
      refine ⟨q1, fun i hi => ?_⟩
      rw [putAt_out _ _ _ hml _ (by rw [hlen]; exact slot_out (fun e => e1 e.symm) hi)]
      exact q2 i hi
  · rw [hmem]
    refine chained_keep hlo s.back h.chain fun j hj i hi => ?_
    have hjk : k ≠ j := by
      intro e; subst e
      have := (h.backs k).1 hj
      rw [hk] at this; simp at this
    exact putAt_out _ _ _ hml _ (by rw [hlen]; exact slot_out hjk hi)
  · intro j
    show j ∈ s.back ↔ _
    rw [h.backs j]
    simp only [PS.write]
    rw [set_get _ _ _ _ hlt]
    by_cases e1 : j = k
    · subst e1; simp [hk]
    · rw [if_neg e1]

theorem PInv.free {c : PC} {s : PS} (h : PInv c s) {k : Nat} {old : List UInt8} (hk : s.slots[k]? = some (some old)) (hn : (c.used.map (·.1)).Nodup) :
    PInv (c.free ((k * s.slot : Nat) : Int)) (s.free k) := by
  have hlt := (List.getElem?_eq_some_iff.1 hk).1
  have hf := h.kfit hlt
  have hlo := h.lo
  have hoff : ((k * s.slot : Nat) : Int).toNat = k * s.slot := by omega
  have hml : k * s.slot + (b16 c.head).length ≤ c.mem.length := by rw [b16_len, h.mem]; omega
  have hmem : (c.free ((k * s.slot : Nat) : Int)).mem = putAt c.mem (k * s.slot) (b16 c.head) := by unfold PC.free; rw [hoff]
  have hkb : k ∉ s.back := by
    intro hh; have := (h.backs k).1 hh; rw [hk] at this; simp at this
  have hout : ∀ j i, j ≠ k → i < s.slot → (putAt c.mem (k * s.slot) (b16 c.head))[j * s.slot + i]? = c.mem[j * s.slot + i]? := by
    intro j i hj hi
    refine putAt_out _ _ _ hml _ ?_
    rw [b16_len]
    rcases slot_out (n := s.slot) (fun e => hj e.symm : k ≠ j) hi with q | q
    · exact Or.inl q
    · right; omega
  refine ⟨h.lo, h.hi, h.slot, ?_, ?_, ?_, ?_, ?_, ?_, rfl, ?_, ?_, ?_⟩
  · show c.fresh = _; rw [h.fresh]; simp [PS.free]
  · simpa [PS.free] using h.fit
  · rw [hmem, putAt_length _ _ _ hml, h.mem]
  · intro off
    show kvGet (kvDel c.used _) off = some () ↔ _
    rw [kvGet_del]
    constructor
    · intro q
      split at q
      · simp at q
      · rename_i hne
        obtain ⟨j, bs, hj, e⟩ := (h.keys off).1 q
        have e1 : j ≠ k := by intro e1; subst e1; exact hne e.symm
        exact ⟨j, bs, by simp only [PS.free]; rw [set_get _ _ _ _ hlt, if_neg e1]; exact hj, e⟩
    · rintro ⟨j, bs, hj, e⟩
      simp only [PS.free] at hj
      rw [set_get _ _ _ _ hlt] at hj
      have e1 : j ≠ k := by intro e1; rw [if_pos e1] at hj; simp at hj
      rw [if_neg e1] at hj
      have hne : ¬ ((k * s.slot : Nat) : Int) = off := by
        intro e2
        have e : off = ((j * s.slot : Nat) : Int) := e
        rw [e] at e2
        have : k * s.slot = j * s.slot := by omega
        exact e1 (Nat.eq_of_mul_eq_mul_right (by omega) this).symm
      rw [if_neg hne]
      exact (h.keys off).2 ⟨j, bs, hj, e⟩
  · show (kvDel c.used _).length = _
    have hu : kvGet c.used ((k * s.slot : Nat) : Int) = some () := (h.keys _).2 ⟨k, old, hk, rfl⟩
    rw [kvDel_length hn, hu, h.count]
    have := filter_set (fun x : Option (List UInt8) => x.isSome) s.slots k none _ hk
    simp at this
    simp [PS.used, PS.free]; omega
  · intro j bs hj
    simp only [PS.free] at hj
    rw [set_get _ _ _ _ hlt] at hj
    have e1 : j ≠ k := by intro e1; rw [if_pos e1] at hj; simp at hj
    rw [if_neg e1] at hj
    obtain ⟨q1, q2⟩ := h.bytes j bs hj
    refine ⟨q1, fun i hi => ?_⟩
    rw [hmem]
    exact (hout j i e1 hi).trans (q2 i hi)
  · rw [hmem]
    refine ⟨?_, ?_, ?_⟩
    · have := putAt_in c.mem (k * s.slot) (b16 c.head) hml 0 (by rw [b16_len]; omega)
      rw [h.head] at this ⊢; exact this
    · have := putAt_in c.mem (k * s.slot) (b16 c.head) hml 1 (by rw [b16_len]; omega)
      rw [h.head] at this ⊢; exact this
    · refine chained_keep hlo s.back h.chain fun j hj i hi => ?_
      exact hout j i (fun e => hkb (e ▸ hj)) hi
  · exact List.nodup_cons.2 ⟨hkb, h.nodup⟩
  · intro j
    show j ∈ k :: s.back ↔ _
    simp only [PS.free]
    rw [set_get _ _ _ _ hlt, List.mem_cons, h.backs j]
    by_cases e1 : j = k
    · simp [e1]
    · rw [if_neg e1]; simp [e1]
theorem b16_get (n : Int) (h0 : 0 ≤ n) (h1 : n < 65536) {x y : UInt8} (hx : some x = (b16 n)[0]?) (hy : some y = (b16 n)[1]?) : (x.toNat : Int) * 256 + (y.toNat : Int) = n := by
  simp [b16] at hx hy
  subst hx; subst hy
  rw [UInt8.toNat_ofNat_of_lt' (by show _ < 256; omega), UInt8.toNat_ofNat_of_lt' (by show _ < 256; omega)]
  omega

/-- Giving a slot: what PInv asks of the new state, for both ways. -/
theorem PInv.new (slot : Nat) (h2 : 2 ≤ slot) (h3 : slot ≤ 4096) : PInv (PC.new (slot : Int)) (PS.new slot) := by
  refine ⟨h2, h3, rfl, rfl, ?_, ?_, ?_, ?_, ?_, rfl, trivial, List.nodup_nil, ?_⟩
  · simp [PS.new]
  · exact List.length_replicate
  · intro off
    show kvGet ([] : List (Int × Unit)) off = some () ↔ ∃ k bs, ([] : List (Option (List UInt8)))[k]? = some (some bs) ∧ _
    simp [kvGet_nil]
  · show ([] : List (Int × Unit)).length = _
    simp [PS.new, PS.used]
  · intro k bs hk; simp [PS.new] at hk
  · intro k; simp [PS.new]

theorem PInv.back {c : PC} {s : PS} (h : PInv c s) {k : Nat} {r : List Nat} (hb : s.back = k :: r) (n : Int)
    (hn : n = ((c.mem.getD c.head.toNat 0).toNat : Int) * 256 + ((c.mem.getD (c.head.toNat + 1) 0).toNat : Int)) :
    PInv (({ c with head := n } : PC).give c.head) { s with slots := s.slots.set k (some (zeros s.slot)), back := r } ∧ c.head = ((k * s.slot : Nat) : Int) ∧ k < s.slots.length := by
  have hlo := h.lo
  have hk := (h.backs k).1 (by rw [hb]; simp)
  have hlt := (List.getElem?_eq_some_iff.1 hk).1
  have hf := h.kfit hlt
  have hh : c.head = ((k * s.slot : Nat) : Int) := by rw [h.head, hb]; rfl
  have hht : c.head.toNat = k * s.slot := by omega
  have hch := h.chain
  rw [hb] at hch
  obtain ⟨ch0, ch1, ch2⟩ := hch
  have hnd := h.nodup
  rw [hb, List.nodup_cons] at hnd
  have hbd := headOf_b h r (fun x hx => by rw [hb]; simp [hx])
  have hg0 : c.mem[k * s.slot]? = some (c.mem.getD (k * s.slot) 0) := by
    rw [List.getD, List.getElem?_eq_getElem (by rw [h.mem]; omega)]; rfl
  have hg1 : c.mem[k * s.slot + 1]? = some (c.mem.getD (k * s.slot + 1) 0) := by
    rw [List.getD, List.getElem?_eq_getElem (by rw [h.mem]; omega)]; rfl
  have hnv : n = PS.headOf s.slot r := by
    rw [hn, hht]
    exact b16_get _ hbd.1 hbd.2 (hg0.symm.trans ch0) (hg1.symm.trans ch1)
  have hsl : c.slot.toNat = s.slot := by rw [h.slot]; omega
  have hml : k * s.slot + (List.replicate c.slot.toNat (0 : UInt8)).length ≤ c.mem.length := by rw [List.length_replicate, h.mem, hsl]; exact hf
  have hmem : (({ c with head := n } : PC).give c.head).mem = putAt c.mem (k * s.slot) (List.replicate c.slot.toNat 0) := by unfold PC.give; rw [hht]
  have hlr : (List.replicate c.slot.toNat (0 : UInt8)).length = s.slot := by rw [List.length_replicate, hsl]
  have hout : ∀ j i, j ≠ k → i < s.slot → (putAt c.mem (k * s.slot) (List.replicate c.slot.toNat (0 : UInt8)))[j * s.slot + i]? = c.mem[j * s.slot + i]? := by
    intro j i hj hi
    refine putAt_out _ _ _ hml _ ?_
    rw [hlr]
    exact slot_out (n := s.slot) (fun e => hj e.symm : k ≠ j) hi
  refine ⟨⟨h.lo, h.hi, h.slot, ?_, ?_, ?_, ?_, ?_, ?_, hnv, ?_, hnd.2, ?_⟩, hh, hlt⟩
  · show c.fresh = _; rw [h.fresh]; simp
  · simpa using h.fit
  · rw [hmem, putAt_length _ _ _ hml, h.mem]
  · intro off
    show kvGet (kvPut c.used c.head ()) off = some () ↔ ∃ j bs, (s.slots.set k (some (zeros s.slot)))[j]? = some (some bs) ∧ off = ((j * s.slot : Nat) : Int)
    rw [kvGet_put]
    constructor
    · intro q
      split at q
      · rename_i e; exact ⟨k, zeros s.slot, by rw [set_get _ _ _ _ hlt, if_pos rfl], by rw [← e, hh]⟩
      · obtain ⟨j, bs, hj, e⟩ := (h.keys off).1 q
        have e1 : j ≠ k := by intro e1; subst e1; rw [hk] at hj; simp at hj
        exact ⟨j, bs, by rw [set_get _ _ _ _ hlt, if_neg e1]; exact hj, e⟩
    · rintro ⟨j, bs, hj, e⟩
      rw [set_get _ _ _ _ hlt] at hj
      by_cases e1 : j = k
      · subst e1; rw [if_pos (by rw [hh, e])]
      · rw [if_neg e1] at hj
        split
        · rfl
        · exact (h.keys off).2 ⟨j, bs, hj, e⟩
  · show (kvPut c.used c.head ()).length = _
    have hu : kvGet c.used c.head = none := by
      cases hq : kvGet c.used c.head with
      | none => rfl
      | some u =>
        obtain ⟨j, bs, hj, e⟩ := (h.keys c.head).1 hq
        rw [hh] at e
        have : k * s.slot = j * s.slot := by omega
        have := Nat.eq_of_mul_eq_mul_right (by omega) this
        subst this; rw [hk] at hj; simp at hj
    rw [kvPut_length, hu, h.count]
    have := filter_set (fun x : Option (List UInt8) => x.isSome) s.slots k (some (zeros s.slot)) _ hk
    simp at this
    simp [PS.used]; omega
  · intro j bs hj
    have hj : (s.slots.set k (some (zeros s.slot)))[j]? = some (some bs) := hj
    rw [set_get _ _ _ _ hlt] at hj
    rw [hmem]
    by_cases e1 : j = k
    · subst e1
      rw [if_pos rfl] at hj
      have e : bs = List.replicate c.slot.toNat 0 := by
        rw [hsl]; simp only [Option.some.injEq] at hj; rw [← hj]; rfl
      rw [e]
      exact ⟨hlr, fun i hi => putAt_in _ _ _ hml i (by rw [hlr]; exact hi)⟩
    · rw [if_neg e1] at hj
      obtain ⟨q1, q2⟩ := h.bytes j bs hj
      exact ⟨q1, fun i hi => (hout j i e1 hi).trans (q2 i hi)⟩
  · rw [hmem]
    refine chained_keep hlo r ch2 fun j hj i hi => hout j i (fun e => hnd.1 (e ▸ hj)) hi
  · intro j
    show j ∈ r ↔ (s.slots.set k (some (zeros s.slot)))[j]? = some none
    rw [set_get _ _ _ _ hlt]
    have := h.backs j
    rw [hb, List.mem_cons] at this
    by_cases e1 : j = k
    · subst e1; simp [hnd.1]
    · rw [if_neg e1, ← this]; simp [e1]

theorem PInv.fresh1 {c : PC} {s : PS} (h : PInv c s) (hb : s.back = []) (hfit : (s.slots.length + 1) * s.slot ≤ 4096) :
    PInv (({ c with fresh := c.fresh + 1 } : PC).give (c.fresh * c.slot)) { s with slots := s.slots ++ [some (zeros s.slot)] } ∧ c.fresh * c.slot = ((s.slots.length * s.slot : Nat) : Int) := by
  have hlo := h.lo
  have hh : c.fresh * c.slot = ((s.slots.length * s.slot : Nat) : Int) := by rw [h.fresh, h.slot]; simp
  have hht : (c.fresh * c.slot).toNat = s.slots.length * s.slot := by omega
  have hsl : c.slot.toNat = s.slot := by rw [h.slot]; omega
  have hf : s.slots.length * s.slot + s.slot ≤ 4096 := by rw [Nat.add_mul] at hfit; omega
  have hml : s.slots.length * s.slot + (List.replicate c.slot.toNat (0 : UInt8)).length ≤ c.mem.length := by rw [List.length_replicate, h.mem, hsl]; exact hf
  have hmem : (({ c with fresh := c.fresh + 1 } : PC).give (c.fresh * c.slot)).mem = putAt c.mem (s.slots.length * s.slot) (List.replicate c.slot.toNat 0) := by unfold PC.give; rw [hht]
  have hlr : (List.replicate c.slot.toNat (0 : UInt8)).length = s.slot := by rw [List.length_replicate, hsl]
  have hout : ∀ j i, j ≠ s.slots.length → i < s.slot → (putAt c.mem (s.slots.length * s.slot) (List.replicate c.slot.toNat (0 : UInt8)))[j * s.slot + i]? = c.mem[j * s.slot + i]? := by
    intro j i hj hi
    refine putAt_out _ _ _ hml _ ?_
    rw [hlr]
    exact slot_out (n := s.slot) (fun e => hj e.symm : s.slots.length ≠ j) hi
  have happ : ∀ j, (s.slots ++ [some (zeros s.slot)])[j]? = if j = s.slots.length then some (some (zeros s.slot)) else s.slots[j]? := by
    intro j
    by_cases e1 : j = s.slots.length
    · subst e1; simp
    · rw [if_neg e1]
      rcases Nat.lt_or_ge j s.slots.length with q | q
      · rw [List.getElem?_append_left q]
      · rw [List.getElem?_eq_none (by simp; omega), List.getElem?_eq_none q]
  have hnone : s.slots[s.slots.length]? = none := List.getElem?_eq_none (Nat.le_refl _)
  refine ⟨⟨h.lo, h.hi, h.slot, ?_, ?_, ?_, ?_, ?_, ?_, h.head, ?_, h.nodup, ?_⟩, hh⟩
  · show c.fresh + 1 = _; rw [h.fresh]; simp
  · simpa using hfit
  · rw [hmem, putAt_length _ _ _ hml, h.mem]
  · intro off
    show kvGet (kvPut c.used (c.fresh * c.slot) ()) off = some () ↔ ∃ j bs, (s.slots ++ [some (zeros s.slot)])[j]? = some (some bs) ∧ off = ((j * s.slot : Nat) : Int)
    rw [kvGet_put]
    constructor
    · intro q
      split at q
      · rename_i e; exact ⟨s.slots.length, zeros s.slot, by rw [happ, if_pos rfl], by rw [← e, hh]⟩
      · obtain ⟨j, bs, hj, e⟩ := (h.keys off).1 q
        have e1 : j ≠ s.slots.length := by intro e1; subst e1; rw [hnone] at hj; simp at hj
        exact ⟨j, bs, by rw [happ, if_neg e1]; exact hj, e⟩
    · rintro ⟨j, bs, hj, e⟩
      rw [happ] at hj
      by_cases e1 : j = s.slots.length
      · subst e1; rw [if_pos (by rw [hh, e])]
      · rw [if_neg e1] at hj
        split
        · rfl
        · exact (h.keys off).2 ⟨j, bs, hj, e⟩
  · show (kvPut c.used (c.fresh * c.slot) ()).length = _
    have hu : kvGet c.used (c.fresh * c.slot) = none := by
      cases hq : kvGet c.used (c.fresh * c.slot) with
      | none => rfl
      | some u =>
        obtain ⟨j, bs, hj, e⟩ := (h.keys _).1 hq
        rw [hh] at e
        have : s.slots.length * s.slot = j * s.slot := by omega
        have := Nat.eq_of_mul_eq_mul_right (by omega) this
        subst this; rw [hnone] at hj; simp at hj
    rw [kvPut_length, hu, h.count]
    simp [PS.used, List.filter_append]
  · intro j bs hj
    have hj : (s.slots ++ [some (zeros s.slot)])[j]? = some (some bs) := hj
    rw [happ] at hj
    rw [hmem]
    by_cases e1 : j = s.slots.length
    · subst e1
      rw [if_pos rfl] at hj
      have e : bs = List.replicate c.slot.toNat 0 := by
        rw [hsl]; simp only [Option.some.injEq] at hj; rw [← hj]; rfl
      rw [e]
      exact ⟨hlr, fun i hi => putAt_in _ _ _ hml i (by rw [hlr]; exact hi)⟩
    · rw [if_neg e1] at hj
      obtain ⟨q1, q2⟩ := h.bytes j bs hj
      exact ⟨q1, fun i hi => (hout j i e1 hi).trans (q2 i hi)⟩
  · rw [hmem]
    show Chained _ s.slot s.back
    rw [hb]; trivial
  · intro j
    show j ∈ s.back ↔ (s.slots ++ [some (zeros s.slot)])[j]? = some none
    rw [happ, hb]
    by_cases e1 : j = s.slots.length
    · subst e1; simp
    · rw [if_neg e1, ← h.backs j, hb]
end Go.Proofs.Yteefcfndlggajaa
