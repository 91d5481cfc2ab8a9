/-
  A page as the document has it ('PS'): the slots, each used with its bytes or given back, and the row of those that were given back. 'PInv': a page's memory is of that state.
  A page's memory stays of the state ('PInv') through Write, Free, Alloc.
  The contracts of package page, in the words of the document's state: 'PageIs w p m s': at p stands a page (its map at m) that is of state s.
-/
import Derived.Test.YtckkccnebjacdaaGreatMgPage
namespace Go.Proofs.YtckkccnebjacdaaGreat
open Go.RowKit
set_option linter.unusedVariables false
set_option linter.unusedSimpArgs false

structure PS where
  slot : Nat
  slots : List (Option (List UInt8))
  back : List Nat

def PS.headOf (slot : Nat) : List Nat → Int
  | [] => 65535
  | k :: _ => ((k * slot : Nat) : Int)

def zeros (n : Nat) : List UInt8 := List.replicate n 0

def PS.new (slot : Nat) : PS := { slot := slot, slots := [], back := [] }
def PS.used (s : PS) : Nat := (s.slots.filter (·.isSome)).length
/-- The slot at an offset; none: it is not used. -/
def PS.at_ (s : PS) (off : Nat) : Option (List UInt8) := if off % s.slot = 0 then (s.slots[off / s.slot]?).join else none
def PS.alloc (s : PS) : Option (Nat × PS) :=
  match s.back with
  | k :: r => some (k, { s with slots := s.slots.set k (some (zeros s.slot)), back := r })
  | [] => if (s.slots.length + 1) * s.slot ≤ 4096 then some (s.slots.length, { s with slots := s.slots ++ [some (zeros s.slot)] }) else none
def PS.free (s : PS) (k : Nat) : PS := { s with slots := s.slots.set k none, back := k :: s.back }
def PS.write (s : PS) (k : Nat) (b : ByteArray) : PS := { s with slots := s.slots.set k (some (b.data.toList ++ zeros (s.slot - b.size))) }

/-- The bytes that chain what was given back. -/
def Chained (mem : List UInt8) (slot : Nat) : List Nat → Prop
  | [] => True
  | k :: r => mem[k * slot]? = (b16 (PS.headOf slot r))[0]? ∧ mem[k * slot + 1]? = (b16 (PS.headOf slot r))[1]? ∧ Chained mem slot r

structure PInv (c : PC) (s : PS) : Prop where
  lo : 2 ≤ s.slot
  hi : s.slot ≤ 4096
  slot : c.slot = (s.slot : Int)
  fresh : c.fresh = (s.slots.length : Int)
  fit : s.slots.length * s.slot ≤ 4096
  mem : c.mem.length = 4096
  keys : ∀ off : Int, kvGet c.used off = some () ↔ ∃ k bs, s.slots[k]? = some (some bs) ∧ off = ((k * s.slot : Nat) : Int)
  count : c.used.length = s.used
  bytes : ∀ k bs, s.slots[k]? = some (some bs) → bs.length = s.slot ∧ ∀ i, i < s.slot → c.mem[k * s.slot + i]? = bs[i]?
  head : c.head = PS.headOf s.slot s.back
  chain : Chained c.mem s.slot s.back
  nodup : s.back.Nodup
  backs : ∀ k, k ∈ s.back ↔ s.slots[k]? = some none

theorem PInv.kfit {c : PC} {s : PS} (h : PInv c s) {k : Nat} (hk : k < s.slots.length) : k * s.slot + s.slot ≤ 4096 := by
  have : (k + 1) * s.slot ≤ s.slots.length * s.slot := Nat.mul_le_mul_right _ (by omega)
  have e : (k + 1) * s.slot = k * s.slot + s.slot := by rw [Nat.add_mul]; omega
  have := h.fit; omega
theorem apart {a b n : Nat} (h : a < b) : a * n + n ≤ b * n := by
  have : (a + 1) * n ≤ b * n := Nat.mul_le_mul_right _ (by omega)
  rw [Nat.add_mul] at this; omega

theorem PInv.headB {c : PC} {s : PS} (h : PInv c s) : 0 ≤ c.head ∧ c.head < 65536 := by
  rw [h.head]
  cases hb : s.back with
  | nil => simp [PS.headOf]
  | cons k r =>
    have hk := (h.backs k).1 (by rw [hb]; simp)
    have hk' : k < s.slots.length := (List.getElem?_eq_some_iff.1 hk).1
    have := h.kfit hk'
    have := h.lo
    simp only [PS.headOf]; omega

theorem headOf_b {c : PC} {s : PS} (h : PInv c s) : ∀ l : List Nat, (∀ k ∈ l, k ∈ s.back) → 0 ≤ PS.headOf s.slot l ∧ PS.headOf s.slot l < 65536 := by
  intro l hl
  cases l with
  | nil => simp [PS.headOf]
  | cons k r =>
    have hk := (h.backs k).1 (hl k (by simp))
    have hk' : k < s.slots.length := (List.getElem?_eq_some_iff.1 hk).1
    have := h.kfit hk'
    have := h.lo
    simp only [PS.headOf]; omega

/-- The chain's bytes stand as long as the slots that are on it do. -/
theorem chained_keep {mem mem' : List UInt8} {slot : Nat} (h2 : 2 ≤ slot) : ∀ (l : List Nat), Chained mem slot l → (∀ k ∈ l, ∀ i, i < slot → mem'[k * slot + i]? = mem[k * slot + i]?) → Chained mem' slot l
  | [], _, _ => trivial
  | k :: r, h, hk => by
    obtain ⟨a, b, c⟩ := h
    refine ⟨?_, ?_, chained_keep h2 r c (fun x hx => hk x (by simp [hx]))⟩
    · have := hk k (by simp) 0 (by omega); simp only [Nat.add_zero] at this; rw [this]; exact a
    · rw [hk k (by simp) 1 (by omega)]; exact b

theorem PInv.isUsed {c : PC} {s : PS} (h : PInv c s) (off : Nat) : (kvGet c.used (off : Int)).isSome = (s.at_ off).isSome := by
  have hlo := h.lo
  rw [Bool.eq_iff_iff]
  constructor
  · intro hs
    obtain ⟨u, hu⟩ := Option.isSome_iff_exists.1 hs
    obtain ⟨k, bs, hk, e⟩ := (h.keys off).1 (by rw [hu])
    have e' : off = k * s.slot := by omega
    subst e'
    unfold PS.at_
    rw [if_pos (Nat.mul_mod_left _ _), Nat.mul_div_cancel _ (by omega), hk]
    rfl
  · intro hs
    unfold PS.at_ at hs
    split at hs
    · rename_i hm
      cases hg : s.slots[off / s.slot]? with
      | none => rw [hg] at hs; simp at hs
      | some x =>
        rw [hg] at hs
        cases x with
        | none => simp at hs
        | some bs =>
          have := (h.keys off).2 ⟨off / s.slot, bs, hg, by have := Nat.div_add_mod off s.slot; rw [Nat.mul_comm]; omega⟩
          rw [this]; rfl
    · simp at hs

theorem PS.at_some {s : PS} {off : Nat} {bs : List UInt8} (h : s.at_ off = some bs) : off = (off / s.slot) * s.slot ∧ s.slots[off / s.slot]? = some (some bs) := by
  unfold PS.at_ at h
  split at h
  · rename_i hm
    refine ⟨by have := Nat.div_add_mod off s.slot; rw [Nat.mul_comm]; omega, ?_⟩
    cases hg : s.slots[off / s.slot]? with
    | none => rw [hg] at h; simp at h
    | some x => rw [hg] at h; simp at h; rw [h]
  · simp at h

theorem PInv.read {c : PC} {s : PS} (h : PInv c s) {off : Nat} {bs : List UInt8} (ha : s.at_ off = some bs) : c.slotAt (off : Int) = bs ∧ off + s.slot ≤ 4096 := by
  obtain ⟨e, hk⟩ := PS.at_some ha
  have hlt := (List.getElem?_eq_some_iff.1 hk).1
  have hf := h.kfit hlt
  rw [← e] at hf
  refine ⟨?_, hf⟩
  obtain ⟨hl, hb⟩ := h.bytes _ _ hk
  rw [← e] at hb
  unfold PC.slotAt
  apply List.ext_getElem?
  intro i
  have hc : c.slot.toNat = s.slot := by rw [h.slot]; omega
  rw [hc, List.getElem?_take]
  by_cases hi : i < s.slot
  · rw [if_pos hi, List.getElem?_drop, ← hb i hi]; congr 1
  · rw [if_neg hi, List.getElem?_eq_none (by omega)]
end Go.Proofs.YtckkccnebjacdaaGreat
namespace Go.Proofs.YtckkccnebjacdaaGreat
open Go.RowKit
set_option linter.unusedVariables false
set_option linter.unusedSimpArgs false

theorem set_get {α : Type} (l : List α) (k : Nat) (x : α) (j : Nat) (h : k < l.length) : (l.set k x)[j]? = if j = k then some x else l[j]? := by
  rw [List.getElem?_set]
  by_cases e : k = j
  · subst e; simp [h]
  · rw [if_neg e, if_neg (fun q => e q.symm)]

/-- Slots do not overlap. -/
theorem putAt_out {α : Type} (l : List α) (o : Nat) (vs : List α) (h : o + vs.length ≤ l.length) (i : Nat) (hi : i < o ∨ o + vs.length ≤ i) : (putAt l o vs)[i]? = l[i]? := by
  rw [putAt_get l o vs h]
  rcases hi with hi | hi
  · rw [if_pos hi]
  · rw [if_neg (by omega), if_neg (by omega)]
theorem putAt_in {α : Type} (l : List α) (o : Nat) (vs : List α) (h : o + vs.length ≤ l.length) (i : Nat) (hi : i < vs.length) : (putAt l o vs)[o + i]? = vs[i]? := by
  rw [putAt_get l o vs h, if_neg (by omega), if_pos (by omega)]; congr 1; omega
theorem slot_out {k j n i : Nat} (h : k ≠ j) (hi : i < n) : j * n + i < k * n ∨ k * n + n ≤ j * n + i := by
  rcases Nat.lt_or_gt_of_ne h with h | h
  · right; have := apart (n := n) h; omega
  · left; have := apart (n := n) h; omega

theorem filter_set {α : Type} (p : α → Bool) : ∀ (l : List α) (k : Nat) (x y : α), l[k]? = some y → ((l.set k x).filter p).length + (if p y then 1 else 0) = (l.filter p).length + (if p x then 1 else 0)
  | [], k, x, y, h => by simp at h
  | a :: l, 0, x, y, h => by
    simp at h; subst h
    simp only [List.set_cons_zero, List.filter_cons]
    by_cases hx : p x <;> by_cases ha : p a <;> simp [hx, ha]
  | a :: l, k + 1, x, y, h => by
    simp at h
    have ih := filter_set p l k x y h
    simp only [List.set_cons_succ, List.filter_cons]
    by_cases ha : p a <;> simp [ha] <;> omega

theorem PInv.write {c : PC} {s : PS} (h : PInv c s) {k : Nat} {old : List UInt8} (hk : s.slots[k]? = some (some old)) (b : ByteArray) (hb : b.size ≤ s.slot) :
    PInv (c.write ((k * s.slot : Nat) : Int) b) (s.write k b) := by
  have hlt := (List.getElem?_eq_some_iff.1 hk).1
  have hf := h.kfit hlt
  have hlo := h.lo
  have hsz : b.data.toList.length = b.size := Array.length_toList
  have hsl : c.slot.toNat = s.slot := by rw [h.slot]; omega
  have hlen : (b.data.toList ++ List.replicate (c.slot.toNat - b.size) (0 : UInt8)).length = s.slot := by
    rw [List.length_append, List.length_replicate, hsz, hsl]; omega
  have hoff : ((k * s.slot : Nat) : Int).toNat = k * s.slot := by omega
  have hml : k * s.slot + (b.data.toList ++ List.replicate (c.slot.toNat - b.size) (0 : UInt8)).length ≤ c.mem.length := by rw [hlen, h.mem]; exact hf
  have hmem : (c.write ((k * s.slot : Nat) : Int) b).mem = putAt c.mem (k * s.slot) (b.data.toList ++ List.replicate (c.slot.toNat - b.size) 0) := by unfold PC.write; rw [hoff]
  refine ⟨h.lo, h.hi, h.slot, ?_, ?_, ?_, ?_, ?_, ?_, h.head, ?_, h.nodup, ?_⟩
  · show c.fresh = _; rw [h.fresh]; simp [PS.write]
  · simpa [PS.write] using h.fit
  · rw [hmem, putAt_length _ _ _ hml, h.mem]
  · intro off
    show kvGet c.used off = some () ↔ _
    rw [h.keys off]
    constructor
    · rintro ⟨j, bs, hj, e⟩
      by_cases e1 : j = k
      · subst e1; exact ⟨j, _, by simp only [PS.write]; rw [set_get _ _ _ _ hlt, if_pos rfl], e⟩
      · exact ⟨j, bs, by simp only [PS.write]; rw [set_get _ _ _ _ hlt, if_neg e1]; exact hj, e⟩
    · rintro ⟨j, bs, hj, e⟩
      simp only [PS.write] at hj
      rw [set_get _ _ _ _ hlt] at hj
      by_cases e1 : j = k
      · subst e1; exact ⟨j, old, hk, e⟩
      · rw [if_neg e1] at hj; exact ⟨j, bs, hj, e⟩
  · show c.used.length = _
    rw [h.count]
    have := filter_set (fun x : Option (List UInt8) => x.isSome) s.slots k (some (b.data.toList ++ zeros (s.slot - b.size))) _ hk
    simp at this
    simp [PS.used, PS.write]; omega
  · intro j bs hj
    simp only [PS.write] at hj
    rw [set_get _ _ _ _ hlt] at hj
    rw [hmem]
    by_cases e1 : j = k
    · subst e1
      rw [if_pos rfl] at hj
      have e : bs = b.data.toList ++ List.replicate (c.slot.toNat - b.size) 0 := by
        rw [hsl]; simp only [Option.some.injEq] at hj; rw [← hj]; rfl
      rw [e]
      exact ⟨hlen, fun i hi => putAt_in _ _ _ hml i (by rw [hlen]; exact hi)⟩
    · rw [if_neg e1] at hj
      obtain ⟨q1, q2⟩ := h.bytes j bs hj
      refine ⟨q1, fun i hi => ?_⟩
      rw [putAt_out _ _ _ hml _ (by rw [hlen]; exact slot_out (fun e => e1 e.symm) hi)]
      exact q2 i hi
  · rw [hmem]
    refine chained_keep hlo s.back h.chain fun j hj i hi => ?_
    have hjk : k ≠ j := by
      intro e; subst e
      have := (h.backs k).1 hj
      rw [hk] at this; simp at this
    exact putAt_out _ _ _ hml _ (by rw [hlen]; exact slot_out hjk hi)
  · intro j
    show j ∈ s.back ↔ _
    rw [h.backs j]
    simp only [PS.write]
    rw [set_get _ _ _ _ hlt]
    by_cases e1 : j = k
    · subst e1; simp [hk]
    · rw [if_neg e1]

theorem PInv.free {c : PC} {s : PS} (h : PInv c s) {k : Nat} {old : List UInt8} (hk : s.slots[k]? = some (some old)) (hn : (c.used.map (·.1)).Nodup) :
    PInv (c.free ((k * s.slot : Nat) : Int)) (s.free k) := by
  have hlt := (List.getElem?_eq_some_iff.1 hk).1
  have hf := h.kfit hlt
  have hlo := h.lo
  have hoff : ((k * s.slot : Nat) : Int).toNat = k * s.slot := by omega
  have hml : k * s.slot + (b16 c.head).length ≤ c.mem.length := by rw [b16_len, h.mem]; omega
  have hmem : (c.free ((k * s.slot : Nat) : Int)).mem = putAt c.mem (k * s.slot) (b16 c.head) := by unfold PC.free; rw [hoff]
  have hkb : k ∉ s.back := by
    intro hh; have := (h.backs k).1 hh; rw [hk] at this; simp at this
  have hout : ∀ j i, j ≠ k → i < s.slot → (putAt c.mem (k * s.slot) (b16 c.head))[j * s.slot + i]? = c.mem[j * s.slot + i]? := by
    intro j i hj hi
    refine putAt_out _ _ _ hml _ ?_
    rw [b16_len]
    rcases slot_out (n := s.slot) (fun e => hj e.symm : k ≠ j) hi with q | q
    · exact Or.inl q
    · right; omega
  refine ⟨h.lo, h.hi, h.slot, ?_, ?_, ?_, ?_, ?_, ?_, rfl, ?_, ?_, ?_⟩
  · show c.fresh = _; rw [h.fresh]; simp [PS.free]
  · simpa [PS.free] using h.fit
  · rw [hmem, putAt_length _ _ _ hml, h.mem]
  · intro off
    show kvGet (kvDel c.used _) off = some () ↔ _
    rw [kvGet_del]
    constructor
    · intro q
      split at q
      · simp at q
      · rename_i hne
        obtain ⟨j, bs, hj, e⟩ := (h.keys off).1 q
        have e1 : j ≠ k := by intro e1; subst e1; exact hne e.symm
        exact ⟨j, bs, by simp only [PS.free]; rw [set_get _ _ _ _ hlt, if_neg e1]; exact hj, e⟩
    · rintro ⟨j, bs, hj, e⟩
      simp only [PS.free] at hj
      rw [set_get _ _ _ _ hlt] at hj
      have e1 : j ≠ k := by intro e1; rw [if_pos e1] at hj; simp at hj
      rw [if_neg e1] at hj
      have hne : ¬ ((k * s.slot : Nat) : Int) = off := by
        intro e2
        have e : off = ((j * s.slot : Nat) : Int) := e
        rw [e] at e2
        have : k * s.slot = j * s.slot := by omega
        exact e1 (Nat.eq_of_mul_eq_mul_right (by omega) this).symm
      rw [if_neg hne]
      exact (h.keys off).2 ⟨j, bs, hj, e⟩
  · show (kvDel c.used _).length = _
    have hu : kvGet c.used ((k * s.slot : Nat) : Int) = some () := (h.keys _).2 ⟨k, old, hk, rfl⟩
    rw [kvDel_length hn, hu, h.count]
    have := filter_set (fun x : Option (List UInt8) => x.isSome) s.slots k none _ hk
    simp at this
    simp [PS.used, PS.free]; omega
  · intro j bs hj
    simp only [PS.free] at hj
    rw [set_get _ _ _ _ hlt] at hj
    have e1 : j ≠ k := by intro e1; rw [if_pos e1] at hj; simp at hj
    rw [if_neg e1] at hj
    obtain ⟨q1, q2⟩ := h.bytes j bs hj
    refine ⟨q1, fun i hi => ?_⟩
    rw [hmem]
    exact (hout j i e1 hi).trans (q2 i hi)
  · rw [hmem]
    refine ⟨?_, ?_, ?_⟩
    · have := putAt_in c.mem (k * s.slot) (b16 c.head) hml 0 (by rw [b16_len]; omega)
      rw [h.head] at this ⊢; exact this
    · have := putAt_in c.mem (k * s.slot) (b16 c.head) hml 1 (by rw [b16_len]; omega)
      rw [h.head] at this ⊢; exact this
    · refine chained_keep hlo s.back h.chain fun j hj i hi => ?_
      exact hout j i (fun e => hkb (e ▸ hj)) hi
  · exact List.nodup_cons.2 ⟨hkb, h.nodup⟩
  · intro j
    show j ∈ k :: s.back ↔ _
    simp only [PS.free]
    rw [set_get _ _ _ _ hlt, List.mem_cons, h.backs j]
    by_cases e1 : j = k
    · simp [e1]
    · rw [if_neg e1]; simp [e1]
theorem b16_get (n : Int) (h0 : 0 ≤ n) (h1 : n < 65536) {x y : UInt8} (hx : some x = (b16 n)[0]?) (hy : some y = (b16 n)[1]?) : (x.toNat : Int) * 256 + (y.toNat : Int) = n := by
  simp [b16] at hx hy
  subst hx; subst hy
  rw [UInt8.toNat_ofNat_of_lt' (by show _ < 256; omega), UInt8.toNat_ofNat_of_lt' (by show _ < 256; omega)]
  omega

/-- Giving a slot: what PInv asks of the new state, for both ways. -/
theorem PInv.new (slot : Nat) (h2 : 2 ≤ slot) (h3 : slot ≤ 4096) : PInv (PC.new (slot : Int)) (PS.new slot) := by
  refine ⟨h2, h3, rfl, rfl, ?_, ?_, ?_, ?_, ?_, rfl, trivial, List.nodup_nil, ?_⟩
  · simp [PS.new]
  · exact List.length_replicate
  · intro off
    show kvGet ([] : List (Int × Unit)) off = some () ↔ ∃ k bs, ([] : List (Option (List UInt8)))[k]? = some (some bs) ∧ _
    simp [kvGet_nil]
  · show ([] : List (Int × Unit)).length = _
    simp [PS.new, PS.used]
  · intro k bs hk; simp [PS.new] at hk
  · intro k; simp [PS.new]

theorem PInv.back {c : PC} {s : PS} (h : PInv c s) {k : Nat} {r : List Nat} (hb : s.back = k :: r) (n : Int)
    (hn : n = ((c.mem.getD c.head.toNat 0).toNat : Int) * 256 + ((c.mem.getD (c.head.toNat + 1) 0).toNat : Int)) :
    PInv (({ c with head := n } : PC).give c.head) { s with slots := s.slots.set k (some (zeros s.slot)), back := r } ∧ c.head = ((k * s.slot : Nat) : Int) ∧ k < s.slots.length := by
  have hlo := h.lo
  have hk := (h.backs k).1 (by rw [hb]; simp)
  have hlt := (List.getElem?_eq_some_iff.1 hk).1
  have hf := h.kfit hlt
  have hh : c.head = ((k * s.slot : Nat) : Int) := by rw [h.head, hb]; rfl
  have hht : c.head.toNat = k * s.slot := by omega
  have hch := h.chain
  rw [hb] at hch
  obtain ⟨ch0, ch1, ch2⟩ := hch
  have hnd := h.nodup
  rw [hb, List.nodup_cons] at hnd
  have hbd := headOf_b h r (fun x hx => by rw [hb]; simp [hx])
  have hg0 : c.mem[k * s.slot]? = some (c.mem.getD (k * s.slot) 0) := by
    rw [List.getD, List.getElem?_eq_getElem (by rw [h.mem]; omega)]; rfl
  have hg1 : c.mem[k * s.slot + 1]? = some (c.mem.getD (k * s.slot + 1) 0) := by
    rw [List.getD, List.getElem?_eq_getElem (by rw [h.mem]; omega)]; rfl
  have hnv : n = PS.headOf s.slot r := by
    rw [hn, hht]
    exact b16_get _ hbd.1 hbd.2 (hg0.symm.trans ch0) (hg1.symm.trans ch1)
  have hsl : c.slot.toNat = s.slot := by rw [h.slot]; omega
  have hml : k * s.slot + (List.replicate c.slot.toNat (0 : UInt8)).length ≤ c.mem.length := by rw [List.length_replicate, h.mem, hsl]; exact hf
  have hmem : (({ c with head := n } : PC).give c.head).mem = putAt c.mem (k * s.slot) (List.replicate c.slot.toNat 0) := by unfold PC.give; rw [hht]
  have hlr : (List.replicate c.slot.toNat (0 : UInt8)).length = s.slot := by rw [List.length_replicate, hsl]
  have hout : ∀ j i, j ≠ k → i < s.slot → (putAt c.mem (k * s.slot) (List.replicate c.slot.toNat (0 : UInt8)))[j * s.slot + i]? = c.mem[j * s.slot + i]? := by
    intro j i hj hi
    refine putAt_out _ _ _ hml _ ?_
    rw [hlr]
    exact slot_out (n := s.slot) (fun e => hj e.symm : k ≠ j) hi
  refine ⟨⟨h.lo, h.hi, h.slot, ?_, ?_, ?_, ?_, ?_, ?_, hnv, ?_, hnd.2, ?_⟩, hh, hlt⟩
  · show c.fresh = _; rw [h.fresh]; simp
  · simpa using h.fit
  · rw [hmem, putAt_length _ _ _ hml, h.mem]
  · intro off
    show kvGet (kvPut c.used c.head ()) off = some () ↔ ∃ j bs, (s.slots.set k (some (zeros s.slot)))[j]? = some (some bs) ∧ off = ((j * s.slot : Nat) : Int)
    rw [kvGet_put]
    constructor
    · intro q
      split at q
      · rename_i e; exact ⟨k, zeros s.slot, by rw [set_get _ _ _ _ hlt, if_pos rfl], by rw [← e, hh]⟩
      · obtain ⟨j, bs, hj, e⟩ := (h.keys off).1 q
        have e1 : j ≠ k := by intro e1; subst e1; rw [hk] at hj; simp at hj
        exact ⟨j, bs, by rw [set_get _ _ _ _ hlt, if_neg e1]; exact hj, e⟩
    · rintro ⟨j, bs, hj, e⟩
      rw [set_get _ _ _ _ hlt] at hj
      by_cases e1 : j = k
      · subst e1; rw [if_pos (by rw [hh, e])]
      · rw [if_neg e1] at hj
        split
        · rfl
        · exact (h.keys off).2 ⟨j, bs, hj, e⟩
  · show (kvPut c.used c.head ()).length = _
    have hu : kvGet c.used c.head = none := by
      cases hq : kvGet c.used c.head with
      | none => rfl
      | some u =>
        obtain ⟨j, bs, hj, e⟩ := (h.keys c.head).1 hq
        rw [hh] at e
        have : k * s.slot = j * s.slot := by omega
        have := Nat.eq_of_mul_eq_mul_right (by omega) this
        subst this; rw [hk] at hj; simp at hj
    rw [kvPut_length, hu, h.count]
    have := filter_set (fun x : Option (List UInt8) => x.isSome) s.slots k (some (zeros s.slot)) _ hk
    simp at this
    simp [PS.used]; omega
  · intro j bs hj
    have hj : (s.slots.set k (some (zeros s.slot)))[j]? = some (some bs) := hj
    rw [set_get _ _ _ _ hlt] at hj
    rw [hmem]
    by_cases e1 : j = k
    · subst e1
      rw [if_pos rfl] at hj
      have e : bs = List.replicate c.slot.toNat 0 := by
        rw [hsl]; simp only [Option.some.injEq] at hj; rw [← hj]; rfl
      rw [e]
      exact ⟨hlr, fun i hi => putAt_in _ _ _ hml i (by rw [hlr]; exact hi)⟩
    · rw [if_neg e1] at hj
      obtain ⟨q1, q2⟩ := h.bytes j bs hj
      exact ⟨q1, fun i hi => (hout j i e1 hi).trans (q2 i hi)⟩
  · rw [hmem]
    refine chained_keep hlo r ch2 fun j hj i hi => hout j i (fun e => hnd.1 (e ▸ hj)) hi
  · intro j
    show j ∈ r ↔ (s.slots.set k (some (zeros s.slot)))[j]? = some none
    rw [set_get _ _ _ _ hlt]
    have := h.backs j
    rw [hb, List.mem_cons] at this
    by_cases e1 : j = k
    · subst e1; simp [hnd.1]
    · rw [if_neg e1, ← this]; simp [e1]

theorem PInv.fresh1 {c : PC} {s : PS} (h : PInv c s) (hb : s.back = []) (hfit : (s.slots.length + 1) * s.slot ≤ 4096) :
    PInv (({ c with fresh := c.fresh + 1 } : PC).give (c.fresh * c.slot)) { s with slots := s.slots ++ [some (zeros s.slot)] } ∧ c.fresh * c.slot = ((s.slots.length * s.slot : Nat) : Int) := by
  have hlo := h.lo
  have hh : c.fresh * c.slot = ((s.slots.length * s.slot : Nat) : Int) := by rw [h.fresh, h.slot]; simp
  have hht : (c.fresh * c.slot).toNat = s.slots.length * s.slot := by omega
  have hsl : c.slot.toNat = s.slot := by rw [h.slot]; omega
  have hf : s.slots.length * s.slot + s.slot ≤ 4096 := by rw [Nat.add_mul] at hfit; omega
  have hml : s.slots.length * s.slot + (List.replicate c.slot.toNat (0 : UInt8)).length ≤ c.mem.length := by rw [List.length_replicate, h.mem, hsl]; exact hf
  have hmem : (({ c with fresh := c.fresh + 1 } : PC).give (c.fresh * c.slot)).mem = putAt c.mem (s.slots.length * s.slot) (List.replicate c.slot.toNat 0) := by unfold PC.give; rw [hht]
  have hlr : (List.replicate c.slot.toNat (0 : UInt8)).length = s.slot := by rw [List.length_replicate, hsl]
  have hout : ∀ j i, j ≠ s.slots.length → i < s.slot → (putAt c.mem (s.slots.length * s.slot) (List.replicate c.slot.toNat (0 : UInt8)))[j * s.slot + i]? = c.mem[j * s.slot + i]? := by
    intro j i hj hi
    refine putAt_out _ _ _ hml _ ?_
    rw [hlr]
    exact slot_out (n := s.slot) (fun e => hj e.symm : s.slots.length ≠ j) hi
  have happ : ∀ j, (s.slots ++ [some (zeros s.slot)])[j]? = if j = s.slots.length then some (some (zeros s.slot)) else s.slots[j]? := by
    intro j
    by_cases e1 : j = s.slots.length
    · subst e1; simp
    · rw [if_neg e1]
      rcases Nat.lt_or_ge j s.slots.length with q | q
      · rw [List.getElem?_append_left q]
      · rw [List.getElem?_eq_none (by simp; omega), List.getElem?_eq_none q]
  have hnone : s.slots[s.slots.length]? = none := List.getElem?_eq_none (Nat.le_refl _)
  refine ⟨⟨h.lo, h.hi, h.slot, ?_, ?_, ?_, ?_, ?_, ?_, h.head, ?_, h.nodup, ?_⟩, hh⟩
  · show c.fresh + 1 = _; rw [h.fresh]; simp
  · simpa using hfit
  · rw [hmem, putAt_length _ _ _ hml, h.mem]
  · intro off
    show kvGet (kvPut c.used (c.fresh * c.slot) ()) off = some () ↔ ∃ j bs, (s.slots ++ [some (zeros s.slot)])[j]? = some (some bs) ∧ off = ((j * s.slot : Nat) : Int)
    rw [kvGet_put]
    constructor
    · intro q
      split at q
      · rename_i e; exact ⟨s.slots.length, zeros s.slot, by rw [happ, if_pos rfl], by rw [← e, hh]⟩
      · obtain ⟨j, bs, hj, e⟩ := (h.keys off).1 q
        have e1 : j ≠ s.slots.length := by intro e1; subst e1; rw [hnone] at hj; simp at hj
        exact ⟨j, bs, by rw [happ, if_neg e1]; exact hj, e⟩
    · rintro ⟨j, bs, hj, e⟩
      rw [happ] at hj
      by_cases e1 : j = s.slots.length
      · subst e1; rw [if_pos (by rw [hh, e])]
      · rw [if_neg e1] at hj
        split
        · rfl
        · exact (h.keys off).2 ⟨j, bs, hj, e⟩
  · show (kvPut c.used (c.fresh * c.slot) ()).length = _
    have hu : kvGet c.used (c.fresh * c.slot) = none := by
      cases hq : kvGet c.used (c.fresh * c.slot) with
      | none => rfl
      | some u =>
        obtain ⟨j, bs, hj, e⟩ := (h.keys _).1 hq
        rw [hh] at e
        have : s.slots.length * s.slot = j * s.slot := by omega
        have := Nat.eq_of_mul_eq_mul_right (by omega) this
        subst this; rw [hnone] at hj; simp at hj
    rw [kvPut_length, hu, h.count]
    simp [PS.used, List.filter_append]
  · intro j bs hj
    have hj : (s.slots ++ [some (zeros s.slot)])[j]? = some (some bs) := hj
    rw [happ] at hj
    rw [hmem]
    by_cases e1 : j = s.slots.length
    · subst e1
      rw [if_pos rfl] at hj
      have e : bs = List.replicate c.slot.toNat 0 := by
        rw [hsl]; simp only [Option.some.injEq] at hj; rw [← hj]; rfl
      rw [e]
      exact ⟨hlr, fun i hi => putAt_in _ _ _ hml i (by rw [hlr]; exact hi)⟩
    · rw [if_neg e1] at hj
      obtain ⟨q1, q2⟩ := h.bytes j bs hj
      exact ⟨q1, fun i hi => (hout j i e1 hi).trans (q2 i hi)⟩
  · rw [hmem]
    show Chained _ s.slot s.back
    rw [hb]; trivial
  · intro j
    show j ∈ s.back ↔ (s.slots ++ [some (zeros s.slot)])[j]? = some none
    rw [happ, hb]
    by_cases e1 : j = s.slots.length
    · subst e1; simp
    · rw [if_neg e1, ← h.backs j, hb]
end Go.Proofs.YtckkccnebjacdaaGreat
namespace Go.Proofs.YtckkccnebjacdaaGreat
open Go.RowKit
set_option linter.unusedVariables false
set_option linter.unusedSimpArgs false

def PageIs (w : World) (p m : Nat) (s : PS) : Prop := ∃ c, PageAt w p m c ∧ PInv c s
def ptr (p : Nat) : Value := .pointer (some ⟨p, 0, none⟩)
def v16 (n : Nat) : Value := .int .u16 (n : Int)
def err (n : Int) : Value := .int .i64 n

theorem PageIs.kept {F : Nat → Prop} {w w' : World} {p m : Nat} {s : PS} (h : PageIs w p m s) (f : Fr F w w') (hp : ¬ F p) (hm : ¬ F m) : PageIs w' p m s := by
  obtain ⟨c, h1, h2⟩ := h; exact ⟨c, h1.kept f hp hm, h2⟩
theorem PageIs.lt {w : World} {p m : Nat} {s : PS} (h : PageIs w p m s) : p < w.heap.size ∧ m < w.heap.size ∧ p ≠ m := by
  obtain ⟨c, h1, h2⟩ := h; exact ⟨h1.1.lt, h1.2.1.lt, h1.2.2.1⟩
theorem PageIs.bounds {w : World} {p m : Nat} {s : PS} (h : PageIs w p m s) : 2 ≤ s.slot ∧ s.slot ≤ 4096 ∧ s.slots.length * s.slot ≤ 4096 := by
  obtain ⟨c, h1, h2⟩ := h; exact ⟨h2.lo, h2.hi, h2.fit⟩

theorem Page_Is {w : World} {p m : Nat} {s : PS} (h : PageIs w p m s) (off : Nat) :
    Calls Tryz.prog 116 #[ptr p, v16 off] w fun e w' => e = .returned (.bool (s.at_ off).isSome) ∧ Fr none_ w w' := by
  obtain ⟨c, h1, h2⟩ := h
  rw [← h2.isUsed]
  exact is_any w p m c off h1

theorem used_le (s : PS) : s.used ≤ s.slots.length := List.length_filter_le _ _

theorem Page_Room {w : World} {p m : Nat} {s : PS} (h : PageIs w p m s) :
    Calls Tryz.prog 124 #[ptr p] w fun e w' => e = .returned (.int .i64 (((4096 / s.slot : Nat) : Int) - s.used)) ∧ w' = w.drew := by
  obtain ⟨c, h1, h2⟩ := h
  have hle := used_le s
  have hl : s.slots.length ≤ 4096 := by
    have := h2.fit; have := h2.lo
    have : s.slots.length * 1 ≤ s.slots.length * s.slot := Nat.mul_le_mul_left _ (by omega)
    omega
  have e1 : (4096 / c.slot : Int) = ((4096 / s.slot : Nat) : Int) := by rw [h2.slot]; rfl
  have e2 : ((c.used.length : Nat) : Int) = (s.used : Int) := by rw [h2.count]
  rw [← e1, ← e2]
  exact room_any w p m c h1 (by rw [h2.slot]; have := h2.lo; omega) (by rw [h2.count]; omega)

theorem Page_Read_no {w : World} {p m : Nat} {s : PS} (h : PageIs w p m s) {off : Nat} (ha : s.at_ off = none) :
    Calls Tryz.prog 112 #[ptr p, v16 off] w fun e w' => e = .returned (.tuple #[.string (strOf []), err 5]) ∧ Fr none_ w w' := by
  obtain ⟨c, h1, h2⟩ := h
  refine read_no w p m c off h1 ?_
  have := h2.isUsed off
  rw [ha] at this
  cases hk : kvGet c.used (off : Int) with
  | none => rfl
  | some _ => rw [hk] at this; simp at this

theorem Page_Read_yes {w : World} {p m : Nat} {s : PS} (h : PageIs w p m s) {off : Nat} {bs : List UInt8} (ha : s.at_ off = some bs) :
    Calls Tryz.prog 112 #[ptr p, v16 off] w fun e w' => e = .returned (.tuple #[.string (strOf bs), err 0]) ∧ Fr none_ w w' := by
  obtain ⟨c, h1, h2⟩ := h
  have hr := h2.read ha
  have := h2.isUsed off
  rw [ha] at this
  have := read_yes w p m c off h1 this (by omega) (by rw [h2.slot]; have := h2.lo; omega) (by rw [h2.slot]; omega)
  rw [hr.1] at this
  exact this

theorem Page_Write_no {w : World} {p m : Nat} {s : PS} (h : PageIs w p m s) {off : Nat} (ha : s.at_ off = none) (b : ByteArray) :
    Calls Tryz.prog 88 #[ptr p, v16 off, .string b] w fun e w' => e = .returned (err 5) ∧ Fr none_ w w' := by
  obtain ⟨c, h1, h2⟩ := h
  refine write_no w p m c off b h1 ?_
  have := h2.isUsed off
  rw [ha] at this
  cases hk : kvGet c.used (off : Int) with
  | none => rfl
  | some _ => rw [hk] at this; simp at this

theorem Page_Write_big {w : World} {p m : Nat} {s : PS} (h : PageIs w p m s) {off : Nat} {bs : List UInt8} (ha : s.at_ off = some bs) (b : ByteArray) (hb : s.slot < b.size) :
    Calls Tryz.prog 88 #[ptr p, v16 off, .string b] w fun e w' => e = .returned (err 40) ∧ Fr none_ w w' := by
  obtain ⟨c, h1, h2⟩ := h
  have := h2.isUsed off
  rw [ha] at this
  exact write_big w p m c off b h1 this (by rw [h2.slot]; omega)

theorem Page_Write_yes {w : World} {p m : Nat} {s : PS} (h : PageIs w p m s) {off : Nat} {bs : List UInt8} (ha : s.at_ off = some bs) (b : ByteArray) (hb : b.size ≤ s.slot) :
    Calls Tryz.prog 88 #[ptr p, v16 off, .string b] w fun e w' => e = .returned (err 0) ∧ PageIs w' p m (s.write (off / s.slot) b) ∧ Fr (one p) w w' := by
  obtain ⟨c, h1, h2⟩ := h
  have hr := h2.read ha
  have hu := h2.isUsed off
  rw [ha] at hu
  obtain ⟨e, hk⟩ := PS.at_some ha
  refine (write_yes w p m c off b h1 hu (by rw [h2.slot]; omega) (by omega) (by rw [h2.slot]; have := h2.lo; omega) (by rw [h2.slot]; omega)).mono ?_
  rintro e' w' ⟨he, hp, hf⟩
  have := h2.write hk b hb
  rw [← e] at this
  exact ⟨he, ⟨_, hp, this⟩, hf⟩

theorem Page_Free_no {w : World} {p m : Nat} {s : PS} (h : PageIs w p m s) {off : Nat} (ha : s.at_ off = none) :
    Calls Tryz.prog 94 #[ptr p, v16 off] w fun e w' => e = .returned (err 5) ∧ Fr none_ w w' := by
  obtain ⟨c, h1, h2⟩ := h
  refine free_no w p m c off h1 ?_
  have := h2.isUsed off
  rw [ha] at this
  cases hk : kvGet c.used (off : Int) with
  | none => rfl
  | some _ => rw [hk] at this; simp at this

theorem Page_Free_yes {w : World} {p m : Nat} {s : PS} (h : PageIs w p m s) {off : Nat} {bs : List UInt8} (ha : s.at_ off = some bs) :
    Calls Tryz.prog 94 #[ptr p, v16 off] w fun e w' => e = .returned (err 0) ∧ PageIs w' p m (s.free (off / s.slot)) ∧ Fr (two p m) w w' := by
  obtain ⟨c, h1, h2⟩ := h
  have hr := h2.read ha
  have hu := h2.isUsed off
  rw [ha] at hu
  obtain ⟨e, hk⟩ := PS.at_some ha
  have hb := h2.headB
  have hlo := h2.lo
  refine (free_yes w p m c off h1 hu (by omega) (by omega) hb.1 hb.2).mono ?_
  rintro e' w' ⟨he, hp, hf⟩
  have := h2.free hk h1.2.1.nodup
  rw [← e] at this
  exact ⟨he, ⟨_, hp, this⟩, hf⟩

theorem Page_Alloc_no {w : World} {p m : Nat} {s : PS} (h : PageIs w p m s) (ha : s.alloc = none) :
    Calls Tryz.prog 125 #[ptr p] w fun e w' => e = .returned (.tuple #[v16 0, err 41]) ∧ w' = w.drew := by
  obtain ⟨c, h1, h2⟩ := h
  have hlo := h2.lo
  have hhi := h2.hi
  have hle : s.slots.length ≤ 4096 := by
    have := h2.fit
    have : s.slots.length * 1 ≤ s.slots.length * s.slot := Nat.mul_le_mul_left _ (by omega)
    omega
  unfold PS.alloc at ha
  split at ha
  · simp at ha
  · rename_i hb
    split at ha
    · simp at ha
    · rename_i hn
      have e : (c.fresh + 1) * c.slot = (((s.slots.length + 1) * s.slot : Nat) : Int) := by rw [h2.fresh, h2.slot]; simp
      exact alloc_full w p m c h1 (by rw [h2.head, hb]; rfl) (by rw [h2.slot]; omega) (by rw [h2.slot]; omega) (by rw [h2.fresh]; omega) (by rw [h2.fresh]; omega) (by rw [e]; omega)

theorem Page_Alloc_yes {w : World} {p m : Nat} {s s' : PS} {k : Nat} (h : PageIs w p m s) (ha : s.alloc = some (k, s')) :
    Calls Tryz.prog 125 #[ptr p] w fun e w' => e = .returned (.tuple #[v16 (k * s.slot), err 0]) ∧ PageIs w' p m s' ∧ Fr (two p m) w w' := by
  obtain ⟨c, h1, h2⟩ := h
  have hlo := h2.lo
  have hhi := h2.hi
  have hle : s.slots.length ≤ 4096 := by
    have := h2.fit
    have : s.slots.length * 1 ≤ s.slots.length * s.slot := Nat.mul_le_mul_left _ (by omega)
    omega
  unfold PS.alloc at ha
  split at ha
  · rename_i k' r hb
    simp only [Option.some.injEq, Prod.mk.injEq] at ha
    obtain ⟨rfl, rfl⟩ := ha
    obtain ⟨q1, q2, q3⟩ := h2.back hb _ rfl
    have hf := h2.kfit q3
    refine (alloc_back w p m c h1 (by rw [q2, h2.slot]; omega) (by omega) (by rw [h2.slot]; omega) _ rfl).mono ?_
    rintro e w' ⟨he, hp, hfr⟩
    refine ⟨?_, ⟨_, hp, q1⟩, hfr⟩
    rw [he, q2]; rfl
  · rename_i hb
    split at ha
    · rename_i hn
      simp only [Option.some.injEq, Prod.mk.injEq] at ha
      obtain ⟨rfl, rfl⟩ := ha
      have e : (c.fresh + 1) * c.slot = (((s.slots.length + 1) * s.slot : Nat) : Int) := by rw [h2.fresh, h2.slot]; simp
      obtain ⟨q1, q2⟩ := h2.fresh1 hb hn
      refine (alloc_fresh w p m c h1 (by rw [h2.head, hb]; rfl) (by rw [h2.slot]; omega) (by rw [h2.slot]; omega) (by rw [h2.fresh]; omega) (by rw [h2.fresh]; omega) (by rw [e]; omega)).mono ?_
      rintro e w' ⟨he, hp, hfr⟩
      refine ⟨?_, ⟨_, hp, q1⟩, hfr⟩
      rw [he, q2]; rfl
    · simp at ha

theorem Page_New_no (w : World) (slot : Int) (h : slot < 2 ∨ 4096 < slot) :
    Calls Tryz.prog 79 #[.int .i64 slot] w fun e w' => e = .returned (.tuple #[.pointer none, err 1]) ∧ w = w' := new_no w slot h

theorem Page_New_yes (w : World) (slot : Nat) (h2 : 2 ≤ slot) (h3 : slot ≤ 4096) :
    Calls Tryz.prog 79 #[.int .i64 (slot : Int)] w fun e w' => ∃ p m, e = .returned (.tuple #[ptr p, err 0]) ∧ PageIs w' p m (PS.new slot) ∧ Fr none_ w w' ∧ w.heap.size ≤ p ∧ w.heap.size ≤ m := by
  refine (new_yes w slot (by omega) (by omega)).mono ?_
  rintro e w' ⟨p, m, he, hp, hf, a, b⟩
  exact ⟨p, m, he, ⟨_, hp, PInv.new slot h2 h3⟩, hf, a, b⟩

theorem Page_Copy {w : World} {p m : Nat} {s : PS} (h : PageIs w p m s) :
    Calls Tryz.prog 103 #[ptr p] w fun e w' => ∃ p' m', e = .returned (ptr p') ∧ PageIs w' p' m' s ∧ Fr none_ w w' ∧ w.heap.size ≤ p' ∧ w.heap.size ≤ m' := by
  obtain ⟨c, h1, h2⟩ := h
  refine (copy_any w p m c h1).mono ?_
  rintro e w' ⟨p', m', he, hp, r⟩
  exact ⟨p', m', he, ⟨_, hp, h2⟩, r⟩
end Go.Proofs.YtckkccnebjacdaaGreat
