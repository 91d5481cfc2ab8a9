/-
  A page as the document has it ('PS'): the slots, each used with its bytes or given back, and the row of those that were given back. 'PInv': a page's memory is of that state.
-/
import Derived.Test.YteefcfndlggajaaPage4
namespace Go.Proofs.Yteefcfndlggajaa
open Go.RowKit
set_option linter.unusedVariables false
set_option linter.unusedSimpArgs false

structure PS where
  slot : Nat
  slots : List (Option (List UInt8))
  back : List Nat

def PS.headOf (slot : Nat) : List Nat → Int
  | [] => 65535
  | k :: _ => ((k * slot : Nat) : Int)

def zeros (n : Nat) : List UInt8 := List.replicate n 0

def PS.new (slot : Nat) : PS := { slot := slot, slots := [], back := [] }
def PS.used (s : PS) : Nat := (s.slots.filter (·.isSome)).length
/-- The slot at an offset; none: it is not used. -/
def PS.at_ (s : PS) (off : Nat) : Option (List UInt8) := if off % s.slot = 0 then (s.slots[off / s.slot]?).join else none
def PS.alloc (s : PS) : Option (Nat × PS) :=
  match s.back with
  | k :: r => some (k, { s with slots := s.slots.set k (some (zeros s.slot)), back := r })
  | [] => if (s.slots.length + 1) * s.slot ≤ 4096 then some (s.slots.length, { s with slots := s.slots ++ [some (zeros s.slot)] }) else none
def PS.free (s : PS) (k : Nat) : PS := { s with slots := s.slots.set k none, back := k :: s.back }
def PS.write (s : PS) (k : Nat) (b : ByteArray) : PS := { s with slots := s.slots.set k (some (b.data.toList ++ zeros (s.slot - b.size))) }

/-- The bytes that chain what was given back. -/
def Chained (mem : List UInt8) (slot : Nat) : List Nat → Prop
  | [] => True
  | k :: r => mem[k * slot]? = (b16 (PS.headOf slot r))[0]? ∧ mem[k * slot + 1]? = (b16 (PS.headOf slot r))[1]? ∧ Chained mem slot r

structure PInv (c : PC) (s : PS) : Prop where
  lo : 2 ≤ s.slot
  hi : s.slot ≤ 4096
  slot : c.slot = (s.slot : Int)
  fresh : c.fresh = (s.slots.length : Int)
  fit : s.slots.length * s.slot ≤ 4096
  mem : c.mem.length = 4096
  keys : ∀ off : Int, kvGet c.used off = some () ↔ ∃ k bs, s.slots[k]? = some (some bs) ∧ off = ((k * s.slot : Nat) : Int)
  count : c.used.length = s.used
  bytes : ∀ k bs, s.slots[k]? = some (some bs) → bs.length = s.slot ∧ ∀ i, i < s.slot → c.mem[k * s.slot + i]? = bs[i]?
  head : c.head = PS.headOf s.slot s.back
  chain : Chained c.mem s.slot s.back
  nodup : s.back.Nodup
  backs : ∀ k, k ∈ s.back ↔ s.slots[k]? = some none

theorem PInv.kfit {c : PC} {s : PS} (h : PInv c s) {k : Nat} (hk : k < s.slots.length) : k * s.slot + s.slot ≤ 4096 := by
  have : (k + 1) * s.slot ≤ s.slots.length * s.slot := Nat.mul_le_mul_right _ (by omega)
  have e : (k + 1) * s.slot = k * s.slot + s.slot := by rw [Nat.add_mul]; omega
  have := h.fit; omega
theorem apart {a b n : Nat} (h : a < b) : a * n + n ≤ b * n := by
  have : (a + 1) * n ≤ b * n := Nat.mul_le_mul_right _ (by omega)
  rw [Nat.add_mul] at this; omega

theorem PInv.headB {c : PC} {s : PS} (h : PInv c s) : 0 ≤ c.head ∧ c.head < 65536 := by
  rw [h.head]
  cases hb : s.back with
  | nil => simp [PS.headOf]
  | cons k r =>
    have hk := (h.backs k).1 (by rw [hb]; simp)
    have hk' : k < s.slots.length := (List.getElem?_eq_some_iff.1 hk).1
    have := h.kfit hk'
    have := h.lo
    simp only [PS.headOf]; omega

theorem headOf_b {c : PC} {s : PS} (h : PInv c s) : ∀ l : List Nat, (∀ k ∈ l, k ∈ s.back) → 0 ≤ PS.headOf s.slot l ∧ PS.headOf s.slot l < 65536 := by
  intro l hl
  cases l with
  | nil => simp [PS.headOf]
  | cons k r =>
    have hk := (h.backs k).1 (hl k (by simp))
    have hk' : k < s.slots.length := (List.getElem?_eq_some_iff.1 hk).1
    have := h.kfit hk'
    have := h.lo
    simp only [PS.headOf]; omega

/-- The chain's bytes stand as long as the slots that are on it do. -/
theorem chained_keep {mem mem' : List UInt8} {slot : Nat} (h2 : 2 ≤ slot) : ∀ (l : List Nat), Chained mem slot l → (∀ k ∈ l, ∀ i, i < slot → mem'[k * slot + i]? = mem[k * slot + i]?) → Chained mem' slot l
  | [], _, _ => trivial
  | k :: r, h, hk => by
    obtain ⟨a, b, c⟩ := h
    refine ⟨?_, ?_, chained_keep h2 r c (fun x hx => hk x (by simp [hx]))⟩
    · have := hk k (by simp) 0 (by omega); simp only [Nat.add_zero] at this; rw [this]; exact a
    · rw [hk k (by simp) 1 (by omega)]; exact b

theorem PInv.isUsed {c : PC} {s : PS} (h : PInv c s) (off : Nat) : (kvGet c.used (off : Int)).isSome = (s.at_ off).isSome := by
  have hlo := h.lo
  rw [Bool.eq_iff_iff]
  constructor
  · intro hs
    obtain ⟨u, hu⟩ := Option.isSome_iff_exists.1 hs
    obtain ⟨k, bs, hk, e⟩ := (h.keys off).1 (by rw [hu])
    have e' : off = k * s.slot := by omega
    subst e'
    unfold PS.at_
    rw [if_pos (Nat.mul_mod_left _ _), Nat.mul_div_cancel _ (by omega), hk]
    rfl
  · intro hs
    unfold PS.at_ at hs
    split at hs
    · rename_i hm
      cases hg : s.slots[off / s.slot]? with
      | none => rw [hg] at hs; simp at hs
      | some x =>
        rw [hg] at hs
        cases x with
        | none => simp at hs
        | some bs =>
          have := (h.keys off).2 ⟨off / s.slot, bs, hg, by have := Nat.div_add_mod off s.slot; rw [Nat.mul_comm]; omega⟩
          rw [this]; rfl
    · simp at hs

theorem PS.at_some {s : PS} {off : Nat} {bs : List UInt8} (h : s.at_ off = some bs) : off = (off / s.slot) * s.slot ∧ s.slots[off / s.slot]? = some (some bs) := by
  unfold PS.at_ at h
  split at h
  · rename_i hm
    refine ⟨by have := Nat.div_add_mod off s.slot; rw [Nat.mul_comm]; omega, ?_⟩
    cases hg : s.slots[off / s.slot]? with
    | none => rw [hg] at h; simp at h
    | some x => rw [hg] at h; simp at h; rw [h]
  · simp at h

theorem PInv.read {c : PC} {s : PS} (h : PInv c s) {off : Nat} {bs : List UInt8} (ha : s.at_ off = some bs) : c.slotAt (off : Int) = bs ∧ off + s.slot ≤ 4096 := by
  obtain ⟨e, hk⟩ := PS.at_some ha
  have hlt := (List.getElem?_eq_some_iff.1 hk).1
  have hf := h.kfit hlt
  rw [← e] at hf
  refine ⟨?_, hf⟩
  obtain ⟨hl, hb⟩ := h.bytes _ _ hk
  rw [← e] at hb
  unfold PC.slotAt
  apply List.ext_getElem?
  intro i
  have hc : c.slot.toNat = s.slot := by rw [h.slot]; omega
  rw [hc, List.getElem?_take]
  by_cases hi : i < s.slot
  · rw [if_pos hi, List.getElem?_drop, ← hb i hi]; congr 1
  · rw [if_neg hi, List.getElem?_eq_none (by omega)]
end Go.Proofs.Yteefcfndlggajaa
