/-
  The contracts of package page, in the words of the document's state: 'PageIs w p m s': at p stands a page (its map at m) that is of state s.
-/
import Derived.Test.YteefcfndlggajaaPageInv
namespace Go.Proofs.Yteefcfndlggajaa
open Go.RowKit
set_option linter.unusedVariables false
set_option linter.unusedSimpArgs false

def PageIs (w : World) (p m : Nat) (s : PS) : Prop := ∃ c, PageAt w p m c ∧ PInv c s
def ptr (p : Nat) : Value := .pointer (some ⟨p, 0, none⟩)
def v16 (n : Nat) : Value := .int .u16 (n : Int)
def err (n : Int) : Value := .int .i64 n

theorem PageIs.kept {F : Nat → Prop} {w w' : World} {p m : Nat} {s : PS} (h : PageIs w p m s) (f : Fr F w w') (hp : ¬ F p) (hm : ¬ F m) : PageIs w' p m s := by
  obtain ⟨c, h1, h2⟩ := h; exact ⟨c, h1.kept f hp hm, h2⟩
theorem PageIs.lt {w : World} {p m : Nat} {s : PS} (h : PageIs w p m s) : p < w.heap.size ∧ m < w.heap.size ∧ p ≠ m := by
  obtain ⟨c, h1, h2⟩ := h; exact ⟨h1.1.lt, h1.2.1.lt, h1.2.2.1⟩
theorem PageIs.bounds {w : World} {p m : Nat} {s : PS} (h : PageIs w p m s) : 2 ≤ s.slot ∧ s.slot ≤ 4096 ∧ s.slots.length * s.slot ≤ 4096 := by
  obtain ⟨c, h1, h2⟩ := h; exact ⟨h2.lo, h2.hi, h2.fit⟩

theorem Page_Is {w : World} {p m : Nat} {s : PS} (h : PageIs w p m s) (off : Nat) :
    Calls Try.prog 84 #[ptr p, v16 off] w fun e w' => e = .returned (.bool (s.at_ off).isSome) ∧ Fr none_ w w' := by
  obtain ⟨c, h1, h2⟩ := h
  rw [← h2.isUsed]
  exact is_any w p m c off h1

theorem used_le (s : PS) : s.used ≤ s.slots.length := List.length_filter_le _ _

theorem Page_Room {w : World} {p m : Nat} {s : PS} (h : PageIs w p m s) :
    Calls Try.prog 70 #[ptr p] w fun e w' => e = .returned (.int .i64 (((4096 / s.slot : Nat) : Int) - s.used)) ∧ w' = w.drew := by
  obtain ⟨c, h1, h2⟩ := h
  have hle := used_le s
  have hl : s.slots.length ≤ 4096 := by
    have := h2.fit; have := h2.lo
    have : s.slots.length * 1 ≤ s.slots.length * s.slot := Nat.mul_le_mul_left _ (by omega)
    omega
  have e1 : (4096 / c.slot : Int) = ((4096 / s.slot : Nat) : Int) := by rw [h2.slot]; rfl
  have e2 : ((c.used.length : Nat) : Int) = (s.used : Int) := by rw [h2.count]
  rw [← e1, ← e2]
  exact room_any w p m c h1 (by rw [h2.slot]; have := h2.lo; omega) (by rw [h2.count]; omega)

theorem Page_Read_no {w : World} {p m : Nat} {s : PS} (h : PageIs w p m s) {off : Nat} (ha : s.at_ off = none) :
    Calls Try.prog 62 #[ptr p, v16 off] w fun e w' => e = .returned (.tuple #[.string (strOf []), err 5]) ∧ Fr none_ w w' := by
  obtain ⟨c, h1, h2⟩ := h
  refine read_no w p m c off h1 ?_
  have := h2.isUsed off
  rw [ha] at this
  cases hk : kvGet c.used (off : Int) with
  | none => rfl
  | some _ => rw [hk] at this; simp at this

theorem Page_Read_yes {w : World} {p m : Nat} {s : PS} (h : PageIs w p m s) {off : Nat} {bs : List UInt8} (ha : s.at_ off = some bs) :
    Calls Try.prog 62 #[ptr p, v16 off] w fun e w' => e = .returned (.tuple #[.string (strOf bs), err 0]) ∧ Fr none_ w w' := by
  obtain ⟨c, h1, h2⟩ := h
  have hr := h2.read ha
  have := h2.isUsed off
  rw [ha] at this
  have := read_yes w p m c off h1 this (by omega) (by rw [h2.slot]; have := h2.lo; omega) (by rw [h2.slot]; omega)
  rw [hr.1] at this
  exact this

theorem Page_Write_no {w : World} {p m : Nat} {s : PS} (h : PageIs w p m s) {off : Nat} (ha : s.at_ off = none) (b : ByteArray) :
    Calls Try.prog 74 #[ptr p, v16 off, .string b] w fun e w' => e = .returned (err 5) ∧ Fr none_ w w' := by
  obtain ⟨c, h1, h2⟩ := h
  refine write_no w p m c off b h1 ?_
  have := h2.isUsed off
  rw [ha] at this
  cases hk : kvGet c.used (off : Int) with
  | none => rfl
  | some _ => rw [hk] at this; simp at this

theorem Page_Write_big {w : World} {p m : Nat} {s : PS} (h : PageIs w p m s) {off : Nat} {bs : List UInt8} (ha : s.at_ off = some bs) (b : ByteArray) (hb : s.slot < b.size) :
    Calls Try.prog 74 #[ptr p, v16 off, .string b] w fun e w' => e = .returned (err 40) ∧ Fr none_ w w' := by
  obtain ⟨c, h1, h2⟩ := h
  have := h2.isUsed off
  rw [ha] at this
  exact write_big w p m c off b h1 this (by rw [h2.slot]; omega)

theorem Page_Write_yes {w : World} {p m : Nat} {s : PS} (h : PageIs w p m s) {off : Nat} {bs : List UInt8} (ha : s.at_ off = some bs) (b : ByteArray) (hb : b.size ≤ s.slot) :
    Calls Try.prog 74 #[ptr p, v16 off, .string b] w fun e w' => e = .returned (err 0) ∧ PageIs w' p m (s.write (off / s.slot) b) ∧ Fr (one p) w w' := by
  obtain ⟨c, h1, h2⟩ := h
  have hr := h2.read ha
  have hu := h2.isUsed off
  rw [ha] at hu
  obtain ⟨e, hk⟩ := PS.at_some ha
  refine (write_yes w p m c off b h1 hu (by rw [h2.slot]; omega) (by omega) (by rw [h2.slot]; have := h2.lo; omega) (by rw [h2.slot]; omega)).mono ?_
  rintro e' w' ⟨he, hp, hf⟩
  have := h2.write hk b hb
  rw [← e] at this
  exact ⟨he, ⟨_, hp, this⟩, hf⟩

theorem Page_Free_no {w : World} {p m : Nat} {s : PS} (h : PageIs w p m s) {off : Nat} (ha : s.at_ off = none) :
    Calls Try.prog 67 #[ptr p, v16 off] w fun e w' => e = .returned (err 5) ∧ Fr none_ w w' := by
  obtain ⟨c, h1, h2⟩ := h
  refine free_no w p m c off h1 ?_
  have := h2.isUsed off
  rw [ha] at this
  cases hk : kvGet c.used (off : Int) with
  | none => rfl
  | some _ => rw [hk] at this; simp at this

theorem Page_Free_yes {w : World} {p m : Nat} {s : PS} (h : PageIs w p m s) {off : Nat} {bs : List UInt8} (ha : s.at_ off = some bs) :
    Calls Try.prog 67 #[ptr p, v16 off] w fun e w' => e = .returned (err 0) ∧ PageIs w' p m (s.free (off / s.slot)) ∧ Fr (two p m) w w' := by
  obtain ⟨c, h1, h2⟩ := h
  have hr := h2.read ha
  have hu := h2.isUsed off
  rw [ha] at hu
  obtain ⟨e, hk⟩ := PS.at_some ha
  have hb := h2.headB
  have hlo := h2.lo
  refine (free_yes w p m c off h1 hu (by omega) (by omega) hb.1 hb.2).mono ?_
  rintro e' w' ⟨he, hp, hf⟩
  have := h2.free hk h1.2.1.nodup
  rw [← e] at this
  exact ⟨he, ⟨_, hp, this⟩, hf⟩

theorem Page_Alloc_no {w : World} {p m : Nat} {s : PS} (h : PageIs w p m s) (ha : s.alloc = none) :
    Calls Try.prog 72 #[ptr p] w fun e w' => e = .returned (.tuple #[v16 0, err 41]) ∧ w' = w.drew := by
  obtain ⟨c, h1, h2⟩ := h
  have hlo := h2.lo
  have hhi := h2.hi
  have hle : s.slots.length ≤ 4096 := by
    have := h2.fit
    have : s.slots.length * 1 ≤ s.slots.length * s.slot := Nat.mul_le_mul_left _ (by omega)
    omega
  unfold PS.alloc at ha
  split at ha
  · simp at ha
  · rename_i hb
    split at ha
    · simp at ha
    · rename_i hn
      have e : (c.fresh + 1) * c.slot = (((s.slots.length + 1) * s.slot : Nat) : Int) := by rw [h2.fresh, h2.slot]; simp
      exact alloc_full w p m c h1 (by rw [h2.head, hb]; rfl) (by rw [h2.slot]; omega) (by rw [h2.slot]; omega) (by rw [h2.fresh]; omega) (by rw [h2.fresh]; omega) (by rw [e]; omega)

theorem Page_Alloc_yes {w : World} {p m : Nat} {s s' : PS} {k : Nat} (h : PageIs w p m s) (ha : s.alloc = some (k, s')) :
    Calls Try.prog 72 #[ptr p] w fun e w' => e = .returned (.tuple #[v16 (k * s.slot), err 0]) ∧ PageIs w' p m s' ∧ Fr (two p m) w w' := by
  obtain ⟨c, h1, h2⟩ := h
  have hlo := h2.lo
  have hhi := h2.hi
  have hle : s.slots.length ≤ 4096 := by
    have := h2.fit
    have : s.slots.length * 1 ≤ s.slots.length * s.slot := Nat.mul_le_mul_left _ (by omega)
    omega
  unfold PS.alloc at ha
  split at ha
  · rename_i k' r hb
    simp only [Option.some.injEq, Prod.mk.injEq] at ha
    obtain ⟨rfl, rfl⟩ := ha
    obtain ⟨q1, q2, q3⟩ := h2.back hb _ rfl
    have hf := h2.kfit q3
    refine (alloc_back w p m c h1 (by rw [q2, h2.slot]; omega) (by omega) (by rw [h2.slot]; omega) _ rfl).mono ?_
    rintro e w' ⟨he, hp, hfr⟩
    refine ⟨?_, ⟨_, hp, q1⟩, hfr⟩
    rw [he, q2]; rfl
  · rename_i hb
    split at ha
    · rename_i hn
      simp only [Option.some.injEq, Prod.mk.injEq] at ha
      obtain ⟨rfl, rfl⟩ := ha
      have e : (c.fresh + 1) * c.slot = (((s.slots.length + 1) * s.slot : Nat) : Int) := by rw [h2.fresh, h2.slot]; simp
      obtain ⟨q1, q2⟩ := h2.fresh1 hb hn
      refine (alloc_fresh w p m c h1 (by rw [h2.head, hb]; rfl) (by rw [h2.slot]; omega) (by rw [h2.slot]; omega) (by rw [h2.fresh]; omega) (by rw [h2.fresh]; omega) (by rw [e]; omega)).mono ?_
      rintro e w' ⟨he, hp, hfr⟩
      refine ⟨?_, ⟨_, hp, q1⟩, hfr⟩
      rw [he, q2]; rfl
    · simp at ha

theorem Page_New_no (w : World) (slot : Int) (h : slot < 2 ∨ 4096 < slot) :
    Calls Try.prog 71 #[.int .i64 slot] w fun e w' => e = .returned (.tuple #[.pointer none, err 1]) ∧ w = w' := new_no w slot h

theorem Page_New_yes (w : World) (slot : Nat) (h2 : 2 ≤ slot) (h3 : slot ≤ 4096) :
    Calls Try.prog 71 #[.int .i64 (slot : Int)] w fun e w' => ∃ p m, e = .returned (.tuple #[ptr p, err 0]) ∧ PageIs w' p m (PS.new slot) ∧ Fr none_ w w' ∧ w.heap.size ≤ p ∧ w.heap.size ≤ m := by
  refine (new_yes w slot (by omega) (by omega)).mono ?_
  rintro e w' ⟨p, m, he, hp, hf, a, b⟩
  exact ⟨p, m, he, ⟨_, hp, PInv.new slot h2 h3⟩, hf, a, b⟩

theorem Page_Copy {w : World} {p m : Nat} {s : PS} (h : PageIs w p m s) :
    Calls Try.prog 69 #[ptr p] w fun e w' => ∃ p' m', e = .returned (ptr p') ∧ PageIs w' p' m' s ∧ Fr none_ w w' ∧ w.heap.size ≤ p' ∧ w.heap.size ≤ m' := by
  obtain ⟨c, h1, h2⟩ := h
  refine (copy_any w p m c h1).mono ?_
  rintro e w' ⟨p', m', he, hp, r⟩
  exact ⟨p', m', he, ⟨_, hp, h2⟩, r⟩
end Go.Proofs.Yteefcfndlggajaa
