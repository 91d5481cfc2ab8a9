/-
  What each method of a page answers, as one function of its state: whatever is asked.
-/
import Derived.Test.YtdbnopfpopeefaaPgApart
namespace Go.Proofs.Ytdbnopfpopeefaa
open Go.RowKit
set_option linter.unusedVariables false
set_option linter.unusedSimpArgs false
set_option maxRecDepth 100000

def allocR (s : PS) : Nat × Nat × PS :=
  match s.alloc with
  | some (k, s') => (k * s.slot, 0, s')
  | none => (0, 41, s)
def freeR (s : PS) (off : Nat) : Nat × PS := if (s.at_ off).isSome then (0, s.free (off / s.slot)) else (5, s)
def writeR (s : PS) (off : Nat) (b : ByteArray) : Nat × PS :=
  if (s.at_ off).isSome then (if b.size ≤ s.slot then (0, s.write (off / s.slot) b) else (40, s)) else (5, s)
def readR (s : PS) (off : Nat) : List UInt8 × Nat := match s.at_ off with | some bs => (bs, 0) | none => ([], 5)

section calls
variable {w : World} {p m : Nat} {s : PS}
theorem alloc_any (h : PageIs w p m s) : Calls Try.prog 14 #[.pointer (some ⟨p, 0, none⟩)] w fun e w' => e = .returned (.tuple #[.int .u16 ((allocR s).1 : Int), .int .i64 ((allocR s).2.1 : Int)]) ∧ PageIs w' p m (allocR s).2.2 ∧ Fr (two p m) w w' := by
  unfold allocR
  cases ha : s.alloc with
  | none => exact (Page_Alloc_no h ha).mono fun e w' ⟨he, hw⟩ => ⟨he, by subst hw; exact ⟨h, Fr.drew _ _⟩⟩
  | some ks => exact Page_Alloc_yes h ha
theorem free_any (h : PageIs w p m s) (off : Nat) : Calls Try.prog 15 #[.pointer (some ⟨p, 0, none⟩), .int .u16 (off : Int)] w fun e w' => e = .returned (.int .i64 ((freeR s off).1 : Int)) ∧ PageIs w' p m (freeR s off).2 ∧ Fr (two p m) w w' := by
  unfold freeR
  cases ha : s.at_ off with
  | none => exact (Page_Free_no h ha).mono fun e w' ⟨he, hf⟩ => ⟨he, h.kept hf (fun e => e) (fun e => e), hf.none⟩
  | some bs => exact Page_Free_yes h ha
theorem write_any (h : PageIs w p m s) (off : Nat) (b : ByteArray) : Calls Try.prog 16 #[.pointer (some ⟨p, 0, none⟩), .int .u16 (off : Int), .string b] w fun e w' => e = .returned (.int .i64 ((writeR s off b).1 : Int)) ∧ PageIs w' p m (writeR s off b).2 ∧ Fr (two p m) w w' := by
  unfold writeR
  cases ha : s.at_ off with
  | none => exact (Page_Write_no h ha b).mono fun e w' ⟨he, hf⟩ => ⟨he, h.kept hf (fun e => e) (fun e => e), hf.none⟩
  | some bs =>
    simp only [Option.isSome_some, if_pos]
    by_cases hb : b.size ≤ s.slot
    · rw [if_pos hb]; exact (Page_Write_yes h ha b hb).mono fun e w' ⟨he, hp, hf⟩ => ⟨he, hp, hf.mono fun k _ e => Or.inl e⟩
    · rw [if_neg hb]; exact (Page_Write_big h ha b (by omega)).mono fun e w' ⟨he, hf⟩ => ⟨he, h.kept hf (fun e => e) (fun e => e), hf.none⟩
theorem read_any (h : PageIs w p m s) (off : Nat) : Calls Try.prog 12 #[.pointer (some ⟨p, 0, none⟩), .int .u16 (off : Int)] w fun e w' => e = .returned (.tuple #[.string (strOf (readR s off).1), .int .i64 ((readR s off).2 : Int)]) ∧ Fr none_ w w' := by
  unfold readR
  cases ha : s.at_ off with
  | none => exact Page_Read_no h ha
  | some bs => exact Page_Read_yes h ha
end calls

theorem allocR_slot (s : PS) : (allocR s).2.2.slot = s.slot := by
  unfold allocR; split
  · rename_i h; exact alloc_slot h
  · rfl
theorem freeR_slot (s : PS) (o : Nat) : (freeR s o).2.slot = s.slot := by unfold freeR; split <;> rfl
theorem writeR_slot (s : PS) (o : Nat) (b : ByteArray) : (writeR s o b).2.slot = s.slot := by
  unfold writeR; split
  · split <;> rfl
  · rfl
theorem allocR_wf {s : PS} (h : s.WF) : (allocR s).2.2.WF ∧ (allocR s).1 < 65536 ∧ (allocR s).2.1 < 256 := by
  unfold allocR; split
  · rename_i ha
    obtain ⟨q1, q2, q3, q4, q5⟩ := h.alloc ha
    exact ⟨q1, by simp only; omega, by simp⟩
  · exact ⟨h, by simp, by simp⟩
theorem freeR_wf {s : PS} (h : s.WF) (o : Nat) : (freeR s o).2.WF ∧ (freeR s o).1 < 256 := by
  unfold freeR; split
  · rename_i ha
    obtain ⟨bs, hb⟩ := Option.isSome_iff_exists.1 ha
    obtain ⟨_, hk⟩ := PS.at_some hb
    exact ⟨(h.free hk).1, by simp⟩
  · exact ⟨h, by simp⟩
theorem writeR_wf {s : PS} (h : s.WF) (o : Nat) (b : ByteArray) : (writeR s o b).2.WF ∧ (writeR s o b).1 < 256 := by
  unfold writeR; split
  · rename_i ha
    obtain ⟨bs, hb⟩ := Option.isSome_iff_exists.1 ha
    obtain ⟨_, hk⟩ := PS.at_some hb
    split
    · rename_i hs; exact ⟨(h.write hk b hs).1, by simp⟩
    · exact ⟨h, by simp⟩
  · exact ⟨h, by simp⟩
theorem readR_b (s : PS) (o : Nat) : (readR s o).2 < 256 := by unfold readR; split <;> simp
theorem readR_len {s : PS} (h : s.WF) (o : Nat) : (readR s o).1.length ≤ s.slot := by
  unfold readR; split
  · rename_i bs ha
    obtain ⟨_, hk⟩ := PS.at_some ha
    rw [h.len _ _ hk]; exact Nat.le_refl _
  · simp
end Go.Proofs.Ytdbnopfpopeefaa
