/-
  How great an arena's numbers get: by one with each step.
-/
import Derived.Test.YtncajdefjammiaaArDo
import Derived.Test.YtncajdefjammiaaArEx
namespace Go.Proofs.Ytncajdefjammiaa
open Go.RowKit
set_option linter.unusedVariables false
set_option linter.unusedSimpArgs false

/-- A state that at most N steps have come to. -/
structure Upto (N : Nat) (s : AS) : Prop where
  wf : s.WF
  used : s.used ≤ N
  gen : ∀ n o, s.genOf n o ≤ N

theorem Upto.new {slot : Nat} (h2 : 2 ≤ slot) (h3 : slot ≤ 4096) : Upto 0 (AS.new slot) :=
  ⟨⟨h2, h3, by simp [AS.new], by intro p hp; simp [AS.new] at hp, by simp [AS.new], by simp [AS.new], by intro i p hi hp; simp [AS.new] at hp, fun n o _ _ => by omega⟩, by simp [AS.new], fun n o => by unfold AS.genOf; simp [AS.new, kvGet_nil]⟩
theorem Upto.more {N M : Nat} {s : AS} (h : Upto N s) (hm : N ≤ M) : Upto M s := ⟨h.wf, by have := h.used; omega, fun n o => by have := h.gen n o; omega⟩
theorem Upto.alloc {N : Nat} {s : AS} (h : Upto N s) : Upto (N + 1) (aAlloc s).2.2 := by
  have hw := (aAlloc_wf h.wf).1
  rcases aAlloc_cases h.wf with ⟨_, _, e⟩ | ⟨f, k, q, q', h1, h2, h3, h4, h5, h6, _, h8, e⟩
  · rw [e] at hw ⊢
    exact ⟨hw, by have := h.used; simp only; omega, fun n o => by have := h.gen n o; show s.genOf n o ≤ N + 1; omega⟩
  · rw [e] at hw ⊢
    refine ⟨hw, by have := h.used; show s.used + 1 ≤ N + 1; omega, fun n o => ?_⟩
    have h9 := h.gen n o
    have h10 := h.gen f (k * s.slot)
    have : (s.giveAt f k q').genOf n o = if pl f (k * s.slot) = pl n o then s.genOf f (k * s.slot) + 1 else s.genOf n o := by
      show (kvGet (kvPut s.gen (pl f (k * s.slot)) (s.genOf f (k * s.slot) + 1)) (pl n o)).getD 0 = _
      rw [kvGet_put]
      split
      · rfl
      · rfl
    rw [this]
    split <;> omega
theorem Upto.free {N : Nat} {s : AS} (h : Upto N s) (x : Nat) : Upto N (aFree s x).2 := by
  obtain ⟨w1, w2, w3, _⟩ := aFree_all h.wf x
  refine ⟨w1, ?_, fun n o => ?_⟩
  · unfold aFree; split
    · have := h.used; simp only; omega
    · exact h.used
  · have := h.gen n o; unfold AS.genOf at this ⊢; rw [w3]; exact this
theorem Upto.write {N : Nat} {s : AS} (h : Upto N s) (x : Nat) (b : ByteArray) : Upto N (aWrite s x b).2 := by
  obtain ⟨w1, w2, w3, _⟩ := aWrite_all h.wf x b
  refine ⟨w1, ?_, fun n o => ?_⟩
  · unfold aWrite; split
    · split
      · exact h.used
      · exact h.used
    · exact h.used
  · have := h.gen n o; unfold AS.genOf at this ⊢; rw [w3]; exact this
theorem Upto.does {N : Nat} {s : AS} (h : Upto N s) (x : StepV) (told : List Nat) : Upto (N + 1) (x.does told s).2.2 := by
  unfold StepV.does
  split
  · exact h.alloc
  · split
    · exact (h.free _).more (by omega)
    · split
      · exact (h.write _ _).more (by omega)
      · exact h.more (by omega)
end Go.Proofs.Ytncajdefjammiaa
