/-
  Copy of an arena, by the blocks that it owns.
-/
import Derived.Test.YtncajdefjammiaaArPair
import Derived.Test.YtncajdefjammiaaArenaCopy
namespace Go.Proofs.Ytncajdefjammiaa
open Go.RowKit
set_option linter.unusedVariables false
set_option linter.unusedSimpArgs false
set_option maxRecDepth 100000

theorem ar_copy {w : World} {F : Nat → Prop} {x : Nat} {s : AS} {N : Nat} (h : Ar F w x s) (hu : Upto N s) :
    Calls Try.prog 22 #[.pointer (some ⟨x, 0, none⟩)] w fun e w' => ∃ G y, e = .returned (.pointer (some ⟨y, 0, none⟩)) ∧ Ar G w' y s ∧ Fr none_ w w' ∧ ∀ k, G k → w.heap.size ≤ k := by
  obtain ⟨m, pa, cap, ps, h, rfl⟩ := h
  refine (Arena_Copy h hu.wf.len).mono ?_
  rintro e w1 ⟨x', m', pa', cap', ps', he, h1, h2, h3⟩
  exact ⟨_, x', he, ⟨m', pa', cap', ps', h1, rfl⟩, h2, h3⟩
/-- What holds behind some steps. -/
structure LInv (sl k : Nat) (s : AS) (told : List Nat) : Prop where
  up : Upto k s
  tl : Told s told
  le : told.length ≤ k
  slot : s.slot = sl
theorem LInv.new {sl : Nat} (h2 : 2 ≤ sl) (h3 : sl ≤ 4096) : LInv sl 0 (AS.new sl) [] := ⟨Upto.new h2 h3, Told.new sl, Nat.le_refl _, rfl⟩
theorem LInv.less {sl k : Nat} {s t : AS} {told : List Nat} {y : StepV} {H : Nat} (h : LInv sl k s told) (hk : k < 1000) (hy : y.Ok) (hr : y.does told s = (H, false, t)) : LInv sl (k + 1) t told := by
  have h1 := h.up.does y told
  have h2 := h.tl.does h.up (by omega) y hy
  have h5 := does_slot h.up y told
  rw [hr] at h1 h2 h5
  exact ⟨h1, h2, by have := h.le; omega, h5.trans h.slot⟩
theorem LInv.more {sl k : Nat} {s t : AS} {told : List Nat} {y : StepV} {H : Nat} (h : LInv sl k s told) (hk : k < 1000) (hy : y.Ok) (hr : y.does told s = (H, true, t)) : LInv sl (k + 1) t (told ++ [H]) := by
  have h1 := h.up.does y told
  have h2 := h.tl.does h.up (by omega) y hy
  have h5 := does_slot h.up y told
  rw [hr] at h1 h2 h5
  exact ⟨h1, h2, by rw [List.length_append]; have := h.le; simp; omega, h5.trans h.slot⟩
end Go.Proofs.Ytncajdefjammiaa
