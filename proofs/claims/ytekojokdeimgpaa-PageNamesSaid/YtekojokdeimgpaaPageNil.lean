/-
  The methods of a page that is nil.
-/
import Derived.Test.YtekojokdeimgpaaPageIs
namespace Go.Proofs.Ytekojokdeimgpaa
open Go.RowKit
set_option linter.unusedVariables false
set_option linter.unusedSimpArgs false
set_option maxRecDepth 100000

theorem Nil_Alloc (w : World) : Calls Try.prog 14 #[.pointer none] w fun e w' => e = .returned (.tuple #[v16 0, err 2]) ∧ w = w' := by
  unfold v16 err
  go_enter Try.func14, Try.ntmps14
  go_wp2
  go_ret2
  exact ⟨rfl, rfl⟩
theorem Nil_Is (w : World) (o : Nat) : Calls Try.prog 20 #[.pointer none, v16 o] w fun e w' => e = .returned (.bool false) ∧ w = w' := by
  unfold v16
  go_enter Try.func20, Try.ntmps20
  go_wp2
  go_ret
  exact ⟨rfl, rfl⟩
theorem Nil_Used (w : World) : Calls Try.prog 18 #[.pointer none] w fun e w' => e = .returned (.int .i64 0) ∧ w = w' := by
  go_enter Try.func18, Try.ntmps18
  go_wp2
  go_ret
  exact ⟨rfl, rfl⟩
theorem Nil_Room (w : World) : Calls Try.prog 19 #[.pointer none] w fun e w' => e = .returned (.int .i64 0) ∧ w = w' := by
  go_enter Try.func19, Try.ntmps19
  go_wp2
  go_ret
  exact ⟨rfl, rfl⟩
theorem Nil_Copy (w : World) : Calls Try.prog 21 #[.pointer none] w fun e w' => e = .returned (.pointer none) ∧ w = w' := by
  go_enter Try.func21, Try.ntmps21
  go_wp2
  go_ret
  exact ⟨rfl, rfl⟩
theorem Nil_asked (w : World) (o : Nat) : Calls Try.prog 31 #[.pointer none, v16 o] w fun e w' => e = .returned (err 2) ∧ w = w' := by
  unfold v16 err
  go_enter Try.func31, Try.ntmps31
  go_wp2
  go_ret
  exact ⟨rfl, rfl⟩
theorem Nil_Read (w : World) (o : Nat) : Calls Try.prog 12 #[.pointer none, v16 o] w fun e w' => e = .returned (.tuple #[.string (strOf []), err 2]) ∧ w = w' := by
  have ha := Nil_asked w o
  unfold v16 err at ha ⊢
  go_enter Try.func12, Try.ntmps12
  go_wp2_with (go_at_call 31; refine ha.mono ?_; rintro e w1 ⟨rfl, rfl⟩)
  go_ret2
  exact ⟨rfl, rfl⟩
theorem Nil_Free (w : World) (o : Nat) : Calls Try.prog 15 #[.pointer none, v16 o] w fun e w' => e = .returned (err 2) ∧ w = w' := by
  have ha := Nil_asked w o
  unfold v16 err at ha ⊢
  go_enter Try.func15, Try.ntmps15
  go_wp2_with (go_at_call 31; refine ha.mono ?_; rintro e w1 ⟨rfl, rfl⟩)
  go_ret
  exact ⟨rfl, rfl⟩
theorem Nil_Write (w : World) (o : Nat) (b : ByteArray) : Calls Try.prog 16 #[.pointer none, v16 o, .string b] w fun e w' => e = .returned (err 2) ∧ w = w' := by
  have ha := Nil_asked w o
  unfold v16 err at ha ⊢
  go_enter Try.func16, Try.ntmps16
  go_wp2_with (go_at_call 31; refine ha.mono ?_; rintro e w1 ⟨rfl, rfl⟩)
  go_ret
  exact ⟨rfl, rfl⟩

end Go.Proofs.Ytekojokdeimgpaa
