/-
  What is asked of nobody's arena.
-/
import Derived.Test.YtncajdefjammiaaArenaCopy
namespace Go.Proofs.Ytncajdefjammiaa
open Go.RowKit
set_option linter.unusedVariables false
set_option linter.unusedSimpArgs false
set_option maxRecDepth 100000

theorem nil_Alloc (w : World) : Calls Try.prog 23 #[.pointer none] w fun e w' => e = .returned (.tuple #[.int .u64 0, .int .i64 2]) ∧ w = w' := by
  go_enter Try.func23, Try.ntmps23
  go_wp2
  go_ret2
  exact ⟨rfl, rfl⟩
theorem nil_find (w : World) (h : Int) : Calls Try.prog 36 #[.pointer none, .int .u64 h] w fun e w' => e = .returned (.tuple #[.pointer none, .int .u16 0, .int .i64 2]) ∧ w = w' := by
  go_enter Try.func36, Try.ntmps36
  go_wp2
  go_ret3
  exact ⟨rfl, rfl⟩
theorem nil_Free (w : World) (h : Int) : Calls Try.prog 16 #[.pointer none, .int .u64 h] w fun e w' => e = .returned (.int .i64 2) ∧ w = w' := by
  have hf := Lib.hid (nil_find w h)
  go_enter Try.func16, Try.ntmps16
  go_wp2_with fail
  refine hf.out.mono ?_
  rintro e w1 ⟨rfl, rfl⟩
  go_wp2
  go_ret
  exact ⟨rfl, rfl⟩
theorem nil_Read (w : World) (h : Int) : Calls Try.prog 15 #[.pointer none, .int .u64 h] w fun e w' => e = .returned (.tuple #[.string ByteArray.empty, .int .i64 2]) ∧ w = w' := by
  have hf := Lib.hid (nil_find w h)
  go_enter Try.func15, Try.ntmps15
  go_wp2_with fail
  refine hf.out.mono ?_
  rintro e w1 ⟨rfl, rfl⟩
  go_wp2
  go_ret2
  exact ⟨rfl, rfl⟩
theorem nil_Write (w : World) (h : Int) (b : ByteArray) : Calls Try.prog 24 #[.pointer none, .int .u64 h, .string b] w fun e w' => e = .returned (.int .i64 2) ∧ w = w' := by
  have hf := Lib.hid (nil_find w h)
  go_enter Try.func24, Try.ntmps24
  go_wp2_with fail
  refine hf.out.mono ?_
  rintro e w1 ⟨rfl, rfl⟩
  go_wp2
  go_ret
  exact ⟨rfl, rfl⟩
theorem nil_Used (w : World) : Calls Try.prog 21 #[.pointer none] w fun e w' => e = .returned (.int .i64 0) ∧ w = w' := by
  go_enter Try.func21, Try.ntmps21
  go_wp2
  go_ret
  exact ⟨rfl, rfl⟩
theorem nil_Copy (w : World) : Calls Try.prog 22 #[.pointer none] w fun e w' => e = .returned (.pointer none) ∧ w = w' := by
  go_enter Try.func22, Try.ntmps22
  go_wp2
  go_ret
  exact ⟨rfl, rfl⟩
theorem nil_Pages (w : World) : Calls Try.prog 19 #[.pointer none] w fun e w' => e = .returned (.int .i64 0) ∧ w = w' := by
  go_enter Try.func19, Try.ntmps19
  go_wp2
  go_ret
  exact ⟨rfl, rfl⟩
theorem nil_Slot (w : World) : Calls Try.prog 25 #[.pointer none] w fun e w' => e = .returned (.int .i64 0) ∧ w = w' := by
  go_enter Try.func25, Try.ntmps25
  go_wp2
  go_ret
  exact ⟨rfl, rfl⟩
theorem nil_Is (w : World) (h : Int) : Calls Try.prog 14 #[.pointer none, .int .u64 h] w fun e w' => e = .returned (.bool false) ∧ w = w' := by
  have hf := Lib.hid (nil_find w h)
  go_enter Try.func14, Try.ntmps14
  go_wp2_with fail
  refine hf.out.mono ?_
  rintro e w1 ⟨rfl, rfl⟩
  go_wp2
  go_ret
  exact ⟨rfl, rfl⟩
end Go.Proofs.Ytncajdefjammiaa
