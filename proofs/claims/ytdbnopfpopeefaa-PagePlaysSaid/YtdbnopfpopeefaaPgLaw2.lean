/-
  The statements' own functions of layer 3, continued: the offset that a step names; alloc; the examples.
-/
import Derived.Test.YtdbnopfpopeefaaPgLaw
namespace Go.Proofs.Ytdbnopfpopeefaa
open Go.RowKit
set_option linter.unusedVariables false
set_option linter.unusedSimpArgs false
set_option maxRecDepth 100000

/-- The offset that a step names. -/
def StepV.offset (x : StepV) (slot : Nat) : Nat := (x.slot * slot % 65536 + x.off) % 65536
theorem StepV.offset_lt (x : StepV) (slot : Nat) : x.offset slot < 65536 := Nat.mod_lt _ (by omega)

set_option maxHeartbeats 1000000 in
theorem off_any (w : World) (x : StepV) (hx : x.Ok) (slot : Nat) (hs : slot ≤ 4096) (kv sv : Value) :
    Calls Try.prog 13 #[.agg #[kv, .int .u16 x.slot, .int .u16 x.off, sv], .int .i64 slot] w fun e w' => e = .returned (v16 (x.offset slot)) ∧ Fr none_ w w' := by
  have h1 := hx.slot
  have h2 := hx.off
  have hp : x.slot * slot ≤ 65535 * 4096 := Nat.mul_le_mul (by omega) hs
  have hpi : ((x.slot : Int) * (slot : Int)) = ((x.slot * slot : Nat) : Int) := by simp
  have w1 : wrap64 ((x.slot : Int) * (slot : Int)) = ((x.slot * slot : Nat) : Int) := by rw [hpi]; exact IntWalk.wrap64_in _ (by omega)
  have w3 : IntKind.u16.wrap (IntKind.u16.wrap (wrap64 ((x.slot : Int) * (slot : Int))) + (x.off : Int)) = ((x.offset slot : Nat) : Int) := by
    rw [w1, IntKind.wrap_u16, IntKind.wrap_u16]; unfold StepV.offset; omega
  have W3 := Lib.hid w3
  clear w1 w3 hp hpi
  go_enter Try.func13, Try.ntmps13
  go_wp2
  go_ret
  exact ⟨congrArg (fun n => Ending.returned (.int .u16 n)) W3.out, Fr.alloc _ _ _⟩

theorem alloc_yes {w : World} {p m : Nat} {s s' : PS} {k : Nat} (h : PageIs w p m s) (ha : s.alloc = some (k, s')) :
    Calls Try.prog 23 #[ptr p] w fun e w' => e = .returned (v16 (k * s.slot)) ∧ PageIs w' p m s' ∧ Fr (two p m) w w' := by
  have hc := Page_Alloc_yes h ha
  unfold ptr v16 err at hc
  unfold ptr v16
  go_enter Try.func23, Try.ntmps23
  go_wp2_with (go_at_call 14; refine hc.mono ?_; rintro e w' ⟨rfl, h1, h2⟩)
  go_ret
  exact ⟨rfl, h1, h2⟩

theorem alloc_no {w : World} {p m : Nat} {s : PS} (h : PageIs w p m s) (ha : s.alloc = none) :
    Calls Try.prog 23 #[ptr p] w fun e w' => e = .returned (v16 9) ∧ w' = w.drew := by
  have hc := Page_Alloc_no h ha
  unfold ptr v16 err at hc
  unfold ptr v16
  go_enter Try.func23, Try.ntmps23
  go_wp2_with (go_at_call 14; refine hc.mono ?_; rintro e w' ⟨rfl, rfl⟩)
  go_ret
  exact ⟨rfl, rfl⟩
end Go.Proofs.Ytdbnopfpopeefaa
