/-
  Walks of package bits: two bytes got and put.
-/
import Derived.Test.YteefcfndlggajaaMem
namespace Go.Proofs.Yteefcfndlggajaa
open Go.RowKit
set_option linter.unusedVariables false
set_option linter.unusedSimpArgs false

set_option maxHeartbeats 400000 in
theorem wide16 (w : World) :
    Calls Try.prog 101 #[] w fun e w' => e = .returned (.int .i64 2) ∧ w = w' := by
  go_enter Try.func101, Try.ntmps101
  go_wp2
  go_rounds 3
  go_ret
  exact ⟨rfl, rfl⟩

set_option maxHeartbeats 400000 in
theorem within16 (w : World) (bk off len cap : Nat) (at_ : Int) (h0 : 0 ≤ at_) (h1 : at_ + 2 ≤ len) (hc : len ≤ cap) (hcap : cap ≤ 9223372036854775807) :
    Calls Try.prog 88 #[.slice (some ⟨bk, off, none⟩) len cap, .int .i64 at_] w fun e w' => e = .returned (.slice (some ⟨bk, off + at_.toNat, none⟩) 2 (cap - at_.toNat)) ∧ w = w' := by
  go_enter Try.func88, Try.ntmps88
  go_wp2_with (go_at_call 101; refine (wide16 _).mono ?_; rintro e w' ⟨rfl, rfl⟩)
  go_ret
  have e : (at_ + 2).toNat - at_.toNat = 2 := by omega
  exact ⟨congrArg (fun n => Ending.returned (.slice (some ⟨bk, off + at_.toNat, none⟩) n (cap - at_.toNat))) e, rfl⟩

theorem or16 (b0 b1 : Int) (r0 : 0 ≤ b0) (r0' : b0 < 256) (r1 : 0 ≤ b1) (r1' : b1 < 256) :
    bits .or .u16 (IntKind.u16.wrap (bits .or .u16 0 b0 * 256)) b1 = b0 * 256 + b1 := by
  obtain ⟨a, rfl⟩ := Int.eq_ofNat_of_zero_le r0
  obtain ⟨b, rfl⟩ := Int.eq_ofNat_of_zero_le r1
  have ha : a < 256 := by omega
  have hb : b < 256 := by omega
  have e0 : bits .or .u16 0 (a : Int) = (a : Int) := by
    have := u16_or_nat 0 a (by omega) (by omega)
    simpa using this
  have hw : IntKind.u16.wrap ((a : Int) * 256) = ((2 ^ 8 * a : Nat) : Int) := by
    rw [IntKind.wrap_u16]; omega
  show bits .or .u16 (IntKind.u16.wrap (bits .or .u16 0 (a : Int) * 256)) (b : Int) = (a : Int) * 256 + (b : Int)
  rw [e0, hw, u16_or_nat _ _ (by omega) (by omega), ← Nat.two_pow_add_eq_or_of_lt (by omega : b < 2 ^ 8) a]
  omega

set_option maxHeartbeats 400000 in
theorem get16 (w : World) (bk off len cap : Nat) (at_ : Int) (b0 b1 : Int) (h0 : 0 ≤ at_) (h1 : at_ + 2 ≤ len) (hc : len ≤ cap) (hcap : cap ≤ 9223372036854775807)
    (c0 : w.cell? ⟨bk, off + at_.toNat, none⟩ = some (.int .u8 b0)) (c1 : w.cell? ⟨bk, off + at_.toNat + 1, none⟩ = some (.int .u8 b1))
    (r0 : 0 ≤ b0) (r0' : b0 < 256) (r1 : 0 ≤ b1) (r1' : b1 < 256) :
    Calls Try.prog 34 #[.slice (some ⟨bk, off, none⟩) len cap, .int .i64 at_] w fun e w' => e = .returned (.tuple #[.int .u16 (b0 * 256 + b1), .bool true]) ∧ w = w' := by
  have ho := Lib.hid (or16 b0 b1 r0 r0' r1 r1')
  go_enter Try.func34, Try.ntmps34
  go_wp2_with (first | (go_at_call 88; refine (within16 _ _ _ _ _ _ h0 h1 hc hcap).mono ?_; rintro e w' ⟨rfl, rfl⟩) | go_in)
  go_rounds 3
  all_goals go_wp2
  go_ret2
  rw [← ho.out]
  exact ⟨rfl, rfl⟩

set_option maxHeartbeats 400000 in
theorem put16 (w : World) (bk off len cap : Nat) (at_ n : Int) (h0 : 0 ≤ at_) (h1 : at_ + 2 ≤ len) (hc : len ≤ cap) (hcap : cap ≤ 9223372036854775807) (u0 u1 : Value)
    (c0 : w.cell? ⟨bk, off + at_.toNat, none⟩ = some u0) (c1 : w.cell? ⟨bk, off + at_.toNat + 1, none⟩ = some u1)
    (f0 : w.frozen? ⟨bk, off + at_.toNat, none⟩ = false) (f1 : w.frozen? ⟨bk, off + at_.toNat + 1, none⟩ = false)
    (hn0 : 0 ≤ n) (hn1 : n < 65536) :
    Calls Try.prog 76 #[.slice (some ⟨bk, off, none⟩) len cap, .int .i64 at_, .int .u16 n] w fun e w' => e = .returned (.bool true) ∧ w' = (w.setCell ⟨bk, off + at_.toNat, none⟩ (.int .u8 (n / 256))).setCell ⟨bk, off + at_.toNat + 1, none⟩ (.int .u8 (n % 256)) := by
  go_enter Try.func76, Try.ntmps76
  go_wp2_with (first | (go_at_call 88; refine (within16 _ _ _ _ _ _ h0 h1 hc hcap).mono ?_; rintro e w' ⟨rfl, rfl⟩) | go_in)
  go_rounds 3
  go_ret
  exact ⟨rfl, rfl⟩
end Go.Proofs.Yteefcfndlggajaa
