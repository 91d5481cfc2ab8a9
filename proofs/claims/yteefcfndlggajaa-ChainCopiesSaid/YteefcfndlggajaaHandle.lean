/-
  bits.Handle, bits.Parts.
-/
import Derived.Test.YteefcfndlggajaaArenaAbs
import Derived.Lib.EndianBits
namespace Go.Proofs.Yteefcfndlggajaa
open Go.RowKit
set_option linter.unusedVariables false
set_option linter.unusedSimpArgs false
set_option maxRecDepth 100000

theorem Parts_any (w : World) (h : Nat) (hh : h < 18446744073709551616) :
    Calls Try.prog 66 #[.int .u64 (h : Int)] w fun e w' => e = .returned (.tuple #[.int .u16 (hN h : Int), .int .u16 (hO h : Int), .int .u32 (hG h : Int)]) ∧ w = w' := by
  have e1 : (h : Int) / 281474976710656 = (hN h : Int) := rfl
  have e2 : IntKind.u16.wrap ((h : Int) / 4294967296) = (hO h : Int) := by rw [IntKind.wrap_u16]; unfold hO; omega
  have e3 : (h : Int) % 4294967296 = (hG h : Int) := rfl
  go_enter Try.func66, Try.ntmps66
  go_wp2
  go_ret3
  exact ⟨rfl, rfl⟩
theorem or_mk (n o g : Nat) (h1 : n < 65536) (h2 : o < 65536) (h3 : g < 4294967296) :
    bits BinOp.or IntKind.u64 (bits BinOp.or IntKind.u64 ((n : Int) * 281474976710656) ((o : Int) * 4294967296)) (g : Int) = (mkH n o g : Int) := by
  have a := bits_join .u64 64 (by decide) (fun n h0 h1 => wraps_u64 n h0 h1) 48 ((n : Int) * 281474976710656) ((o : Int) * 4294967296) (by omega) (by omega) (by omega) (by omega) (by omega) (by omega)
  rw [a]
  have b := bits_join .u64 64 (by decide) (fun n h0 h1 => wraps_u64 n h0 h1) 32 ((n : Int) * 281474976710656 + (o : Int) * 4294967296) (g : Int) (by omega) (by omega) (by omega) (by omega) (by omega) (by omega)
  rw [b]
  unfold mkH; omega
theorem Handle_any (w : World) (n o g : Nat) (h1 : n < 65536) (h2 : o < 65536) (h3 : g < 4294967296) :
    Calls Try.prog 73 #[.int .u16 (n : Int), .int .u16 (o : Int), .int .u32 (g : Int)] w fun e w' => e = .returned (.int .u64 (mkH n o g : Int)) ∧ w = w' := by
  have e := or_mk n o g h1 h2 h3
  go_enter Try.func73, Try.ntmps73
  go_wp2
  go_ret
  exact ⟨rfl, rfl⟩
end Go.Proofs.Yteefcfndlggajaa
