/-
  The key of an arena's map.
-/
import Derived.Test.YteefcfndlggajaaArenaIs
namespace Go.Proofs.Yteefcfndlggajaa
open Go.RowKit
set_option linter.unusedVariables false
set_option linter.unusedSimpArgs false
set_option maxRecDepth 100000

theorem place_keyType : Try.prog.keyType 127 = true := by kernel_rfl
theorem place_wf (a : UInt16) : (Lit.int .u16 (a.toNat : Int)).wf = true := by
  have := a.toNat_lt
  unfold Lit.wf
  simp only [Bool.and_eq_true, decide_eq_true_eq]
  exact ⟨by show (0 : Int) ≤ _; omega, by show _ ≤ (65535 : Int); omega⟩
theorem place_lits (d : Nat) (a : Place) : Try.prog.keyLits (d + 2) 127 [.int .u16 (a.1.toNat : Int), .int .u16 (a.2.toNat : Int)] = some [.int .u16 (a.1.toNat : Int), .int .u16 (a.2.toNat : Int)] := by
  have hc : Try.prog.cellsOf 127 = 2 := by kernel_rfl
  have hu : Try.prog.cellsOf 83 = 1 := by kernel_rfl
  have h1 := place_wf a.1
  have h2 := place_wf a.2
  unfold Program.keyLits
  rw [Try.underlying127]
  simp only [hc, List.length_cons, List.length_nil]
  have e : ∀ b : UInt16, (Lit.int .u16 (b.toNat : Int)).wf = true → Try.prog.keyLits (d + 1) 83 [.int .u16 (b.toNat : Int)] = some [.int .u16 (b.toNat : Int)] := by
    intro b hb
    unfold Program.keyLits
    rw [Try.underlying83]
    simp [hb]
  simp [hu, e a.1 h1, e a.2 h2]
theorem place_reads (a : Place) : ∃ l, keyOf Try.prog 127 (place a) = some l := by
  have hc : Try.prog.cellsOf 127 = 2 := by kernel_rfl
  obtain ⟨d, hd⟩ : ∃ d, Try.prog.types.size + 1 = d + 2 := ⟨Try.prog.types.size - 1, by have : 1 ≤ Try.prog.types.size := of_decide_eq_true (by kernel_rfl); omega⟩
  unfold keyOf place
  rw [Try.underlying127]
  simp only
  have hf : Value.formed Try.prog 127 (.agg #[.int .u16 (a.1.toNat : Int), .int .u16 (a.2.toNat : Int)]) = true := by
    unfold Value.formed
    rw [Try.underlying127]
    simp [hc]
  rw [place_keyType, hf, hd]
  have := place_lits d a
  refine ⟨.string (keyBytes [.int .u16 (a.1.toNat : Int), .int .u16 (a.2.toNat : Int)]), ?_⟩
  simp only [Bool.and_self, if_true, Value.cells, this, Option.map_some]
theorem place_same (a : Place) : Instr.sameBits 10000 (place a) (place a) = true := by
  unfold place
  simp [Instr.sameBits]
theorem place_keyed : Go.Maps.Keyed Try.prog 127 :=
  Go.Maps.Keyed.of_law (deep_law_gate (P := Try.prog) (k := 127) (by kernel_rfl) (of_decide_eq_true (by kernel_rfl)) (of_decide_eq_true (by kernel_rfl)) place_keyType (by rw [Try.underlying127]))
theorem place_key : KeyT Try.prog 127 place := KeyT.ofKeyed Try.underlying127 place_keyed place place_reads place_inj place_same
theorem zero_u32 (w : World) : (zeroValue 121).run Try.prog w = .ok (.int .u32 0) w := by kernel_rfl
end Go.Proofs.Yteefcfndlggajaa
