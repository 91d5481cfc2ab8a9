/-
  Which handle a step names.
-/
import Derived.Test.YtncajdefjammiaaArLaw
namespace Go.Proofs.Ytncajdefjammiaa
open Go.RowKit
set_option linter.unusedVariables false
set_option linter.unusedSimpArgs false
set_option maxRecDepth 100000

def vH (h : Nat) : Value := .int .u64 (h : Int)
def StepV.idx (x : StepV) (n : Nat) : Nat := (IntKind.u64.wrap x.n).toNat % n
def StepV.ofH (x : StepV) (told : List Nat) : Nat := if x.raw ≠ 0 ∨ told = [] then x.raw else told.getD (x.idx told.length) 0
theorem ofH_lt {x : StepV} (hx : x.Ok) {told : List Nat} (ht : ∀ h ∈ told, h < 18446744073709551616) : x.ofH told < 18446744073709551616 := by
  unfold StepV.ofH
  split
  · exact hx.raw
  · rw [List.getD_eq_getElem?_getD]
    cases hg : told[x.idx told.length]? with
    | none => simp
    | some h => exact ht h (List.mem_of_getElem? hg)

set_option maxHeartbeats 1000000 in
theorem of_any (w : World) (x : StepV) (hx : x.Ok) (told : List Nat) (ta : Option Addr) (tc : Nat) (hb : told.length ≤ 1000000) (ht : SlAt w ta told.length tc 32 1 (told.map vH)) :
    Calls Try.prog 17 #[.agg #[.int .u8 x.what, .int .i64 x.n, .int .u64 x.raw, .string x.s], .slice ta told.length tc] w fun e w' => e = .returned (.int .u64 (x.ofH told : Int)) ∧ Fr none_ w w' := by
  have hB := Row.new w #[.int .u8 x.what, .int .i64 x.n, .int .u64 x.raw, .string x.s] 35
  by_cases h0 : x.raw = 0
  · by_cases h1 : told = []
    · have e : x.ofH told = x.raw := by unfold StepV.ofH; rw [if_pos (Or.inr h1)]
      have hl : told.length = 0 := by rw [h1]; rfl
      rw [e, h0, hl]
      have hr0 : (x.raw : Int) = 0 := by omega
      clear hB
      go_enter Try.func17, Try.ntmps17
      go_wp2
      go_ret
      exact ⟨rfl, Fr.alloc _ _ _⟩
    · have hlen : 0 < told.length := List.length_pos_iff.2 h1
      obtain ⟨mz, hmz⟩ := Int.eq_ofNat_of_zero_le (show 0 ≤ IntKind.u64.wrap x.n from wrap_u64_nonneg x.n)
      have hix : x.idx told.length = mz % told.length := by unfold StepV.idx; rw [hmz]; rfl
      have hil : mz % told.length < told.length := Nat.mod_lt _ hlen
      have e : x.ofH told = told[mz % told.length]'hil := by
        unfold StepV.ofH
        rw [if_neg (by rintro (q | q); exact q h0; exact h1 q), hix, List.getD_eq_getElem?_getD, List.getElem?_eq_getElem hil]; rfl
      obtain ⟨g, rfl⟩ := ht.isAddr hlen
      have cu := (ht.kept0 (Fr.alloc none_ w (.cells #[.int .u8 x.what, .int .i64 x.n, .int .u64 x.raw, .string x.s] 35))).cell (i := mz % told.length) (v := vH (x.ofH told)) (by rw [List.getElem?_map, List.getElem?_eq_getElem hil, e]; rfl)
      unfold vH at cu
      have hn : IntKind.u64.wrap (told.length : Int) = (told.length : Int) := by rw [IntKind.wrap_u64]; omega
      have hrem : ((mz : Int).tmod (told.length : Int)) = ((mz % told.length : Nat) : Int) := rfl
      have hrem2 : ((mz : Int) % (told.length : Int)) = ((mz % told.length : Nat) : Int) := rfl
      generalize mz % told.length = ix at cu hrem hrem2 hil e hix
      generalize x.ofH told = H at cu e ⊢
      have hz : ¬ (told.length : Int) = 0 := by omega
      have hix3 : IntKind.i64.wrap (ix : Int) = (ix : Int) := IntWalk.i64_in _ (by omega)
      have hil3 : (ix : Int) < (told.length : Int) := by omega
      have hr0 : (x.raw : Int) = 0 := by omega
      rw [hr0] at cu ⊢
      clear hr0 e hix hB h1
      go_enter Try.func17, Try.ntmps17
      go_wp2
      go_ret
      exact ⟨rfl, Fr.alloc _ _ _⟩
  · have e : x.ofH told = x.raw := by unfold StepV.ofH; rw [if_pos (Or.inl h0)]
    have hne : ((x.raw : Int) == 0) = false := beq_eq_false_iff_ne.2 (by omega)
    rw [e]
    clear hB
    go_enter Try.func17, Try.ntmps17
    go_wp2
    go_ret
    exact ⟨rfl, Fr.alloc _ _ _⟩
end Go.Proofs.Ytncajdefjammiaa
