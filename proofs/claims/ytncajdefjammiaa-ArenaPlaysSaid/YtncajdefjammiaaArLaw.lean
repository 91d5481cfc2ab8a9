/-
  The statements' own functions of layer 4: steps that came in, how many they are.
-/
import Derived.Test.YtncajdefjammiaaArenaNew
import Derived.Test.YtncajdefjammiaaArenaPure
namespace Go.Proofs.Ytncajdefjammiaa
open Go.RowKit
set_option linter.unusedVariables false
set_option linter.unusedSimpArgs false
set_option maxRecDepth 100000

structure StepV where
  what : Nat
  n : Int
  raw : Nat
  s : ByteArray

def StepV.cells (x : StepV) : List Value := [.int .u8 x.what, .int .i64 x.n, .int .u64 x.raw, .string x.s]
structure StepV.Ok (x : StepV) : Prop where
  what : x.what < 256
  n : (Lit.int .i64 x.n).wf = true
  raw : x.raw < 18446744073709551616
  s : x.s.size ≤ 140737488351232

/-- Steps that came in: at a, one behind the other. -/
structure StepsAt (w : World) (a : Option Addr) (l : List StepV) : Prop where
  ok : ∀ x ∈ l, x.Ok
  len : l.length ≤ 140737488351232
  at_ : l = [] ∨ ∃ b o, a = some ⟨b, o, none⟩ ∧ b < w.heap.size ∧ ∀ i (x : StepV), l[i]? = some x →
    w.cell? ⟨b, o + i * 4, none⟩ = some (.int .u8 x.what) ∧ w.cell? ⟨b, o + i * 4 + 1, none⟩ = some (.int .i64 x.n) ∧ w.cell? ⟨b, o + i * 4 + 2, none⟩ = some (.int .u64 x.raw) ∧ w.cell? ⟨b, o + i * 4 + 3, none⟩ = some (.string x.s)

theorem StepsAt.kept {F : Nat → Prop} {w w' : World} {a : Option Addr} {l : List StepV} (h : StepsAt w a l) (f : Fr F w w') (hn : ∀ k, blk a k → ¬ F k) : StepsAt w' a l := by
  refine ⟨h.ok, h.len, ?_⟩
  rcases h.at_ with h | ⟨b, o, ha, hb, hc⟩
  · exact Or.inl h
  · refine Or.inr ⟨b, o, ha, Nat.lt_of_lt_of_le hb f.size, fun i x hx => ?_⟩
    have hnb : ¬ F b := hn b ⟨_, ha, rfl⟩
    have q := hc i x hx
    exact ⟨(f.cell (p := ⟨b, _, none⟩) hb hnb).trans q.1, (f.cell (p := ⟨b, _, none⟩) hb hnb).trans q.2.1, (f.cell (p := ⟨b, _, none⟩) hb hnb).trans q.2.2.1, (f.cell (p := ⟨b, _, none⟩) hb hnb).trans q.2.2.2⟩

/-- How long steps are, as 'long' counts. -/
def largeSum : List StepV → Nat
  | [] => 0
  | x :: r => 100 + min 9000 x.s.size + largeSum r
theorem largeSum_append (a b : List StepV) : largeSum (a ++ b) = largeSum a + largeSum b := by
  induction a with
  | nil => simp [largeSum]
  | cons x r ih => simp only [List.cons_append, largeSum, ih]; omega
theorem largeSum_length (l : List StepV) : 100 * l.length ≤ largeSum l := by
  induction l with
  | nil => simp [largeSum]
  | cons x r ih => simp only [List.length_cons, largeSum]; omega
/-- The count is of no more steps than make it great. -/
def isLarge (l : List StepV) : Bool := decide (20000 ≤ largeSum l)

theorem largeSum_take_le (l : List StepV) (k : Nat) : largeSum (l.take k) ≤ largeSum l := by
  have := largeSum_append (l.take k) (l.drop k)
  rw [List.take_append_drop] at this; omega

theorem largeSum_none {l : List StepV} {k : Nat} (h : l.length ≤ k) : largeSum (l.take k) = largeSum l := by rw [List.take_of_length_le h]

set_option maxHeartbeats 1000000 in
theorem large_any (w : World) (a : Option Addr) (cap : Nat) (l : List StepV) (h : StepsAt w a l) :
    Calls Try.prog 11 #[.slice a l.length cap] w fun e w' => e = .returned (.bool (isLarge l)) ∧ w = w' := by
  have hlen := h.len
  have Hl := Lib.hid hlen
  clear hlen
  go_enter Try.func11, Try.ntmps11
  go_wp2
  go_loop [3, 4] (fun n i => ∃ k S : Nat, Hid (k ≤ l.length) ∧ i = .int .i64 k ∧ n = .int .i64 S ∧ Hid (S = largeSum (l.take k))) (fun _ i => l.length - (intOf i).toNat)
  case atStart => exact ⟨0, 0, Nat.zero_le _, rfl, rfl, by show 0 = _; simp [largeSum]⟩
  case round =>
    obtain ⟨k, S, hk, rfl, rfl, hS⟩ := hrel
    by_cases hlt : k < l.length
    · by_cases hs : S < 20000
      · obtain ⟨x, hx⟩ : ∃ x, l[k]? = some x := ⟨l[k], List.getElem?_eq_getElem hlt⟩
        have hx1 := (h.ok x (List.mem_of_getElem? hx)).s
        rcases h.at_ with h0 | ⟨b, o, rfl, hb, hc⟩
        · rw [h0] at hlt; exact absurd hlt (by simp)
        · have hc3 := (hc k x hx).2.2.2
          have hk2 : k ≤ 140737488351232 := by have := Hl.out; omega
          have Hx := Lib.hid hx
          clear hx hc
          obtain ⟨M, hM⟩ : ∃ M, M = min 9000 x.s.size := ⟨_, rfl⟩
          have HM := Lib.hid hM
          have hMb : M ≤ 9000 := by omega
          clear hM
          have w1 : IntKind.i64.wrap ((S : Int) + 100) = (S : Int) + 100 := IntWalk.i64_in _ (by omega)
          have w2 : IntKind.i64.wrap ((S : Int) + 100 + (M : Int)) = (S : Int) + 100 + (M : Int) := IntWalk.i64_in _ (by omega)
          have w3 : IntKind.i64.wrap ((k : Int) + 1) = (k : Int) + 1 := IntWalk.i64_in _ (by omega)
          clear hx1 hk2
          go_wp2_with ((with_reducible refine at_slot 23 ?_); refine wpMin rfl _ _ _ rfl .i64 .i64 9000 x.s.size M HM.out (by kernel_rfl) (by kernel_rfl) ?_)
          go_round
          case rel =>
            refine ⟨k + 1, S + 100 + M, hlt, by go_num, by go_num, ?_⟩
            show S + 100 + M = largeSum (l.take (k + 1))
            rw [take_succ_get l k x Hx.out, largeSum_append, ← hS.out]
            have := HM.out
            simp only [largeSum]; omega
          case measure => simp [intOf]; omega
      · have hL : isLarge l = true := by
          have h1 := largeSum_take_le l k
          rw [← hS.out] at h1
          unfold isLarge; exact decide_eq_true (by omega)
        have HL := Lib.hid hL
        clear hL
        go_wp2
        go_ret
        rw [HL.out]
        exact ⟨rfl, rfl⟩
    · have hL : isLarge l = decide ((20000 : Int) ≤ (S : Int)) := by
        unfold isLarge; rw [hS.out, largeSum_none (by omega), decide_eq_decide]; omega
      have HL := Lib.hid hL
      clear hL
      go_wp2
      go_ret
      rw [HL.out]
      exact ⟨rfl, rfl⟩
end Go.Proofs.Ytncajdefjammiaa
