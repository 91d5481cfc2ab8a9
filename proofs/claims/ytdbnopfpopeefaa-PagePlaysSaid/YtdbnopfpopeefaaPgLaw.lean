/-
  The statements' own functions of layer 3: steps that came in, how many they are, the offset that one names, the examples.
-/
import Derived.Test.YtdbnopfpopeefaaPageIs
import Derived.Test.YtdbnopfpopeefaaSlice
namespace Go.Proofs.Ytdbnopfpopeefaa
open Go.RowKit
set_option linter.unusedVariables false
set_option linter.unusedSimpArgs false
set_option maxRecDepth 100000

structure StepV where
  kind : Nat
  slot : Nat
  off : Nat
  s : ByteArray

def StepV.cells (x : StepV) : List Value := [.int .u8 x.kind, .int .u16 x.slot, .int .u16 x.off, .string x.s]
structure StepV.Ok (x : StepV) : Prop where
  kind : x.kind < 256
  slot : x.slot < 65536
  off : x.off < 65536
  s : x.s.size ≤ 140737488351232

/-- Steps that came in: at a, one behind the other. -/
structure StepsAt (w : World) (a : Option Addr) (l : List StepV) : Prop where
  ok : ∀ x ∈ l, x.Ok
  len : l.length ≤ 140737488351232
  at_ : l = [] ∨ ∃ b o, a = some ⟨b, o, none⟩ ∧ b < w.heap.size ∧ ∀ i (x : StepV), l[i]? = some x →
    w.cell? ⟨b, o + i * 4, none⟩ = some (.int .u8 x.kind) ∧ w.cell? ⟨b, o + i * 4 + 1, none⟩ = some (.int .u16 x.slot) ∧ w.cell? ⟨b, o + i * 4 + 2, none⟩ = some (.int .u16 x.off) ∧ w.cell? ⟨b, o + i * 4 + 3, none⟩ = some (.string x.s)

theorem StepsAt.kept {F : Nat → Prop} {w w' : World} {a : Option Addr} {l : List StepV} (h : StepsAt w a l) (f : Fr F w w') (hn : ∀ k, blk a k → ¬ F k) : StepsAt w' a l := by
  refine ⟨h.ok, h.len, ?_⟩
  rcases h.at_ with h | ⟨b, o, ha, hb, hc⟩
  · exact Or.inl h
  · refine Or.inr ⟨b, o, ha, Nat.lt_of_lt_of_le hb f.size, fun i x hx => ?_⟩
    have hnb : ¬ F b := hn b ⟨_, ha, rfl⟩
    have q := hc i x hx
    exact ⟨(f.cell (p := ⟨b, _, none⟩) hb hnb).trans q.1, (f.cell (p := ⟨b, _, none⟩) hb hnb).trans q.2.1, (f.cell (p := ⟨b, _, none⟩) hb hnb).trans q.2.2.1, (f.cell (p := ⟨b, _, none⟩) hb hnb).trans q.2.2.2⟩

/-- How long steps are, as 'long' counts. -/
def longSum : List StepV → Nat
  | [] => 0
  | x :: r => 10 + x.s.size + longSum r
theorem longSum_append (a b : List StepV) : longSum (a ++ b) = longSum a + longSum b := by
  induction a with
  | nil => simp [longSum]
  | cons x r ih => simp only [List.cons_append, longSum, ih]; omega
theorem longSum_length (l : List StepV) : 10 * l.length ≤ longSum l := by
  induction l with
  | nil => simp [longSum]
  | cons x r ih => simp only [List.length_cons, longSum]; omega
theorem longSum_mem {l : List StepV} {x : StepV} (h : x ∈ l) : x.s.size ≤ longSum l := by
  induction l with
  | nil => simp at h
  | cons y r ih =>
    simp only [longSum]
    rcases List.mem_cons.1 h with rfl | h
    · omega
    · have := ih h; omega
/-- The count is of no more steps than make it great. -/
def isLong (l : List StepV) : Bool := decide (20000 ≤ longSum l)

theorem take_succ_get {α : Type} (l : List α) (k : Nat) (x : α) (h : l[k]? = some x) : l.take (k + 1) = l.take k ++ [x] := by
  rw [List.take_add_one, h]; rfl
theorem longSum_take_le (l : List StepV) (k : Nat) : longSum (l.take k) ≤ longSum l := by
  have := longSum_append (l.take k) (l.drop k)
  rw [List.take_append_drop] at this; omega

theorem longSum_none {l : List StepV} {k : Nat} (h : l.length ≤ k) : longSum (l.take k) = longSum l := by rw [List.take_of_length_le h]

set_option maxHeartbeats 1000000 in
theorem long_any (w : World) (a : Option Addr) (cap : Nat) (l : List StepV) (h : StepsAt w a l) :
    Calls Try.prog 9 #[.slice a l.length cap] w fun e w' => e = .returned (.bool (isLong l)) ∧ w = w' := by
  have hlen := h.len
  have Hl := Lib.hid hlen
  clear hlen
  go_enter Try.func9, Try.ntmps9
  go_wp2
  go_loop [3, 4] (fun n i => ∃ k S : Nat, Hid (k ≤ l.length) ∧ i = .int .i64 k ∧ n = .int .i64 S ∧ Hid (S = longSum (l.take k))) (fun _ i => l.length - (intOf i).toNat)
  case atStart => exact ⟨0, 0, Nat.zero_le _, rfl, rfl, by show 0 = _; simp [longSum]⟩
  case round =>
    obtain ⟨k, S, hk, rfl, rfl, hS⟩ := hrel
    by_cases hlt : k < l.length
    · by_cases hs : S < 20000
      · obtain ⟨x, hx⟩ : ∃ x, l[k]? = some x := ⟨l[k], List.getElem?_eq_getElem hlt⟩
        have hx1 := (h.ok x (List.mem_of_getElem? hx)).s
        rcases h.at_ with h0 | ⟨b, o, rfl, hb, hc⟩
        · rw [h0] at hlt; exact absurd hlt (by simp)
        · have hc3 := (hc k x hx).2.2.2
          have hk2 : k ≤ 140737488351232 := by have := Hl.out; omega
          have Hx := Lib.hid hx
          clear hx hc
          have w1 : IntKind.i64.wrap ((S : Int) + 10) = (S : Int) + 10 := IntWalk.i64_in _ (by omega)
          have w2 : IntKind.i64.wrap ((S : Int) + 10 + (x.s.size : Int)) = (S : Int) + 10 + (x.s.size : Int) := IntWalk.i64_in _ (by omega)
          have w3 : IntKind.i64.wrap ((k : Int) + 1) = (k : Int) + 1 := IntWalk.i64_in _ (by omega)
          clear hx1 hk2
          go_wp2
          go_round
          case rel =>
            refine ⟨k + 1, S + 10 + x.s.size, hlt, by go_num, by go_num, ?_⟩
            show S + 10 + x.s.size = longSum (l.take (k + 1))
            rw [take_succ_get l k x Hx.out, longSum_append, ← hS.out]
            simp only [longSum]; omega
          case measure => simp [intOf]; omega
      · have hL : isLong l = true := by
          have h1 := longSum_take_le l k
          rw [← hS.out] at h1
          unfold isLong; exact decide_eq_true (by omega)
        have HL := Lib.hid hL
        clear hL
        go_wp2
        go_ret
        rw [HL.out]
        exact ⟨rfl, rfl⟩
    · have hL : isLong l = decide ((20000 : Int) ≤ (S : Int)) := by
        unfold isLong; rw [hS.out, longSum_none (by omega), decide_eq_decide]; omega
      have HL := Lib.hid hL
      clear hL
      go_wp2
      go_ret
      rw [HL.out]
      exact ⟨rfl, rfl⟩
end Go.Proofs.Ytdbnopfpopeefaa
