/-
  The examples of layer 4 ('works'): they are as they are told.
-/
import Derived.Test.YtncajdefjammiaaArMine
namespace Go.Proofs.Ytncajdefjammiaa
open Go.RowKit
set_option linter.unusedVariables false
set_option linter.unusedSimpArgs false
set_option maxRecDepth 100000

theorem ex_u0 : Upto 0 ex0 := Upto.new (by omega) (by omega)
theorem ex_u1 : Upto 1 ex1 := ex_u0.alloc
theorem ex_u2 : Upto 2 ex2 := ex_u1.alloc
theorem ex_u3 : Upto 3 ex3 := ex_u2.alloc
theorem ex_u4 : Upto 3 ex4 := ex_u3.free 1
theorem ex_u5 : Upto 4 ex5 := ex_u4.alloc
theorem ex_u6 : Upto 4 ex6 := ex_u5.write 2 exAb
theorem ex_find : aFind ex6 2 = some (newBytes ex6.slot exAb) := by decide +kernel
def from_ (B : Nat) : Nat → Prop := fun k => B ≤ k

set_option maxHeartbeats 4000000 in
theorem works_any (w : World) : Calls Try.prog 10 #[] w fun e w' => e = .returned (.bool true) ∧ Fr none_ w w' := by
  have hnew := ar_new w 2000 (by omega) (by omega)
  have hb : (4 : Nat) < big := by unfold big; omega
  have l0 : ∀ {F w' x}, Ar F w' x ex0 → Calls Try.prog 23 #[.pointer (some ⟨x, 0, none⟩)] w' fun e w'' => e = .returned (.tuple #[.int .u64 1, .int .i64 0]) ∧ ∃ F', Ar F' w'' x ex1 ∧ Fr F w' w'' ∧ Grow F F' w' :=
    fun h => ar_alloc_lit h ex_u0 (by unfold big; omega) 1 (by rw [ex_a1.1]; rfl) (by rw [ex_a1.2]; rfl)
  have l1 : ∀ {F w' x}, Ar F w' x ex1 → Calls Try.prog 23 #[.pointer (some ⟨x, 0, none⟩)] w' fun e w'' => e = .returned (.tuple #[.int .u64 8589934592001, .int .i64 0]) ∧ ∃ F', Ar F' w'' x ex2 ∧ Fr F w' w'' ∧ Grow F F' w' :=
    fun h => ar_alloc_lit h ex_u1 (by unfold big; omega) 8589934592001 (by rw [ex_a2.1]; rfl) (by rw [ex_a2.2]; rfl)
  have l2 : ∀ {F w' x}, Ar F w' x ex2 → Calls Try.prog 23 #[.pointer (some ⟨x, 0, none⟩)] w' fun e w'' => e = .returned (.tuple #[.int .u64 281474976710657, .int .i64 0]) ∧ ∃ F', Ar F' w'' x ex3 ∧ Fr F w' w'' ∧ Grow F F' w' :=
    fun h => ar_alloc_lit h ex_u2 (by unfold big; omega) 281474976710657 (by rw [ex_a3.1]; rfl) (by rw [ex_a3.2]; rfl)
  have l3 : ∀ {F w' x}, Ar F w' x ex3 → Calls Try.prog 16 #[.pointer (some ⟨x, 0, none⟩), .int .u64 1] w' fun e w'' => e = .returned (.int .i64 0) ∧ Ar F w'' x ex4 ∧ Fr F w' w'' :=
    fun h => ar_free_lit h ex_u3 (by unfold big; omega) (hd := 1) (by omega) rfl (by rw [ex_f]; rfl)
  have l4 : ∀ {F w' x}, Ar F w' x ex4 → Calls Try.prog 23 #[.pointer (some ⟨x, 0, none⟩)] w' fun e w'' => e = .returned (.tuple #[.int .u64 2, .int .i64 0]) ∧ ∃ F', Ar F' w'' x ex5 ∧ Fr F w' w'' ∧ Grow F F' w' :=
    fun h => ar_alloc_lit h ex_u4 (by unfold big; omega) 2 (by rw [ex_a4.1]; rfl) (by rw [ex_a4.2]; rfl)
  have l5 : ∀ {F w' x}, Ar F w' x ex5 → Calls Try.prog 15 #[.pointer (some ⟨x, 0, none⟩), .int .u64 1] w' fun e w'' => e = .returned (.tuple #[.string (strOf []), .int .i64 5]) ∧ Fr none_ w' w'' :=
    fun h => ar_read_lit h ex_u5 (hd := 1) (by omega) rfl (by rw [ex_r.1]; rfl) _ (by rw [ex_r.2])
  have l6 : ∀ {F w' x}, Ar F w' x ex5 → Calls Try.prog 24 #[.pointer (some ⟨x, 0, none⟩), .int .u64 2, .string ⟨#[97, 98]⟩] w' fun e w'' => e = .returned (.int .i64 0) ∧ Ar F w'' x ex6 ∧ Fr F w' w'' :=
    fun h => ar_write_lit h ex_u5 (hd := 2) (by omega) exAb rfl (by rw [ex_w]; rfl)
  have l7 : ∀ {F w' x}, Ar F w' x ex6 → Calls Try.prog 18 #[.pointer (some ⟨x, 0, none⟩), .int .u64 2, .string ⟨#[97, 98]⟩] w' fun e w'' => e = .returned (.bool true) ∧ Fr none_ w' w'' :=
    fun h => ar_reads h ex_u6 (hd := 2) (by omega) exAb (by rw [ex_n.2.2]; decide) ex_find
  have l8 : ∀ {F w' x}, Ar F w' x ex6 → Calls Try.prog 21 #[.pointer (some ⟨x, 0, none⟩)] w' fun e w'' => e = .returned (.int .i64 3) ∧ w' = w'' :=
    fun h => by have := ar_used h; rw [ex_n.1] at this; exact this
  have l9 : ∀ {F w' x}, Ar F w' x ex6 → Calls Try.prog 19 #[.pointer (some ⟨x, 0, none⟩)] w' fun e w'' => e = .returned (.int .i64 2) ∧ w' = w'' :=
    fun h => by have := ar_pages h; rw [ex_n.2.1] at this; exact this
  have g1 := fun w' => Handle_lit w' 0 0 1 (by omega) (by omega) (by omega) (a := 0) (b := 0) (c := 1) (d := 1) rfl rfl rfl rfl
  have g2 := fun w' => Handle_lit w' 0 2000 1 (by omega) (by omega) (by omega) (a := 0) (b := 2000) (c := 1) (d := 8589934592001) rfl rfl rfl rfl
  have g3 := fun w' => Handle_lit w' 1 0 1 (by omega) (by omega) (by omega) (a := 1) (b := 0) (c := 1) (d := 281474976710657) rfl rfl rfl rfl
  have g4 := fun w' => Handle_lit w' 0 0 2 (by omega) (by omega) (by omega) (a := 0) (b := 0) (c := 2) (d := 2) rfl rfl rfl rfl
  have HL := Lib.hid (And.intro @l0 (And.intro @l1 (And.intro @l2 (And.intro @l3 (And.intro @l4 (And.intro @l5 (And.intro @l6 (And.intro @l7 (And.intro @l8 @l9)))))))))
  have G1 := Lib.hid g1
  have G2 := Lib.hid g2
  have G3 := Lib.hid g3
  have G4 := Lib.hid g4
  have HNew := Lib.hid hnew
  clear l0 l1 l2 l3 l4 l5 l6 l7 l8 l9 g1 g2 g3 g4 hnew hb
  obtain ⟨B, hB⟩ : ∃ B, B = w.heap.size := ⟨_, rfl⟩
  have HB := Lib.hid hB
  go_enter Try.func10, Try.ntmps10
  go_wp2_with fail
  refine HNew.out.mono ?_
  rintro e w0 ⟨F0, x, rfl, h0, f0, b0⟩
  go_wp2_with fail
  refine (HL.out.1 h0).mono ?_
  rintro e w1 ⟨rfl, F1, h1, f1, b1⟩
  go_wp2_with fail
  refine (HL.out.2.1 h1).mono ?_
  rintro e w2 ⟨rfl, F2, h2, f2, b2⟩
  go_wp2_with fail
  refine (HL.out.2.2.1 h2).mono ?_
  rintro e w3 ⟨rfl, F3, h3, f3, b3⟩
  go_wp2_with fail
  refine (G1.out _).mono ?_
  rintro e w9 ⟨rfl, rfl⟩
  go_wp2_with fail
  refine (G2.out _).mono ?_
  rintro e w9 ⟨rfl, rfl⟩
  go_wp2_with fail
  refine (G3.out _).mono ?_
  rintro e w9 ⟨rfl, rfl⟩
  go_wp2_with fail
  refine (HL.out.2.2.2.1 h3).mono ?_
  rintro e w4 ⟨rfl, h4, f4⟩
  go_wp2_with fail
  refine (HL.out.2.2.2.2.1 h4).mono ?_
  rintro e w5 ⟨rfl, F5, h5, f5, b5⟩
  go_wp2_with fail
  refine (HL.out.2.2.2.2.2.1 h5).mono ?_
  rintro e w6 ⟨rfl, f6⟩
  have h6 := h5.kept0 f6
  go_wp2_with fail
  refine (G4.out _).mono ?_
  rintro e w9 ⟨rfl, rfl⟩
  go_wp2_with fail
  refine (HL.out.2.2.2.2.2.2.1 h6).mono ?_
  rintro e w7 ⟨rfl, h7, f7⟩
  go_wp2_with fail
  refine (HL.out.2.2.2.2.2.2.2.1 h7).mono ?_
  rintro e w8 ⟨rfl, f8⟩
  have h8 := h7.kept0 f8
  go_wp2_with fail
  refine (HL.out.2.2.2.2.2.2.2.2.1 h8).mono ?_
  rintro e w9 ⟨rfl, rfl⟩
  go_wp2_with fail
  refine (HL.out.2.2.2.2.2.2.2.2.2 h8).mono ?_
  rintro e w9 ⟨rfl, rfl⟩
  go_wp2_with fail
  go_ret
  refine ⟨rfl, ?_⟩
  have s0 := f0.size
  have s1 := f1.size
  have s2 := f2.size
  have s3 := f3.size
  have s4 := f4.size
  have c1 : ∀ k, F1 k → w.heap.size ≤ k := fun k hk => (b1 k hk).elim (b0 k) (fun _ => by omega)
  have c2 : ∀ k, F2 k → w.heap.size ≤ k := fun k hk => (b2 k hk).elim (c1 k) (fun _ => by omega)
  have c3 : ∀ k, F3 k → w.heap.size ≤ k := fun k hk => (b3 k hk).elim (c2 k) (fun _ => by omega)
  have c5 : ∀ k, F5 k → w.heap.size ≤ k := fun k hk => (b5 k hk).elim (c3 k) (fun _ => by omega)
  have q1 : Fr none_ w w1 := f0.step f1 (fun i hi e => by have := b0 i e; omega)
  have q2 : Fr none_ w w2 := q1.step f2 (fun i hi e => by have := c1 i e; omega)
  have q3 : Fr none_ w w3 := q2.step f3 (fun i hi e => by have := c2 i e; omega)
  have q4 : Fr none_ w w4 := q3.step f4 (fun i hi e => by have := c3 i e; omega)
  have q5 : Fr none_ w w5 := q4.step f5 (fun i hi e => by have := c3 i e; omega)
  have q7 : Fr none_ w w7 := (q5.trans f6).step f7 (fun i hi e => by have := c5 i e; omega)
  exact q7.trans f8
end Go.Proofs.Ytncajdefjammiaa
