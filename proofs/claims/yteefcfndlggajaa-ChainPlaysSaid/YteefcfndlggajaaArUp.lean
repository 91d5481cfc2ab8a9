/-
  An arena by the blocks that it owns ('Ar'), and how great its numbers get ('Upto'): for seats above layer 4 (there XArBound and XArMine hold the same).
-/
import Derived.Test.YteefcfndlggajaaMgArenaAbs
import Derived.Test.YteefcfndlggajaaArenaNew
namespace Go.Proofs.Yteefcfndlggajaa
open Go.RowKit
set_option linter.unusedVariables false
set_option linter.unusedSimpArgs false
set_option maxRecDepth 100000

/-- A state that at most N steps have come to. -/
structure Upto (N : Nat) (s : AS) : Prop where
  wf : s.WF
  used : s.used ≤ N
  gen : ∀ n o, s.genOf n o ≤ N

theorem Upto.new {slot : Nat} (h2 : 2 ≤ slot) (h3 : slot ≤ 4096) : Upto 0 (AS.new slot) :=
  ⟨⟨h2, h3, by simp [AS.new], by intro p hp; simp [AS.new] at hp, by simp [AS.new], by simp [AS.new], by intro i p hi hp; simp [AS.new] at hp, fun n o _ _ => by omega⟩, by simp [AS.new], fun n o => by unfold AS.genOf; simp [AS.new, kvGet_nil]⟩
theorem Upto.more {N M : Nat} {s : AS} (h : Upto N s) (hm : N ≤ M) : Upto M s := ⟨h.wf, by have := h.used; omega, fun n o => by have := h.gen n o; omega⟩
theorem Upto.alloc {N : Nat} {s : AS} (h : Upto N s) : Upto (N + 1) (aAlloc s).2.2 := by
  have hw := (aAlloc_wf h.wf).1
  rcases aAlloc_cases h.wf with ⟨_, _, e⟩ | ⟨f, k, q, q', h1, h2, h3, h4, h5, h6, _, h8, e⟩
  · rw [e] at hw ⊢
    exact ⟨hw, by have := h.used; simp only; omega, fun n o => by have := h.gen n o; show s.genOf n o ≤ N + 1; omega⟩
  · rw [e] at hw ⊢
    refine ⟨hw, by have := h.used; show s.used + 1 ≤ N + 1; omega, fun n o => ?_⟩
    have h9 := h.gen n o
    have h10 := h.gen f (k * s.slot)
    have : (s.giveAt f k q').genOf n o = if pl f (k * s.slot) = pl n o then s.genOf f (k * s.slot) + 1 else s.genOf n o := by
      show (kvGet (kvPut s.gen (pl f (k * s.slot)) (s.genOf f (k * s.slot) + 1)) (pl n o)).getD 0 = _
      rw [kvGet_put]
      split
      · rfl
      · rfl
    rw [this]
    split <;> omega
theorem Upto.free {N : Nat} {s : AS} (h : Upto N s) (x : Nat) : Upto N (aFree s x).2 := by
  obtain ⟨w1, w2, w3, _⟩ := aFree_all h.wf x
  refine ⟨w1, ?_, fun n o => ?_⟩
  · unfold aFree; split
    · have := h.used; simp only; omega
    · exact h.used
  · have := h.gen n o; unfold AS.genOf at this ⊢; rw [w3]; exact this
theorem Upto.write {N : Nat} {s : AS} (h : Upto N s) (x : Nat) (b : ByteArray) : Upto N (aWrite s x b).2 := by
  obtain ⟨w1, w2, w3, _⟩ := aWrite_all h.wf x b
  refine ⟨w1, ?_, fun n o => ?_⟩
  · unfold aWrite; split
    · split
      · exact h.used
      · exact h.used
    · exact h.used
  · have := h.gen n o; unfold AS.genOf at this ⊢; rw [w3]; exact this
/-- At x there is an arena of state s, that owns the blocks F. -/
def Ar (F : Nat → Prop) (w : World) (x : Nat) (s : AS) : Prop := ∃ m pa cap ps, ArenaAt w x m pa cap ps s ∧ F = aOwn x m pa ps
def Grow (F F' : Nat → Prop) (w : World) : Prop := ∀ k, F' k → F k ∨ w.heap.size ≤ k
theorem Grow.refl (F : Nat → Prop) (w : World) : Grow F F w := fun _ h => Or.inl h

section
variable {w w' : World} {F : Nat → Prop} {x : Nat} {s : AS}
theorem Ar.lt (h : Ar F w x s) : ∀ k, F k → k < w.heap.size := by
  obtain ⟨m, pa, cap, ps, h, rfl⟩ := h
  exact h.lt
theorem Ar.own (h : Ar F w x s) : F x := by
  obtain ⟨m, pa, cap, ps, h, rfl⟩ := h
  exact own_x
theorem Ar.kept {G : Nat → Prop} (h : Ar F w x s) (f : Fr G w w') (hn : ∀ k, F k → ¬ G k) : Ar F w' x s := by
  obtain ⟨m, pa, cap, ps, h, rfl⟩ := h
  exact ⟨m, pa, cap, ps, h.kept f hn, rfl⟩
theorem Ar.kept0 (h : Ar F w x s) (f : Fr none_ w w') : Ar F w' x s := h.kept f (fun _ _ e => e)

def big : Nat := 4294967295
theorem ar_alloc {N : Nat} (h : Ar F w x s) (hu : Upto N s) (hN : N < big) :
    Calls Try.prog 45 #[.pointer (some ⟨x, 0, none⟩)] w fun e w' => e = .returned (.tuple #[.int .u64 ((aAlloc s).1 : Int), .int .i64 ((aAlloc s).2.1 : Int)]) ∧ ∃ F', Ar F' w' x (aAlloc s).2.2 ∧ Fr F w w' ∧ Grow F F' w := by
  unfold big at hN
  obtain ⟨m, pa, cap, ps, h, rfl⟩ := h
  refine (Arena_Alloc h hu.wf (by have := hu.used; omega) (fun n o => by have := hu.gen n o; omega)).mono ?_
  rintro e w1 ⟨he, pa', cap', ps', h1, h2, h3⟩
  exact ⟨he, _, ⟨m, pa', cap', ps', h1, rfl⟩, h2, h3⟩
theorem ar_free {N : Nat} (h : Ar F w x s) (hu : Upto N s) (hN : N < big) {hd : Nat} (hh : hd < 18446744073709551616) :
    Calls Try.prog 38 #[.pointer (some ⟨x, 0, none⟩), .int .u64 (hd : Int)] w fun e w' => e = .returned (.int .i64 ((aFree s hd).1 : Int)) ∧ Ar F w' x (aFree s hd).2 ∧ Fr F w w' := by
  unfold big at hN
  obtain ⟨m, pa, cap, ps, h, rfl⟩ := h
  refine (Arena_Free h hu.wf hh (by have := hu.used; omega)).mono ?_
  rintro e w1 ⟨he, h1, h2⟩
  exact ⟨he, ⟨m, pa, cap, ps, h1, rfl⟩, h2⟩
theorem ar_write {N : Nat} (h : Ar F w x s) (hu : Upto N s) {hd : Nat} (hh : hd < 18446744073709551616) (b : ByteArray) :
    Calls Try.prog 46 #[.pointer (some ⟨x, 0, none⟩), .int .u64 (hd : Int), .string b] w fun e w' => e = .returned (.int .i64 ((aWrite s hd b).1 : Int)) ∧ Ar F w' x (aWrite s hd b).2 ∧ Fr F w w' := by
  obtain ⟨m, pa, cap, ps, h, rfl⟩ := h
  refine (Arena_Write h hu.wf hh b).mono ?_
  rintro e w1 ⟨he, h1, h2⟩
  exact ⟨he, ⟨m, pa, cap, ps, h1, rfl⟩, h2⟩
theorem ar_read {N : Nat} (h : Ar F w x s) (hu : Upto N s) {hd : Nat} (hh : hd < 18446744073709551616) :
    Calls Try.prog 32 #[.pointer (some ⟨x, 0, none⟩), .int .u64 (hd : Int)] w fun e w' => e = .returned (.tuple #[.string (strOf (aRead s hd).1), .int .i64 ((aRead s hd).2 : Int)]) ∧ Fr none_ w w' := by
  obtain ⟨m, pa, cap, ps, h, rfl⟩ := h
  exact Arena_Read h hh hu.wf.len
theorem ar_used (h : Ar F w x s) : Calls Try.prog 37 #[.pointer (some ⟨x, 0, none⟩)] w fun e w' => e = .returned (.int .i64 (s.used : Int)) ∧ w = w' := by
  obtain ⟨m, pa, cap, ps, h, rfl⟩ := h
  exact Arena_Used h
theorem ar_new (w : World) (slot : Nat) (h2 : 2 ≤ slot) (h3 : slot ≤ 4096) :
    Calls Try.prog 49 #[.int .i64 (slot : Int)] w fun e w' => ∃ F x, e = .returned (.tuple #[.pointer (some ⟨x, 0, none⟩), .int .i64 0]) ∧ Ar F w' x (AS.new slot) ∧ Fr none_ w w' ∧ ∀ k, F k → w.heap.size ≤ k := by
  refine (Arena_New_yes w slot h2 h3).mono ?_
  rintro e w1 ⟨x, m, he, h1, h2, h3, h4⟩
  refine ⟨_, x, he, ⟨m, none, 0, [], h1, rfl⟩, h2, ?_⟩
  rintro k (rfl | rfl | hk | ⟨i, p, hp, _⟩)
  · exact h3
  · exact h4
  · exact absurd hk (blk_none k)
  · simp at hp
/-! the same, at literal numbers -/
theorem ar_alloc_lit {N : Nat} (h : Ar F w x s) (hu : Upto N s) (hN : N < big) (r : Int) {q : Int} (hr : ((aAlloc s).1 : Int) = r) (hq : ((aAlloc s).2.1 : Int) = q) :
    Calls Try.prog 45 #[.pointer (some ⟨x, 0, none⟩)] w fun e w' => e = .returned (.tuple #[.int .u64 r, .int .i64 q]) ∧ ∃ F', Ar F' w' x (aAlloc s).2.2 ∧ Fr F w w' ∧ Grow F F' w := by
  subst hr; subst hq; exact ar_alloc h hu hN
theorem ar_free_lit {N : Nat} (h : Ar F w x s) (hu : Upto N s) (hN : N < big) {hd : Nat} (hh : hd < 18446744073709551616) {d q : Int} (hd' : (hd : Int) = d) (hq : ((aFree s hd).1 : Int) = q) :
    Calls Try.prog 38 #[.pointer (some ⟨x, 0, none⟩), .int .u64 d] w fun e w' => e = .returned (.int .i64 q) ∧ Ar F w' x (aFree s hd).2 ∧ Fr F w w' := by
  subst hd'; subst hq; exact ar_free h hu hN hh
theorem ar_write_lit {N : Nat} (h : Ar F w x s) (hu : Upto N s) {hd : Nat} (hh : hd < 18446744073709551616) (b : ByteArray) {d q : Int} (hd' : (hd : Int) = d) (hq : ((aWrite s hd b).1 : Int) = q) :
    Calls Try.prog 46 #[.pointer (some ⟨x, 0, none⟩), .int .u64 d, .string b] w fun e w' => e = .returned (.int .i64 q) ∧ Ar F w' x (aWrite s hd b).2 ∧ Fr F w w' := by
  subst hd'; subst hq; exact ar_write h hu hh b
theorem ar_read_lit {N : Nat} (h : Ar F w x s) (hu : Upto N s) {hd : Nat} (hh : hd < 18446744073709551616) {d q : Int} (hd' : (hd : Int) = d) (hq : ((aRead s hd).2 : Int) = q) (b : ByteArray) (hb : strOf (aRead s hd).1 = b) :
    Calls Try.prog 32 #[.pointer (some ⟨x, 0, none⟩), .int .u64 d] w fun e w' => e = .returned (.tuple #[.string b, .int .i64 q]) ∧ Fr none_ w w' := by
  subst hd'; subst hq; subst hb; exact ar_read h hu hh
theorem Handle_lit (w : World) (n o g : Nat) (h1 : n < 65536) (h2 : o < 65536) (h3 : g < 4294967296) {a b c d : Int} (ha : (n : Int) = a) (hb : (o : Int) = b) (hc : (g : Int) = c) (hd : (mkH n o g : Int) = d) :
    Calls Try.prog 73 #[.int .u16 a, .int .u16 b, .int .u32 c] w fun e w' => e = .returned (.int .u64 d) ∧ w = w' := by
  subst ha; subst hb; subst hc; subst hd; exact Handle_any w n o g h1 h2 h3
end
end Go.Proofs.Yteefcfndlggajaa
