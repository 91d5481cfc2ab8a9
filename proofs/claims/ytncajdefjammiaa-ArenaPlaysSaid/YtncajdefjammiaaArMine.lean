/-
  An arena by the blocks that it owns ('Ar'): what each method does, in one shape.
-/
import Derived.Test.YtncajdefjammiaaArTold
import Derived.Test.YtncajdefjammiaaArReads
namespace Go.Proofs.Ytncajdefjammiaa
open Go.RowKit
set_option linter.unusedVariables false
set_option linter.unusedSimpArgs false
set_option maxRecDepth 100000

/-- At x there is an arena of state s, that owns the blocks F. -/
def Ar (F : Nat → Prop) (w : World) (x : Nat) (s : AS) : Prop := ∃ m pa cap ps, ArenaAt w x m pa cap ps s ∧ F = aOwn x m pa ps
def Grow (F F' : Nat → Prop) (w : World) : Prop := ∀ k, F' k → F k ∨ w.heap.size ≤ k
theorem Grow.refl (F : Nat → Prop) (w : World) : Grow F F w := fun _ h => Or.inl h

section
variable {w w' : World} {F : Nat → Prop} {x : Nat} {s : AS}
theorem Ar.lt (h : Ar F w x s) : ∀ k, F k → k < w.heap.size := by
  obtain ⟨m, pa, cap, ps, h, rfl⟩ := h
  exact h.lt
theorem Ar.own (h : Ar F w x s) : F x := by
  obtain ⟨m, pa, cap, ps, h, rfl⟩ := h
  exact own_x
theorem Ar.kept {G : Nat → Prop} (h : Ar F w x s) (f : Fr G w w') (hn : ∀ k, F k → ¬ G k) : Ar F w' x s := by
  obtain ⟨m, pa, cap, ps, h, rfl⟩ := h
  exact ⟨m, pa, cap, ps, h.kept f hn, rfl⟩
theorem Ar.kept0 (h : Ar F w x s) (f : Fr none_ w w') : Ar F w' x s := h.kept f (fun _ _ e => e)

def big : Nat := 4294967295
theorem ar_alloc {N : Nat} (h : Ar F w x s) (hu : Upto N s) (hN : N < big) :
    Calls Try.prog 23 #[.pointer (some ⟨x, 0, none⟩)] w fun e w' => e = .returned (.tuple #[.int .u64 ((aAlloc s).1 : Int), .int .i64 ((aAlloc s).2.1 : Int)]) ∧ ∃ F', Ar F' w' x (aAlloc s).2.2 ∧ Fr F w w' ∧ Grow F F' w := by
  unfold big at hN
  obtain ⟨m, pa, cap, ps, h, rfl⟩ := h
  refine (Arena_Alloc h hu.wf (by have := hu.used; omega) (fun n o => by have := hu.gen n o; omega)).mono ?_
  rintro e w1 ⟨he, pa', cap', ps', h1, h2, h3⟩
  exact ⟨he, _, ⟨m, pa', cap', ps', h1, rfl⟩, h2, h3⟩
theorem ar_free {N : Nat} (h : Ar F w x s) (hu : Upto N s) (hN : N < big) {hd : Nat} (hh : hd < 18446744073709551616) :
    Calls Try.prog 16 #[.pointer (some ⟨x, 0, none⟩), .int .u64 (hd : Int)] w fun e w' => e = .returned (.int .i64 ((aFree s hd).1 : Int)) ∧ Ar F w' x (aFree s hd).2 ∧ Fr F w w' := by
  unfold big at hN
  obtain ⟨m, pa, cap, ps, h, rfl⟩ := h
  refine (Arena_Free h hu.wf hh (by have := hu.used; omega)).mono ?_
  rintro e w1 ⟨he, h1, h2⟩
  exact ⟨he, ⟨m, pa, cap, ps, h1, rfl⟩, h2⟩
theorem ar_write {N : Nat} (h : Ar F w x s) (hu : Upto N s) {hd : Nat} (hh : hd < 18446744073709551616) (b : ByteArray) :
    Calls Try.prog 24 #[.pointer (some ⟨x, 0, none⟩), .int .u64 (hd : Int), .string b] w fun e w' => e = .returned (.int .i64 ((aWrite s hd b).1 : Int)) ∧ Ar F w' x (aWrite s hd b).2 ∧ Fr F w w' := by
  obtain ⟨m, pa, cap, ps, h, rfl⟩ := h
  refine (Arena_Write h hu.wf hh b).mono ?_
  rintro e w1 ⟨he, h1, h2⟩
  exact ⟨he, ⟨m, pa, cap, ps, h1, rfl⟩, h2⟩
theorem ar_read {N : Nat} (h : Ar F w x s) (hu : Upto N s) {hd : Nat} (hh : hd < 18446744073709551616) :
    Calls Try.prog 15 #[.pointer (some ⟨x, 0, none⟩), .int .u64 (hd : Int)] w fun e w' => e = .returned (.tuple #[.string (strOf (aRead s hd).1), .int .i64 ((aRead s hd).2 : Int)]) ∧ Fr none_ w w' := by
  obtain ⟨m, pa, cap, ps, h, rfl⟩ := h
  exact Arena_Read h hh hu.wf.len
theorem ar_used (h : Ar F w x s) : Calls Try.prog 21 #[.pointer (some ⟨x, 0, none⟩)] w fun e w' => e = .returned (.int .i64 (s.used : Int)) ∧ w = w' := by
  obtain ⟨m, pa, cap, ps, h, rfl⟩ := h
  exact Arena_Used h
theorem ar_new (w : World) (slot : Nat) (h2 : 2 ≤ slot) (h3 : slot ≤ 4096) :
    Calls Try.prog 12 #[.int .i64 (slot : Int)] w fun e w' => ∃ F x, e = .returned (.tuple #[.pointer (some ⟨x, 0, none⟩), .int .i64 0]) ∧ Ar F w' x (AS.new slot) ∧ Fr none_ w w' ∧ ∀ k, F k → w.heap.size ≤ k := by
  refine (Arena_New_yes w slot h2 h3).mono ?_
  rintro e w1 ⟨x, m, he, h1, h2, h3, h4⟩
  refine ⟨_, x, he, ⟨m, none, 0, [], h1, rfl⟩, h2, ?_⟩
  rintro k (rfl | rfl | hk | ⟨i, p, hp, _⟩)
  · exact h3
  · exact h4
  · exact absurd hk (blk_none k)
  · simp at hp
theorem ar_is {N : Nat} (h : Ar F w x s) (hu : Upto N s) {hd : Nat} (hh : hd < 18446744073709551616) :
    Calls Try.prog 14 #[.pointer (some ⟨x, 0, none⟩), .int .u64 (hd : Int)] w fun e w' => e = .returned (.bool (named s hd)) ∧ Fr none_ w w' := by
  obtain ⟨m, pa, cap, ps, h, rfl⟩ := h
  exact Arena_Is h hh hu.wf.len
theorem ar_pages (h : Ar F w x s) : Calls Try.prog 19 #[.pointer (some ⟨x, 0, none⟩)] w fun e w' => e = .returned (.int .i64 (s.pages.length : Int)) ∧ w = w' := by
  obtain ⟨m, pa, cap, ps, h, rfl⟩ := h
  exact Arena_Pages h
theorem ar_slot (h : Ar F w x s) : Calls Try.prog 25 #[.pointer (some ⟨x, 0, none⟩)] w fun e w' => e = .returned (.int .i64 (s.slot : Int)) ∧ w = w' := by
  obtain ⟨m, pa, cap, ps, h, rfl⟩ := h
  exact Arena_Slot h
theorem ar_reads {N : Nat} (h : Ar F w x s) (hu : Upto N s) {hd : Nat} (hh : hd < 18446744073709551616) (b : ByteArray) (hb : b.size ≤ s.slot) (hf : aFind s hd = some (newBytes s.slot b)) :
    Calls Try.prog 18 #[.pointer (some ⟨x, 0, none⟩), .int .u64 (hd : Int), .string b] w fun e w' => e = .returned (.bool true) ∧ Fr none_ w w' := by
  obtain ⟨m, pa, cap, ps, h, rfl⟩ := h
  exact reads_yes h hu.wf hh b hb hf
def ArDo (y : StepV) (told : List Nat) (s : AS) (w : World) (x : Nat) (F : Nat → Prop) (e : Ending) (w' : World) : Prop :=
  e = .returned (.tuple #[.int .u64 ((y.does told s).1 : Int), .bool (y.does told s).2.1]) ∧ ∃ F', Ar F' w' x (y.does told s).2.2 ∧ Fr F w w' ∧ Grow F F' w
theorem ar_do {N : Nat} (h : Ar F w x s) (hu : Upto N s) (hN : N < big) (y : StepV) (hy : y.Ok) (told : List Nat) (hto : ∀ h ∈ told, h < 18446744073709551616) (ta : Option Addr) (tc : Nat) (hb : told.length ≤ 1000000) (ht : SlAt w ta told.length tc 32 1 (told.map vH)) :
    Calls Try.prog 13 #[.agg #[.int .u8 y.what, .int .i64 y.n, .int .u64 y.raw, .string y.s], .pointer (some ⟨x, 0, none⟩), .slice ta told.length tc] w (ArDo y told s w x F) := by
  unfold big at hN
  obtain ⟨m, pa, cap, ps, h, rfl⟩ := h
  refine (do_any h hu.wf (by have := hu.used; omega) (fun n o => by have := hu.gen n o; omega) y hy told hto ta tc hb ht).mono ?_
  rintro e w1 ⟨he, pa', cap', ps', h1, h2, h3⟩
  exact ⟨he, _, ⟨m, pa', cap', ps', h1, rfl⟩, h2, h3⟩

/-! the same, at literal numbers -/
theorem ar_alloc_lit {N : Nat} (h : Ar F w x s) (hu : Upto N s) (hN : N < big) (r : Int) {q : Int} (hr : ((aAlloc s).1 : Int) = r) (hq : ((aAlloc s).2.1 : Int) = q) :
    Calls Try.prog 23 #[.pointer (some ⟨x, 0, none⟩)] w fun e w' => e = .returned (.tuple #[.int .u64 r, .int .i64 q]) ∧ ∃ F', Ar F' w' x (aAlloc s).2.2 ∧ Fr F w w' ∧ Grow F F' w := by
  subst hr; subst hq; exact ar_alloc h hu hN
theorem ar_free_lit {N : Nat} (h : Ar F w x s) (hu : Upto N s) (hN : N < big) {hd : Nat} (hh : hd < 18446744073709551616) {d q : Int} (hd' : (hd : Int) = d) (hq : ((aFree s hd).1 : Int) = q) :
    Calls Try.prog 16 #[.pointer (some ⟨x, 0, none⟩), .int .u64 d] w fun e w' => e = .returned (.int .i64 q) ∧ Ar F w' x (aFree s hd).2 ∧ Fr F w w' := by
  subst hd'; subst hq; exact ar_free h hu hN hh
theorem ar_write_lit {N : Nat} (h : Ar F w x s) (hu : Upto N s) {hd : Nat} (hh : hd < 18446744073709551616) (b : ByteArray) {d q : Int} (hd' : (hd : Int) = d) (hq : ((aWrite s hd b).1 : Int) = q) :
    Calls Try.prog 24 #[.pointer (some ⟨x, 0, none⟩), .int .u64 d, .string b] w fun e w' => e = .returned (.int .i64 q) ∧ Ar F w' x (aWrite s hd b).2 ∧ Fr F w w' := by
  subst hd'; subst hq; exact ar_write h hu hh b
theorem ar_read_lit {N : Nat} (h : Ar F w x s) (hu : Upto N s) {hd : Nat} (hh : hd < 18446744073709551616) {d q : Int} (hd' : (hd : Int) = d) (hq : ((aRead s hd).2 : Int) = q) (b : ByteArray) (hb : strOf (aRead s hd).1 = b) :
    Calls Try.prog 15 #[.pointer (some ⟨x, 0, none⟩), .int .u64 d] w fun e w' => e = .returned (.tuple #[.string b, .int .i64 q]) ∧ Fr none_ w w' := by
  subst hd'; subst hq; subst hb; exact ar_read h hu hh
theorem Handle_lit (w : World) (n o g : Nat) (h1 : n < 65536) (h2 : o < 65536) (h3 : g < 4294967296) {a b c d : Int} (ha : (n : Int) = a) (hb : (o : Int) = b) (hc : (g : Int) = c) (hd : (mkH n o g : Int) = d) :
    Calls Try.prog 26 #[.int .u16 a, .int .u16 b, .int .u32 c] w fun e w' => e = .returned (.int .u64 d) ∧ w = w' := by
  subst ha; subst hb; subst hc; subst hd; exact Handle_any w n o g h1 h2 h3
end
end Go.Proofs.Ytncajdefjammiaa
