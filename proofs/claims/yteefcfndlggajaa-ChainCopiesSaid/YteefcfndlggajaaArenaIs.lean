/-
  An arena's memory: 'ArenaAt w x m pa cap ps s': the block of the arena, the map of generations, the row of pages, each page; all apart.
-/
import Derived.Test.YteefcfndlggajaaArenaAbs
import Derived.Test.YteefcfndlggajaaKeys
namespace Go.Proofs.Yteefcfndlggajaa
open Go.RowKit
set_option linter.unusedVariables false
set_option linter.unusedSimpArgs false
set_option maxRecDepth 100000

def place (p : Place) : Value := .agg #[.int .u16 (p.1.toNat : Int), .int .u16 (p.2.toNat : Int)]
def gen32 (g : Nat) : Value := .int .u32 (g : Int)

theorem place_inj (a b : Place) (h : place a = place b) : a = b := by
  unfold place at h
  simp only [Value.agg.injEq, Array.mk.injEq, List.cons.injEq, Value.int.injEq, true_and, and_true] at h
  obtain ⟨h1, h2⟩ := h
  have h1 : a.1.toNat = b.1.toNat := by omega
  have h2 : a.2.toNat = b.2.toNat := by omega
  exact Prod.ext (UInt16.toNat_inj.1 h1) (UInt16.toNat_inj.1 h2)
theorem place_pl {n o : Nat} (h1 : n < 65536) (h2 : o < 65536) : place (pl n o) = .agg #[.int .u16 (n : Int), .int .u16 (o : Int)] := by
  unfold place pl
  simp only [UInt16.toNat_ofNat']
  rw [Nat.mod_eq_of_lt (by omega), Nat.mod_eq_of_lt (by omega)]

/-- An arena's cells. -/
def aCells (m : Nat) (pa : Option Addr) (cap : Nat) (s : AS) : Array Value := #[.int .i64 (s.slot : Int), .slice pa s.pages.length cap, .map (some m), .int .i64 (s.used : Int), .int .i64 (s.first : Int)]

structure ArenaAt (w : World) (x m : Nat) (pa : Option Addr) (cap : Nat) (ps : List (Nat × Nat)) (s : AS) : Prop where
  row : Row w x (aCells m pa cap s) 120
  sl : SlAt w pa s.pages.length cap 112 1 (ps.map fun p => ptr p.1)
  len : ps.length = s.pages.length
  page : ∀ (i : Nat) (p : Nat × Nat) (q : PS), ps[i]? = some p → s.pages[i]? = some q → PageIs w p.1 p.2 q
  gen : MapAt w m place gen32 s.gen
  xm : x ≠ m
  pax : ∀ k, blk pa k → k ≠ x ∧ k ≠ m
  psx : ∀ (i : Nat) (p : Nat × Nat), ps[i]? = some p → p.1 ≠ x ∧ p.1 ≠ m ∧ p.2 ≠ x ∧ p.2 ≠ m ∧ ¬ blk pa p.1 ∧ ¬ blk pa p.2 ∧ p.1 ≠ p.2
  ap : ∀ (i j : Nat) (p q : Nat × Nat), ps[i]? = some p → ps[j]? = some q → i ≠ j → p.1 ≠ q.1 ∧ p.1 ≠ q.2 ∧ p.2 ≠ q.1 ∧ p.2 ≠ q.2

/-- The blocks that an arena owns. -/
def aOwn (x m : Nat) (pa : Option Addr) (ps : List (Nat × Nat)) (k : Nat) : Prop := k = x ∨ k = m ∨ blk pa k ∨ ∃ (i : Nat) (p : Nat × Nat), ps[i]? = some p ∧ (k = p.1 ∨ k = p.2)
theorem own_x {x m : Nat} {pa : Option Addr} {ps : List (Nat × Nat)} : aOwn x m pa ps x := Or.inl rfl
theorem own_m {x m : Nat} {pa : Option Addr} {ps : List (Nat × Nat)} : aOwn x m pa ps m := Or.inr (Or.inl rfl)
theorem own_pa {x m : Nat} {pa : Option Addr} {ps : List (Nat × Nat)} {k : Nat} (h : blk pa k) : aOwn x m pa ps k := Or.inr (Or.inr (Or.inl h))
theorem own_p {x m : Nat} {pa : Option Addr} {ps : List (Nat × Nat)} {i : Nat} {p : Nat × Nat} (h : ps[i]? = some p) {k : Nat} (hk : two p.1 p.2 k) : aOwn x m pa ps k := Or.inr (Or.inr (Or.inr ⟨i, p, h, hk⟩))

section
variable {w w' : World} {x m : Nat} {pa : Option Addr} {cap : Nat} {ps : List (Nat × Nat)} {s : AS}
theorem ArenaAt.kept {F : Nat → Prop} (h : ArenaAt w x m pa cap ps s) (f : Fr F w w') (hn : ∀ k, aOwn x m pa ps k → ¬ F k) : ArenaAt w' x m pa cap ps s :=
  { row := h.row.kept f (hn _ own_x), sl := h.sl.kept f (fun k hk => hn k (own_pa hk)), len := h.len,
    page := fun i p q hp hq => (h.page i p q hp hq).kept f (hn _ (own_p hp (Or.inl rfl))) (hn _ (own_p hp (Or.inr rfl))),
    gen := h.gen.kept f (hn _ own_m), xm := h.xm, pax := h.pax, psx := h.psx, ap := h.ap }
theorem ArenaAt.kept0 (h : ArenaAt w x m pa cap ps s) (f : Fr none_ w w') : ArenaAt w' x m pa cap ps s := h.kept f (fun _ _ e => e)
theorem ArenaAt.get (h : ArenaAt w x m pa cap ps s) {i : Nat} {q : PS} (hq : s.pages[i]? = some q) : ∃ p, ps[i]? = some p ∧ PageIs w p.1 p.2 q := by
  have hi : i < ps.length := by rw [h.len]; exact (List.getElem?_eq_some_iff.1 hq).1
  exact ⟨ps[i], List.getElem?_eq_getElem hi, h.page i _ q (List.getElem?_eq_getElem hi) hq⟩
theorem ArenaAt.lt (h : ArenaAt w x m pa cap ps s) : ∀ k, aOwn x m pa ps k → k < w.heap.size := by
  rintro k (rfl | rfl | hk | ⟨i, p, hp, hk⟩)
  · exact h.row.lt
  · exact h.gen.lt
  · exact h.sl.lt k hk
  · have hi := (List.getElem?_eq_some_iff.1 hp).1
    have hp' := h.page i p _ hp (List.getElem?_eq_getElem (by rw [← h.len]; exact hi))
    have := hp'.lt
    rcases hk with rfl | rfl <;> omega
theorem ArenaAt.c0 (h : ArenaAt w x m pa cap ps s) : w.cell? ⟨x, 0, none⟩ = some (.int .i64 (s.slot : Int)) := (h.row.cell 0).trans rfl
theorem ArenaAt.c1 (h : ArenaAt w x m pa cap ps s) : w.cell? ⟨x, 1, none⟩ = some (.slice pa s.pages.length cap) := (h.row.cell 1).trans rfl
theorem ArenaAt.c2 (h : ArenaAt w x m pa cap ps s) : w.cell? ⟨x, 2, none⟩ = some (.map (some m)) := (h.row.cell 2).trans rfl
theorem ArenaAt.c3 (h : ArenaAt w x m pa cap ps s) : w.cell? ⟨x, 3, none⟩ = some (.int .i64 (s.used : Int)) := (h.row.cell 3).trans rfl
theorem ArenaAt.c4 (h : ArenaAt w x m pa cap ps s) : w.cell? ⟨x, 4, none⟩ = some (.int .i64 (s.first : Int)) := (h.row.cell 4).trans rfl
theorem ArenaAt.free (h : ArenaAt w x m pa cap ps s) (i : Nat) : w.frozen? ⟨x, i, none⟩ = false := h.row.free i

/-- One page turned. -/
theorem ArenaAt.turn (h : ArenaAt w x m pa cap ps s) {i : Nat} {p : Nat × Nat} {q : PS} (hp : ps[i]? = some p) (hq : PageIs w' p.1 p.2 q) (f : Fr (two p.1 p.2) w w') (hi : i < s.pages.length) : ArenaAt w' x m pa cap ps { s with pages := s.pages.set i q } := by
  have hx := h.psx i p hp
  have hl : (s.pages.set i q).length = s.pages.length := List.length_set
  refine ⟨?_, ?_, by rw [hl]; exact h.len, ?_, h.gen.kept f (by unfold two; omega), h.xm, h.pax, h.psx, h.ap⟩
  · have := h.row.kept f (by unfold two; omega)
    unfold aCells at this ⊢
    simpa only [hl] using this
  · simp only [hl]
    exact h.sl.kept f (fun k hk e => by rcases e with rfl | rfl; exact hx.2.2.2.2.1 hk; exact hx.2.2.2.2.2.1 hk)
  · intro j p' q' hp' hq'
    by_cases e : i = j
    · subst e
      rw [hp] at hp'; cases hp'
      simp only [List.getElem?_set_self hi, Option.some.injEq] at hq'
      subst hq'; exact hq
    · simp only [List.getElem?_set_ne e] at hq'
      have ha := h.ap i j p p' hp hp' e
      exact (h.page j p' q' hp' hq').kept f (fun e => by rcases e with e | e; exact ha.1 e.symm; exact ha.2.2.1 e.symm) (fun e => by rcases e with e | e; exact ha.2.1 e.symm; exact ha.2.2.2 e.symm)
end
end Go.Proofs.Yteefcfndlggajaa
