/-
  The reference of layer 4 at a place, apart from a set of blocks ('RAX'); the same as a thing in a bag ('tRef').
-/
import Derived.Test.YteefcfndlggajaaRa7
import Derived.Test.YteefcfndlggajaaBag
namespace Go.Proofs.Yteefcfndlggajaa
open Go.RowKit
set_option linter.unusedVariables false
set_option linter.unusedSimpArgs false
set_option maxRecDepth 100000

/-- The reference at x, apart from Z. -/
def RAX (w : World) (x : Nat) (Z : Nat → Prop) (N : Nat) (s : AS) : Prop := ∃ pa pc ga gc qs G col, RAt w x pa pc ga gc qs G col Z N s
section
variable {w w' : World} {x : Nat} {Z Y F : Nat → Prop} {N M : Nat} {s s' : AS}
theorem RAX.kept (h : RAX w x Z N s) (f : Fr F w w') (hF : ∀ k, k < w.heap.size → F k → Z k) : RAX w' x Z N s := by
  obtain ⟨a, b, c, d, e, g, col, h1⟩ := h
  exact ⟨a, b, c, d, e, g, col, h1.kept (f.mono hF) (fun _ e => e)⟩
theorem RAX.kept0 (h : RAX w x Z N s) (f : Fr none_ w w') : RAX w' x Z N s := h.kept f (fun _ _ e => e.elim)
theorem RAX.more (h : RAX w x Z N s) (hY : ∀ k, Y k → Z k ∨ w.heap.size ≤ k) : RAX w x Y N s := by
  obtain ⟨a, b, c, d, e, g, col, h⟩ := h
  have hl := h.row.lt
  refine ⟨a, b, c, d, e, g, col, ⟨h.row, h.pas, h.gs, h.cx, h.ca, h.cg, fun q => ?_, fun k hk q => ?_, fun k hk q => ?_, fun i r p h1 h2 => ?_, h.gl, h.gb, h.gn, h.nn⟩⟩
  · rcases hY _ q with q | q
    · exact h.zx q
    · omega
  · rcases hY _ q with q | q
    · exact h.za k hk q
    · have := h.pas.lt k hk; omega
  · rcases hY _ q with q | q
    · exact h.zg k hk q
    · have := h.gs.lt k hk; omega
  · obtain ⟨b1, b2, b3, b4, b5, b6, b7, b8, b9⟩ := h.pg i r p h1 h2
    refine ⟨b1, b2, b3, b4, b5, b6, b7, b8, fun k hk => ⟨(b9 k hk).1, fun q => ?_⟩⟩
    rcases hY _ q with q | q
    · exact (b9 k hk).2 q
    · have := b8.lt k hk; omega
theorem RAX.weakN (h : RAX w x Z N s) (h1 : N ≤ M) (h2 : M ≤ 1000000) : RAX w x Z M s := by
  obtain ⟨a, b, c, d, e, g, col, h⟩ := h
  exact ⟨a, b, c, d, e, g, col, h.weakN h1 h2⟩
theorem rax_is (h : RAX w x Z N s) (hw : s.WF) {hd : Nat} (hh : hd < 18446744073709551616) {b : Bool} (hb : (aFind s hd).isSome = b) : Calls Try.prog 97 #[.pointer (some ⟨x, 0, none⟩), .int .u64 (hd : Int)] w fun e w' => e = .returned (.bool b) ∧ w = w' := by
  subst hb
  obtain ⟨pa, pc, ga, gc, qs, G, col, h⟩ := h
  exact Ra_Is h hw hh
theorem rax_copy (h : RAX w x Z N s) (hw : s.WF) : Calls Try.prog 52 #[.pointer (some ⟨x, 0, none⟩)] w fun e w' => ∃ y, e = .returned (.pointer (some ⟨y, 0, none⟩)) ∧ RAX w' y (fun k => k < w.heap.size) N s ∧ Fr none_ w w' := by
  obtain ⟨pa, pc, ga, gc, qs, G, col, h⟩ := h
  refine (Ra_Copy h hw).mono ?_
  rintro e w' ⟨y, a, b, c, d, e', g, col', he, h1, h2⟩
  exact ⟨y, he, ⟨a, b, c, d, e', g, col', h1⟩, h2⟩
theorem rax_free (h : RAX w x Z N s) (hz : ∀ k, Z k → k < w.heap.size) (hw : s.WF) {hd : Nat} (hh : hd < 18446744073709551616) {E : Int} (hE : ((aFree s hd).1 : Int) = E) : Calls Try.prog 83 #[.pointer (some ⟨x, 0, none⟩), .int .u64 (hd : Int)] w fun e w' => e = .returned (.int .i64 E) ∧ RAX w' x Z N (aFree s hd).2 ∧ Fr (fun k => ¬ Z k) w w' := by
  subst hE
  obtain ⟨pa, pc, ga, gc, qs, G, col, h⟩ := h
  exact (Ra_Free h hz hw hh).mono fun e w' q => ⟨q.1, by obtain ⟨col', h'⟩ := q.2.1; exact ⟨_, _, _, _, _, _, _, h'⟩, q.2.2⟩
theorem rax_alloc (h : RAX w x Z N s) (hz : ∀ k, Z k → k < w.heap.size) (hw : s.WF) (hg : ∀ n o, s.genOf n o < 4294967295) (hN : N < 1000000) {H E : Int} (hH : ((aAlloc s).1 : Int) = H) (hE : ((aAlloc s).2.1 : Int) = E) : Calls Try.prog 81 #[.pointer (some ⟨x, 0, none⟩)] w fun e w' => e = .returned (.tuple #[.int .u64 H, .int .i64 E]) ∧ RAX w' x Z (N + 1) (aAlloc s).2.2 ∧ Fr (fun k => ¬ Z k) w w' := by
  subst hH; subst hE
  obtain ⟨pa, pc, ga, gc, qs, G, col, h⟩ := h
  exact (Ra_Alloc h hz hw hg hN).mono fun e w' q => ⟨q.1, q.2.1, q.2.2⟩
end
/-- The reference's arena in a bag. -/
def tRef (x N : Nat) (s : AS) : Thing where
  at_ F w := (∀ k, F k → k < w.heap.size) ∧ RAX w x (fun k => ¬ F k) N s
  keep F G w w' h f hn := ⟨fun k hk => Nat.lt_of_lt_of_le (h.1 k hk) f.size, h.2.kept f (fun k _ hg hf => hn k hf hg)⟩
  lt F w h k hk := h.1 k hk
def zOf (F : Nat → Prop) (w : World) : Nat → Prop := fun k => k < w.heap.size ∧ ¬ F k
def fOf (F : Nat → Prop) (w w' : World) : Nat → Prop := fun k => (F k ∨ w.heap.size ≤ k) ∧ k < w'.heap.size
theorem RAX.zOf {w : World} {x N : Nat} {F : Nat → Prop} {s : AS} (h : RAX w x (fun k => ¬ F k) N s) : RAX w x (zOf F w) N s := h.more (fun k hk => Or.inl hk.2)
theorem zOf_lt (F : Nat → Prop) (w : World) : ∀ k, zOf F w k → k < w.heap.size := fun k hk => hk.1
theorem ref_turn {w w' : World} {x N M : Nat} {F : Nat → Prop} {s s' : AS} (h : RAX w' x (zOf F w) M s') (f : Fr (fun k => ¬ zOf F w k) w w') :
    ∃ F', (tRef x M s').at_ F' w' ∧ Fr F w w' ∧ GrowB F F' w := by
  refine ⟨fOf F w w', ⟨fun k hk => hk.2, h.more (fun k hk => ?_)⟩, f.mono (fun k hk e => ?_), fun k hk => hk.1⟩
  · unfold fOf at hk
    unfold Go.Proofs.Yteefcfndlggajaa.zOf
    by_cases h1 : w'.heap.size ≤ k
    · exact Or.inr h1
    · by_cases h2 : F k
      · exact absurd ⟨Or.inl h2, by omega⟩ hk
      · by_cases h3 : w.heap.size ≤ k
        · exact absurd ⟨Or.inr h3, by omega⟩ hk
        · exact Or.inl ⟨by omega, h2⟩
  · unfold Go.Proofs.Yteefcfndlggajaa.zOf at e
    exact Classical.byContradiction fun q => e ⟨hk, q⟩
section
variable {W w : World} {Ts : List Thing} {i x N : Nat} {s : AS}
theorem bg_ralloc (h : Bag W Ts w) (hi : Ts[i]? = some (tRef x N s)) (hw : s.WF) (hg : ∀ n o, s.genOf n o < 4294967295) (hN : N < 1000000) {H E : Int} (hH : ((aAlloc s).1 : Int) = H) (hE : ((aAlloc s).2.1 : Int) = E) :
    Calls Try.prog 81 #[.pointer (some ⟨x, 0, none⟩)] w fun e w' => e = .returned (.tuple #[.int .u64 H, .int .i64 E]) ∧ Bag W (Ts.set i (tRef x (N + 1) (aAlloc s).2.2)) w' :=
  h.call (R := fun e => e = .returned (.tuple #[.int .u64 H, .int .i64 E])) hi (fun F hF => (rax_alloc (h := RAX.zOf hF.2) (zOf_lt F w) hw hg hN hH hE).mono fun e w' q => ⟨q.1, ref_turn (N := N) (s := s) q.2.1 q.2.2⟩)
theorem bg_rfree (h : Bag W Ts w) (hi : Ts[i]? = some (tRef x N s)) (hw : s.WF) {hd : Nat} (hh : hd < 18446744073709551616) {E : Int} (hE : ((aFree s hd).1 : Int) = E) :
    Calls Try.prog 83 #[.pointer (some ⟨x, 0, none⟩), .int .u64 (hd : Int)] w fun e w' => e = .returned (.int .i64 E) ∧ Bag W (Ts.set i (tRef x N (aFree s hd).2)) w' :=
  h.call (R := fun e => e = .returned (.int .i64 E)) hi (fun F hF => (rax_free (h := RAX.zOf hF.2) (zOf_lt F w) hw hh hE).mono fun e w' q => ⟨q.1, ref_turn (N := N) (s := s) q.2.1 q.2.2⟩)
theorem bg_rcopy (h : Bag W Ts w) (hi : Ts[i]? = some (tRef x N s)) (hw : s.WF) :
    Calls Try.prog 52 #[.pointer (some ⟨x, 0, none⟩)] w fun e w' => ∃ y, e = .returned (.pointer (some ⟨y, 0, none⟩)) ∧ Bag W (Ts ++ [tRef y N s]) w' := by
  obtain ⟨F, hF, _⟩ := h.get hi
  refine (rax_copy hF.2 hw).mono ?_
  rintro e w' ⟨y, he, h1, f⟩
  refine ⟨y, he, h.add (T := tRef y N s) (F := fun k => w.heap.size ≤ k ∧ k < w'.heap.size) f ⟨fun k hk => hk.2, h1.more (fun k hk => ?_)⟩ (fun k hk => hk.1)⟩
  by_cases q : k < w.heap.size
  · exact Or.inl q
  · by_cases q2 : k < w'.heap.size
    · exact absurd ⟨by omega, q2⟩ hk
    · exact Or.inr (by omega)
end
end Go.Proofs.Yteefcfndlggajaa
