/-
  DeadPlays (P10.1, P10.2): whatever comes to the dead, each answer and all that is told is the reference's; a copy goes its own way.
-/
import Derived.Test.YtkfnfflonjfglaaDdLike
import Derived.Deep.RegionHeld3
namespace Go.Proofs.Ytkfnfflonjfglaa
open Go.RowKit
set_option linter.unusedVariables false
set_option linter.unusedSimpArgs false
set_option maxRecDepth 100000

/-- The reference's dead at r; its row lies apart from the blocks Z. -/
def Xs (w : World) (r : Nat) (Z : Nat → Prop) (l : List Int) : Prop := ∃ a cap, RefAt w r a cap l ∧ ∀ k, blk a k → ¬ Z k
section
variable {w w' : World} {r : Nat} {Z F : Nat → Prop} {l l' : List Int}
theorem Xs.kept (h : Xs w r Z l) (f : Fr F w w') (hF : ∀ k, F k → Z k) (hr : ¬ F r) : Xs w' r Z l := by
  obtain ⟨a, cap, h1, h2⟩ := h
  exact ⟨a, cap, h1.kept f hr (fun k hk e => h2 k hk (hF k e)), h2⟩
theorem Xs.kept0 (h : Xs w r Z l) (f : Fr none_ w w') : Xs w' r Z l := h.kept f (fun _ e => e.elim) (fun e => e)
theorem Xs.lt (h : Xs w r Z l) : r < w.heap.size := by
  obtain ⟨a, cap, h1, h2⟩ := h
  exact h1.row.lt
theorem Xs.post {f : Nat} {args : Array Value} {v : Value} {a : Option Addr} (hz : ∀ k, Z k → k < w.heap.size) (h2 : ∀ k, blk a k → ¬ Z k)
    (h : Calls Try.prog f args w fun e w' => e = .returned v ∧ (∃ b bc, RefAt w' r b bc l' ∧ ∀ k, blk b k → blk a k ∨ w.heap.size ≤ k) ∧ Fr (one r) w w') :
    Calls Try.prog f args w fun e w' => e = .returned v ∧ Xs w' r Z l' ∧ Fr (one r) w w' := by
  refine h.mono ?_
  rintro e w' ⟨he, ⟨b, bc, q1, q2⟩, hf⟩
  refine ⟨he, ⟨b, bc, q1, fun k hk e => ?_⟩, hf⟩
  rcases q2 k hk with q | q
  · exact h2 k q e
  · have := hz k e; omega
theorem xs_add (h : Xs w r Z l) (hz : ∀ k, Z k → k < w.heap.size) (hl : l.length ≤ 1000) (t : Int) {q : Int} (hq : ((rAdd l t).1 : Int) = q) :
    Calls Try.prog 23 #[.pointer (some ⟨r, 0, none⟩), .int .i64 t] w fun e w' => e = .returned (.int .i64 q) ∧ Xs w' r Z (rAdd l t).2 ∧ Fr (one r) w w' := by
  subst hq
  obtain ⟨a, cap, h1, h2⟩ := h
  exact Xs.post hz h2 (Ref_Add h1 hl t)
theorem xs_less (h : Xs w r Z l) (hz : ∀ k, Z k → k < w.heap.size) (hl : l.length ≤ 1000) (t : Int) {q : Bool} (hq : decide (t ∈ l) = q) :
    Calls Try.prog 24 #[.pointer (some ⟨r, 0, none⟩), .int .i64 t] w fun e w' => e = .returned (.bool q) ∧ Xs w' r Z (l.erase t) ∧ Fr (one r) w w' := by
  subst hq
  obtain ⟨a, cap, h1, h2⟩ := h
  exact Xs.post hz h2 (Ref_Less h1 hl t)
theorem xs_pass (h : Xs w r Z l) (hz : ∀ k, Z k → k < w.heap.size) (hl : l.length ≤ 1000) (t : Int) {q : Int} (hq : (l.length : Int) - ((l.filter (fun x => decide (t < x))).length : Int) = q) :
    Calls Try.prog 25 #[.pointer (some ⟨r, 0, none⟩), .int .i64 t] w fun e w' => e = .returned (.int .i64 q) ∧ Xs w' r Z (l.filter (fun x => decide (t < x))) ∧ Fr (one r) w w' := by
  subst hq
  obtain ⟨a, cap, h1, h2⟩ := h
  exact Xs.post hz h2 (Ref_Pass h1 hl t)
theorem xs_of (h : Xs w r Z l) (hl : l.length ≤ 1000) (t : Int) {q : Int} (hq : (l.count t : Int) = q) :
    Calls Try.prog 27 #[.pointer (some ⟨r, 0, none⟩), .int .i64 t] w fun e w' => e = .returned (.int .i64 q) ∧ w = w' := by
  subst hq
  obtain ⟨a, cap, h1, h2⟩ := h
  exact Ref_Of h1 hl t
theorem xs_copy (h : Xs w r Z l) (hl : l.length ≤ 1000) :
    Calls Try.prog 22 #[.pointer (some ⟨r, 0, none⟩)] w fun e w' => ∃ r2, e = .returned (.pointer (some ⟨r2, 0, none⟩)) ∧ w.heap.size ≤ r2 ∧ Fr none_ w w' ∧ ∀ Y : Nat → Prop, (∀ k, Y k → k < w.heap.size) → Xs w' r2 Y l := by
  obtain ⟨a, cap, h1, h2⟩ := h
  refine (Ref_Copy h1 hl).mono ?_
  rintro e w' ⟨r2, b, bc, he, q1, q2, q3, q4⟩
  exact ⟨r2, he, q3, q2, fun Y hY => ⟨b, bc, q1, fun k hk e => by have := q4 k hk; have := hY k e; omega⟩⟩
theorem xs_like {d m : Nat} {s : DS} (hd : DeadAt w d m s) (h : Xs w r Z l) (hk : Lnk s l) :
    Calls Try.prog 26 #[.pointer (some ⟨d, 0, none⟩), .pointer (some ⟨r, 0, none⟩)] w fun e w' => e = .returned (.bool true) ∧ Fr none_ w w' := by
  obtain ⟨a, cap, h1, h2⟩ := h
  exact like_any hd h1 hk
end

/-- A dead and the reference's, all new since W. -/
structure DX (W : World) (d m r : Nat) (s : DS) (l : List Int) (w : World) : Prop where
  dead : DeadAt w d m s
  ref : Xs w r (two d m) l
  ld : W.heap.size ≤ d
  lm : W.heap.size ≤ m
  lr : W.heap.size ≤ r
  nd : d ≠ r
  nm : m ≠ r
  fr : Fr none_ W w
/-- Both, and the copies. -/
structure DQ (W : World) (d m r : Nat) (s : DS) (l : List Int) (d2 m2 r2 : Nat) (s2 : DS) (l2 : List Int) (w : World) : Prop where
  now : DX W d m r s l w
  dead : DeadAt w d2 m2 s2
  ref : Xs w r2 (fun k => two d m k ∨ k = r) l2
  n1 : d2 ≠ d ∧ d2 ≠ m ∧ d2 ≠ r
  n2 : m2 ≠ d ∧ m2 ≠ m ∧ m2 ≠ r
  n3 : r2 ≠ d ∧ r2 ≠ m ∧ r2 ≠ r
section
variable {W w w' : World} {d m r d2 m2 r2 : Nat} {s s2 s' : DS} {l l2 l' : List Int}
theorem DX.skip (h : DX W d m r s l w) (f : Fr none_ w w') : DX W d m r s l w' := ⟨h.dead.kept0 f, h.ref.kept0 f, h.ld, h.lm, h.lr, h.nd, h.nm, h.fr.trans f⟩
theorem DX.zlt (h : DX W d m r s l w) : ∀ k, two d m k → k < w.heap.size := by
  intro k hk
  have := h.dead.lt
  rcases hk with rfl | rfl <;> omega
theorem DQ.skip (h : DQ W d m r s l d2 m2 r2 s2 l2 w) (f : Fr none_ w w') : DQ W d m r s l d2 m2 r2 s2 l2 w' := ⟨h.now.skip f, h.dead.kept0 f, h.ref.kept0 f, h.n1, h.n2, h.n3⟩
/-- The dead is turned. -/
theorem DQ.turnD (h : DQ W d m r s l d2 m2 r2 s2 l2 w) (hd : DeadAt w' d m s') (f : Fr (two d m) w w') : DQ W d m r s' l d2 m2 r2 s2 l2 w' := by
  obtain ⟨a1, a2, a3⟩ := h.n1
  obtain ⟨b1, b2, b3⟩ := h.n2
  obtain ⟨c1, c2, c3⟩ := h.n3
  have q := h.now
  refine ⟨⟨hd, q.ref.kept f (fun _ e => e) (fun e => ?_), q.ld, q.lm, q.lr, q.nd, q.nm, q.fr.step f (fun i hi e => ?_)⟩, h.dead.kept f (fun e => ?_) (fun e => ?_), h.ref.kept f (fun _ e => Or.inl e) (fun e => ?_), h.n1, h.n2, h.n3⟩
  · rcases e with e | e
    · exact q.nd e.symm
    · exact q.nm e.symm
  · have := q.ld; have := q.lm; rcases e with rfl | rfl <;> omega
  · rcases e with e | e
    · exact a1 e
    · exact a2 e
  · rcases e with e | e
    · exact b1 e
    · exact b2 e
  · rcases e with e | e
    · exact c1 e
    · exact c2 e
/-- The reference is turned. -/
theorem DQ.turnX (h : DQ W d m r s l d2 m2 r2 s2 l2 w) (hx : Xs w' r (two d m) l') (f : Fr (one r) w w') : DQ W d m r s l' d2 m2 r2 s2 l2 w' := by
  obtain ⟨a1, a2, a3⟩ := h.n1
  obtain ⟨b1, b2, b3⟩ := h.n2
  obtain ⟨c1, c2, c3⟩ := h.n3
  have q := h.now
  exact ⟨⟨q.dead.kept f q.nd q.nm, hx, q.ld, q.lm, q.lr, q.nd, q.nm, q.fr.step f (fun i hi e => by have := q.lr; cases e; omega)⟩, h.dead.kept f a3 b3, h.ref.kept f (fun _ e => Or.inr e) c3, h.n1, h.n2, h.n3⟩
theorem DQ.back (h : DQ W d m r s l d2 m2 r2 s2 l2 w) : Fr none_ W w := h.now.fr
end
end Go.Proofs.Ytkfnfflonjfglaa
