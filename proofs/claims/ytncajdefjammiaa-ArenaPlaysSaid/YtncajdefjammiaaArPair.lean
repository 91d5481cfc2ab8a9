/-
  Where layer 4's statements walk: an arena, the row of the handles that were told, and one more row beside it, all apart, all behind what was there.
-/
import Derived.Test.YtncajdefjammiaaArWorks
namespace Go.Proofs.Ytncajdefjammiaa
open Go.RowKit
set_option linter.unusedVariables false
set_option linter.unusedSimpArgs false
set_option maxRecDepth 100000

/-- One cell of a row turned. -/
theorem SlAt.set {w : World} {g n cap : Nat} {e : TypeId} {xs : List Value} (h : SlAt w (some ⟨g, 0, none⟩) n cap e 1 xs) {i : Nat} (hi : i < n) (v : Value) : SlAt (w.setCell ⟨g, i, none⟩ v) (some ⟨g, 0, none⟩) n cap e 1 (xs.set i v) := by
  obtain ⟨h1, h2, h3, h4, h5⟩ := h
  refine ⟨by rw [List.length_set]; exact h1, h2, h3, h4, ?_⟩
  intro ad had
  cases had
  obtain ⟨q1, q2, cur, q3, q4, q5⟩ := h5 _ rfl
  refine ⟨rfl, rfl, _, q3.set i v, by rw [Array.size_setIfInBounds]; exact q4, ?_⟩
  rw [Array.toList_setIfInBounds, List.take_set, q5]
theorem fr_set_blk {w : World} {g i : Nat} {v : Value} : Fr (blk (some ⟨g, 0, none⟩)) w (w.setCell ⟨g, i, none⟩ v) := Fr.setCell _ w ⟨g, i, none⟩ v (fun _ => ⟨_, rfl, rfl⟩)

structure P2 (W : World) (x : Nat) (s : AS) (F : Nat → Prop) (told : List Nat) (ta : Option Addr) (n tc : Nat) (t2 : TypeId) (vs : List Value) (ga : Option Addr) (gn gc : Nat) (wr : World) : Prop where
  ar : Ar F wr x s
  ts : SlAt wr ta n tc 32 1 (told.map vH)
  gs : SlAt wr ga gn gc t2 1 vs
  fr : Fr none_ W wr
  dT : ∀ k, F k → ¬ blk ta k
  dG : ∀ k, F k → ¬ blk ga k
  dTG : ∀ k, blk ta k → ¬ blk ga k
  bF : ∀ k, F k → W.heap.size ≤ k
  bT : ∀ k, blk ta k → W.heap.size ≤ k
  bG : ∀ k, blk ga k → W.heap.size ≤ k
section
variable {W wr w1 wa w2 : World} {x : Nat} {s s' : AS} {F F' : Nat → Prop} {told : List Nat} {ta ta' ga ga' : Option Addr} {n tc gn gc cap' : Nat} {t2 : TypeId} {vs vs' : List Value}
theorem P2.skip (h : P2 W x s F told ta n tc t2 vs ga gn gc wr) (f : Fr none_ wr w1) : P2 W x s F told ta n tc t2 vs ga gn gc w1 :=
  ⟨h.ar.kept0 f, h.ts.kept0 f, h.gs.kept0 f, h.fr.trans f, h.dT, h.dG, h.dTG, h.bF, h.bT, h.bG⟩
theorem P2.arena (h : P2 W x s F told ta n tc t2 vs ga gn gc wr) (ha : Ar F' w1 x s') (f : Fr F wr w1) (g : Grow F F' wr) : P2 W x s' F' told ta n tc t2 vs ga gn gc w1 := by
  have hz := h.fr.size
  refine ⟨ha, h.ts.kept f (fun k hk e => h.dT k e hk), h.gs.kept f (fun k hk e => h.dG k e hk), h.fr.step f (fun i hi e => by have := h.bF i e; omega), ?_, ?_, h.dTG, ?_, h.bT, h.bG⟩
  · intro k hk hb
    rcases g k hk with e | e
    · exact h.dT k e hb
    · have := h.ts.lt k hb; omega
  · intro k hk hb
    rcases g k hk with e | e
    · exact h.dG k e hb
    · have := h.gs.lt k hb; omega
  · intro k hk
    rcases g k hk with e | e
    · exact h.bF k e
    · omega
theorem P2.arena0 (h : P2 W x s F told ta n tc t2 vs ga gn gc wr) (ha : Ar F w1 x s') (f : Fr F wr w1) : P2 W x s' F told ta n tc t2 vs ga gn gc w1 := h.arena ha f (Grow.refl _ _)
/-- A handle more in the row. -/
theorem P2.pushT (h : P2 W x s F told ta n tc t2 vs ga gn gc wr) (fa : Fr none_ wr wa) {H : Nat} (hs : SlAt w2 ta' (n + 1) cap' 32 1 (told.map vH ++ [vH H])) (f : Fr (blk ta) wa w2) (hb : ∀ k, blk ta' k → blk ta k ∨ wa.heap.size ≤ k) : P2 W x s F (told ++ [H]) ta' (n + 1) cap' t2 vs ga gn gc w2 := by
  have hz := h.fr.size
  have hz2 := fa.size
  have fr : Fr (blk ta) wr w2 := fa.none.trans f
  refine ⟨h.ar.kept fr h.dT, by simpa using hs, h.gs.kept fr (fun k hk e => h.dTG k e hk), h.fr.step fr (fun i hi e => by have := h.bT i e; omega), ?_, h.dG, ?_, h.bF, ?_, h.bG⟩
  · intro k hk e
    rcases hb k e with q | q
    · exact h.dT k hk q
    · have := h.ar.lt k hk; omega
  · intro k hk e
    rcases hb k hk with q | q
    · exact h.dTG k q e
    · have := h.gs.lt k e; omega
  · intro k hk
    rcases hb k hk with q | q
    · exact h.bT k q
    · omega
/-- The other row turned. -/
theorem P2.turnG (h : P2 W x s F told ta n tc t2 vs ga gn gc wr) (fa : Fr none_ wr wa) {gn' : Nat} (hs : SlAt w2 ga' gn' cap' t2 1 vs') (f : Fr (blk ga) wa w2) (hb : ∀ k, blk ga' k → blk ga k ∨ wa.heap.size ≤ k) : P2 W x s F told ta n tc t2 vs' ga' gn' cap' w2 := by
  have hz := h.fr.size
  have hz2 := fa.size
  have fr : Fr (blk ga) wr w2 := fa.none.trans f
  refine ⟨h.ar.kept fr h.dG, h.ts.kept fr h.dTG, hs, h.fr.step fr (fun i hi e => by have := h.bG i e; omega), h.dT, ?_, ?_, h.bF, h.bT, ?_⟩
  · intro k hk e
    rcases hb k e with q | q
    · exact h.dG k hk q
    · have := h.ar.lt k hk; omega
  · intro k hk e
    rcases hb k e with q | q
    · exact h.dTG k hk q
    · have := h.ts.lt k hk; omega
  · intro k hk
    rcases hb k hk with q | q
    · exact h.bG k q
    · omega
theorem P2.setG {g i : Nat} {v : Value} (h : P2 W x s F told ta n tc t2 vs (some ⟨g, 0, none⟩) gn gc wr) (hi : i < gn) : P2 W x s F told ta n tc t2 (vs.set i v) (some ⟨g, 0, none⟩) gn gc (wr.setCell ⟨g, i, none⟩ v) :=
  h.turnG (Fr.refl _ _) (h.gs.set hi v) fr_set_blk (fun k hk => Or.inl hk)
end

/-- Other row: none, or a new one in its place. -/
theorem P2.newG {W wr w2 : World} {x : Nat} {s : AS} {F : Nat → Prop} {told : List Nat} {ta ga ga' : Option Addr} {n tc gn gc gn' gc' : Nat} {t2 t3 : TypeId} {vs vs' : List Value} (h : P2 W x s F told ta n tc t2 vs ga gn gc wr) (f : Fr none_ wr w2) (hs : SlAt w2 ga' gn' gc' t3 1 vs') (hb : ∀ k, blk ga' k → wr.heap.size ≤ k) : P2 W x s F told ta n tc t3 vs' ga' gn' gc' w2 := by
  have hz := h.fr.size
  refine ⟨h.ar.kept0 f, h.ts.kept0 f, hs, h.fr.trans f, h.dT, ?_, ?_, h.bF, h.bT, ?_⟩
  · intro k hk e
    have := hb k e; have := h.ar.lt k hk; omega
  · intro k hk e
    have := hb k e; have := h.ts.lt k hk; omega
  · intro k hk
    have := hb k hk; omega

theorem handle_info : (Try.prog.info? 32).map (fun i => (i.zero, i.size, i.bytes)) = some (some (.int .u64 0), 1, 8) := by kernel_rfl
theorem bool_info : (Try.prog.info? 4).map (fun i => (i.zero, i.size, i.bytes)) = some (some (.bool false), 1, 1) := by kernel_rfl
theorem one_cells (v : Value) (w : World) (b : Nat) (hc : w.cell? ⟨b, 0, none⟩ = some v) : ∀ (j : Nat) (u : Value), ([v] : List Value)[j]? = some u → w.cell? ((⟨b, 0, none⟩ : Addr).add j) = some u := by
  intro j u hu
  cases j with
  | zero => simp at hu; subst hu; exact hc
  | succ j => simp at hu
theorem notLarge {l : List StepV} (h : isLarge l = false) : l.length ≤ 200 := by
  unfold isLarge at h
  have := of_decide_eq_false h
  have := largeSum_length l
  omega
end Go.Proofs.Ytncajdefjammiaa
