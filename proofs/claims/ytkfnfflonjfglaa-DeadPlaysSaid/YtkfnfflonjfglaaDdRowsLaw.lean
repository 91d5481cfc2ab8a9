/-
  DeadRows, the plain law: at most 64 adds never meet the limit; another order of the same adds makes the same counts. And []int as it came in; two dead apart.
-/
import Derived.Test.YtkfnfflonjfglaaDdApart
import Derived.Test.YtkfnfflonjfglaaDdArgs
namespace Go.Proofs.Ytkfnfflonjfglaa
open Go.ChangeShapes Go.WideShapes Go.ChangeAt Go.RowKit Go.Deep Go.Joins
set_option linter.unusedVariables false
set_option linter.unusedSimpArgs false
set_option maxRecDepth 100000

structure IntsAt (w : World) (a : Option Addr) (l : List Int) : Prop where
  ok : ∀ x ∈ l, (Lit.int .i64 x).wf = true
  at_ : l = [] ∨ ∃ b o, a = some ⟨b, o, none⟩ ∧ b < w.heap.size ∧ ∀ i (x : Int), l[i]? = some x → w.cell? ⟨b, o + i, none⟩ = some (.int .i64 x)
theorem open_is {H : Type} {enc : TypeId × Value → H} {w : World} {base : Nat} {spare : Nat → Bool} {held : Bool} {a : Option Addr} {len cap : Nat} {d : DataW H} {ps : List MemPlace}
    (h : DataW.Trod enc Try.prog w base spare held 31 (.slice a len cap) d ps) (hw : ∀ x ∈ d.weights Try.prog 31, x ≤ reachBytes) : ∃ l : List Int, l.length = len ∧ IntsAt w a l := by
  obtain ⟨fuel, hf⟩ := h
  have hf : DataW.trod enc Try.prog w base spare held fuel 31 [.slice a len cap] = some (d, ps) := hf
  rcases open_ints Try.underlying31 Try.underlying3 (by kernel_rfl) hf with ⟨hcs, _⟩ | ⟨ad, len', cap', zs, hcs, hb, hl, hm, hz, hx, hi, hwf⟩
  · simp only [List.cons.injEq, Value.slice.injEq, and_true] at hcs
    obtain ⟨rfl, rfl, rfl⟩ := hcs
    exact ⟨[], rfl, fun _ h => by simp at h, Or.inl rfl⟩
  · simp only [List.cons.injEq, Value.slice.injEq, and_true] at hcs
    obtain ⟨rfl, rfl, rfl⟩ := hcs
    have hlz : len ≤ zs.length := by rw [hz]; split <;> omega
    refine ⟨zs.take len, by rw [List.length_take]; omega, fun x hx => hwf x (List.mem_of_mem_take hx), ?_⟩
    by_cases h0 : len = 0
    · subst h0; exact Or.inl rfl
    · have c0 := hi 0 (by omega)
      have hsp := spot_none c0
      obtain ⟨b, o, sp⟩ := ad
      simp only at hsp
      subst hsp
      have hadd : ∀ n, (⟨b, o, none⟩ : Addr).add n = ⟨b, o + n, none⟩ := fun n => Addr.add_lit b o n
      refine Or.inr ⟨b, o, rfl, ?_, fun i x hx => ?_⟩
      · have := World.block_lt_of_cell? w _ c0
        rw [hadd] at this; exact this
      · rw [List.getElem?_take] at hx
        split at hx
        · have q := hi i ((List.getElem?_eq_some_iff.1 hx).1)
          rw [hadd, List.getD_eq_getElem?_getD, hx] at q; exact q
        · cases hx

/-- The counts of these adds. -/
structure AL (s : DS) (l : List Int) : Prop where
  wf : s.WF
  le : s.all ≤ l.length
  cnt : ∀ t, s.cnt t = if 1 ≤ t ∧ t ≤ 1048576 then l.count t else 0
theorem AL.start : AL ⟨[], 0⟩ [] := ⟨WF_new, Nat.zero_le _, fun t => by rw [List.count_nil]; split <;> rfl⟩
theorem AL.snoc {s : DS} {l : List Int} (h : AL s l) (hl : l.length < 64) (x : Int) : AL (dAdd s x).2 (l ++ [x]) := by
  obtain ⟨q1, q2, q3, q4⟩ := add_law h.wf x
  have hle := h.le
  refine ⟨q1, ?_, fun t => ?_⟩
  · rw [q4, List.length_append, List.length_singleton]; split <;> omega
  · rw [q3, h.cnt, List.count_append, List.count_singleton]
    by_cases hv : 1 ≤ t ∧ t ≤ 1048576
    · rw [if_pos hv, if_pos hv]
      by_cases e : t = x
      · subst e
        rw [if_pos ⟨rfl, q2.2 ⟨hv.1, hv.2, by omega⟩⟩, if_pos (by simp)]
      · rw [if_neg (fun q => e q.1), if_neg (by simp; exact fun q => e q.symm)]
    · rw [if_neg hv, if_neg hv, if_neg]
      rintro ⟨rfl, h0⟩
      obtain ⟨g1, g2, g3⟩ := q2.1 h0
      exact hv ⟨g1, g2⟩
theorem AL.same {s t : DS} {l m : List Int} (h : AL s l) (g : AL t m) (p : l.Perm m) : ∀ k, s.cnt k = t.cnt k := fun k => by rw [h.cnt, g.cnt, p.count_eq]

/-- The second row. -/
def turned (rev : Bool) (l : List Int) (r : Nat) : List Int := (if rev then l.reverse else l).drop r ++ (if rev then l.reverse else l).take r
theorem turned_perm (rev : Bool) (l : List Int) (r : Nat) : l.Perm (turned rev l r) := by
  unfold turned
  have h : (if rev then l.reverse else l).Perm l := by cases rev <;> simp [List.reverse_perm]
  refine h.symm.trans ?_
  have h2 := List.perm_append_comm (l₁ := (if rev then l.reverse else l).take r) (l₂ := (if rev then l.reverse else l).drop r)
  rw [List.take_append_drop] at h2
  exact h2
theorem rot_get (L : List Int) (r i : Nat) (hr : r < L.length) (hi : i < L.length) : (L.drop r ++ L.take r)[i]? = L[(i + r) % L.length]? := by
  by_cases h : i < L.length - r
  · rw [List.getElem?_append_left (by rw [List.length_drop]; exact h), List.getElem?_drop, Nat.mod_eq_of_lt (by omega), Nat.add_comm]
  · rw [List.getElem?_append_right (by rw [List.length_drop]; omega), List.length_drop, List.getElem?_take, if_pos (by omega)]
    have e : (i + r) % L.length = i + r - L.length := by
      rw [Nat.mod_eq_sub_mod (by omega), Nat.mod_eq_of_lt (by omega)]
    rw [e]; congr 1; omega
theorem turned_no (l : List Int) (r i : Nat) (hr : r < l.length) (hi : i < l.length) : (turned false l r)[i]? = l[(i + r) % l.length]? := rot_get l r i hr hi
theorem turned_yes (l : List Int) (r i : Nat) (hr : r < l.length) (hi : i < l.length) : (turned true l r)[i]? = l[l.length - 1 - (i + r) % l.length]? := by
  have h := rot_get l.reverse r i (by rw [List.length_reverse]; exact hr) (by rw [List.length_reverse]; exact hi)
  rw [List.length_reverse] at h
  refine Eq.trans h ?_
  rw [List.getElem?_reverse (Nat.mod_lt _ (by omega))]
theorem turned_length (rev : Bool) (l : List Int) (r : Nat) : (turned rev l r).length = l.length := (turned_perm rev l r).length_eq.symm

/-- One more and one less. -/
theorem add_less {s : DS} (h : s.WF) (t : Int) (h0 : (dAdd s t).1 = 0) : (dLess (dAdd s t).2 t).1 = true ∧ (dLess (dAdd s t).2 t).2.WF ∧ ∀ k, (dLess (dAdd s t).2 t).2.cnt k = s.cnt k := by
  obtain ⟨q1, q2, q3, q4⟩ := add_law h t
  obtain ⟨p1, p2, p3, p4⟩ := less_law q1 t
  refine ⟨p2.2 (by rw [q3, if_pos ⟨rfl, h0⟩]; omega), p1, fun k => ?_⟩
  rw [p3]
  by_cases e : k = t
  · subst e; rw [if_pos rfl, q3, if_pos ⟨rfl, h0⟩]; omega
  · rw [if_neg e, q3, if_neg (fun q => e q.1)]; omega
theorem add_not {s : DS} (h : s.WF) (t : Int) (h0 : (dAdd s t).1 ≠ 0) : (dAdd s t).2.WF ∧ ∀ k, (dAdd s t).2.cnt k = s.cnt k := by
  obtain ⟨q1, q2, q3, q4⟩ := add_law h t
  exact ⟨q1, fun k => by rw [q3, if_neg (fun q => h0 q.2)]; omega⟩
theorem less_add {s : DS} (h : s.WF) (t : Int) (h0 : (dLess s t).1 = true) : (dAdd (dLess s t).2 t).1 = 0 ∧ (dAdd (dLess s t).2 t).2.WF ∧ ∀ k, (dAdd (dLess s t).2 t).2.cnt k = s.cnt k := by
  obtain ⟨p1, p2, p3, p4⟩ := less_law h t
  have hc := p2.1 h0
  obtain ⟨r1, r2⟩ := h.in_rng hc
  have hm := h.max
  rw [if_pos h0] at p4
  obtain ⟨q1, q2, q3, q4⟩ := add_law p1 t
  have e0 := q2.2 ⟨r1, r2, by omega⟩
  refine ⟨e0, q1, fun k => ?_⟩
  rw [q3, p3]
  by_cases e : k = t
  · subst e; rw [if_pos rfl, if_pos ⟨rfl, e0⟩]; omega
  · rw [if_neg e, if_neg (fun q => e q.1)]; omega
theorem less_not {s : DS} (h : s.WF) (t : Int) (h0 : (dLess s t).1 = false) : (dLess s t).2.WF ∧ ∀ k, (dLess s t).2.cnt k = s.cnt k := by
  obtain ⟨p1, p2, p3, p4⟩ := less_law h t
  refine ⟨p1, fun k => ?_⟩
  have hz : s.cnt t = 0 := Classical.byContradiction fun q => by have := p2.2 q; rw [h0] at this; cases this
  rw [p3]
  by_cases e : k = t
  · subst e; rw [if_pos rfl, hz]
  · rw [if_neg e]

/-- Two of them apart, both behind what was there. -/
structure D2 (W : World) (d m : Nat) (s : DS) (e n : Nat) (t : DS) (wr : World) : Prop where
  a1 : DeadAt wr d m s
  a2 : DeadAt wr e n t
  fr : Fr none_ W wr
  lo : W.heap.size ≤ d ∧ W.heap.size ≤ m ∧ W.heap.size ≤ e ∧ W.heap.size ≤ n
  ap : d ≠ e ∧ d ≠ n ∧ m ≠ e ∧ m ≠ n
section
variable {W wr w1 : World} {d m e n : Nat} {s s' t t' : DS}
theorem D2.skip (h : D2 W d m s e n t wr) (g : Fr none_ wr w1) : D2 W d m s e n t w1 := ⟨h.a1.kept0 g, h.a2.kept0 g, h.fr.trans g, h.lo, h.ap⟩
theorem D2.turn1 (h : D2 W d m s e n t wr) (ha : DeadAt w1 d m s') (g : Fr (two d m) wr w1) : D2 W d m s' e n t w1 := by
  have hl := h.lo
  have hp := h.ap
  exact ⟨ha, h.a2.kept g (by unfold two; omega) (by unfold two; omega), h.fr.step g (fun i hi q => by unfold two at q; omega), hl, hp⟩
theorem D2.turn2 (h : D2 W d m s e n t wr) (ha : DeadAt w1 e n t') (g : Fr (two e n) wr w1) : D2 W d m s e n t' w1 := by
  have hl := h.lo
  have hp := h.ap
  exact ⟨h.a1.kept g (by unfold two; omega) (by unfold two; omega), ha, h.fr.step g (fun i hi q => by unfold two at q; omega), hl, hp⟩
end
end Go.Proofs.Ytkfnfflonjfglaa
