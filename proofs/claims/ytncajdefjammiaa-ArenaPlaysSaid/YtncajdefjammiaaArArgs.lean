/-
  The steps of layer 4's statements, as they came in.
-/
import Derived.Test.YtncajdefjammiaaArgs
import Derived.Test.YtncajdefjammiaaArLaw
namespace Go.Proofs.Ytncajdefjammiaa
open Go.ChangeShapes Go.WideShapes Go.ChangeAt Go.RowKit Go.Deep Go.Joins
set_option linter.unusedVariables false
set_option linter.unusedSimpArgs false
set_option maxRecDepth 100000

theorem reach_is : reachBytes = 140737488351232 := rfl

theorem spot_none {w : World} {ad : Addr} {v : Value} (h : w.cell? (ad.add 0) = some v) : ad.spot = none := by
  obtain ⟨b, o, sp⟩ := ad
  have h : w.cell? ⟨b, o, sp⟩ = some v := h
  simpa using World.cell?_spot h

theorem wf_u64 {n : Int} (h : (Lit.int .u64 n).wf = true) : ∃ m : Nat, n = (m : Int) ∧ m < 18446744073709551616 := by
  unfold Lit.wf at h
  simp only [Bool.and_eq_true, decide_eq_true_eq] at h
  have h1 : (0 : Int) ≤ n := h.1
  have h2 : n ≤ 18446744073709551615 := h.2
  exact ⟨n.toNat, by omega, by omega⟩

theorem open_steps {H : Type} {enc : TypeId × Value → H} {w : World} {base : Nat} {spare : Nat → Bool} {held : Bool} {a : Option Addr} {len cap : Nat} {d : DataW H} {ps : List MemPlace}
    (h : DataW.Trod enc Try.prog w base spare held 22 (.slice a len cap) d ps) (hw : ∀ x ∈ d.weights Try.prog 22, x ≤ reachBytes) : ∃ l : List StepV, l.length = len ∧ StepsAt w a l := by
  obtain ⟨hs, hlen⟩ := open_structs Try.underlying22 Try.underlying35 (by kernel_rfl) (by kernel_rfl) (of_decide_eq_true (by kernel_rfl)) h hw
  cases a with
  | none =>
    have := hs.none rfl
    subst this
    exact ⟨[], rfl, fun _ h => by simp at h, by simp, Or.inl rfl⟩
  | some ad =>
    have key : ∀ i, i < len → ∃ x : StepV, x.Ok ∧ w.cell? (ad.add (i * 4 + 0)) = some (.int .u8 x.what) ∧ w.cell? (ad.add (i * 4 + 1)) = some (.int .i64 x.n) ∧ w.cell? (ad.add (i * 4 + 2)) = some (.int .u64 x.raw) ∧ w.cell? (ad.add (i * 4 + 3)) = some (.string x.s) := by
      intro i hi
      obtain ⟨v0, c0, p0⟩ := hs.cells ad rfl i hi 0 _ rfl
      obtain ⟨v1, c1, p1⟩ := hs.cells ad rfl i hi 1 _ rfl
      obtain ⟨v2, c2, p2⟩ := hs.cells ad rfl i hi 2 _ rfl
      obtain ⟨v3, c3, p3⟩ := hs.cells ad rfl i hi 3 _ rfl
      obtain ⟨n0, rfl, w0⟩ := p0.int .u8 Try.underlying5
      obtain ⟨n1, rfl, w1⟩ := p1.int .i64 Try.underlying3
      obtain ⟨n2, rfl, w2⟩ := p2.int .u64 Try.underlying31
      obtain ⟨s, rfl, hs⟩ := p3.str Try.underlying9
      obtain ⟨m0, rfl, h0⟩ := wf_nat w0 (Or.inl ⟨rfl, rfl⟩)
      obtain ⟨m2, rfl, h2⟩ := wf_u64 w2
      exact ⟨⟨m0, n1, m2, s⟩, ⟨h0, w1, h2, hs⟩, c0, c1, c2, c3⟩
    obtain ⟨l, hl, hp⟩ := list_choose len key
    refine ⟨l, hl, fun x hx => ?_, by rw [hl]; exact hlen, ?_⟩
    · obtain ⟨i, hi, rfl⟩ := List.getElem_of_mem hx
      exact (hp i _ (List.getElem?_eq_getElem hi)).1
    · cases hl0 : l with
      | nil => exact Or.inl rfl
      | cons x r =>
        have h0 := hp 0 x (by rw [hl0]; rfl)
        have hsp := spot_none h0.2.1
        obtain ⟨b, o, sp⟩ := ad
        simp only at hsp
        subst hsp
        have hadd : ∀ n, (⟨b, o, none⟩ : Addr).add n = ⟨b, o + n, none⟩ := fun n => Addr.add_lit b o n
        refine Or.inr ⟨b, o, rfl, ?_, fun i x hx => ?_⟩
        · have := World.block_lt_of_cell? w _ h0.2.1
          rw [hadd] at this; exact this
        · have q := hp i x (by rw [hl0]; exact hx)
          simp only [hadd, Nat.add_zero] at q
          exact ⟨q.2.1, by rw [Nat.add_assoc]; exact q.2.2.1, by rw [Nat.add_assoc]; exact q.2.2.2.1, by rw [Nat.add_assoc]; exact q.2.2.2.2⟩

end Go.Proofs.Ytncajdefjammiaa
