/-
  What came in, of layer 9: slices of ints, views by value.
-/
import Derived.Test.YtnnomeichppkpaaArgs
import Derived.Test.YtnnomeichppkpaaVw
namespace Go.Proofs.Ytnnomeichppkpaa
open Go.ChangeShapes Go.WideShapes Go.ChangeAt Go.RowKit Go.Deep Go.Joins
set_option linter.unusedVariables false
set_option linter.unusedSimpArgs false
set_option maxRecDepth 100000

theorem vw_spot {w : World} {ad : Addr} {v : Value} (h : w.cell? (ad.add 0) = some v) : ad.spot = none := by
  obtain ⟨b, o, sp⟩ := ad
  have h : w.cell? ⟨b, o, sp⟩ = some v := h
  simpa using World.cell?_spot h
theorem open_il {H : Type} {enc : TypeId × Value → H} {w : World} {base : Nat} {spare : Nat → Bool} {held : Bool} {fuel : Nat} {a : Option Addr} {len cap : Nat} {x : DataW H × List MemPlace}
    (hf : DataW.trod enc Try.prog w base spare held fuel 22 [.slice a len cap] = some x) : ∃ l : List Int, l.length = len ∧ (∀ x ∈ l, (Lit.int .i64 x).wf = true) ∧ IntsAt w a l := by
  rcases open_ints Try.underlying22 Try.underlying3 (by kernel_rfl) hf with ⟨hcs, _⟩ | ⟨ad, len', cap', zs, hcs, hb, hl, hm, hz, hx, hi, hwf⟩
  · simp only [List.cons.injEq, Value.slice.injEq, and_true] at hcs
    obtain ⟨rfl, rfl, rfl⟩ := hcs
    exact ⟨[], rfl, fun _ h => by simp at h, Or.inl rfl⟩
  · simp only [List.cons.injEq, Value.slice.injEq, and_true] at hcs
    obtain ⟨rfl, rfl, rfl⟩ := hcs
    have hlz : len ≤ zs.length := by rw [hz]; split <;> omega
    refine ⟨zs.take len, by rw [List.length_take]; omega, fun x hx => hwf x (List.mem_of_mem_take hx), ?_⟩
    by_cases h0 : len = 0
    · subst h0; exact Or.inl rfl
    · have c0 := hi 0 (by omega)
      have hsp := vw_spot c0
      obtain ⟨b, o, sp⟩ := ad
      simp only at hsp
      subst hsp
      have hadd : ∀ n, (⟨b, o, none⟩ : Addr).add n = ⟨b, o + n, none⟩ := fun n => Addr.add_lit b o n
      refine Or.inr ⟨b, o, rfl, ?_, fun i x hx j v hv => ?_⟩
      · have := World.block_lt_of_cell? w _ c0
        rw [hadd] at this; exact this
      · have hj : j = 0 := by have := (List.getElem?_eq_some_iff.1 hv).1; simp at this; omega
        subst hj
        have hv' : v = encI x := by simpa using hv.symm
        subst hv'
        rw [Nat.mul_one, Nat.add_zero]
        rw [List.getElem?_take] at hx
        split at hx
        · have q := hi i ((List.getElem?_eq_some_iff.1 hx).1)
          rw [hadd, List.getD_eq_getElem?_getD, hx] at q; exact q
        · cases hx
/-- A slice of ints that came in. -/
structure IntsIn (w : World) (a : Option Addr) (l : List Int) : Prop where
  wf : ∀ x ∈ l, (Lit.int .i64 x).wf = true
  at_ : IntsAt w a l
theorem open_ints_in {H : Type} {enc : TypeId × Value → H} {w : World} {base : Nat} {spare : Nat → Bool} {held : Bool} {a : Option Addr} {len cap : Nat} {d : DataW H} {ps : List MemPlace}
    (h : DataW.Trod enc Try.prog w base spare held 22 (.slice a len cap) d ps) (hw : ∀ x ∈ d.weights Try.prog 22, x ≤ reachBytes) : ∃ l : List Int, l.length = len ∧ IntsIn w a l := by
  obtain ⟨fuel, hf⟩ := h
  obtain ⟨l, h1, h2, h3⟩ := open_il hf
  exact ⟨l, h1, h2, h3⟩
/-- A view that came in. -/
structure VwIn where
  own : Int
  high : Int
  a : Option Addr
  n : Nat
  c : Nat
  l : List Int
structure VwIn.Ok (x : VwIn) (w : World) : Prop where
  own : (Lit.int .i64 x.own).wf = true
  high : (Lit.int .i64 x.high).wf = true
  len : x.n = x.l.length
  at_ : IntsAt w x.a x.l
def VwIn.val (x : VwIn) : Value := .agg #[.int .i64 x.own, .int .i64 x.high, .slice x.a x.n x.c]
theorem open_view {H : Type} {enc : TypeId × Value → H} {w : World} {base : Nat} {spare : Nat → Bool} {held : Bool} {v : Value} {d : DataW H} {ps : List MemPlace} {W : World} {r : Reach} {b0 : Nat}
    (hok : Value.okWide Try.prog W r b0 25 v) (h : DataW.Trod enc Try.prog w base spare held 25 v d ps) (hw : ∀ x ∈ d.weights Try.prog 25, x ≤ reachBytes) :
    ∃ x : VwIn, x.Ok w ∧ v = x.val := by
  obtain ⟨cs, rfl, hcs⟩ := okWide_struct Try.underlying25 hok
  obtain ⟨fuel, hf⟩ := h
  have hf : DataW.trod enc Try.prog w base spare held fuel 25 cs.toList = some (d, ps) := hf
  obtain ⟨ys, n', hn', hy, hcl, hyl, hg⟩ := DataW.trod_struct Try.underlying25 hf
  have h3 : cs.size = 3 := by rw [hcs]; kernel_rfl
  obtain ⟨c0, c1, c2, rfl⟩ : ∃ c0 c1 c2, cs = #[c0, c1, c2] := by
    obtain ⟨l⟩ := cs
    match l, h3 with
    | [c0, c1, c2], _ => exact ⟨c0, c1, c2, rfl⟩
  have hyl : ys.length = 3 := hyl
  have hys : ∀ j (hj : j < 3), ys[j]? = some (ys[j]'(by omega)) := fun j hj => List.getElem?_eq_getElem (by omega)
  have g0 := hg 0 _ rfl
  have g1 := hg 1 _ rfl
  have g2 := hg 2 _ rfl
  rw [hys 0 (by omega)] at g0
  rw [hys 1 (by omega)] at g1
  rw [hys 2 (by omega)] at g2
  change DataW.trod enc Try.prog w base spare held n' 3 [c0] = some _ at g0
  change DataW.trod enc Try.prog w base spare held n' 3 [c1] = some _ at g1
  change DataW.trod enc Try.prog w base spare held n' 22 [c2] = some _ at g2
  obtain ⟨m0, e0, _, w0⟩ := DataW.trod_int Try.underlying3 g0
  obtain ⟨m1, e1, _, w1⟩ := DataW.trod_int Try.underlying3 g1
  obtain rfl : c0 = .int .i64 m0 := by simpa using e0
  obtain rfl : c1 = .int .i64 m1 := by simpa using e1
  obtain ⟨a, n, c, rfl⟩ : ∃ a n c, c2 = .slice a n c := by
    rcases open_slice Try.underlying22 g2 with ⟨hcs, _⟩ | ⟨ad, len', cap', m, n, D, Pl, hcs, _⟩
    · exact ⟨_, _, _, by simpa using hcs⟩
    · exact ⟨_, _, _, by simpa using hcs⟩
  obtain ⟨l, q1, q2, q3⟩ := open_il g2
  exact ⟨⟨m0, m1, a, n, c, l⟩, ⟨w0, w1, q1.symm, q3⟩, rfl⟩
end Go.Proofs.Ytnnomeichppkpaa
