/-
  Package undo's statements: a config, versions, as they came in.
  Package undo's statements: s[:j] as a step of a region that draws; a config's limit.
-/
import Derived.Test.YtckkccnebjacdaaGreatUnLaw
import Derived.Test.YtckkccnebjacdaaGreatUnStack
import Derived.Deep.RegionHeld3
import Derived.Deep.DeepCutAuto
namespace Go.Proofs.YtckkccnebjacdaaGreat
open Go.ChangeShapes Go.WideShapes Go.ChangeAt Go.RowKit Go.Deep Go.Joins
set_option linter.unusedVariables false
set_option linter.unusedSimpArgs false
set_option maxRecDepth 100000

theorem wf_i64 {n : Int} (h : (Lit.int .i64 n).wf = true) : -9223372036854775808 ≤ n ∧ n < 9223372036854775808 := by
  unfold Lit.wf at h
  simp only [Bool.and_eq_true, decide_eq_true_eq] at h
  have h1 : (-9223372036854775808 : Int) ≤ n := h.1
  have h2 : n ≤ (9223372036854775807 : Int) := h.2
  exact ⟨h1, by omega⟩
theorem reach_is : reachBytes = 140737488351232 := rfl
theorem opens_cfg : Opens Tryz.prog 23 [3, 3, 3, 3, 3, 3, 3, 3] := by
  refine opens_struct Tryz.underlying23 [[3], [3], [3], [3], [3], [3], [3], [3]] rfl (by kernel_rfl) ?_
  intro i f ls h1 h2
  have hi : i < 8 := (List.getElem?_eq_some_iff.1 h2).1
  rcases (show i = 0 ∨ i = 1 ∨ i = 2 ∨ i = 3 ∨ i = 4 ∨ i = 5 ∨ i = 6 ∨ i = 7 by omega) with rfl | rfl | rfl | rfl | rfl | rfl | rfl | rfl <;>
    (obtain rfl : _ = f := by simpa using h1
     obtain rfl : _ = ls := by simpa using h2
     exact ⟨opens_plain (by kernel_rfl), rfl, by kernel_rfl⟩)
theorem opens_ver : Opens Tryz.prog 40 [3, 3, 4, 9] := by
  refine opens_struct Tryz.underlying40 [[3], [3], [4], [9]] rfl (by kernel_rfl) ?_
  intro i f ls h1 h2
  have hi : i < 4 := (List.getElem?_eq_some_iff.1 h2).1
  rcases (show i = 0 ∨ i = 1 ∨ i = 2 ∨ i = 3 by omega) with rfl | rfl | rfl | rfl <;>
    (obtain rfl : _ = f := by simpa using h1
     obtain rfl : _ = ls := by simpa using h2
     exact ⟨opens_plain (by kernel_rfl), rfl, by kernel_rfl⟩)
theorem agg_eq {cs : Array Value} {l : List Value} (hs : cs.size = l.length) (h : ∀ (i : Nat) (u : Value), l[i]? = some u → cs[i]? = some u) : cs = l.toArray := by
  apply Array.ext'
  apply List.ext_getElem?
  intro i
  rcases Nat.lt_or_ge i l.length with q | q
  · have := h i _ (List.getElem?_eq_getElem q)
    rw [Array.getElem?_toList, this]
    simp [q]
  · rw [List.getElem?_eq_none (by simpa [hs] using q), List.getElem?_eq_none (by simpa using q)]
def CfgV.In (c : CfgV) : Prop := -9223372036854775808 ≤ c.tasks
theorem open_cfg {H : Type} {enc : TypeId × Value → H} {w : World} {base : Nat} {spare : Nat → Bool} {held : Bool} {v : Value} {d : DataW H} {ps : List MemPlace} {W : World} {r : Reach} {b0 : Nat}
    (hok : Value.okWide Tryz.prog W r b0 23 v) (h : DataW.Trod enc Tryz.prog w base spare held 23 v d ps) (hw : ∀ x ∈ d.weights Tryz.prog 23, x ≤ reachBytes) : ∃ c : CfgV, c.In ∧ v = .agg c.cells := by
  obtain ⟨cs, rfl, hs, hc⟩ := open_val Tryz.underlying23 opens_cfg hok h hw
  have key : ∀ i, i < 8 → ∃ n : Int, cs[i]? = some (.int .i64 n) ∧ -9223372036854775808 ≤ n := fun i hi => by
    obtain ⟨u, hu, hp⟩ := hc i 3 (by rcases (show i = 0 ∨ i = 1 ∨ i = 2 ∨ i = 3 ∨ i = 4 ∨ i = 5 ∨ i = 6 ∨ i = 7 by omega) with rfl | rfl | rfl | rfl | rfl | rfl | rfl | rfl <;> rfl)
    obtain ⟨n, rfl, hn⟩ := hp.int .i64 Tryz.underlying3
    exact ⟨n, hu, (wf_i64 hn).1⟩
  obtain ⟨n0, h0, l0⟩ := key 0 (by omega)
  obtain ⟨n1, h1, _⟩ := key 1 (by omega)
  obtain ⟨n2, h2, _⟩ := key 2 (by omega)
  obtain ⟨n3, h3, _⟩ := key 3 (by omega)
  obtain ⟨n4, h4, _⟩ := key 4 (by omega)
  obtain ⟨n5, h5, _⟩ := key 5 (by omega)
  obtain ⟨n6, h6, _⟩ := key 6 (by omega)
  obtain ⟨n7, h7, _⟩ := key 7 (by omega)
  refine ⟨⟨n0, n1, n2, n3, n4, n5, n6, n7⟩, l0, congrArg Value.agg ?_⟩
  refine agg_eq (l := [.int .i64 n0, .int .i64 n1, .int .i64 n2, .int .i64 n3, .int .i64 n4, .int .i64 n5, .int .i64 n6, .int .i64 n7]) hs (fun i u hu => ?_)
  have hi : i < 8 := (List.getElem?_eq_some_iff.1 hu).1
  rcases (show i = 0 ∨ i = 1 ∨ i = 2 ∨ i = 3 ∨ i = 4 ∨ i = 5 ∨ i = 6 ∨ i = 7 by omega) with rfl | rfl | rfl | rfl | rfl | rfl | rfl | rfl
  · rw [h0]; exact hu
  · rw [h1]; exact hu
  · rw [h2]; exact hu
  · rw [h3]; exact hu
  · rw [h4]; exact hu
  · rw [h5]; exact hu
  · rw [h6]; exact hu
  · rw [h7]; exact hu
theorem open_ver {H : Type} {enc : TypeId × Value → H} {w : World} {base : Nat} {spare : Nat → Bool} {held : Bool} {v : Value} {d : DataW H} {ps : List MemPlace} {W : World} {r : Reach} {b0 : Nat}
    (hok : Value.okWide Tryz.prog W r b0 40 v) (h : DataW.Trod enc Tryz.prog w base spare held 40 v d ps) (hw : ∀ x ∈ d.weights Tryz.prog 40, x ≤ reachBytes) : ∃ u : VerV, u.In ∧ v = .agg u.cells := by
  obtain ⟨cs, rfl, hs, hc⟩ := open_val Tryz.underlying40 opens_ver hok h hw
  obtain ⟨u0, h0, p0⟩ := hc 0 3 rfl
  obtain ⟨u1, h1, p1⟩ := hc 1 3 rfl
  obtain ⟨u2, h2, p2⟩ := hc 2 4 rfl
  obtain ⟨u3, h3, p3⟩ := hc 3 9 rfl
  obtain ⟨n0, rfl, w0⟩ := p0.int .i64 Tryz.underlying3
  obtain ⟨n1, rfl, w1⟩ := p1.int .i64 Tryz.underlying3
  obtain ⟨b, rfl⟩ := p2.bool Tryz.underlying4
  obtain ⟨s, rfl, hs3⟩ := p3.str Tryz.underlying9
  refine ⟨⟨n0, n1, b, s⟩, ⟨(wf_i64 w0).2, by rw [reach_is] at hs3; exact hs3⟩, congrArg Value.agg ?_⟩
  refine agg_eq (l := [.int .i64 n0, .int .i64 n1, .bool b, .string s]) hs (fun i u hu => ?_)
  have hi : i < 4 := (List.getElem?_eq_some_iff.1 hu).1
  rcases (show i = 0 ∨ i = 1 ∨ i = 2 ∨ i = 3 by omega) with rfl | rfl | rfl | rfl
  · rw [h0]; exact hu
  · rw [h1]; exact hu
  · rw [h2]; exact hu
  · rw [h3]; exact hu
/-- A slice of structs that came in, as a list: each element's cells in one function. -/
theorem spot_none {w : World} {ad : Addr} {v : Value} (h : w.cell? (ad.add 0) = some v) : ad.spot = none := by
  obtain ⟨b, o, sp⟩ := ad
  have h : w.cell? ⟨b, o, sp⟩ = some v := h
  simpa using World.cell?_spot h
theorem ls_of {α : Type} {w : World} {a : Option Addr} {len sz : Nat} {cells : α → List Value} {p : α → Prop} (hsz : ∀ x, (cells x).length = sz) (hpos : 0 < sz) (hn : a = none → len = 0)
    (key : ∀ ad, a = some ad → ∀ i, i < len → ∃ x : α, p x ∧ ∀ j v, (cells x)[j]? = some v → w.cell? (ad.add (i * sz + j)) = some v) : ∃ l : List α, l.length = len ∧ (∀ x ∈ l, p x) ∧ LsAt w a sz cells l := by
  cases a with
  | none => exact ⟨[], (hn rfl).symm, by simp, Or.inl rfl⟩
  | some ad =>
    obtain ⟨l, hl, hp⟩ := list_choose len (key ad rfl)
    refine ⟨l, hl, fun x hx => ?_, ?_⟩
    · obtain ⟨i, hi, rfl⟩ := List.getElem_of_mem hx
      exact (hp i _ (List.getElem?_eq_getElem hi)).1
    · cases hl0 : l with
      | nil => exact Or.inl rfl
      | cons x r =>
        have h0 := hp 0 x (by rw [hl0]; rfl)
        have hx0 : (cells x)[0]? = some ((cells x)[0]'(by rw [hsz]; exact hpos)) := List.getElem?_eq_getElem _
        have hc0 := h0.2 0 _ hx0
        rw [Nat.zero_mul, Nat.zero_add] at hc0
        have hsp := spot_none hc0
        obtain ⟨b, o, sp⟩ := ad
        simp only at hsp
        subst hsp
        have hadd : ∀ n, (⟨b, o, none⟩ : Addr).add n = ⟨b, o + n, none⟩ := fun n => Addr.add_lit b o n
        refine Or.inr ⟨b, o, rfl, ?_, fun i y hy j v hv => ?_⟩
        · have := World.block_lt_of_cell? w _ hc0
          rw [hadd] at this; exact this
        · have q := (hp i y (by rw [hl0]; exact hy)).2 j v hv
          rw [hadd, ← Nat.add_assoc] at q; exact q
theorem open_vers {H : Type} {enc : TypeId × Value → H} {w : World} {base : Nat} {spare : Nat → Bool} {held : Bool} {a : Option Addr} {len cap : Nat} {d : DataW H} {ps : List MemPlace}
    (h : DataW.Trod enc Tryz.prog w base spare held 24 (.slice a len cap) d ps) (hw : ∀ x ∈ d.weights Tryz.prog 24, x ≤ reachBytes) : ∃ l : List VerV, l.length = len ∧ VersIn w a l := by
  obtain ⟨hs, hlen⟩ := open_leaves Tryz.underlying24 opens_ver (by kernel_rfl) (of_decide_eq_true (by kernel_rfl)) h hw
  obtain ⟨l, hl, hp, hat⟩ := ls_of (α := VerV) (cells := verL) (p := VerV.In) (sz := 4) (fun _ => rfl) (by omega) hs.none (fun ad ha i hi => by
    obtain ⟨u0, h0, p0⟩ := hs.cells ad ha i hi 0 3 rfl
    obtain ⟨u1, h1, p1⟩ := hs.cells ad ha i hi 1 3 rfl
    obtain ⟨u2, h2, p2⟩ := hs.cells ad ha i hi 2 4 rfl
    obtain ⟨u3, h3, p3⟩ := hs.cells ad ha i hi 3 9 rfl
    obtain ⟨n0, rfl, w0⟩ := p0.int .i64 Tryz.underlying3
    obtain ⟨n1, rfl, w1⟩ := p1.int .i64 Tryz.underlying3
    obtain ⟨b, rfl⟩ := p2.bool Tryz.underlying4
    obtain ⟨s, rfl, hs3⟩ := p3.str Tryz.underlying9
    refine ⟨⟨n0, n1, b, s⟩, ⟨(wf_i64 w0).2, by rw [reach_is] at hs3; exact hs3⟩, fun j v hv => ?_⟩
    have hj : j < 4 := (List.getElem?_eq_some_iff.1 hv).1
    rcases (show j = 0 ∨ j = 1 ∨ j = 2 ∨ j = 3 by omega) with rfl | rfl | rfl | rfl
    · cases hv; exact h0
    · cases hv; exact h1
    · cases hv; exact h2
    · cases hv; exact h3)
  exact ⟨l, hl, ⟨hp, by rw [hl]; rw [reach_is] at hlen; exact hlen, hat⟩⟩
end Go.Proofs.YtckkccnebjacdaaGreat
namespace Go.Proofs.YtckkccnebjacdaaGreat
open Go.RowKit
set_option linter.unusedVariables false
set_option linter.unusedSimpArgs false
set_option maxRecDepth 100000

section
variable {P : Program} {w : World} {ops : Array Oper} {rest : List Oper} {o : Oper} {a : Act} {Q : Exit → Act → World → Prop}
/-- s[:j], as a step of a region that draws (guarded or not). -/
theorem stepSliceHw {K : Act → World → Prop} {E : Prop} (hw : Region.wanted o (yielded ops a.tmps) = true) (x hi : Operand) (t : TypeId) (hop : o.op = Op.slice t x none (some hi) none) (e : TypeId) (size : Nat) (ht : P.underlying t = some (.slice e)) (hs : (P.info? e).map (·.size) = some size)
    {sa : Option Addr} {n c j : Nat} {kl : IntKind} (hx : a.eval x = .slice sa n c) (hhi : a.eval hi = .int kl (j : Int)) (hj : j ≤ c)
    (hK : K (a.put o.dst (.slice sa j c)) w) : if Region.wanted o (yielded ops a.tmps) = true then Oper.wp P o a w K Q else E := by
  rw [if_pos hw]
  obtain ⟨inf, hinf, hsz⟩ := Option.map_eq_some_iff.1 hs
  have he : P.elem t = e := by simp [Program.elem, ht]
  have hrun : (Instr.sliceAt t (.slice sa n c) none (some (.int kl (j : Int))) none).run P w = .ok (.slice sa j c) w := by
    rw [run_sliceAt_slice w t _ _ _ _ (by rw [ht, he]), run_slice_h w t sa n c (by rw [ht, he]) kl (j : Int) (by omega) (by omega), he]
    have hid : sa.map (fun x : Addr => x.add 0) = sa := by cases sa <;> simp [Addr.add]
    simp [sizeOf, typeInfo, hinf, hsz, sliced, hid]
  unfold Oper.wp
  simp only [execOp, hop, hx, hhi, Option.map_some, Option.map_none]
  simp [hrun, Result.andThen]
  exact hK
end
theorem may_vl {c : CfgV} (hm : c.may = true) : ∃ vl : Nat, c.valLen = vl ∧ vl ≤ 256 := by
  have hok : c.Ok := @of_decide_eq_true _ (Classical.propDecidable _) hm
  have h6 : 0 ≤ c.valLen ∧ c.valLen ≤ 256 := hok 6 (by omega)
  exact ⟨c.valLen.toNat, by omega, by omega⟩
end Go.Proofs.YtckkccnebjacdaaGreat
