/-
  Arguments that came in, opened to cells: a slice of structs of plain fields (integers, strings, bools); such a struct by value. Nothing of the program in it.
-/
import Derived.Test.YtnnomeichppkpaaSlice
import Derived.ProofKit
import Derived.OpenShut
import Derived.ShutString
import Derived.ChangeOld
import Derived.SizedLaws
import Derived.Lib.SmallJoins
import Derived.Deep.Slices
import Derived.Deep.Fields
import Derived.ChangeSame
namespace Go.Proofs.Ytnnomeichppkpaa
open Go.ChangeShapes Go.WideShapes Go.ChangeAt Go.RowKit Go.Deep Go.Joins
set_option linter.unusedVariables false
set_option linter.unusedSimpArgs false
set_option maxRecDepth 100000

/-- A value of a plain type: an integer within its kind, a string within the form's reach, a bool. -/
structure Plain (P : Program) (t : TypeId) (v : Value) : Prop where
  int : ∀ q, P.underlying t = some (.int q) → ∃ n, v = .int q n ∧ (Lit.int q n).wf = true
  str : P.underlying t = some .string → ∃ s : ByteArray, v = .string s ∧ s.size ≤ reachBytes
  bool : P.underlying t = some .bool → ∃ b, v = .bool b

section
variable {H : Type} {enc : TypeId × Value → H} {P : Program} {w : World} {base : Nat} {spare : Nat → Bool} {held : Bool}
theorem plain_of {t : TypeId} {v : Value} {n : Nat} {y : DataW H × List MemPlace} (h : DataW.trod enc P w base spare held n t [v] = some y) (hw : ∀ x ∈ y.1.weights P t, x ≤ reachBytes) : Plain P t v := by
  refine ⟨fun q hq => ?_, fun hs => ?_, fun hb => ?_⟩
  · obtain ⟨m, e, _, hm⟩ := DataW.trod_int hq h
    exact ⟨m, by simpa using e, hm⟩
  · obtain ⟨s, e, hy, _⟩ := DataW.trod_string hs h
    refine ⟨s, by simpa using e, ?_⟩
    have := hw s.data.toList.length (by rw [hy]; simp [DataW.weights])
    simpa using this
  · obtain ⟨b, e, _⟩ := DataW.trod_bool hb h
    exact ⟨b, by simpa using e⟩

theorem weights_all {e : TypeId} : ∀ (ds : List (DataW H)) (d : DataW H), d ∈ ds → ∀ x ∈ d.weights P e, x ∈ DataW.weightsAll P e ds
  | [], _, h, _, _ => by simp at h
  | d0 :: r, d, h, x, hx => by
    simp only [DataW.weightsAll, List.mem_append]
    rcases List.mem_cons.1 h with rfl | h
    · exact Or.inl hx
    · exact Or.inr (weights_all r d h x hx)

/-- A slice of structs that came in. -/
structure StructsAt (P : Program) (w : World) (a : Option Addr) (len : Nat) (fs : Array Field) : Prop where
  none : a = none → len = 0
  cells : ∀ ad, a = some ad → ∀ i, i < len → ∀ (j : Nat) (f : Field), fs[j]? = some f → ∃ v, w.cell? (ad.add (i * fs.size + j)) = some v ∧ Plain P f.type v

theorem open_structs {t e : TypeId} {fs : Array Field} {a : Option Addr} {len cap : Nat} {d : DataW H} {ps : List MemPlace} (ht : P.underlying t = some (.slice e)) (he : P.underlying e = some (.struct fs))
    (hone : oneCellFields P fs = true) (hC : P.cellsOf e = fs.size) (hb : 0 < P.bytesOf e) (h : DataW.Trod enc P w base spare held t (.slice a len cap) d ps) (hw : ∀ x ∈ d.weights P t, x ≤ reachBytes) :
    StructsAt P w a len fs ∧ len ≤ reachBytes := by
  obtain ⟨fuel, hf⟩ := h
  have hf : DataW.trod enc P w base spare held fuel t [.slice a len cap] = some (d, ps) := hf
  rcases open_slice ht hf with ⟨hcs, _⟩ | ⟨ad, len', cap', m, n, D, Pl, hcs, hbb, hl, hm, hmm, hx, hi⟩
  · simp only [List.cons.injEq, Value.slice.injEq, and_true] at hcs
    obtain ⟨rfl, rfl, rfl⟩ := hcs
    exact ⟨⟨fun _ => rfl, fun _ h => by cases h⟩, Nat.zero_le _⟩
  · simp only [List.cons.injEq, Value.slice.injEq, and_true] at hcs
    obtain ⟨rfl, rfl, rfl⟩ := hcs
    simp only [Prod.mk.injEq] at hx
    obtain ⟨rfl, _⟩ := hx
    have hlm : len ≤ m := by rw [hmm]; split <;> omega
    have hlen : len ≤ reachBytes := by
      have := hw ((((List.range len).map D).length + ((List.range (m - len)).map fun j => D (len + j)).length) * P.bytesOf e) (by simp [DataW.weights, ht])
      simp only [List.length_map, List.length_range] at this
      have h2 : len * 1 ≤ (len + (m - len)) * P.bytesOf e := Nat.mul_le_mul (by omega) hb
      omega
    refine ⟨⟨(fun h => by cases h), fun ad' had i him j f hj => ?_⟩, hlen⟩
    cases had
    obtain ⟨cs', hc, ht'⟩ := hi i (by omega)
    rw [hC] at hc
    obtain ⟨ys, n', hn', hy, hcl, hyl, hg⟩ := DataW.trod_struct he ht'
    obtain ⟨_, hcl', hat⟩ := World.cells?_some hc
    simp only [Prod.mk.injEq] at hy
    obtain ⟨ho, hk⟩ := hone_of hone j f hj
    have hjl : j < fs.size := (Array.getElem?_eq_some_iff.1 hj).1
    have hcell := hat j hjl
    have h1 := hg j f hj
    rw [ho, hk] at h1
    have hone' : (cs'.drop j).take 1 = [cs'[j]'(by omega)] := by
      rw [List.drop_eq_getElem_cons (by omega)]
      rfl
    rw [hone'] at h1
    have hys : ys[j]? = some (ys[j]'(by omega)) := List.getElem?_eq_getElem (by omega)
    refine ⟨cs'[j]'(by omega), ?_, plain_of (h1.trans hys) ?_⟩
    · rw [← Go.Deep.add_add, ← hC, hC, hcell, List.getElem?_eq_getElem (by omega)]
    · intro x hx
      refine hw x ?_
      have hD : x ∈ (D i).weights P e := by
        rw [hy.1]
        simp only [DataW.weights, he]
        refine DataW.weights_mem_each (j := j) (t := f.type) (d := (ys[j]'(by omega)).1) ?_ ?_ x hx
        · rw [List.getElem?_map, Array.getElem?_toList, hj]; rfl
        · rw [List.getElem?_map, hys]; rfl
      simp only [DataW.weights, ht, List.mem_cons, List.mem_append]
      right; left
      exact weights_all _ (D i) (List.mem_map.2 ⟨i, List.mem_range.2 him, rfl⟩) x hD
end

theorem list_choose {α : Type} {p : Nat → α → Prop} : ∀ n, (∀ i, i < n → ∃ x, p i x) → ∃ l : List α, l.length = n ∧ ∀ i x, l[i]? = some x → p i x
  | 0, _ => ⟨[], rfl, fun i x h => by simp at h⟩
  | n + 1, h => by
    obtain ⟨l, hl, hp⟩ := list_choose n (fun i hi => h i (by omega))
    obtain ⟨x, hx⟩ := h n (by omega)
    refine ⟨l ++ [x], by simp [hl], fun i y hy => ?_⟩
    rcases Nat.lt_or_ge i l.length with q | q
    · rw [List.getElem?_append_left q] at hy; exact hp i y hy
    · have hi : i < (l ++ [x]).length := (List.getElem?_eq_some_iff.1 hy).1
      simp at hi
      have e : i = l.length := by omega
      subst e
      simp at hy; subst hy; rw [hl]; exact hx

theorem wf_nat {q : IntKind} {n : Int} {b : Nat} (h : (Lit.int q n).wf = true) (hq : q = .u8 ∧ b = 256 ∨ q = .u16 ∧ b = 65536) : ∃ m : Nat, n = (m : Int) ∧ m < b := by
  rcases hq with ⟨rfl, rfl⟩ | ⟨rfl, rfl⟩
  · have := bounds_u8 h; exact ⟨n.toNat, by omega, by omega⟩
  · have := bounds_u16 h; exact ⟨n.toNat, by omega, by omega⟩
end Go.Proofs.Ytnnomeichppkpaa
