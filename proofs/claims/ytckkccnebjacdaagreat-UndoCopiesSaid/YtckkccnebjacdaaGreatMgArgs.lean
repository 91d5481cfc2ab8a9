/-
  Arguments that came in, opened to cells: a slice of structs of plain fields (integers, strings, bools); such a struct by value. Nothing of the program in it.
  Arguments that came in, opened to cells: structs within structs ('Opens'), by value and in slices. Nothing of the program in it.
-/
import Derived.Test.YtckkccnebjacdaaGreatMgSlice
import Derived.ProofKit
import Derived.OpenShut
import Derived.ShutString
import Derived.ChangeOld
import Derived.SizedLaws
import Derived.Lib.SmallJoins
import Derived.Deep.Slices
import Derived.Deep.Fields
import Derived.ChangeSame
namespace Go.Proofs.YtckkccnebjacdaaGreat
open Go.ChangeShapes Go.WideShapes Go.ChangeAt Go.RowKit Go.Deep Go.Joins
set_option linter.unusedVariables false
set_option linter.unusedSimpArgs false
set_option maxRecDepth 100000

/-- A value of a plain type: an integer within its kind, a string within the form's reach, a bool. -/
structure Plain (P : Program) (t : TypeId) (v : Value) : Prop where
  int : ∀ q, P.underlying t = some (.int q) → ∃ n, v = .int q n ∧ (Lit.int q n).wf = true
  str : P.underlying t = some .string → ∃ s : ByteArray, v = .string s ∧ s.size ≤ reachBytes
  bool : P.underlying t = some .bool → ∃ b, v = .bool b

section
variable {H : Type} {enc : TypeId × Value → H} {P : Program} {w : World} {base : Nat} {spare : Nat → Bool} {held : Bool}
theorem plain_of {t : TypeId} {v : Value} {n : Nat} {y : DataW H × List MemPlace} (h : DataW.trod enc P w base spare held n t [v] = some y) (hw : ∀ x ∈ y.1.weights P t, x ≤ reachBytes) : Plain P t v := by
  refine ⟨fun q hq => ?_, fun hs => ?_, fun hb => ?_⟩
  · obtain ⟨m, e, _, hm⟩ := DataW.trod_int hq h
    exact ⟨m, by simpa using e, hm⟩
  · obtain ⟨s, e, hy, _⟩ := DataW.trod_string hs h
    refine ⟨s, by simpa using e, ?_⟩
    have := hw s.data.toList.length (by rw [hy]; simp [DataW.weights])
    simpa using this
  · obtain ⟨b, e, _⟩ := DataW.trod_bool hb h
    exact ⟨b, by simpa using e⟩

theorem weights_all {e : TypeId} : ∀ (ds : List (DataW H)) (d : DataW H), d ∈ ds → ∀ x ∈ d.weights P e, x ∈ DataW.weightsAll P e ds
  | [], _, h, _, _ => by simp at h
  | d0 :: r, d, h, x, hx => by
    simp only [DataW.weightsAll, List.mem_append]
    rcases List.mem_cons.1 h with rfl | h
    · exact Or.inl hx
    · exact Or.inr (weights_all r d h x hx)

/-- A slice of structs that came in. -/
structure StructsAt (P : Program) (w : World) (a : Option Addr) (len : Nat) (fs : Array Field) : Prop where
  none : a = none → len = 0
  cells : ∀ ad, a = some ad → ∀ i, i < len → ∀ (j : Nat) (f : Field), fs[j]? = some f → ∃ v, w.cell? (ad.add (i * fs.size + j)) = some v ∧ Plain P f.type v

theorem open_structs {t e : TypeId} {fs : Array Field} {a : Option Addr} {len cap : Nat} {d : DataW H} {ps : List MemPlace} (ht : P.underlying t = some (.slice e)) (he : P.underlying e = some (.struct fs))
    (hone : oneCellFields P fs = true) (hC : P.cellsOf e = fs.size) (hb : 0 < P.bytesOf e) (h : DataW.Trod enc P w base spare held t (.slice a len cap) d ps) (hw : ∀ x ∈ d.weights P t, x ≤ reachBytes) :
    StructsAt P w a len fs ∧ len ≤ reachBytes := by
  obtain ⟨fuel, hf⟩ := h
  have hf : DataW.trod enc P w base spare held fuel t [.slice a len cap] = some (d, ps) := hf
  rcases open_slice ht hf with ⟨hcs, _⟩ | ⟨ad, len', cap', m, n, D, Pl, hcs, hbb, hl, hm, hmm, hx, hi⟩
  · simp only [List.cons.injEq, Value.slice.injEq, and_true] at hcs
    obtain ⟨rfl, rfl, rfl⟩ := hcs
    exact ⟨⟨fun _ => rfl, fun _ h => by cases h⟩, Nat.zero_le _⟩
  · simp only [List.cons.injEq, Value.slice.injEq, and_true] at hcs
    obtain ⟨rfl, rfl, rfl⟩ := hcs
    simp only [Prod.mk.injEq] at hx
    obtain ⟨rfl, _⟩ := hx
    have hlm : len ≤ m := by rw [hmm]; split <;> omega
    have hlen : len ≤ reachBytes := by
      have := hw ((((List.range len).map D).length + ((List.range (m - len)).map fun j => D (len + j)).length) * P.bytesOf e) (by simp [DataW.weights, ht])
      simp only [List.length_map, List.length_range] at this
      have h2 : len * 1 ≤ (len + (m - len)) * P.bytesOf e := Nat.mul_le_mul (by omega) hb
      omega
    refine ⟨⟨(fun h => by cases h), fun ad' had i him j f hj => ?_⟩, hlen⟩
    cases had
    obtain ⟨cs', hc, ht'⟩ := hi i (by omega)
    rw [hC] at hc
    obtain ⟨ys, n', hn', hy, hcl, hyl, hg⟩ := DataW.trod_struct he ht'
    obtain ⟨_, hcl', hat⟩ := World.cells?_some hc
    simp only [Prod.mk.injEq] at hy
    obtain ⟨ho, hk⟩ := hone_of hone j f hj
    have hjl : j < fs.size := (Array.getElem?_eq_some_iff.1 hj).1
    have hcell := hat j hjl
    have h1 := hg j f hj
    rw [ho, hk] at h1
    have hone' : (cs'.drop j).take 1 = [cs'[j]'(by omega)] := by
      rw [List.drop_eq_getElem_cons (by omega)]
      rfl
    rw [hone'] at h1
    have hys : ys[j]? = some (ys[j]'(by omega)) := List.getElem?_eq_getElem (by omega)
    refine ⟨cs'[j]'(by omega), ?_, plain_of (h1.trans hys) ?_⟩
    · rw [← Go.Deep.add_add, ← hC, hC, hcell, List.getElem?_eq_getElem (by omega)]
    · intro x hx
      refine hw x ?_
      have hD : x ∈ (D i).weights P e := by
        rw [hy.1]
        simp only [DataW.weights, he]
        refine DataW.weights_mem_each (j := j) (t := f.type) (d := (ys[j]'(by omega)).1) ?_ ?_ x hx
        · rw [List.getElem?_map, Array.getElem?_toList, hj]; rfl
        · rw [List.getElem?_map, hys]; rfl
      simp only [DataW.weights, ht, List.mem_cons, List.mem_append]
      right; left
      exact weights_all _ (D i) (List.mem_map.2 ⟨i, List.mem_range.2 him, rfl⟩) x hD
end

theorem list_choose {α : Type} {p : Nat → α → Prop} : ∀ n, (∀ i, i < n → ∃ x, p i x) → ∃ l : List α, l.length = n ∧ ∀ i x, l[i]? = some x → p i x
  | 0, _ => ⟨[], rfl, fun i x h => by simp at h⟩
  | n + 1, h => by
    obtain ⟨l, hl, hp⟩ := list_choose n (fun i hi => h i (by omega))
    obtain ⟨x, hx⟩ := h n (by omega)
    refine ⟨l ++ [x], by simp [hl], fun i y hy => ?_⟩
    rcases Nat.lt_or_ge i l.length with q | q
    · rw [List.getElem?_append_left q] at hy; exact hp i y hy
    · have hi : i < (l ++ [x]).length := (List.getElem?_eq_some_iff.1 hy).1
      simp at hi
      have e : i = l.length := by omega
      subst e
      simp at hy; subst hy; rw [hl]; exact hx

theorem wf_nat {q : IntKind} {n : Int} {b : Nat} (h : (Lit.int q n).wf = true) (hq : q = .u8 ∧ b = 256 ∨ q = .u16 ∧ b = 65536) : ∃ m : Nat, n = (m : Int) ∧ m < b := by
  rcases hq with ⟨rfl, rfl⟩ | ⟨rfl, rfl⟩
  · have := bounds_u8 h; exact ⟨n.toNat, by omega, by omega⟩
  · have := bounds_u16 h; exact ⟨n.toNat, by omega, by omega⟩
end Go.Proofs.YtckkccnebjacdaaGreat
namespace Go.Proofs.YtckkccnebjacdaaGreat
open Go.ChangeShapes Go.WideShapes Go.ChangeAt Go.RowKit Go.Deep Go.Joins
set_option linter.unusedVariables false
set_option linter.unusedSimpArgs false
set_option maxRecDepth 100000

/-- A value of this type is read as that many cells, of these plain types. -/
def Opens (P : Program) (t : TypeId) (ls : List TypeId) : Prop :=
  ∀ {H : Type} (enc : TypeId × Value → H) (w : World) (base : Nat) (spare : Nat → Bool) (held : Bool) (n : Nat) (cs : List Value) (y : DataW H × List MemPlace),
    DataW.trod enc P w base spare held n t cs = some y → (∀ x ∈ y.1.weights P t, x ≤ reachBytes) →
    cs.length = ls.length ∧ ∀ (i : Nat) (ty : TypeId), ls[i]? = some ty → ∃ v, cs[i]? = some v ∧ Plain P ty v
def plainT (P : Program) (t : TypeId) : Bool := match P.underlying t with
  | some (.int _) => true
  | some .string => true
  | some .bool => true
  | _ => false
theorem opens_plain {P : Program} {t : TypeId} (h : plainT P t = true) : Opens P t [t] := by
  intro H enc w base spare held n cs y hy hw
  have hcs : ∃ v, cs = [v] := by
    unfold plainT at h
    split at h
    · rename_i q hq
      obtain ⟨m, e, _⟩ := DataW.trod_int hq hy
      exact ⟨_, e⟩
    · rename_i hq
      obtain ⟨m, e, _⟩ := DataW.trod_string hq hy
      exact ⟨_, e⟩
    · rename_i hq
      obtain ⟨m, e, _⟩ := DataW.trod_bool hq hy
      exact ⟨_, e⟩
    · cases h
  obtain ⟨v, rfl⟩ := hcs
  refine ⟨rfl, fun i ty hi => ?_⟩
  cases i with
  | zero =>
    simp at hi
    subst hi
    exact ⟨v, rfl, plain_of hy hw⟩
  | succ i => simp at hi
theorem flat_get {α : Type} : ∀ (lss : List (List α)) (i : Nat) (x : α), lss.flatten[i]? = some x → ∃ j ls k, lss[j]? = some ls ∧ ls[k]? = some x ∧ i = ((lss.take j).flatten).length + k
  | [], i, x, h => by simp at h
  | l :: r, i, x, h => by
    rw [List.flatten_cons] at h
    rcases Nat.lt_or_ge i l.length with q | q
    · rw [List.getElem?_append_left q] at h
      exact ⟨0, l, i, rfl, h, by simp⟩
    · rw [List.getElem?_append_right q] at h
      obtain ⟨j, ls, k, h1, h2, h3⟩ := flat_get r _ x h
      exact ⟨j + 1, ls, k, by simpa using h1, h2, by rw [List.take_succ_cons, List.flatten_cons, List.length_append]; omega⟩
theorem opens_struct {P : Program} {t : TypeId} {fs : Array Field} (ht : P.underlying t = some (.struct fs)) (lss : List (List TypeId)) (hlen : lss.length = fs.size) (hc : P.cellsOf t = lss.flatten.length)
    (hall : ∀ i f ls, fs[i]? = some f → lss[i]? = some ls → Opens P f.type ls ∧ f.offset = ((lss.take i).flatten).length ∧ P.cellsOf f.type = ls.length) : Opens P t lss.flatten := by
  intro H enc w base spare held n cs y hy hw
  obtain ⟨ys, n', hn', hyy, hcl, hyl, hg⟩ := DataW.trod_struct ht hy
  refine ⟨by rw [hcl, hc], fun i ty hi => ?_⟩
  obtain ⟨j, ls, k, h1, h2, h3⟩ := flat_get lss i ty hi
  have hjl : j < fs.size := by have := (List.getElem?_eq_some_iff.1 h1).1; omega
  have hf : fs[j]? = some fs[j] := Array.getElem?_eq_getElem hjl
  obtain ⟨ho, hoff, hcf⟩ := hall j _ ls hf h1
  have hys : ys[j]? = some (ys[j]'(by omega)) := List.getElem?_eq_getElem (by omega)
  have h4 := (hg j _ hf).trans hys
  obtain ⟨_, h5⟩ := ho enc w base spare held _ _ _ h4 (fun x hx => hw x (by
    rw [hyy]
    simp only [DataW.weights, ht]
    refine DataW.weights_mem_each (j := j) (t := fs[j].type) (d := (ys[j]'(by omega)).1) ?_ ?_ x hx
    · rw [List.getElem?_map, Array.getElem?_toList, hf]; rfl
    · rw [List.getElem?_map, hys]; rfl))
  obtain ⟨v, hv, hp⟩ := h5 k ty h2
  refine ⟨v, ?_, hp⟩
  rw [List.getElem?_take] at hv
  split at hv
  · rw [List.getElem?_drop] at hv
    rw [h3, ← hoff]; exact hv
  · cases hv
/-- Such a struct by value. -/
theorem open_val {P : Program} {H : Type} {enc : TypeId × Value → H} {w : World} {base : Nat} {spare : Nat → Bool} {held : Bool} {t : TypeId} {fs : Array Field} {ls : List TypeId} {v : Value} {d : DataW H} {ps : List MemPlace} {W : World} {r : Reach} {b0 : Nat} (ht : P.underlying t = some (.struct fs)) (ho : Opens P t ls)
    (hok : Value.okWide P W r b0 t v) (h : DataW.Trod enc P w base spare held t v d ps) (hw : ∀ x ∈ d.weights P t, x ≤ reachBytes) :
    ∃ cs : Array Value, v = .agg cs ∧ cs.size = ls.length ∧ ∀ (i : Nat) (ty : TypeId), ls[i]? = some ty → ∃ u, cs[i]? = some u ∧ Plain P ty u := by
  obtain ⟨cs, rfl, _⟩ := okWide_struct ht hok
  obtain ⟨fuel, hf⟩ := h
  have hf : DataW.trod enc P w base spare held fuel t cs.toList = some (d, ps) := hf
  obtain ⟨h1, h2⟩ := ho enc w base spare held fuel cs.toList (d, ps) hf hw
  exact ⟨cs, rfl, by simpa using h1, fun i ty hi => by obtain ⟨u, hu, hp⟩ := h2 i ty hi; exact ⟨u, by simpa using hu, hp⟩⟩
/-- A slice of such structs. -/
structure LeavesAt (P : Program) (w : World) (a : Option Addr) (len : Nat) (ls : List TypeId) : Prop where
  none : a = none → len = 0
  cells : ∀ ad, a = some ad → ∀ i, i < len → ∀ (j : Nat) (ty : TypeId), ls[j]? = some ty → ∃ v, w.cell? (ad.add (i * ls.length + j)) = some v ∧ Plain P ty v
theorem open_leaves {P : Program} {H : Type} {enc : TypeId × Value → H} {w : World} {base : Nat} {spare : Nat → Bool} {held : Bool} {t e : TypeId} {ls : List TypeId} {a : Option Addr} {len cap : Nat} {d : DataW H} {ps : List MemPlace} (ht : P.underlying t = some (.slice e)) (ho : Opens P e ls)
    (hC : P.cellsOf e = ls.length) (hb : 0 < P.bytesOf e) (h : DataW.Trod enc P w base spare held t (.slice a len cap) d ps) (hw : ∀ x ∈ d.weights P t, x ≤ reachBytes) :
    LeavesAt P w a len ls ∧ len ≤ reachBytes := by
  obtain ⟨fuel, hf⟩ := h
  have hf : DataW.trod enc P w base spare held fuel t [.slice a len cap] = some (d, ps) := hf
  rcases open_slice ht hf with ⟨hcs, _⟩ | ⟨ad, len', cap', m, n, D, Pl, hcs, hbb, hl, hm, hmm, hx, hi⟩
  · simp only [List.cons.injEq, Value.slice.injEq, and_true] at hcs
    obtain ⟨rfl, rfl, rfl⟩ := hcs
    exact ⟨⟨fun _ => rfl, fun _ h => by cases h⟩, Nat.zero_le _⟩
  · simp only [List.cons.injEq, Value.slice.injEq, and_true] at hcs
    obtain ⟨rfl, rfl, rfl⟩ := hcs
    simp only [Prod.mk.injEq] at hx
    obtain ⟨rfl, _⟩ := hx
    have hlm : len ≤ m := by rw [hmm]; split <;> omega
    have hlen : len ≤ reachBytes := by
      have := hw ((((List.range len).map D).length + ((List.range (m - len)).map fun j => D (len + j)).length) * P.bytesOf e) (by simp [DataW.weights, ht])
      simp only [List.length_map, List.length_range] at this
      have h2 : len * 1 ≤ (len + (m - len)) * P.bytesOf e := Nat.mul_le_mul (by omega) hb
      omega
    refine ⟨⟨(fun h => by cases h), fun ad' had i him j ty hj => ?_⟩, hlen⟩
    cases had
    obtain ⟨cs', hc, ht'⟩ := hi i (by omega)
    rw [hC] at hc
    obtain ⟨_, hcl', hat⟩ := World.cells?_some hc
    obtain ⟨h1, h2⟩ := ho enc w base spare held _ _ _ ht' (fun x hx => hw x (by
      simp only [DataW.weights, ht, List.mem_cons, List.mem_append]
      right; left
      exact weights_all _ (D i) (List.mem_map.2 ⟨i, List.mem_range.2 him, rfl⟩) x hx))
    obtain ⟨v, hv, hp⟩ := h2 j ty hj
    have hjl : j < ls.length := (List.getElem?_eq_some_iff.1 hj).1
    refine ⟨v, ?_, hp⟩
    have hcell := hat j hjl
    rw [← Go.Deep.add_add, hcell]; exact hv
end Go.Proofs.YtckkccnebjacdaaGreat
