/-
  Arguments that came in, opened to cells: a slice of structs of plain fields (integers, strings, bools); such a struct by value. Nothing of the program in it.
  Arguments that came in, opened to cells: structs within structs ('Opens'), by value and in slices. Nothing of the program in it.
  Package chain's statements: lists of versions, as they lie in memory; whether two are the same.
  Package chain's statements: what came in (versions, a config); large, behind, some.
-/
import Derived.Test.YteefcfndlggajaaMgSlice
import Derived.ProofKit
import Derived.OpenShut
import Derived.ShutString
import Derived.ChangeOld
import Derived.SizedLaws
import Derived.Lib.SmallJoins
import Derived.Deep.Slices
import Derived.Deep.Fields
import Derived.ChangeSame
import Derived.Test.YteefcfndlggajaaCnRead
import Derived.Test.YteefcfndlggajaaLs
import Derived.Deep.QuietTactic
import Derived.BigQuiet
import Derived.Test.YteefcfndlggajaaMgCnCopy
namespace Go.Proofs.Yteefcfndlggajaa
open Go.ChangeShapes Go.WideShapes Go.ChangeAt Go.RowKit Go.Deep Go.Joins
set_option linter.unusedVariables false
set_option linter.unusedSimpArgs false
set_option maxRecDepth 100000

/-- A value of a plain type: an integer within its kind, a string within the form's reach, a bool. -/
structure Plain (P : Program) (t : TypeId) (v : Value) : Prop where
  int : ∀ q, P.underlying t = some (.int q) → ∃ n, v = .int q n ∧ (Lit.int q n).wf = true
  str : P.underlying t = some .string → ∃ s : ByteArray, v = .string s ∧ s.size ≤ reachBytes
  bool : P.underlying t = some .bool → ∃ b, v = .bool b

section
variable {H : Type} {enc : TypeId × Value → H} {P : Program} {w : World} {base : Nat} {spare : Nat → Bool} {held : Bool}
theorem plain_of {t : TypeId} {v : Value} {n : Nat} {y : DataW H × List MemPlace} (h : DataW.trod enc P w base spare held n t [v] = some y) (hw : ∀ x ∈ y.1.weights P t, x ≤ reachBytes) : Plain P t v := by
  refine ⟨fun q hq => ?_, fun hs => ?_, fun hb => ?_⟩
  · obtain ⟨m, e, _, hm⟩ := DataW.trod_int hq h
    exact ⟨m, by simpa using e, hm⟩
  · obtain ⟨s, e, hy, _⟩ := DataW.trod_string hs h
    refine ⟨s, by simpa using e, ?_⟩
    have := hw s.data.toList.length (by rw [hy]; simp [DataW.weights])
    simpa using this
  · obtain ⟨b, e, _⟩ := DataW.trod_bool hb h
    exact ⟨b, by simpa using e⟩

theorem weights_all {e : TypeId} : ∀ (ds : List (DataW H)) (d : DataW H), d ∈ ds → ∀ x ∈ d.weights P e, x ∈ DataW.weightsAll P e ds
  | [], _, h, _, _ => by simp at h
  | d0 :: r, d, h, x, hx => by
    simp only [DataW.weightsAll, List.mem_append]
    rcases List.mem_cons.1 h with rfl | h
    · exact Or.inl hx
    · exact Or.inr (weights_all r d h x hx)

/-- A slice of structs that came in. -/
structure StructsAt (P : Program) (w : World) (a : Option Addr) (len : Nat) (fs : Array Field) : Prop where
  none : a = none → len = 0
  cells : ∀ ad, a = some ad → ∀ i, i < len → ∀ (j : Nat) (f : Field), fs[j]? = some f → ∃ v, w.cell? (ad.add (i * fs.size + j)) = some v ∧ Plain P f.type v

theorem open_structs {t e : TypeId} {fs : Array Field} {a : Option Addr} {len cap : Nat} {d : DataW H} {ps : List MemPlace} (ht : P.underlying t = some (.slice e)) (he : P.underlying e = some (.struct fs))
    (hone : oneCellFields P fs = true) (hC : P.cellsOf e = fs.size) (hb : 0 < P.bytesOf e) (h : DataW.Trod enc P w base spare held t (.slice a len cap) d ps) (hw : ∀ x ∈ d.weights P t, x ≤ reachBytes) :
    StructsAt P w a len fs ∧ len ≤ reachBytes := by
  obtain ⟨fuel, hf⟩ := h
  have hf : DataW.trod enc P w base spare held fuel t [.slice a len cap] = some (d, ps) := hf
  rcases open_slice ht hf with ⟨hcs, _⟩ | ⟨ad, len', cap', m, n, D, Pl, hcs, hbb, hl, hm, hmm, hx, hi⟩
  · simp only [List.cons.injEq, Value.slice.injEq, and_true] at hcs
    obtain ⟨rfl, rfl, rfl⟩ := hcs
    exact ⟨⟨fun _ => rfl, fun _ h => by cases h⟩, Nat.zero_le _⟩
  · simp only [List.cons.injEq, Value.slice.injEq, and_true] at hcs
    obtain ⟨rfl, rfl, rfl⟩ := hcs
    simp only [Prod.mk.injEq] at hx
    obtain ⟨rfl, _⟩ := hx
    have hlm : len ≤ m := by rw [hmm]; split <;> omega
    have hlen : len ≤ reachBytes := by
      have := hw ((((List.range len).map D).length + ((List.range (m - len)).map fun j => D (len + j)).length) * P.bytesOf e) (by simp [DataW.weights, ht])
      simp only [List.length_map, List.length_range] at this
      have h2 : len * 1 ≤ (len + (m - len)) * P.bytesOf e := Nat.mul_le_mul (by omega) hb
      omega
    refine ⟨⟨(fun h => by cases h), fun ad' had i him j f hj => ?_⟩, hlen⟩
    cases had
    obtain ⟨cs', hc, ht'⟩ := hi i (by omega)
    rw [hC] at hc
    obtain ⟨ys, n', hn', hy, hcl, hyl, hg⟩ := DataW.trod_struct he ht'
    obtain ⟨_, hcl', hat⟩ := World.cells?_some hc
    simp only [Prod.mk.injEq] at hy
    obtain ⟨ho, hk⟩ := hone_of hone j f hj
    have hjl : j < fs.size := (Array.getElem?_eq_some_iff.1 hj).1
    have hcell := hat j hjl
    have h1 := hg j f hj
    rw [ho, hk] at h1
    have hone' : (cs'.drop j).take 1 = [cs'[j]'(by omega)] := by
      rw [List.drop_eq_getElem_cons (by omega)]
      rfl
    rw [hone'] at h1
    have hys : ys[j]? = some (ys[j]'(by omega)) := List.getElem?_eq_getElem (by omega)
    refine ⟨cs'[j]'(by omega), ?_, plain_of (h1.trans hys) ?_⟩
    · rw [← Go.Deep.add_add, ← hC, hC, hcell, List.getElem?_eq_getElem (by omega)]
    · intro x hx
      refine hw x ?_
      have hD : x ∈ (D i).weights P e := by
        rw [hy.1]
        simp only [DataW.weights, he]
        refine DataW.weights_mem_each (j := j) (t := f.type) (d := (ys[j]'(by omega)).1) ?_ ?_ x hx
        · rw [List.getElem?_map, Array.getElem?_toList, hj]; rfl
        · rw [List.getElem?_map, hys]; rfl
      simp only [DataW.weights, ht, List.mem_cons, List.mem_append]
      right; left
      exact weights_all _ (D i) (List.mem_map.2 ⟨i, List.mem_range.2 him, rfl⟩) x hD
end

theorem list_choose {α : Type} {p : Nat → α → Prop} : ∀ n, (∀ i, i < n → ∃ x, p i x) → ∃ l : List α, l.length = n ∧ ∀ i x, l[i]? = some x → p i x
  | 0, _ => ⟨[], rfl, fun i x h => by simp at h⟩
  | n + 1, h => by
    obtain ⟨l, hl, hp⟩ := list_choose n (fun i hi => h i (by omega))
    obtain ⟨x, hx⟩ := h n (by omega)
    refine ⟨l ++ [x], by simp [hl], fun i y hy => ?_⟩
    rcases Nat.lt_or_ge i l.length with q | q
    · rw [List.getElem?_append_left q] at hy; exact hp i y hy
    · have hi : i < (l ++ [x]).length := (List.getElem?_eq_some_iff.1 hy).1
      simp at hi
      have e : i = l.length := by omega
      subst e
      simp at hy; subst hy; rw [hl]; exact hx

theorem wf_nat {q : IntKind} {n : Int} {b : Nat} (h : (Lit.int q n).wf = true) (hq : q = .u8 ∧ b = 256 ∨ q = .u16 ∧ b = 65536) : ∃ m : Nat, n = (m : Int) ∧ m < b := by
  rcases hq with ⟨rfl, rfl⟩ | ⟨rfl, rfl⟩
  · have := bounds_u8 h; exact ⟨n.toNat, by omega, by omega⟩
  · have := bounds_u16 h; exact ⟨n.toNat, by omega, by omega⟩
end Go.Proofs.Yteefcfndlggajaa
namespace Go.Proofs.Yteefcfndlggajaa
open Go.ChangeShapes Go.WideShapes Go.ChangeAt Go.RowKit Go.Deep Go.Joins
set_option linter.unusedVariables false
set_option linter.unusedSimpArgs false
set_option maxRecDepth 100000

/-- A value of this type is read as that many cells, of these plain types. -/
def Opens (P : Program) (t : TypeId) (ls : List TypeId) : Prop :=
  ∀ {H : Type} (enc : TypeId × Value → H) (w : World) (base : Nat) (spare : Nat → Bool) (held : Bool) (n : Nat) (cs : List Value) (y : DataW H × List MemPlace),
    DataW.trod enc P w base spare held n t cs = some y → (∀ x ∈ y.1.weights P t, x ≤ reachBytes) →
    cs.length = ls.length ∧ ∀ (i : Nat) (ty : TypeId), ls[i]? = some ty → ∃ v, cs[i]? = some v ∧ Plain P ty v
def plainT (P : Program) (t : TypeId) : Bool := match P.underlying t with
  | some (.int _) => true
  | some .string => true
  | some .bool => true
  | _ => false
theorem opens_plain {P : Program} {t : TypeId} (h : plainT P t = true) : Opens P t [t] := by
  intro H enc w base spare held n cs y hy hw
  have hcs : ∃ v, cs = [v] := by
    unfold plainT at h
    split at h
    · rename_i q hq
      obtain ⟨m, e, _⟩ := DataW.trod_int hq hy
      exact ⟨_, e⟩
    · rename_i hq
      obtain ⟨m, e, _⟩ := DataW.trod_string hq hy
      exact ⟨_, e⟩
    · rename_i hq
      obtain ⟨m, e, _⟩ := DataW.trod_bool hq hy
      exact ⟨_, e⟩
    · cases h
  obtain ⟨v, rfl⟩ := hcs
  refine ⟨rfl, fun i ty hi => ?_⟩
  cases i with
  | zero =>
    simp at hi
    subst hi
    exact ⟨v, rfl, plain_of hy hw⟩
  | succ i => simp at hi
theorem flat_get {α : Type} : ∀ (lss : List (List α)) (i : Nat) (x : α), lss.flatten[i]? = some x → ∃ j ls k, lss[j]? = some ls ∧ ls[k]? = some x ∧ i = ((lss.take j).flatten).length + k
  | [], i, x, h => by simp at h
  | l :: r, i, x, h => by
    rw [List.flatten_cons] at h
    rcases Nat.lt_or_ge i l.length with q | q
    · rw [List.getElem?_append_left q] at h
      exact ⟨0, l, i, rfl, h, by simp⟩
    · rw [List.getElem?_append_right q] at h
      obtain ⟨j, ls, k, h1, h2, h3⟩ := flat_get r _ x h
      exact ⟨j + 1, ls, k, by simpa using h1, h2, by rw [List.take_succ_cons, List.flatten_cons, List.length_append]; omega⟩
theorem opens_struct {P : Program} {t : TypeId} {fs : Array Field} (ht : P.underlying t = some (.struct fs)) (lss : List (List TypeId)) (hlen : lss.length = fs.size) (hc : P.cellsOf t = lss.flatten.length)
    (hall : ∀ i f ls, fs[i]? = some f → lss[i]? = some ls → Opens P f.type ls ∧ f.offset = ((lss.take i).flatten).length ∧ P.cellsOf f.type = ls.length) : Opens P t lss.flatten := by
  intro H enc w base spare held n cs y hy hw
  obtain ⟨ys, n', hn', hyy, hcl, hyl, hg⟩ := DataW.trod_struct ht hy
  refine ⟨by rw [hcl, hc], fun i ty hi => ?_⟩
  obtain ⟨j, ls, k, h1, h2, h3⟩ := flat_get lss i ty hi
  have hjl : j < fs.size := by have := (List.getElem?_eq_some_iff.1 h1).1; omega
  have hf : fs[j]? = some fs[j] := Array.getElem?_eq_getElem hjl
  obtain ⟨ho, hoff, hcf⟩ := hall j _ ls hf h1
  have hys : ys[j]? = some (ys[j]'(by omega)) := List.getElem?_eq_getElem (by omega)
  have h4 := (hg j _ hf).trans hys
  obtain ⟨_, h5⟩ := ho enc w base spare held _ _ _ h4 (fun x hx => hw x (by
    rw [hyy]
    simp only [DataW.weights, ht]
    refine DataW.weights_mem_each (j := j) (t := fs[j].type) (d := (ys[j]'(by omega)).1) ?_ ?_ x hx
    · rw [List.getElem?_map, Array.getElem?_toList, hf]; rfl
    · rw [List.getElem?_map, hys]; rfl))
  obtain ⟨v, hv, hp⟩ := h5 k ty h2
  refine ⟨v, ?_, hp⟩
  rw [List.getElem?_take] at hv
  split at hv
  · rw [List.getElem?_drop] at hv
    rw [h3, ← hoff]; exact hv
  · cases hv
/-- Such a struct by value. -/
theorem open_val {P : Program} {H : Type} {enc : TypeId × Value → H} {w : World} {base : Nat} {spare : Nat → Bool} {held : Bool} {t : TypeId} {fs : Array Field} {ls : List TypeId} {v : Value} {d : DataW H} {ps : List MemPlace} {W : World} {r : Reach} {b0 : Nat} (ht : P.underlying t = some (.struct fs)) (ho : Opens P t ls)
    (hok : Value.okWide P W r b0 t v) (h : DataW.Trod enc P w base spare held t v d ps) (hw : ∀ x ∈ d.weights P t, x ≤ reachBytes) :
    ∃ cs : Array Value, v = .agg cs ∧ cs.size = ls.length ∧ ∀ (i : Nat) (ty : TypeId), ls[i]? = some ty → ∃ u, cs[i]? = some u ∧ Plain P ty u := by
  obtain ⟨cs, rfl, _⟩ := okWide_struct ht hok
  obtain ⟨fuel, hf⟩ := h
  have hf : DataW.trod enc P w base spare held fuel t cs.toList = some (d, ps) := hf
  obtain ⟨h1, h2⟩ := ho enc w base spare held fuel cs.toList (d, ps) hf hw
  exact ⟨cs, rfl, by simpa using h1, fun i ty hi => by obtain ⟨u, hu, hp⟩ := h2 i ty hi; exact ⟨u, by simpa using hu, hp⟩⟩
/-- A slice of such structs. -/
structure LeavesAt (P : Program) (w : World) (a : Option Addr) (len : Nat) (ls : List TypeId) : Prop where
  none : a = none → len = 0
  cells : ∀ ad, a = some ad → ∀ i, i < len → ∀ (j : Nat) (ty : TypeId), ls[j]? = some ty → ∃ v, w.cell? (ad.add (i * ls.length + j)) = some v ∧ Plain P ty v
theorem open_leaves {P : Program} {H : Type} {enc : TypeId × Value → H} {w : World} {base : Nat} {spare : Nat → Bool} {held : Bool} {t e : TypeId} {ls : List TypeId} {a : Option Addr} {len cap : Nat} {d : DataW H} {ps : List MemPlace} (ht : P.underlying t = some (.slice e)) (ho : Opens P e ls)
    (hC : P.cellsOf e = ls.length) (hb : 0 < P.bytesOf e) (h : DataW.Trod enc P w base spare held t (.slice a len cap) d ps) (hw : ∀ x ∈ d.weights P t, x ≤ reachBytes) :
    LeavesAt P w a len ls ∧ len ≤ reachBytes := by
  obtain ⟨fuel, hf⟩ := h
  have hf : DataW.trod enc P w base spare held fuel t [.slice a len cap] = some (d, ps) := hf
  rcases open_slice ht hf with ⟨hcs, _⟩ | ⟨ad, len', cap', m, n, D, Pl, hcs, hbb, hl, hm, hmm, hx, hi⟩
  · simp only [List.cons.injEq, Value.slice.injEq, and_true] at hcs
    obtain ⟨rfl, rfl, rfl⟩ := hcs
    exact ⟨⟨fun _ => rfl, fun _ h => by cases h⟩, Nat.zero_le _⟩
  · simp only [List.cons.injEq, Value.slice.injEq, and_true] at hcs
    obtain ⟨rfl, rfl, rfl⟩ := hcs
    simp only [Prod.mk.injEq] at hx
    obtain ⟨rfl, _⟩ := hx
    have hlm : len ≤ m := by rw [hmm]; split <;> omega
    have hlen : len ≤ reachBytes := by
      have := hw ((((List.range len).map D).length + ((List.range (m - len)).map fun j => D (len + j)).length) * P.bytesOf e) (by simp [DataW.weights, ht])
      simp only [List.length_map, List.length_range] at this
      have h2 : len * 1 ≤ (len + (m - len)) * P.bytesOf e := Nat.mul_le_mul (by omega) hb
      omega
    refine ⟨⟨(fun h => by cases h), fun ad' had i him j ty hj => ?_⟩, hlen⟩
    cases had
    obtain ⟨cs', hc, ht'⟩ := hi i (by omega)
    rw [hC] at hc
    obtain ⟨_, hcl', hat⟩ := World.cells?_some hc
    obtain ⟨h1, h2⟩ := ho enc w base spare held _ _ _ ht' (fun x hx => hw x (by
      simp only [DataW.weights, ht, List.mem_cons, List.mem_append]
      right; left
      exact weights_all _ (D i) (List.mem_map.2 ⟨i, List.mem_range.2 him, rfl⟩) x hx))
    obtain ⟨v, hv, hp⟩ := h2 j ty hj
    have hjl : j < ls.length := (List.getElem?_eq_some_iff.1 hj).1
    refine ⟨v, ?_, hp⟩
    have hcell := hat j hjl
    rw [← Go.Deep.add_add, hcell]; exact hv
end Go.Proofs.Yteefcfndlggajaa
namespace Go.Proofs.Yteefcfndlggajaa
open Go.RowKit
set_option linter.unusedVariables false
set_option linter.unusedSimpArgs false
set_option maxRecDepth 100000

theorem VerV.ext' {u v : VerV} (h1 : u.wr = v.wr) (h2 : u.ts = v.ts) (h3 : u.tomb = v.tomb) (h4 : u.val = v.val) : u = v := by
  cases u; cases v; simp only at h1 h2 h3 h4; subst h1; subst h2; subst h3; subst h4; rfl
def VerV.list (v : VerV) : List Value := [.int .i64 v.wr, .int .i64 v.ts, .bool v.tomb, .string v.val]
theorem ver_ne (u v : VerV) (w : World) : (binOp .neq 32 (.agg #[.int .i64 u.wr, .int .i64 u.ts, .bool u.tomb, .string u.val]) (.agg #[.int .i64 v.wr, .int .i64 v.ts, .bool v.tomb, .string v.val])).run Try.prog w = .ok (.bool (!(@decide (u = v) (Classical.propDecidable _)))) w := by
  rw [run_neq_struct, run_equalIn_agg w _ _ _ _ (by kernel_rfl) (by kernel_rfl)]
  simp [Program.fieldsOf, Try.underlying32, Op.eqFields, go_sem]
  have hl : u.val.toList = v.val.toList ↔ u.val = v.val := ⟨fun h => by
    have : u.val.data = v.val.data := by rw [ByteArray.toList_eq, ByteArray.toList_eq] at h; exact Array.ext' h
    exact ByteArray.ext this, fun h => by rw [h]⟩
  simp only [hl]
  by_cases h1 : u.wr = v.wr
  · by_cases h2 : u.ts = v.ts
    · by_cases h3 : u.tomb = v.tomb
      · by_cases h4 : u.val = v.val
        · rw [if_pos h1, if_pos h2, if_pos h3, if_pos h4]
          have : u = v := VerV.ext' h1 h2 h3 h4
          subst this
          simp
        · rw [if_pos h1, if_pos h2, if_pos h3, if_neg h4]
          have : ¬ u = v := fun e => h4 (by rw [e])
          simp [this]
      · rw [if_pos h1, if_pos h2, if_neg h3]
        have : ¬ u = v := fun e => h3 (by rw [e])
        simp [this]
    · rw [if_pos h1, if_neg h2]
      have : ¬ u = v := fun e => h2 (by rw [e])
      simp [this]
  · rw [if_neg h1]
    have : ¬ u = v := fun e => h1 (by rw [e])
    simp [this]
noncomputable def sameV {α : Type} (l m : α) : Bool := @decide (l = m) (Classical.propDecidable _)
theorem sameV_yes {α : Type} {l m : α} (h : l = m) : sameV l m = true := @decide_eq_true _ (Classical.propDecidable _) h
theorem sameV_no {α : Type} {l m : α} (h : ¬ l = m) : sameV l m = false := @decide_eq_false _ (Classical.propDecidable _) h
theorem take_more {α : Type} {l : List α} {k : Nat} {x : α} (h : l[k]? = some x) : l.take (k + 1) = l.take k ++ [x] := by
  rw [List.take_add_one, h]; rfl
set_option maxHeartbeats 4000000 in
theorem Same_any {w : World} {a b : Option Addr} {ca cb : Nat} {l m : List VerV} (hl : LsAt w a 4 VerV.list l) (hm : LsAt w b 4 VerV.list m) (hb : l.length ≤ 1000000) (hb2 : m.length ≤ 1000000) :
    Calls Try.prog 35 #[.slice a l.length ca, .slice b m.length cb] w fun e w' => e = .returned (.bool (sameV l m)) ∧ ∃ n, w' = w.drewN n := by
  have HNO := Lib.hid (fun (h : ¬ l = m) => sameV_no h)
  have HYES := Lib.hid (fun (h : l = m) => sameV_yes h)
  obtain ⟨r, hr⟩ : ∃ r, r = sameV l m := ⟨_, rfl⟩
  rw [← hr] at HNO HYES ⊢
  clear hr
  by_cases hlen : l.length = m.length
  · obtain ⟨n, hn⟩ : ∃ n, n = m.length := ⟨_, rfl⟩
    rw [hlen, ← hn]
    rw [← hn] at hlen
    have HLN := Lib.hid hlen
    have HN := Lib.hid hn
    have hnb : n ≤ 1000000 := by omega
    have HL := Lib.hid hl
    have HM := Lib.hid hm
    clear hlen hn hl hm hb hb2
    go_enter Try.func35, Try.ntmps35
    go_wp2_with fail
    go_loopw [5] (fun i wr => ∃ k q : Nat, Hid (k ≤ n) ∧ i = .int .i64 (k : Int) ∧ Hid (l.take k = m.take k) ∧ wr = w.drewN q) (fun i _ => n - (intOf i).toNat)
    case atStart => exact ⟨0, 0, Nat.zero_le _, rfl, (rfl : List.take 0 l = List.take 0 m), rfl⟩
    case round =>
      obtain ⟨k, q, hk, rfl, ht, rfl⟩ := hrel
      by_cases hlt : k < n
      · have hx : l[k]? = some (l[k]'(by rw [HLN.out]; exact hlt)) := List.getElem?_eq_getElem _
        have hy : m[k]? = some (m[k]'(by rw [← HN.out]; exact hlt)) := List.getElem?_eq_getElem _
        obtain ⟨g1, o1, rfl, hg1, hc1⟩ := HL.out.get hx
        obtain ⟨g2, o2, rfl, hg2, hc2⟩ := HM.out.get hy
        generalize l[k]'(by rw [HLN.out]; exact hlt) = u at hx
        generalize m[k]'(by rw [← HN.out]; exact hlt) = v at hy
        have p0 : w.cell? ⟨g1, o1 + k * 4, none⟩ = some (.int .i64 u.wr) := hc1 k u hx 0 _ rfl
        have p1 : w.cell? ⟨g1, o1 + k * 4 + 1, none⟩ = some (.int .i64 u.ts) := hc1 k u hx 1 _ rfl
        have p2 : w.cell? ⟨g1, o1 + k * 4 + 2, none⟩ = some (.bool u.tomb) := hc1 k u hx 2 _ rfl
        have p3 : w.cell? ⟨g1, o1 + k * 4 + 3, none⟩ = some (.string u.val) := hc1 k u hx 3 _ rfl
        have q0 : w.cell? ⟨g2, o2 + k * 4, none⟩ = some (.int .i64 v.wr) := hc2 k v hy 0 _ rfl
        have q1 : w.cell? ⟨g2, o2 + k * 4 + 1, none⟩ = some (.int .i64 v.ts) := hc2 k v hy 1 _ rfl
        have q2 : w.cell? ⟨g2, o2 + k * 4 + 2, none⟩ = some (.bool v.tomb) := hc2 k v hy 2 _ rfl
        have q3 : w.cell? ⟨g2, o2 + k * 4 + 3, none⟩ = some (.string v.val) := hc2 k v hy 3 _ rfl
        have hne := fun w' => ver_ne u v w'
        have HT1 := Lib.hid (take_more hx)
        have HT2 := Lib.hid (take_more hy)
        have HX := Lib.hid hx
        have HY := Lib.hid hy
        clear hc1 hc2 hx hy
        by_cases he : u = v
        · have HE := Lib.hid he
          have hd : @decide (u = v) (Classical.propDecidable _) = true := @decide_eq_true _ (Classical.propDecidable _) he
          rw [hd] at hne
          clear hd he
          go_wp2_with fail
          go_quiet (fail)
          go_wp2_with fail
          go_roundw
          case rel => exact ⟨k + 1, _, hlt, by go_num, (show l.take (k + 1) = m.take (k + 1) by rw [HT1.out, HT2.out, ht.out, HE.out]), rfl⟩
          case measure => simp [intOf]; omega
        · have hd : @decide (u = v) (Classical.propDecidable _) = false := @decide_eq_false _ (Classical.propDecidable _) he
          rw [hd] at hne
          have HR := Lib.hid (HNO.out (fun e => he (by rw [e] at HX; have := HX.out.symm.trans HY.out; simpa using this)))
          clear hd he
          go_wp2_with fail
          go_quiet (fail)
          go_wp2_with fail
          go_ret
          exact ⟨by rw [HR.out]; rfl, _, by first | rfl | exact World.drewN_drewN _ _ _⟩
      · have hke : k = n := by have := hk.out; omega
        have HR := Lib.hid (HYES.out (by
          have := ht.out
          rw [hke, List.take_of_length_le (by rw [HLN.out]; exact Nat.le_refl _), List.take_of_length_le (by rw [← HN.out]; exact Nat.le_refl _)] at this
          exact this))
        clear hke
        go_wp2_with fail
        go_ret
        exact ⟨by rw [HR.out]; rfl, q, rfl⟩
  · have HR := Lib.hid (HNO.out (fun e => hlen (by rw [e])))
    have hne : ((l.length : Int) == (m.length : Int)) = false := beq_eq_false_iff_ne.2 (by omega)
    clear hl hm hlen
    go_enter Try.func35, Try.ntmps35
    go_wp2_with fail
    go_ret
    exact ⟨by rw [HR.out]; rfl, 0, rfl⟩
theorem Lists_any {w : World} {a b : Option Addr} {ca cb : Nat} {l m : List VerV} (hl : LsAt w a 4 VerV.list l) (hm : LsAt w b 4 VerV.list m) (hb : l.length ≤ 1000000) (hb2 : m.length ≤ 1000000) :
    Calls Try.prog 13 #[.slice a l.length ca, .slice b m.length cb] w fun e w' => e = .returned (.bool (sameV l m)) ∧ ∃ n, w' = w.drewN n := by
  have HS := Lib.hid (Same_any (ca := ca) (cb := cb) hl hm hb hb2)
  clear hl hm
  generalize sameV l m = r at HS ⊢
  go_enter Try.func13, Try.ntmps13
  go_wp2_with fail
  refine HS.out.mono ?_
  rintro e w1 ⟨rfl, n, rfl⟩
  go_wp2_with fail
  go_ret
  exact ⟨rfl, n, rfl⟩
end Go.Proofs.Yteefcfndlggajaa
namespace Go.Proofs.Yteefcfndlggajaa
open Go.ChangeShapes Go.WideShapes Go.ChangeAt Go.RowKit Go.Deep Go.Joins
set_option linter.unusedVariables false
set_option linter.unusedSimpArgs false
set_option maxRecDepth 100000

/-- A version that came in. -/
structure VerV.In (v : VerV) : Prop where
  wr : v.wr < 9223372036854775808
  sz : v.val.size ≤ 140737488351232
structure VersIn (w : World) (a : Option Addr) (l : List VerV) : Prop where
  ok : ∀ x ∈ l, x.In
  len : l.length ≤ 140737488351232
  at_ : LsAt w a 4 VerV.list l
theorem VersIn.kept {F : Nat → Prop} {w w' : World} {a : Option Addr} {l : List VerV} (h : VersIn w a l) (f : Fr F w w') (hn : ∀ k, blk a k → ¬ F k) : VersIn w' a l := ⟨h.ok, h.len, h.at_.kept f hn⟩

def vSum : List VerV → Nat
  | [] => 0
  | x :: r => 30 + x.val.size + vSum r
theorem vSum_append (a b : List VerV) : vSum (a ++ b) = vSum a + vSum b := by
  induction a with
  | nil => simp [vSum]
  | cons x r ih => simp only [List.cons_append, vSum, ih]; omega
theorem vSum_length (l : List VerV) : 30 * l.length ≤ vSum l := by
  induction l with
  | nil => simp [vSum]
  | cons x r ih => simp only [List.length_cons, vSum]; omega
theorem vSum_mem {l : List VerV} {x : VerV} (h : x ∈ l) : x.val.size ≤ vSum l := by
  induction l with
  | nil => simp at h
  | cons y r ih =>
    simp only [vSum]
    rcases List.mem_cons.1 h with rfl | h
    · omega
    · have := ih h; omega
theorem vSum_take_le (l : List VerV) (k : Nat) : vSum (l.take k) ≤ vSum l := by
  have := vSum_append (l.take k) (l.drop k)
  rw [List.take_append_drop] at this; omega
def isBigV (l : List VerV) : Bool := decide (9000 ≤ vSum l)
set_option maxHeartbeats 1000000 in
theorem large_any (w : World) (a : Option Addr) (cap : Nat) (l : List VerV) (h : VersIn w a l) :
    Calls Try.prog 9 #[.slice a l.length cap] w fun e w' => e = .returned (.bool (isBigV l)) ∧ w = w' := by
  have hlen := h.len
  have Hl := Lib.hid hlen
  clear hlen
  go_enter Try.func9, Try.ntmps9
  go_wp2
  go_loop [3, 4] (fun n i => ∃ k S : Nat, Hid (k ≤ l.length) ∧ i = .int .i64 k ∧ n = .int .i64 S ∧ Hid (S = vSum (l.take k))) (fun _ i => l.length - (intOf i).toNat)
  case atStart => exact ⟨0, 0, Nat.zero_le _, rfl, rfl, by show 0 = _; simp [vSum]⟩
  case round =>
    obtain ⟨k, S, hk, rfl, rfl, hS⟩ := hrel
    by_cases hlt : k < l.length
    · by_cases hs : S < 9000
      · obtain ⟨x, hx⟩ : ∃ x, l[k]? = some x := ⟨l[k], List.getElem?_eq_getElem hlt⟩
        have hx1 := (h.ok x (List.mem_of_getElem? hx)).sz
        obtain ⟨b, o, rfl, hb, hc⟩ := h.at_.get hx
        have hc3 : w.cell? ⟨b, o + k * 4 + 3, none⟩ = some (.string x.val) := hc k x hx 3 _ rfl
        have hk2 : k ≤ 140737488351232 := by have := Hl.out; omega
        have Hx := Lib.hid hx
        clear hx hc
        have w1 : IntKind.i64.wrap ((S : Int) + 30) = (S : Int) + 30 := IntWalk.i64_in _ (by omega)
        have w2 : IntKind.i64.wrap ((S : Int) + 30 + (x.val.size : Int)) = (S : Int) + 30 + (x.val.size : Int) := IntWalk.i64_in _ (by omega)
        have w3 : IntKind.i64.wrap ((k : Int) + 1) = (k : Int) + 1 := IntWalk.i64_in _ (by omega)
        go_wp2
        go_round
        case rel =>
          refine ⟨k + 1, S + 30 + x.val.size, hlt, by go_num, by go_num, ?_⟩
          show S + 30 + x.val.size = vSum (l.take (k + 1))
          rw [take_more Hx.out, vSum_append, ← hS.out]
          simp only [vSum]; omega
        case measure => simp [intOf]; omega
      · have hL : isBigV l = true := by
          have h1 := vSum_take_le l k
          rw [← hS.out] at h1
          unfold isBigV; exact decide_eq_true (by omega)
        have HL := Lib.hid hL
        clear hL
        go_wp2
        go_ret
        rw [HL.out]
        exact ⟨rfl, rfl⟩
    · have hL : isBigV l = decide ((9000 : Int) ≤ (S : Int)) := by
        unfold isBigV; rw [hS.out, List.take_of_length_le (by omega), decide_eq_decide]; omega
      have HL := Lib.hid hL
      clear hL
      go_wp2
      go_ret
      rw [HL.out]
      exact ⟨rfl, rfl⟩
theorem isBigV_no {l : List VerV} (h : isBigV l = false) : l.length ≤ 300 ∧ ∀ x ∈ l, x.val.size ≤ 9000 := by
  unfold isBigV at h
  have h := of_decide_eq_false h
  have := vSum_length l
  exact ⟨by omega, fun x hx => by have := vSum_mem hx; omega⟩

/-! ### behind: a list, from a place on, the last one first -/
theorem reverse_get {α : Type} {l : List α} {k j : Nat} (hk : k < l.length) (hj : j ≤ k) : (l.take (k + 1)).reverse[j]? = l[k - j]? := by
  rw [List.getElem?_reverse (by rw [List.length_take]; omega), List.length_take, List.getElem?_take]
  have e : min (k + 1) l.length - 1 - j = k - j := by omega
  rw [e, if_pos (by omega)]
set_option maxHeartbeats 4000000 in
theorem behind_any (w : World) (a : Option Addr) (cap : Nat) (l : List VerV) (h : LsAt w a 4 VerV.list l) (hb : l.length ≤ 1000000) {k : Nat} (hk : k < l.length) :
    Calls Try.prog 15 #[.slice a l.length cap, .int .i64 (k : Int)] w fun e w' => ∃ b cb, e = .returned (.slice b (k + 1) cb) ∧ SlAt w' b (k + 1) cb 32 4 ((l.take (k + 1)).reverse.flatMap VerV.list) ∧ Fr none_ w w' ∧ ∀ j, blk b j → w.heap.size ≤ j := by
  obtain ⟨r, hr⟩ : ∃ r, r = (l.take (k + 1)).reverse := ⟨_, rfl⟩
  have hrl : r.length = k + 1 := by rw [hr, List.length_reverse, List.length_take]; omega
  have HRG := Lib.hid (show ∀ j, j ≤ k → r[j]? = l[k - j]? from fun j hj => by rw [hr]; exact reverse_get hk hj)
  rw [← hr]
  have HRL := Lib.hid hrl
  have HL := Lib.hid h
  clear hr hrl h
  go_enter Try.func15, Try.ntmps15
  go_wp2_with fail
  go_loopw [5, 6] (fun o i wr => ∃ (j : Nat) (b : Option Addr) (cb : Nat), Hid (j ≤ k + 1) ∧ o = .slice b j cb ∧ i = .int .i64 ((k : Int) - (j : Int)) ∧ Hid (SlAt wr b j cb 32 4 ((r.take j).flatMap VerV.list)) ∧ Hid (Fr none_ w wr) ∧ Hid (∀ g, blk b g → w.heap.size ≤ g)) (fun _ i _ => (intOf i + 1).toNat)
  case atStart => exact ⟨0, none, 0, Nat.zero_le _, rfl, by go_num, SlAt.empty _ _ _, Fr.refl _ _, fun g hg => absurd hg (blk_none g)⟩
  case round =>
    obtain ⟨j, b, cb, hj, rfl, rfl, hs, hf, hn⟩ := hrel
    by_cases hlt : j < k + 1
    · have hx0 := HRG.out j (by omega)
      have hxl : l[k - j]? = some (l[k - j]'(by omega)) := List.getElem?_eq_getElem _
      generalize l[k - j]'(by omega) = v at hxl
      obtain ⟨g, o, rfl, hg, hc⟩ := HL.out.get hxl
      have e1 : ((k : Int) - (j : Int)) = ((k - j : Nat) : Int) := by omega
      have p0 := hf.out.keep (hc (k - j) v hxl 0 _ rfl)
      have p1 := hf.out.keep (hc (k - j) v hxl 1 _ rfl)
      have p2 := hf.out.keep (hc (k - j) v hxl 2 _ rfl)
      have p3 := hf.out.keep (hc (k - j) v hxl 3 _ rfl)
      rw [Nat.add_zero] at p0
      rw [e1]
      have HT := Lib.hid (take_more (hx0.trans hxl))
      have HE := Lib.hid (show ((k - j : Nat) : Int) - 1 = (k : Int) - ((j + 1 : Nat) : Int) by omega)
      have hkj : k - j < l.length := by omega
      have RA := Lib.hid (new_cells wr v.list 32)
      have HVE := Lib.hid (show v.list.toArray = #[.int .i64 v.wr, .int .i64 v.ts, .bool v.tomb, .string v.val] from rfl)
      have HSA := Lib.hid (hs.out.kept0 (Fr.alloc none_ wr (.cells v.list.toArray 32)))
      have hj2 : j + 1 ≤ 1000000 := by omega
      generalize k - j = q at *
      clear hc hxl hx0 e1
      go_wp2_with (at_builtin; refine Stop.mk ?_)
      show wpList _ _ _ _ _ _
      rw [← HVE.out]
      refine wpAppend rfl _ _ _ rfl 32 (.agg #[.int .i64 0, .int .i64 0, .bool false, .string ⟨#[]⟩]) 4 40 Try.underlying24 verInfo rfl HSA.out rfl ⟨wr.heap.size, 0, none⟩ 1 1 v.list rfl rfl RA.out (by simp [VerV.list, Value.oneCell']) (by omega) (by unfold maxLen; omega) (by omega) ?_
      intro b' cb' w5 hs5 f5 hb5
      have HS5 := Lib.hid hs5
      have HF5 := Lib.hid ((hf.out.trans ((Fr.alloc none_ wr (.cells v.list.toArray 32)))).step f5 (fun i hi hk => absurd (hn.out i hk) (by omega)))
      have HB5 := Lib.hid (show ∀ g, blk b' g → w.heap.size ≤ g from fun g hg => by
        rcases hb5 g hg with e | e
        · exact hn.out g e
        · have := hf.out.size; simp at e; omega)
      clear hs5 f5 hb5 p0 p1 p2 p3
      go_wp2_with fail
      go_roundw
      case rel => exact ⟨j + 1, b', cb', hlt, rfl, by rw [← HE.out], (show SlAt w5 b' (j + 1) cb' _ 4 ((r.take (j + 1)).flatMap VerV.list) by rw [HT.out, List.flatMap_append]; simpa using HS5.out), HF5.out, HB5.out⟩
      case measure =>
        have := HE.out
        first | (simp [intOf]; done) | (simp [intOf]; omega)
    · have hke : j = k + 1 := by have := hj.out; omega
      subst hke
      have hge : ¬ (0 : Int) ≤ (k : Int) - ((k + 1 : Nat) : Int) := by omega
      have HS := Lib.hid (show SlAt wr b (k + 1) cb 32 4 (r.flatMap VerV.list) by have := hs.out; rwa [List.take_of_length_le (by rw [HRL.out]; exact Nat.le_refl _)] at this)
      go_wp2_with fail
      go_ret
      exact ⟨b, cb, rfl, HS.out, hf.out, hn.out⟩
theorem some_any (w : World) : Calls Try.prog 23 #[] w fun e w' => e = .returned (.agg #[.int .i64 2, .int .i64 2, .int .i64 3, .int .i64 3, .int .i64 9, .int .i64 4, .int .i64 3, .int .i64 3]) ∧ Fr none_ w w' := by
  have RA := Lib.hid (Row.new w #[.int .i64 0, .int .i64 0, .int .i64 0, .int .i64 0, .int .i64 0, .int .i64 0, .int .i64 0, .int .i64 0] 23)
  have FA := Lib.hid (Fr.alloc none_ w (.cells #[.int .i64 0, .int .i64 0, .int .i64 0, .int .i64 0, .int .i64 0, .int .i64 0, .int .i64 0, .int .i64 0] 23))
  have fin : ∀ w2, Row w2 w.heap.size #[.int .i64 2, .int .i64 2, .int .i64 3, .int .i64 3, .int .i64 9, .int .i64 4, .int .i64 3, .int .i64 3] 23 → w2.cell? ⟨w.heap.size, 0, none⟩ = some (.int .i64 2) ∧ w2.cell? ⟨w.heap.size, 1, none⟩ = some (.int .i64 2) ∧ w2.cell? ⟨w.heap.size, 2, none⟩ = some (.int .i64 3) ∧ w2.cell? ⟨w.heap.size, 3, none⟩ = some (.int .i64 3) ∧ w2.cell? ⟨w.heap.size, 4, none⟩ = some (.int .i64 9) ∧ w2.cell? ⟨w.heap.size, 5, none⟩ = some (.int .i64 4) ∧ w2.cell? ⟨w.heap.size, 6, none⟩ = some (.int .i64 3) ∧ w2.cell? ⟨w.heap.size, 7, none⟩ = some (.int .i64 3) := fun w2 R => ⟨R.cell 0, R.cell 1, R.cell 2, R.cell 3, R.cell 4, R.cell 5, R.cell 6, R.cell 7⟩
  have FIN := Lib.hid fin
  clear fin
  go_enter Try.func23, Try.ntmps23
  go_wp2_with ((with_reducible refine at_storeOf 23 ?_); refine wpStoreRow (cs' := #[.int .i64 2, .int .i64 2, .int .i64 3, .int .i64 3, .int .i64 9, .int .i64 4, .int .i64 3, .int .i64 3]) rfl _ _ _ rfl RA.out rfl rfl (by kernel_rfl) rfl (by simp [Value.oneCell']) ?_; intro w2 R2 f2; obtain ⟨c0, c1, c2, c3, c4, c5, c6, c7⟩ := FIN.out _ R2; have F2 := Lib.hid f2; clear f2 R2)
  refine bodyPost_ret (v := .agg #[.int .i64 2, .int .i64 2, .int .i64 3, .int .i64 3, .int .i64 9, .int .i64 4, .int .i64 3, .int .i64 3]) (by simp [results, Try.results23, go_sem, c0, c1, c2, c3, c4, c5, c6, c7]) rfl ⟨rfl, ?_⟩
  exact FA.out.step F2.out (fun i hi e => by unfold one at e; omega)
def cfgSome : CfgV := ⟨2, 2, 3, 3, 9, 4, 3, 3⟩
theorem cfgSome_may : cfgSome.may = true := by
  refine CfgV.may_yes fun j hj => ?_
  rcases (show j = 0 ∨ j = 1 ∨ j = 2 ∨ j = 3 ∨ j = 4 ∨ j = 5 ∨ j = 6 ∨ j = 7 by omega) with rfl | rfl | rfl | rfl | rfl | rfl | rfl | rfl
  · exact (show (1 : Int) ≤ 2 ∧ (2 : Int) ≤ 6 from by decide)
  · exact (show (1 : Int) ≤ 2 ∧ (2 : Int) ≤ 8 from by decide)
  · exact (show (1 : Int) ≤ 3 ∧ (3 : Int) ≤ 64 from by decide)
  · exact (show (2 : Int) ≤ 3 ∧ (3 : Int) ≤ 8 from by decide)
  · exact (show (1 : Int) ≤ 9 ∧ (9 : Int) ≤ 1048576 from by decide)
  · exact (show (1 : Int) ≤ 4 ∧ (4 : Int) ≤ 64 from by decide)
  · exact (show (0 : Int) ≤ 3 ∧ (3 : Int) ≤ 256 from by decide)
  · exact (show (3 : Int) ≤ 3 ∧ (3 : Int) ≤ 8 from by decide)
end Go.Proofs.Yteefcfndlggajaa
