/-
  Maps whose keys are structs: keys that the kit's reader reads ('Keyed') are compared by what they are.
-/
import Derived.Test.YteefcfndlggajaaMaps
import Derived.Maps.Keyed
import Derived.DeepKeys5
namespace Go.Proofs.Yteefcfndlggajaa
open Go.RowKit
set_option linter.unusedVariables false
set_option linter.unusedSimpArgs false

theorem equal_keyed {P : Program} {kt : TypeId} {fs : Array Field} (hu : P.underlying kt = some (.struct fs)) (K : Go.Maps.Keyed P kt) (w : World) {x y : Value} {lx ly : Lit} (hx : keyOf P kt x = some lx) (hy : keyOf P kt y = some ly) :
    ∃ b, (Op.equal kt x y).run P w = .ok b w ∧ (b = true ↔ x = y) := by
  have h := K.find w hx [⟨y, .nilFunc, 0⟩] (by intro e he; simp at he; subst he; exact ⟨ly, hy⟩)
  have hr : (Instr.findKey kt x [⟨y, .nilFunc, 0⟩]).run P w = ((Op.equal kt x y).run P w).andThen fun b w' => .ok (if b = true then some (0, Value.nilFunc) else none) w' := by
    unfold Instr.findKey
    simp only [Sem.run_bind, run_underlying hu, Result.andThen_ok, Instr.findNow, Instr.sameNow]
    unfold Instr.findAsking
    rw [Sem.run_bind]
    congr 1
    funext b w'
    cases b <;> simp [Instr.findAsking]
  rcases h with ⟨h1, h2⟩ | ⟨j, e, h1, h2, h3⟩
  · rw [hr] at h1
    cases hq : (Op.equal kt x y).run P w with
    | ok b w' =>
      rw [hq] at h1
      simp only [Result.andThen_ok] at h1
      cases b with
      | true => simp at h1
      | false =>
        simp only [Bool.false_eq_true, if_false, Result.ok.injEq, true_and] at h1
        subst h1
        refine ⟨false, rfl, ?_⟩
        constructor
        · intro e; cases e
        · intro e; exact absurd e.symm (h2 ⟨y, .nilFunc, 0⟩ (List.mem_singleton.2 rfl))
    | _ => rw [hq] at h1; simp [Result.andThen] at h1
  · rw [hr] at h1
    cases hq : (Op.equal kt x y).run P w with
    | ok b w' =>
      rw [hq] at h1
      simp only [Result.andThen_ok] at h1
      cases b with
      | false => simp at h1
      | true =>
        simp only [if_true, Result.ok.injEq] at h1
        have hw := h1.2
        subst hw
        refine ⟨true, rfl, ?_⟩
        simp only [true_iff]
        have hj : j = 0 := by
          have := h1.1
          simp at this; omega
        subst hj
        simp at h2
        rw [← h3, ← h2]
    | _ => rw [hq] at h1; simp [Result.andThen] at h1

theorem KeyT.ofKeyed {P : Program} {kt : TypeId} {fs : Array Field} (hu : P.underlying kt = some (.struct fs)) (K : Go.Maps.Keyed P kt) {α : Type} [DecidableEq α] (ek : α → Value) (hk : ∀ a, ∃ l, keyOf P kt (ek a) = some l) (inj : ∀ a b, ek a = ek b → a = b) (hs : ∀ a, Instr.sameBits 10000 (ek a) (ek a) = true) : KeyT P kt ek where
  check := by
    intro b k w
    obtain ⟨l, hl⟩ := hk k
    exact K.check w b hl
  same := hs
  find := by
    intro k es l hkv w
    have heq : ∀ (a : α) w, (Op.equal kt (ek k) (ek a)).run P w = .ok (decide (a = k)) w := by
      intro a w
      obtain ⟨lk, hlk⟩ := hk k
      obtain ⟨la, hla⟩ := hk a
      obtain ⟨b, hb, hiff⟩ := equal_keyed hu K w hlk hla
      rw [hb]
      congr 1
      rw [Bool.eq_iff_iff, hiff]
      simp only [decide_eq_true_eq]
      exact ⟨fun e => (inj _ _ e).symm, fun e => by rw [e]⟩
    have key : ∀ (es : List MapEntry) (l : List α) (j : Nat), es.map (·.key) = l.map ek →
        (Instr.findAsking kt (ek k) es j).run P w = .ok ((l.findIdx? (fun x => decide (x = k))).bind fun i => (es[i]?).map fun e => (j + i, e.val)) w := by
      intro es
      induction es with
      | nil => intro l j h; cases l <;> simp at h; simp [Instr.findAsking]
      | cons e es ih =>
        intro l j h
        cases l with
        | nil => simp at h
        | cons x r =>
          simp only [List.map_cons, List.cons.injEq] at h
          unfold Instr.findAsking
          rw [h.1, Sem.run_bind, heq]
          simp only [Result.andThen_ok]
          rw [List.findIdx?_cons]
          by_cases hx : x = k
          · simp [hx]
          · simp only [hx, decide_false, Bool.false_eq_true, if_false]
            rw [ih r (j + 1) h.2]
            cases r.findIdx? (fun x => decide (x = k)) with
            | none => rfl
            | some i => simp [Nat.add_comm, Nat.add_left_comm]
    cases es with
    | nil =>
      cases l <;> simp at hkv
      unfold Instr.findKey
      simp [run_underlying hu, Instr.findNow]
    | cons e es =>
      have h := key (e :: es) l 0 hkv
      simp only [Nat.zero_add] at h
      rw [← h]
      unfold Instr.findKey
      simp only [Sem.run_bind, run_underlying hu, Result.andThen_ok, Instr.findNow, Instr.sameNow]
end Go.Proofs.Yteefcfndlggajaa
