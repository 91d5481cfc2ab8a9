/-
  ViewOver, plainly: writers that begin, and end; what is known of them and of their views.
-/
import Derived.Test.YtnnomeichppkpaaVwP
namespace Go.Proofs.Ytnnomeichppkpaa
open Go.RowKit
set_option linter.unusedVariables false
set_option linter.unusedSimpArgs false

/-- What a writer had when it began: its view's busy ones, and who had ended; where they lie. -/
structure OE where
  own : Nat
  a : Option Addr
  n : Nat
  c : Nat
  l : List Int
  ea : Option Addr
  en : Nat
  ec : Nat
  es : List Bool
structure OvI (N next : Nat) (busy : List Int) (over : List Bool) (vs : List OE) : Prop where
  len : over.length = N
  cnt : vs.length + 1 = next
  nd : busy.Nodup
  bl : busy.length ≤ vs.length
  b1 : ∀ x ∈ busy, ∃ w : Nat, x = (w : Int) ∧ 1 ≤ w ∧ w < next ∧ over[w]? = some false
  b2 : ∀ w : Nat, 1 ≤ w → w < next → (w : Int) ∉ busy → over[w]? = some true
  b3 : ∀ w, next ≤ w → w < N → over[w]? = some false
  own : ∀ i e, vs[i]? = some e → e.own = i + 1
  eslen : ∀ e ∈ vs, e.es.length = N
  sees : ∀ e ∈ vs, ∀ w : Nat, 1 ≤ w → w < N → vwSees e.own e.own e.l w = ((w == e.own) || e.es.getD w false)
  mono : ∀ (i j : Nat) (e e' : OE), vs[i]? = some e → vs[j]? = some e' → i ≤ j → ∀ w, e.es.getD w false = true → e'.es.getD w false = true
  top : ∀ e ∈ vs, ∀ w, e.es.getD w false = true → over.getD w false = true
theorem OvI.zero (N : Nat) (hN : 1 ≤ N) : OvI N 1 [] (List.replicate N false) [] := by
  refine ⟨by simp, rfl, by simp, by simp, by simp, fun w h1 h2 => by omega, fun w h1 h2 => by simp [List.getElem?_replicate, h2], by simp, by simp, by simp, by simp, by simp⟩
theorem OvI.begin_ {N next : Nat} {busy : List Int} {over : List Bool} {vs : List OE} (h : OvI N next busy over vs) (hN : next < N) (e : OE) (h1 : e.own = next) (h2 : e.l = vwBusy next next busy) (h3 : e.es = over) :
    OvI N (next + 1) (busy ++ [(next : Int)]) over (vs ++ [e]) := by
  have hnx : 1 ≤ next := by have := h.cnt; omega
  have hnew : (next : Int) ∉ busy := fun hm => by
    obtain ⟨w, q1, q2, q3, _⟩ := h.b1 _ hm
    omega
  have hget : ∀ i e', (vs ++ [e])[i]? = some e' → vs[i]? = some e' ∨ (i = vs.length ∧ e' = e) := by
    intro i e' hi
    by_cases q : i < vs.length
    · rw [List.getElem?_append_left q] at hi; exact Or.inl hi
    · rw [List.getElem?_append_right (by omega)] at hi
      have : i - vs.length = 0 := by
        have := (List.getElem?_eq_some_iff.1 hi).1
        simp at this; omega
      rw [this] at hi
      right; exact ⟨by omega, by simpa using hi.symm⟩
  refine ⟨h.len, by rw [List.length_append]; have := h.cnt; simp; omega, ?_, by rw [List.length_append, List.length_append]; have := h.bl; simp; omega, ?_, ?_, ?_, ?_, ?_, ?_, ?_, ?_⟩
  · refine List.nodup_append.2 ⟨h.nd, by simp, fun a ha b hb => ?_⟩
    simp only [List.mem_singleton] at hb
    subst hb
    exact fun e => hnew (e ▸ ha)
  · intro x hx
    rcases List.mem_append.1 hx with hx | hx
    · obtain ⟨w, q1, q2, q3, q4⟩ := h.b1 x hx
      exact ⟨w, q1, q2, by omega, q4⟩
    · exact ⟨next, by simpa using hx, hnx, by omega, h.b3 next (Nat.le_refl _) hN⟩
  · intro w q1 q2 q3
    have q4 : (w : Int) ∉ busy := fun hm => q3 (List.mem_append_left _ hm)
    have q5 : w ≠ next := fun e => q3 (List.mem_append_right _ (by rw [e]; simp))
    exact h.b2 w q1 (by omega) q4
  · intro w q1 q2; exact h.b3 w (by omega) q2
  · intro i e' hi
    rcases hget i e' hi with q | ⟨q, rfl⟩
    · exact h.own i e' q
    · rw [h1, q]; have := h.cnt; omega
  · intro e' he
    rcases List.mem_append.1 he with he | he
    · exact h.eslen e' he
    · obtain rfl : e' = e := by simpa using he
      rw [h3]; exact h.len
  · intro e' he w w1 w2
    rcases List.mem_append.1 he with he | he
    · exact h.sees e' he w w1 w2
    · obtain rfl : e' = e := by simpa using he
      rw [h1, h2, h3]
      obtain ⟨_, hb⟩ := vwBusy_spec next next busy
      by_cases e1 : w = next
      · subst e1
        have : vwSees (w : Int) w (vwBusy w w busy) w = true := vwSees_iff.2 ⟨by omega, Or.inl rfl⟩
        rw [this]; simp
      · have hne : (w == next) = false := by simpa using e1
        rw [hne, Bool.false_or]
        rw [Bool.eq_iff_iff, vwSees_iff, hb]
        constructor
        · rintro ⟨_, q | ⟨q, q2⟩⟩
          · omega
          · have hnb : (w : Int) ∉ busy := fun hm => q2 ⟨hm, by omega, by omega, by omega⟩
            have := h.b2 w w1 (by omega) hnb
            rw [List.getD_eq_getElem?_getD, this]; rfl
        · intro q
          refine ⟨by omega, Or.inr ?_⟩
          by_cases hlt : w < next
          · refine ⟨by omega, fun hm => ?_⟩
            obtain ⟨w', r1, _, _, r4⟩ := h.b1 _ hm.1
            have : w' = w := by omega
            subst this
            rw [List.getD_eq_getElem?_getD, r4] at q; simp at q
          · have := h.b3 w (by omega) w2
            rw [List.getD_eq_getElem?_getD, this] at q; simp at q
  · intro i j e1 e2 hi hj hij w hw
    rcases hget i e1 hi with q | ⟨q, rfl⟩
    · rcases hget j e2 hj with r | ⟨r, rfl⟩
      · exact h.mono i j e1 e2 q r hij w hw
      · rw [h3]; exact h.top e1 (List.mem_of_getElem? q) w hw
    · rcases hget j e2 hj with r | ⟨r, rfl⟩
      · have := (List.getElem?_eq_some_iff.1 r).1; omega
      · exact hw
  · intro e' he w hw
    rcases List.mem_append.1 he with he | he
    · exact h.top e' he w hw
    · obtain rfl : e' = e := by simpa using he
      rw [h3] at hw; exact hw
theorem OvI.end_ {N next : Nat} {busy : List Int} {over : List Bool} {vs : List OE} (h : OvI N next busy over vs) {k w0 : Nat} (hk : busy[k]? = some (w0 : Int)) :
    OvI N next (busy.take k ++ busy.drop (k + 1)) (over.set w0 true) vs := by
  have hm0 : (w0 : Int) ∈ busy := List.mem_of_getElem? hk
  obtain ⟨w', e0, q1, q2, q3⟩ := h.b1 _ hm0
  obtain rfl : w' = w0 := by omega
  have hkl : k < busy.length := (List.getElem?_eq_some_iff.1 hk).1
  have hsplit : busy = busy.take k ++ (w' : Int) :: busy.drop (k + 1) := by
    have h1 : busy[k] = (w' : Int) := (List.getElem?_eq_some_iff.1 hk).2
    have := List.drop_eq_getElem_cons hkl
    rw [h1] at this
    rw [← this, List.take_append_drop]
  have hnd := h.nd
  rw [hsplit] at hnd
  obtain ⟨n1, n2, n3⟩ := List.nodup_append.1 hnd
  obtain ⟨n4, n5⟩ := List.nodup_cons.1 n2
  have hmem : ∀ x, x ∈ busy.take k ++ busy.drop (k + 1) ↔ x ∈ busy ∧ x ≠ (w' : Int) := by
    intro x
    constructor
    · intro hx
      rcases List.mem_append.1 hx with hx | hx
      · exact ⟨List.mem_of_mem_take hx, fun e => n3 x hx (w' : Int) (List.mem_cons_self ..) e⟩
      · exact ⟨List.mem_of_mem_drop hx, fun e => n4 (e ▸ hx)⟩
    · rintro ⟨hx, hne⟩
      rw [hsplit] at hx
      rcases List.mem_append.1 hx with hx | hx
      · exact List.mem_append_left _ hx
      · rcases List.mem_cons.1 hx with hx | hx
        · exact absurd hx hne
        · exact List.mem_append_right _ hx
  have hwN : w' < over.length := (List.getElem?_eq_some_iff.1 q3).1
  refine ⟨by rw [List.length_set]; exact h.len, h.cnt, ?_, ?_, ?_, ?_, ?_, h.own, h.eslen, h.sees, h.mono, ?_⟩
  · exact List.nodup_append.2 ⟨n1, n5, fun a ha b hb => n3 a ha b (List.mem_cons_of_mem _ hb)⟩
  · have := h.bl
    rw [List.length_append, List.length_take, List.length_drop]; omega
  · intro x hx
    obtain ⟨hx1, hx2⟩ := (hmem x).1 hx
    obtain ⟨w, r1, r2, r3, r4⟩ := h.b1 x hx1
    exact ⟨w, r1, r2, r3, by rw [List.getElem?_set_ne (fun e => hx2 (by rw [r1, e]))]; exact r4⟩
  · intro w r1 r2 r3
    by_cases e : w = w'
    · subst e; exact List.getElem?_set_self hwN
    · rw [List.getElem?_set_ne (Ne.symm e)]
      exact h.b2 w r1 r2 (fun hm => r3 ((hmem _).2 ⟨hm, by omega⟩))
  · intro w r1 r2
    rw [List.getElem?_set_ne (by omega)]
    exact h.b3 w r1 r2
  · intro e he w hw
    have := h.top e he w hw
    by_cases ew : w = w'
    · subst ew
      rw [List.getD_eq_getElem?_getD, List.getElem?_set_self hwN]; rfl
    · rw [List.getD_eq_getElem?_getD] at this ⊢
      rw [List.getElem?_set_ne (Ne.symm ew)]; exact this
end Go.Proofs.Ytnnomeichppkpaa
