/-
  UndoAlone: what is done at handles of one stack leaves another one. Of states alone.
-/
import Derived.Test.YtckkccnebjacdaaGreatUnStack
namespace Go.Proofs.YtckkccnebjacdaaGreat
open Go.RowKit
set_option linter.unusedVariables false
set_option linter.unusedSimpArgs false
set_option maxRecDepth 100000

section
variable {vl N : Nat} {t : US} {L : List Nat}
theorem St.change_any (h : St vl N t L) {v : VerV} (hv : v.Fit vl) {hd nx : Nat} (hh : hd < 18446744073709551616) (hx : nx < 18446744073709551616) : ∃ q t', t.change vl hd v nx = (q, t') ∧ St vl N t' L ∧ ∀ y, y ≠ hd → t'.f y = t.f y := by
  unfold US.change
  rw [if_pos hv.may]
  unfold US.turn
  cases e : t.f hd with
  | none => exact ⟨5, t, rfl, h, fun _ _ => rfl⟩
  | some n =>
    cases r : n.rcd with
    | true => exact ⟨5, t, by simp [r], h, fun _ _ => rfl⟩
    | false =>
      have hok := h.is_.ok _ _ e
      exact ⟨0, t.set hd (v.uv false nx), by simp [r], h.set e hh (uv_ok hv.may hv.wr hx) (by rw [r]; rfl) (by rw [hok.row0 r]; rfl), fun y hy => updU_other _ _ hy⟩
theorem St.cut_any (h : St vl N t L) {hd : Nat} (hh : hd < 18446744073709551616) : ∃ q t', t.cut hd = (q, t') ∧ St vl N t' L ∧ ∀ y, y ≠ hd → t'.f y = t.f y := by
  unfold US.cut
  cases e : t.f hd with
  | none => exact ⟨5, t, rfl, h, fun _ _ => rfl⟩
  | some n =>
    cases r : n.rcd with
    | false => exact ⟨5, t, by simp [r], h, fun _ _ => rfl⟩
    | true =>
      have hok := h.is_.ok _ _ e
      exact ⟨0, t.set hd n.cutn, by simp [r, UV.cutn], h.set e hh (n := n.cutn) ⟨hok.wr, by show 0 < _; omega, hok.sg, hok.rest, hok.row0⟩ rfl rfl, fun y hy => updU_other _ _ hy⟩
theorem St.free_any (h : St vl N t L) {hd : Nat} (hh : hd < 18446744073709551616) : ∃ q t', t.free hd = (q, t') ∧ St vl N t' (L.filter (fun x => decide (x ≠ hd))) ∧ ∀ y, y ≠ hd → t'.f y = t.f y :=
  ⟨(t.free hd).1, (t.free hd).2, rfl, h.free hh, fun y hy => by rw [free_f, updU_other _ _ hy]⟩
/-- What the steps keep: the other stack, and that no handle of theirs is one of it. -/
structure Aside (vl N : Nat) (t : US) (row : Nat) (v : VerV) (us : List VerV) (hs : List Nat) (top : Nat) (mine : List Nat) : Prop where
  st : ∃ L, St vl N t L
  stk : Stk vl t.f 0 row v us hs top
  pos : mine ≠ []
  lt : ∀ y ∈ mine, y < 18446744073709551616
  off : ∀ y ∈ mine, y ≠ row ∧ y ∉ hs
variable {row top : Nat} {v : VerV} {us : List VerV} {hs mine : List Nat}
theorem Aside.list (h : Aside vl N t row v us hs top mine) (hvl : vl ≤ 256) : (t.list row).map OV.ver = v :: us := by
  obtain ⟨L, s⟩ := h.st
  exact s.list hvl h.stk s.live.zero
theorem Aside.row_lt (h : Aside vl N t row v us hs top mine) : row < 18446744073709551616 := by
  obtain ⟨L, s⟩ := h.st
  exact s.row_lt h.stk
theorem Aside.turn (h : Aside vl N t row v us hs top mine) {M : Nat} {t' : US} {hd : Nat} (hm : hd ∈ mine) {L : List Nat} (s : St vl M t' L) (hk : ∀ y, y ≠ hd → t'.f y = t.f y) : Aside vl M t' row v us hs top mine :=
  ⟨⟨L, s⟩, h.stk.keep (fun y hy => hk y (fun e => by
    have := h.off hd hm
    rcases hy with q | q
    · exact this.1 (by rw [← e, q])
    · exact this.2 (by rw [← e]; exact q))), h.pos, h.lt, h.off⟩
theorem Aside.change (h : Aside vl N t row v us hs top mine) {u : VerV} (hu : u.Fit vl) {hd nx : Nat} (hm : hd ∈ mine) (hx : nx ∈ mine) : ∃ q t', t.change vl hd u nx = (q, t') ∧ Aside vl N t' row v us hs top mine := by
  obtain ⟨L, s⟩ := h.st
  obtain ⟨q, t', e, s', hk⟩ := s.change_any hu (h.lt hd hm) (h.lt nx hx)
  exact ⟨q, t', e, h.turn hm s' hk⟩
theorem Aside.cut (h : Aside vl N t row v us hs top mine) {hd : Nat} (hm : hd ∈ mine) : ∃ q t', t.cut hd = (q, t') ∧ Aside vl N t' row v us hs top mine := by
  obtain ⟨L, s⟩ := h.st
  obtain ⟨q, t', e, s', hk⟩ := s.cut_any (h.lt hd hm)
  exact ⟨q, t', e, h.turn hm s' hk⟩
theorem Aside.free (h : Aside vl N t row v us hs top mine) {hd : Nat} (hm : hd ∈ mine) : ∃ q t', t.free hd = (q, t') ∧ Aside vl N t' row v us hs top mine := by
  obtain ⟨L, s⟩ := h.st
  obtain ⟨q, t', e, s', hk⟩ := s.free_any (h.lt hd hm)
  exact ⟨q, t', e, h.turn hm s' hk⟩
theorem Aside.save (h : Aside vl N t row v us hs top mine) (hN : N < 4096) {u o : VerV} (hu : u.Fit vl) (ho : o.Fit vl) {nx : Nat} (hx : nx ∈ mine) : ∃ hd t', t.save vl u nx o = (hd, 0, t') ∧ Aside vl (N + 1) t' row v us hs top (mine ++ [hd]) := by
  obtain ⟨L, s⟩ := h.st
  obtain ⟨hd, t', e, m, s'⟩ := s.save hN hu ho (h.lt nx hx)
  have hne : ∀ y, y = row ∨ y ∈ hs → y ≠ hd := fun y hy e => by
    subst e
    exact h.stk.live y (List.mem_cons.2 hy) m.fresh
  refine ⟨hd, t', e, ⟨_, s'⟩, h.stk.keep (fun y hy => by rw [m.f, updU_other _ _ (hne y hy)]), by simp, fun y hy => ?_, fun y hy => ?_⟩
  · rcases List.mem_append.1 hy with q | q
    · exact h.lt y q
    · rw [List.mem_singleton] at q; subst q; exact m.lt
  · rcases List.mem_append.1 hy with q | q
    · exact h.off y q
    · rw [List.mem_singleton] at q; subst q
      exact ⟨fun e => hne row (Or.inl rfl) e.symm, fun e => hne y (Or.inr e) rfl⟩
end
theorem Aside.start {vl k m row row1 top top1 : Nat} {t t1 t2 : US} {v v1 : VerV} {us us1 : List VerV} {hs hs1 : List Nat} {L : List Nat} (h1 : Stacked vl 0 t L k row1 v1 us1 hs1 top1 t1) {L1 : List Nat} (h2 : Stacked vl (0 + k) t1 L1 m row v us hs top t2) : Aside vl (0 + k + m) t2 row v us hs top (row1 :: hs1.reverse) := by
  have hl : ∀ y ∈ row1 :: hs1.reverse, t1.f y ≠ none := fun y hy => h1.stk.live y (by
    rcases List.mem_cons.1 hy with q | q
    · exact List.mem_cons.2 (Or.inl q)
    · exact List.mem_cons.2 (Or.inr (List.mem_reverse.1 q)))
  refine ⟨⟨_, h2.st⟩, h2.stk, by simp, fun y hy => ?_, fun y hy => ?_⟩
  · exact (h1.st.live.pos y ((h1.st.live.mem y).1 (hl y hy))).2
  · exact ⟨fun e => hl y hy (h2.fresh y (Or.inl e)), fun e => hl y hy (h2.fresh y (Or.inr e))⟩
end Go.Proofs.YtckkccnebjacdaaGreat
