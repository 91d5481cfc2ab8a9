/-
  Package undo: all segments together are the records. Of states alone.
-/
import Derived.Test.YtckkccnebjacdaaGreatMgUnSorted
import Derived.Test.YtckkccnebjacdaaGreatMgUnBag
namespace Go.Proofs.YtckkccnebjacdaaGreat
open Go.RowKit
set_option linter.unusedVariables false
set_option linter.unusedSimpArgs false
set_option maxRecDepth 100000

theorem nodup_fm {α : Type} {f : Int → List α} (h1 : ∀ k, (f k).Nodup) (h2 : ∀ k k' y, y ∈ f k → y ∈ f k' → k = k') : ∀ {ks : List Int}, ks.Pairwise (· < ·) → (ks.flatMap f).Nodup
  | [], _ => List.nodup_nil
  | k :: ks, h => by
    have hc := List.pairwise_cons.1 h
    rw [List.flatMap_cons, List.nodup_append]
    refine ⟨h1 k, nodup_fm h1 h2 hc.2, fun a ha b hb e => ?_⟩
    subst e
    obtain ⟨k', hk', ha'⟩ := List.mem_flatMap.1 hb
    have := h2 k k' a ha ha'
    have := hc.1 k' hk'
    omega
def isRec (t : US) (y : Nat) : Bool := match t.f y with
  | some n => n.rcd
  | none => false
theorem seg_sum {vl N : Nat} {t : US} {L : List Nat} {ks : List Int} (h : St vl N t L) (hk : Keys t ks) : (ks.map fun k => (t.seg k).length).sum = (L.filter (isRec t)).length := by
  have e : (ks.map fun k => (t.seg k).length).sum = (ks.flatMap t.seg).length := by rw [List.length_flatMap]
  rw [e]
  have hn : (ks.flatMap t.seg).Nodup := nodup_fm h.is_.segn (fun k k' y h1 h2 => by
    obtain ⟨n, q1, _, q3⟩ := h.is_.segf k y h1
    obtain ⟨n', r1, _, r3⟩ := h.is_.segf k' y h2
    rw [q1] at r1; cases r1
    rw [← q3, ← r3]) hk.lt
  have hm : (L.filter (isRec t)).Nodup := h.live.nd.filter _
  apply Nat.le_antisymm
  · refine hn.length_le_of_subset (fun y hy => ?_)
    obtain ⟨k, _, hy⟩ := List.mem_flatMap.1 hy
    obtain ⟨n, q1, q2, _⟩ := h.is_.segf k y hy
    exact List.mem_filter.2 ⟨(h.live.mem y).1 (by rw [q1]; simp), by unfold isRec; rw [q1]; exact q2⟩
  · refine hm.length_le_of_subset (fun y hy => ?_)
    obtain ⟨h1, h2⟩ := List.mem_filter.1 hy
    unfold isRec at h2
    cases q : t.f y with
    | none => rw [q] at h2; cases h2
    | some n =>
      rw [q] at h2
      have hs := h.is_.segb y n (h.live.pos y h1).2 q h2
      exact List.mem_flatMap.2 ⟨_, (hk.mem _).2 (fun e => by rw [e] at hs; simp at hs), hs⟩
theorem stk_recs {vl row top : Nat} {t : US} {v : VerV} {us : List VerV} {hs : List Nat} (s : Stk vl t.f 0 row v us hs top) : ((hs ++ [row]).filter (isRec t)).length = us.length := by
  have e1 : hs.filter (isRec t) = hs := List.filter_eq_self.2 (fun y hy => by
    obtain ⟨n, q1, q2⟩ := s.chn.live y hy
    unfold isRec; rw [q1]; exact q2)
  have e2 : isRec t row = false := by unfold isRec; rw [s.row]; rfl
  rw [List.filter_append, e1, List.filter_cons, e2, s.chn.len]
  simp
end Go.Proofs.YtckkccnebjacdaaGreat
