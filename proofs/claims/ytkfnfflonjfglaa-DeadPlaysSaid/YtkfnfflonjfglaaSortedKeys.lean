/-
  slices.Sorted(maps.Keys(m)), m a map of ints that is known whole: the keys, rising, in new memory.
-/
import Derived.Test.YtkfnfflonjfglaaShelf
import Derived.Test.YtkfnfflonjfglaaSlice
import Derived.Test.YtkfnfflonjfglaaMax
namespace Go.Proofs.Ytkfnfflonjfglaa
open Go.RowKit Go.Maps Go.Sort Go.Shelf Go.WideShapes Go.ChangeMaps
open Go.WideElems (Fit rd rg rg_of)
set_option linter.unusedVariables false
set_option linter.unusedSimpArgs false
set_option maxRecDepth 100000

theorem keyOf_int {n : Int} (h : (Lit.int .i64 n).wf = true) : keyOf Try.prog 3 (.int .i64 n) = some (.int .i64 n) := by
  unfold keyOf
  simp [Try.underlying3, mapKey, h]
def anyR : Value → Option (DataW Unit × List MemPlace) := fun _ => some (.nil, [])
theorem owns_of {V : Type} {w : World} {m : Nat} {ev : V → Value} {l : List (Int × V)} (h : MapAt w m (Value.int .i64) ev l) (hk : ∀ p ∈ l, (Lit.int .i64 p.1).wf = true) (hn : l.length ≤ maxLen) :
    ∃ D0 : DataW Unit, w.ownsMap Try.prog 3 anyR m l.length D0 ∧ Maps.size D0 = l.length ∧ (intKeys D0).Perm (l.map (·.1)) := by
  obtain ⟨es, clock, hb, hkv, hborn, hnd, hkn⟩ := h
  have hlen : es.toList.length = l.length := by have := congrArg List.length hkv; simpa using this
  have hkeys := (zip_of_map hkv).1
  have hrd : ∀ x ∈ es.toList, ∃ k, x.key = .int .i64 k ∧ (Lit.int .i64 k).wf = true := by
    intro x hx
    have : x.key ∈ es.toList.map (·.key) := List.mem_map_of_mem hx
    rw [hkeys] at this
    obtain ⟨k, hk1, hk2⟩ := List.mem_map.1 this
    obtain ⟨p, hp, rfl⟩ := List.mem_map.1 hk1
    exact ⟨p.1, hk2.symm, hk p hp⟩
  have hnk : (es.toList.map (·.key)).Nodup := by
    rw [hkeys]
    exact hkn.map (Value.int .i64) (fun a b hab e => hab (by simpa using e))
  have hread : ∀ x ∈ es.toList, ∃ k, rd Try.prog 3 anyR x = some (.int .i64 k, .nil) ∧ x.key = .int .i64 k := by
    intro x hx
    obtain ⟨k, h1, h2⟩ := hrd x hx
    refine ⟨k, ?_, h1⟩
    unfold Go.WideElems.rd
    rw [h1, keyOf_int h2]; rfl
  have hmapped : es.toList.map (fun x => _root_.Go.intOf (rg Try.prog 3 anyR x).1) = l.map (·.1) := by
    have h1 : es.toList.map (fun x => _root_.Go.intOf (rg Try.prog 3 anyR x).1) = (es.toList.map (·.key)).map Go.RowKit.intOf := by
      rw [List.map_map]
      apply List.map_congr_left
      intro x hx
      obtain ⟨k, h1, h2⟩ := hread x hx
      simp only [Function.comp_apply]
      rw [rg_of h1, h2]; rfl
    rw [h1, hkeys, List.map_map]
    apply (List.map_congr_left (fun k _ => rfl)).trans
    exact List.map_id _
  refine ⟨.map ((es.toList.map (rg Try.prog 3 anyR)).foldr DataW.insert []), ⟨es, clock, hb, ⟨?_, ⟨hborn, hnd, hnk⟩, fun x hx => ?_⟩, ?_, rfl⟩, ?_, ?_⟩
  · rw [← Array.length_toList, hlen]; exact hn
  · obtain ⟨k, h1, _⟩ := hread x hx; exact ⟨_, h1⟩
  · rw [← Array.length_toList, hlen]; exact Nat.le_refl _
  · show ((es.toList.map (rg Try.prog 3 anyR)).foldr DataW.insert []).length = l.length
    rw [(sorted_perm _).length_eq, List.length_map, hlen]
  · show (((es.toList.map (rg Try.prog 3 anyR)).foldr DataW.insert []).map fun p => _root_.Go.intOf p.1).Perm _
    refine ((sorted_perm _).map _).trans ?_
    rw [List.map_map, ← hmapped]
    exact List.Perm.refl _

theorem sorts_any (m : Nat) : AnyZI.SortsIn Try.prog sortedA_ren Fence.wide m :=
  ⟨fun blk off cap ss W hH hblk hsz => callsIn_wide.2 (AnyM.slices_Sort_int sortA blk off cap ss W hH hblk hsz),
   fun p cap W => callsIn_wide.2 (AnyM.slices_Sort_int_none sortA p cap W)⟩

def sortK (l : List Int) : List Int := l.mergeSort (fun x y => decide (x ≤ y))
theorem keys_call (w : World) (m : Nat) : Calls Try.prog 30 #[.map (some m)] w fun e w' => e = .returned (.func (.func 34) #[] #[.pointer (some ⟨w.heap.size, 0, none⟩)]) ∧ w' = w.alloc (.cells #[.map (some m)] 48) :=
  (callsIn_wide (n := 5)).1 (AnyZI.keys_in keysA Fence.wide 5 trivial rfl (some m) w)
set_option maxHeartbeats 1000000 in
theorem sorted_call {V : Type} {w : World} {m : Nat} {ev : V → Value} {l : List (Int × V)} (h : MapAt w m (Value.int .i64) ev l) (hk : ∀ p ∈ l, (Lit.int .i64 p.1).wf = true) (hn : l.length ≤ 1000000) (w1 : World) (hw1 : w1 = w.alloc (.cells #[.map (some m)] 48)) :
    Calls Try.prog 29 #[.func (.func 34) #[] #[.pointer (some ⟨w.heap.size, 0, none⟩)]] w1 fun e w' =>
      ∃ a n cap, e = .returned (.slice a n cap) ∧ n = l.length ∧ SlAt w' a n cap 3 1 ((sortK (l.map (·.1))).map (Value.int .i64)) ∧ Fr none_ w1 w' ∧ ∀ k, blk a k → w1.heap.size ≤ k := by
  subst hw1
  obtain ⟨D0, hown, hsz, hperm⟩ := owns_of h hk (by simp [maxLen]; omega)
  have hbl := hown.lt
  have hseq : SeqGives Fence.wide 2 Try.prog 34 #[.pointer (some ⟨w.heap.size, 0, none⟩)] encZ (fun ss => ss.Perm (intKeys D0)) (Maps.size D0) (w.alloc (.cells #[.map (some m)] 48)) :=
    AnyZI.keys_gives (ρ := keysA_ren) { keysA with } Fence.wide _ trivial rfl (by omega) w.heap.size m l.length D0 _ (by simp) (by simp) (by
      obtain ⟨es, clock, hb, Ft, hs, hD⟩ := hown
      exact ⟨es, clock, (Below.heap_alloc _ _ m hbl).trans hb, Ft, hs, hD⟩)
  have cS := AnyZI.sorted_in sortedA Fence.wide 5 trivial trivial trivial trivial rfl (by omega) (sorts_any _) (enters_of Try.func33 (by kernel_rfl) rfl) 34 #[.pointer (some ⟨w.heap.size, 0, none⟩)] trivial (enters_of Try.func34 (by kernel_rfl) rfl) _ _ (by rw [hsz]; simp [maxLen]; omega) (by rw [hsz]; omega) _ hseq
  change CallsIn _ _ Try.prog 29 _ _ _ at cS
  refine ((callsIn_wide).1 cS).mono ?_
  rintro e w' ⟨v, ss, rfl, hS, hrow, hnil, hb⟩
  have hp : ss.Perm (l.map (·.1)) := hS.trans hperm
  have hl : ss.length = l.length := by rw [hp.length_eq, List.length_map]
  have hsort : ss.mergeSort (fun x y => decide (x ≤ y)) = sortK (l.map (·.1)) := by
    unfold sortK
    refine List.Perm.eq_of_pairwise (le := fun a b => decide (a ≤ b) = true) ?_ ?_ ?_ ?_
    · intro a b _ _ h1 h2
      have := of_decide_eq_true h1; have := of_decide_eq_true h2; omega
    · exact List.pairwise_mergeSort (fun a b c h1 h2 => by have := of_decide_eq_true h1; have := of_decide_eq_true h2; exact decide_eq_true (by omega)) (fun a b => by simp; omega) _
    · exact List.pairwise_mergeSort (fun a b c h1 h2 => by have := of_decide_eq_true h1; have := of_decide_eq_true h2; exact decide_eq_true (by omega)) (fun a b => by simp; omega) _
    · exact ((List.mergeSort_perm _ _).trans hp).trans (List.mergeSort_perm _ _).symm
  rw [hsort, hl] at hrow
  have fr : Fr none_ (w.alloc (.cells #[.map (some m)] 48)) w' := Fr.of_below hb none_ (fun k h1 h2 => by omega)
  rcases hrow with ⟨hx, ⟨rfl, h0⟩ | ⟨g, cap, cur, rfl, hg, hc, h1, h2, h3, h4⟩⟩
  · refine ⟨none, 0, 0, rfl, h0.symm, ⟨by rw [hx, h0], Nat.le_refl _, Nat.zero_le _, fun _ => rfl, fun _ e => by cases e⟩, fr, fun k hk => absurd hk (blk_none k)⟩
  · refine ⟨some ⟨g, 0, none⟩, _, cap, rfl, rfl, ⟨hx, h1, h2, (fun e => by cases e), fun ad had => ?_⟩, fr, fun k hk => ?_⟩
    · cases had
      exact ⟨rfl, rfl, cur, hc, h3, h4⟩
    · rw [blk_some] at hk; omega
end Go.Proofs.Ytkfnfflonjfglaa
