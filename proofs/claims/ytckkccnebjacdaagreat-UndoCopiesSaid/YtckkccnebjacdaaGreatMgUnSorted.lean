/-
  slices.Sorted(maps.Keys(m)), m a map of slices of handles, known whole: the keys, rising, in new memory.
  Package undo: Segments: the writers whose segments have some, rising.
-/
import Derived.Test.YtckkccnebjacdaaGreatShelf
import Derived.Test.YtckkccnebjacdaaGreatMgSlice
import Derived.Test.YtckkccnebjacdaaGreatMax
import Derived.Test.YtckkccnebjacdaaGreatMgUnBag
namespace Go.Proofs.YtckkccnebjacdaaGreat
open Go.RowKit Go.Maps Go.Sort Go.Shelf Go.WideShapes Go.ChangeMaps
open Go.WideElems (Fit rd rg rg_of)
set_option linter.unusedVariables false
set_option linter.unusedSimpArgs false
set_option maxRecDepth 100000

theorem keyOf_int {n : Int} (h : (Lit.int .i64 n).wf = true) : keyOf Tryz.prog 3 (.int .i64 n) = some (.int .i64 n) := by
  unfold keyOf
  simp [Tryz.underlying3, mapKey, h]
def anyR : Value → Option (DataW Unit × List MemPlace) := fun _ => some (.nil, [])
theorem owns_of {V : Type} {w : World} {m : Nat} {ev : V → Value} {l : List (Int × V)} (h : MapAt w m (Value.int .i64) ev l) (hk : ∀ p ∈ l, (Lit.int .i64 p.1).wf = true) (hn : l.length ≤ maxLen) :
    ∃ D0 : DataW Unit, w.ownsMap Tryz.prog 3 anyR m l.length D0 ∧ Maps.size D0 = l.length ∧ (intKeys D0).Perm (l.map (·.1)) := by
  obtain ⟨es, clock, hb, hkv, hborn, hnd, hkn⟩ := h
  have hlen : es.toList.length = l.length := by have := congrArg List.length hkv; simpa using this
  have hkeys := (zip_of_map hkv).1
  have hrd : ∀ x ∈ es.toList, ∃ k, x.key = .int .i64 k ∧ (Lit.int .i64 k).wf = true := by
    intro x hx
    have : x.key ∈ es.toList.map (·.key) := List.mem_map_of_mem hx
    rw [hkeys] at this
    obtain ⟨k, hk1, hk2⟩ := List.mem_map.1 this
    obtain ⟨p, hp, rfl⟩ := List.mem_map.1 hk1
    exact ⟨p.1, hk2.symm, hk p hp⟩
  have hnk : (es.toList.map (·.key)).Nodup := by
    rw [hkeys]
    exact hkn.map (Value.int .i64) (fun a b hab e => hab (by simpa using e))
  have hread : ∀ x ∈ es.toList, ∃ k, rd Tryz.prog 3 anyR x = some (.int .i64 k, .nil) ∧ x.key = .int .i64 k := by
    intro x hx
    obtain ⟨k, h1, h2⟩ := hrd x hx
    refine ⟨k, ?_, h1⟩
    unfold Go.WideElems.rd
    rw [h1, keyOf_int h2]; rfl
  have hmapped : es.toList.map (fun x => _root_.Go.intOf (rg Tryz.prog 3 anyR x).1) = l.map (·.1) := by
    have h1 : es.toList.map (fun x => _root_.Go.intOf (rg Tryz.prog 3 anyR x).1) = (es.toList.map (·.key)).map Go.RowKit.intOf := by
      rw [List.map_map]
      apply List.map_congr_left
      intro x hx
      obtain ⟨k, h1, h2⟩ := hread x hx
      simp only [Function.comp_apply]
      rw [rg_of h1, h2]; rfl
    rw [h1, hkeys, List.map_map]
    apply (List.map_congr_left (fun k _ => rfl)).trans
    exact List.map_id _
  refine ⟨.map ((es.toList.map (rg Tryz.prog 3 anyR)).foldr DataW.insert []), ⟨es, clock, hb, ⟨?_, ⟨hborn, hnd, hnk⟩, fun x hx => ?_⟩, ?_, rfl⟩, ?_, ?_⟩
  · rw [← Array.length_toList, hlen]; exact hn
  · obtain ⟨k, h1, _⟩ := hread x hx; exact ⟨_, h1⟩
  · rw [← Array.length_toList, hlen]; exact Nat.le_refl _
  · show ((es.toList.map (rg Tryz.prog 3 anyR)).foldr DataW.insert []).length = l.length
    rw [(sorted_perm _).length_eq, List.length_map, hlen]
  · show (((es.toList.map (rg Tryz.prog 3 anyR)).foldr DataW.insert []).map fun p => _root_.Go.intOf p.1).Perm _
    refine ((sorted_perm _).map _).trans ?_
    rw [List.map_map, ← hmapped]
    exact List.Perm.refl _

theorem sorts_any (m : Nat) : AnyZI.SortsIn Tryz.prog sortedA_ren Fence.wide m :=
  ⟨fun blk off cap ss W hH hblk hsz => callsIn_wide.2 (AnyM.slices_Sort_int sortA blk off cap ss W hH hblk hsz),
   fun p cap W => callsIn_wide.2 (AnyM.slices_Sort_int_none sortA p cap W)⟩

def sortK (l : List Int) : List Int := l.mergeSort (fun x y => decide (x ≤ y))
theorem keys_call (w : World) (m : Nat) : Calls Tryz.prog 62 #[.map (some m)] w fun e w' => e = .returned (.func (.func 97) #[] #[.pointer (some ⟨w.heap.size, 0, none⟩)]) ∧ w' = w.alloc (.cells #[.map (some m)] 80) :=
  (callsIn_wide (n := 5)).1 (AnyZI.keys_in keysA Fence.wide 5 trivial rfl (some m) w)
set_option maxHeartbeats 1000000 in
theorem sorted_call {V : Type} {w : World} {m : Nat} {ev : V → Value} {l : List (Int × V)} (h : MapAt w m (Value.int .i64) ev l) (hk : ∀ p ∈ l, (Lit.int .i64 p.1).wf = true) (hn : l.length ≤ 1000000) (w1 : World) (hw1 : w1 = w.alloc (.cells #[.map (some m)] 80)) :
    Calls Tryz.prog 61 #[.func (.func 97) #[] #[.pointer (some ⟨w.heap.size, 0, none⟩)]] w1 fun e w' =>
      ∃ a n cap, e = .returned (.slice a n cap) ∧ n = l.length ∧ SlAt w' a n cap 3 1 ((sortK (l.map (·.1))).map (Value.int .i64)) ∧ Fr none_ w1 w' ∧ ∀ k, blk a k → w1.heap.size ≤ k := by
  subst hw1
  obtain ⟨D0, hown, hsz, hperm⟩ := owns_of h hk (by simp [maxLen]; omega)
  have hbl := hown.lt
  have hseq : SeqGives Fence.wide 2 Tryz.prog 97 #[.pointer (some ⟨w.heap.size, 0, none⟩)] encZ (fun ss => ss.Perm (intKeys D0)) (Maps.size D0) (w.alloc (.cells #[.map (some m)] 80)) :=
    AnyZI.keys_gives (ρ := keysA_ren) { keysA with } Fence.wide _ trivial rfl (by omega) w.heap.size m l.length D0 _ (by simp) (by simp) (by
      obtain ⟨es, clock, hb, Ft, hs, hD⟩ := hown
      exact ⟨es, clock, (Below.heap_alloc _ _ m hbl).trans hb, Ft, hs, hD⟩)
  have cS := AnyZI.sorted_in sortedA Fence.wide 5 trivial trivial trivial trivial rfl (by omega) (sorts_any _) (enters_of Tryz.func96 (by kernel_rfl) rfl) 97 #[.pointer (some ⟨w.heap.size, 0, none⟩)] trivial (enters_of Tryz.func97 (by kernel_rfl) rfl) _ _ (by rw [hsz]; simp [maxLen]; omega) (by rw [hsz]; omega) _ hseq
  change CallsIn _ _ Tryz.prog 61 _ _ _ at cS
  refine ((callsIn_wide).1 cS).mono ?_
  rintro e w' ⟨v, ss, rfl, hS, hrow, hnil, hb⟩
  have hp : ss.Perm (l.map (·.1)) := hS.trans hperm
  have hl : ss.length = l.length := by rw [hp.length_eq, List.length_map]
  have hsort : ss.mergeSort (fun x y => decide (x ≤ y)) = sortK (l.map (·.1)) := by
    unfold sortK
    refine List.Perm.eq_of_pairwise (le := fun a b => decide (a ≤ b) = true) ?_ ?_ ?_ ?_
    · intro a b _ _ h1 h2
      have := of_decide_eq_true h1; have := of_decide_eq_true h2; omega
    · exact List.pairwise_mergeSort (fun a b c h1 h2 => by have := of_decide_eq_true h1; have := of_decide_eq_true h2; exact decide_eq_true (by omega)) (fun a b => by simp; omega) _
    · exact List.pairwise_mergeSort (fun a b c h1 h2 => by have := of_decide_eq_true h1; have := of_decide_eq_true h2; exact decide_eq_true (by omega)) (fun a b => by simp; omega) _
    · exact ((List.mergeSort_perm _ _).trans hp).trans (List.mergeSort_perm _ _).symm
  rw [hsort, hl] at hrow
  have fr : Fr none_ (w.alloc (.cells #[.map (some m)] 80)) w' := Fr.of_below hb none_ (fun k h1 h2 => by omega)
  rcases hrow with ⟨hx, ⟨rfl, h0⟩ | ⟨g, cap, cur, rfl, hg, hc, h1, h2, h3, h4⟩⟩
  · refine ⟨none, 0, 0, rfl, h0.symm, ⟨by rw [hx, h0], Nat.le_refl _, Nat.zero_le _, fun _ => rfl, fun _ e => by cases e⟩, fr, fun k hk => absurd hk (blk_none k)⟩
  · refine ⟨some ⟨g, 0, none⟩, _, cap, rfl, rfl, ⟨hx, h1, h2, (fun e => by cases e), fun ad had => ?_⟩, fr, fun k hk => ?_⟩
    · cases had
      exact ⟨rfl, rfl, cur, hc, h3, h4⟩
    · rw [blk_some] at hk; omega
end Go.Proofs.YtckkccnebjacdaaGreat
namespace Go.Proofs.YtckkccnebjacdaaGreat
open Go.RowKit
set_option linter.unusedVariables false
set_option linter.unusedSimpArgs false
set_option maxRecDepth 100000

theorem sortK_mem (l : List Int) (k : Int) : k ∈ sortK l ↔ k ∈ l := by unfold sortK; exact List.mem_mergeSort
theorem sortK_length (l : List Int) : (sortK l).length = l.length := by unfold sortK; exact List.length_mergeSort _
theorem sortK_lt {l : List Int} (h : l.Nodup) : (sortK l).Pairwise (· < ·) := by
  have hs : (sortK l).Pairwise (fun a b => decide (a ≤ b) = true) := List.pairwise_mergeSort (fun a b c h1 h2 => by have := of_decide_eq_true h1; have := of_decide_eq_true h2; exact decide_eq_true (by omega)) (fun a b => by simp; omega) _
  have hn : (sortK l).Nodup := by unfold sortK; exact (List.mergeSort_perm _ _).symm.nodup h
  have := hs.and hn
  exact this.imp fun {a b} q => by have := of_decide_eq_true q.1; have := q.2; omega
/-- The writers of a state, rising. -/
structure Keys (t : US) (ks : List Int) : Prop where
  lt : ks.Pairwise (· < ·)
  mem : ∀ k, k ∈ ks ↔ t.seg k ≠ []
theorem sorted_eq : ∀ {l m : List Int}, l.Pairwise (· < ·) → m.Pairwise (· < ·) → (∀ k, k ∈ l ↔ k ∈ m) → l = m
  | [], [], _, _, _ => rfl
  | [], b :: m, _, _, h => absurd ((h b).2 (by simp)) (by simp)
  | a :: l, [], _, _, h => absurd ((h a).1 (by simp)) (by simp)
  | a :: l, b :: m, hl, hm, h => by
    have hl' := List.pairwise_cons.1 hl
    have hm' := List.pairwise_cons.1 hm
    have e : a = b := by
      rcases List.mem_cons.1 ((h a).1 (by simp)) with q | q
      · exact q
      · rcases List.mem_cons.1 ((h b).2 (by simp)) with q' | q'
        · exact q'.symm
        · have h1 := hm'.1 a q; have h2 := hl'.1 b q'; omega
    subst e
    congr 1
    refine sorted_eq hl'.2 hm'.2 (fun k => ⟨fun q => ?_, fun q => ?_⟩)
    · rcases List.mem_cons.1 ((h k).1 (List.mem_cons_of_mem _ q)) with e | e
      · subst e; exact absurd (hl'.1 k q) (by omega)
      · exact e
    · rcases List.mem_cons.1 ((h k).2 (List.mem_cons_of_mem _ q)) with e | e
      · subst e; exact absurd (hm'.1 k q) (by omega)
      · exact e
theorem Keys.unique {t : US} {l m : List Int} (h1 : Keys t l) (h2 : Keys t m) : l = m := sorted_eq h1.lt h2.lt fun k => (h1.mem k).trans (h2.mem k).symm
section
variable {w w' : World} {x a m N vl : Nat} {F G : Nat → Prop} {vs : List (Int × SgV)} {c : CfgV} {t : US} {s : AS}
theorem SegM.mem_key (h : SegM w m vs) (k : Int) : k ∈ vs.map (·.1) ↔ segOf vs k ≠ [] := by
  constructor
  · intro hk
    obtain ⟨p, hp, rfl⟩ := List.mem_map.1 hk
    have := mem_kvGet (k := p.1) (v := p.2) h.nodup hp
    unfold segOf; rw [this]; exact h.ne p hp
  · intro hk
    unfold segOf at hk
    cases e : kvGet vs k with
    | none => rw [e] at hk; exact absurd rfl hk
    | some p => exact List.mem_map.2 ⟨(k, p), kvGet_mem e, rfl⟩
theorem un_segments (h : Un G w x c vl N t) (hN : N ≤ 1000000) :
    Calls Tryz.prog 19 #[.pointer (some ⟨x, 0, none⟩)] w fun e w' => ∃ a n cap ks, e = .returned (.slice a n cap) ∧ n = ks.length ∧ SlAt w' a n cap 3 1 (ks.map (Value.int .i64)) ∧ Keys t ks ∧ Fr none_ w w' := by
  obtain ⟨a, m, F, vs, h, rfl⟩ := h
  have c9 := h.at_.mapc
  have hkey : ∀ p ∈ vs, (Lit.int .i64 p.1).wf = true := fun p hp => by
    have h1 := (h.at_.seg.mem_key p.1).1 (List.mem_map_of_mem hp)
    rw [h.seg] at h1
    have h2 := h.is_.segk _ h1
    unfold Lit.wf
    simp only [Bool.and_eq_true, decide_eq_true_eq]
    exact ⟨show (-9223372036854775808 : Int) ≤ p.1 by omega, show p.1 ≤ (9223372036854775807 : Int) by omega⟩
  have hkc := keys_call w m
  obtain ⟨w1, hw1⟩ : ∃ w1, w1 = w.alloc (.cells #[.map (some m)] 80) := ⟨_, rfl⟩
  have F1 := Lib.hid (show Fr none_ w w1 by rw [hw1]; exact Fr.alloc _ _ _)
  have hsc := sorted_call h.at_.seg.map hkey (by have := h.keys; omega) w1 hw1
  rw [← hw1] at hkc
  have HK := Lib.hid (show Keys t (sortK (vs.map (·.1))) from ⟨sortK_lt h.at_.seg.nodup, fun k => by rw [sortK_mem, h.at_.seg.mem_key, h.seg]⟩)
  have HL := Lib.hid (show (sortK (vs.map (·.1))).length = vs.length by rw [sortK_length, List.length_map])
  have HKC := Lib.hid hkc
  have HSC := Lib.hid hsc
  clear hkc hsc hw1 h hkey
  go_enter Tryz.func19, Tryz.ntmps19
  go_wp2_with fail
  refine HKC.out.mono ?_
  rintro e w2 ⟨rfl, rfl⟩
  go_wp2_with fail
  refine HSC.out.mono ?_
  rintro e w3 ⟨ka, n, kc, rfl, hnl, hsl, f3, hb3⟩
  have HX := Lib.hid (And.intro hnl (And.intro hsl f3))
  clear hnl hsl f3 hb3
  go_wp2_with fail
  go_ret
  exact ⟨ka, n, kc, _, rfl, HX.out.1.trans HL.out.symm, HX.out.2.1, HK.out, F1.out.trans HX.out.2.2⟩
end
theorem bu_segments {W w : World} {Ts : List Thing} {i x N vl : Nat} {c : CfgV} {t : US} (h : Bag W Ts w) (hi : Ts[i]? = some (tUn x c vl N t)) (hN : N ≤ 1000000) :
    Calls Tryz.prog 19 #[.pointer (some ⟨x, 0, none⟩)] w fun e w' => ∃ a n cap ks, e = .returned (.slice a n cap) ∧ n = ks.length ∧ SlAt w' a n cap 3 1 (ks.map (Value.int .i64)) ∧ Keys t ks ∧ Fr none_ w w' := by
  obtain ⟨F, hc⟩ := h.un hi; exact un_segments hc hN
end Go.Proofs.YtckkccnebjacdaaGreat
