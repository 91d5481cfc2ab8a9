/-
  The reference of layer 9: Of, as the program computes it: the same list as the program's.
-/
import Derived.Test.YtnnomeichppkpaaVwRef2
namespace Go.Proofs.Ytnnomeichppkpaa
open Go.RowKit Go.Sort
set_option linter.unusedVariables false
set_option linter.unusedSimpArgs false
set_option maxRecDepth 100000

/-- Behind the first k: what is kept of them. -/
structure VrIs (own high : Int) (l : List Int) (k : Nat) (acc : List Int) : Prop where
  rise : Rise acc
  mem : ∀ x, x ∈ acc ↔ x ∈ l.take k ∧ 1 ≤ x ∧ x < high ∧ x ≠ own
  len : acc.length ≤ k
theorem VrIs.zero (own high : Int) (l : List Int) : VrIs own high l 0 [] := ⟨by simp, by simp, by simp⟩
theorem VrIs.skip {own high : Int} {l : List Int} {k : Nat} {acc : List Int} (h : VrIs own high l k acc) {x : Int} (hx : l[k]? = some x) (hn : x ∈ acc ∨ ¬ (1 ≤ x ∧ x < high ∧ x ≠ own)) : VrIs own high l (k + 1) acc := by
  refine ⟨h.rise, fun y => ?_, by have := h.len; omega⟩
  rw [h.mem, List.take_add_one, hx, List.mem_append]
  constructor
  · rintro ⟨q1, q2⟩; exact ⟨Or.inl q1, q2⟩
  · rintro ⟨q1 | q1, q2⟩
    · exact ⟨q1, q2⟩
    · obtain rfl : y = x := by simpa using q1
      rcases hn with hn | hn
      · exact (h.mem y).1 hn
      · exact absurd q2 hn
theorem VrIs.put {own high : Int} {l : List Int} {k : Nat} {acc : List Int} (h : VrIs own high l k acc) {x : Int} (hx : l[k]? = some x) (hok : 1 ≤ x ∧ x < high ∧ x ≠ own) (hna : x ∉ acc) (at_ : Nat) (hat : ∀ y ∈ acc.take at_, y < x) (hle : ∀ y, acc[at_]? = some y → x ≤ y) :
    VrIs own high l (k + 1) (acc.take at_ ++ x :: acc.drop at_) := by
  have hsplit : acc.take at_ ++ acc.drop at_ = acc := List.take_append_drop at_ acc
  have hdrop : ∀ y ∈ acc.drop at_, x < y := by
    intro y hy
    cases hd : acc.drop at_ with
    | nil => rw [hd] at hy; simp at hy
    | cons z r =>
      have hz : acc[at_]? = some z := by
        have := List.getElem?_drop (xs := acc) (i := at_) (j := 0)
        rw [hd] at this; simpa using this.symm
      have hzx : x < z := by
        have h1 := hle z hz
        have h2 : x ≠ z := fun e => hna (e ▸ List.mem_of_getElem? hz)
        omega
      have hr : Rise (z :: r) := by rw [← hd]; exact h.rise.sublist (List.drop_sublist _ _)
      rw [hd] at hy
      rcases List.mem_cons.1 hy with rfl | hy
      · exact hzx
      · have := (List.pairwise_cons.1 hr).1 y hy
        omega
  refine ⟨List.pairwise_append.2 ⟨h.rise.sublist (List.take_sublist _ _), List.pairwise_cons.2 ⟨hdrop, h.rise.sublist (List.drop_sublist _ _)⟩, fun a ha b hb => ?_⟩, fun y => ?_, ?_⟩
  · rcases List.mem_cons.1 hb with rfl | hb
    · exact hat a ha
    · have := hat a ha; have := hdrop b hb; omega
  · have hm : y ∈ acc.take at_ ++ x :: acc.drop at_ ↔ y ∈ acc ∨ y = x := by
      constructor
      · intro q
        rcases List.mem_append.1 q with q | q
        · exact Or.inl (List.mem_of_mem_take q)
        · rcases List.mem_cons.1 q with q | q
          · exact Or.inr q
          · exact Or.inl (List.mem_of_mem_drop q)
      · rintro (q | q)
        · rw [← hsplit] at q
          rcases List.mem_append.1 q with q | q
          · exact List.mem_append_left _ q
          · exact List.mem_append_right _ (List.mem_cons_of_mem _ q)
        · rw [q]; exact List.mem_append_right _ (List.mem_cons_self ..)
    rw [hm, h.mem, List.take_add_one, hx, List.mem_append]
    constructor
    · rintro (⟨q1, q2⟩ | rfl)
      · exact ⟨Or.inl q1, q2⟩
      · exact ⟨Or.inr (by simp), hok⟩
    · rintro ⟨q1 | q1, q2⟩
      · exact Or.inl ⟨q1, q2⟩
      · exact Or.inr (by simpa using q1)
  · have := h.len
    have e : (acc.take at_ ++ x :: acc.drop at_).length = acc.length + 1 := by
      rw [List.length_append, List.length_cons, List.length_take, List.length_drop]; omega
    omega
theorem VrIs.fin {own high : Int} {l acc : List Int} (h : VrIs own high l l.length acc) : acc = vwBusy own high l := by
  obtain ⟨q1, q2⟩ := vwBusy_spec own high l
  refine rise_ext h.rise q1 (fun x => ?_)
  rw [h.mem, q2, List.take_length]

/-- The reference's view under way: its block X, its slice. -/
structure VrAt (W w : World) (X : Nat) (own high : Int) (a : Option Addr) (n c : Nat) (acc : List Int) : Prop where
  row : Row w X #[.int .i64 own, .int .i64 high, .slice a n c] 38
  sl : SlAt w a n c 3 1 (acc.map encI)
  len : n = acc.length
  new : ∀ k, blk a k → X < k
  fr : Fr none_ W w
  old : W.heap.size < X
  res : Row w W.heap.size #[.int .i64 0, .int .i64 0, .slice none 0 0] 38
theorem VrAt.kept {W w w' : World} {X : Nat} {own high : Int} {a : Option Addr} {n c : Nat} {acc : List Int} {F : Nat → Prop} (h : VrAt W w X own high a n c acc) (f : Fr F w w') (hF : ∀ k, F k → X < k ∧ ¬ blk a k) : VrAt W w' X own high a n c acc :=
  ⟨h.row.kept f (fun e => by have := (hF _ e).1; omega), h.sl.kept f (fun k hk e => (hF _ e).2 hk), h.len, h.new, h.fr.step f (fun i hi e => by have := (hF _ e).1; have := h.old; omega), h.old, h.res.kept f (fun e => by have := (hF _ e).1; have := h.old; omega)⟩
theorem VrAt.put {W w : World} {X : Nat} {own high : Int} {a a' : Option Addr} {n c n' c' : Nat} {acc acc' : List Int} (h : VrAt W w X own high a n c acc) (hs : SlAt w a' n' c' 3 1 (acc'.map encI)) (hn : n' = acc'.length) (hnew : ∀ k, blk a' k → X < k) :
    VrAt W (w.setCell ⟨X, 2, none⟩ (.slice a' n' c')) X own high a' n' c' acc' := by
  have f : Fr (one X) w (w.setCell ⟨X, 2, none⟩ (.slice a' n' c')) := Fr.setCell _ _ _ _ (fun _ => rfl)
  have hr := h.row.set 2 (.slice a' n' c')
  refine ⟨hr, hs.kept f (fun k hk e => by have := hnew k hk; unfold one at e; omega), hn, hnew, h.fr.step f (fun i hi e => by have := h.old; unfold one at e; omega), h.old, h.res.kept f (fun e => by have := h.old; unfold one at e; omega)⟩
theorem one_ls (w : World) (e : TypeId) (x : Int) : IntsAt (w.alloc (.cells #[.int .i64 x] e)) (some ⟨w.heap.size, 0, none⟩) [x] :=
  (SlAt.one w e (.int .i64 x)).ls1 (enc := encI) (l := [x]) rfl
theorem made_fr (w : World) (e : TypeId) (cs : Array Value) : Fr none_ w (w.alloc (.cells cs e)) := Fr.alloc _ _ _
set_option maxHeartbeats 4000000 in
theorem rOf_any (w : World) (own high : Int) (ba : Option Addr) (bc n : Nat) (l : List Int) (hl : IntsAt w ba l) (hn : n = l.length) (hb : n ≤ 100000) :
    Calls Try.prog 12 #[.int .i64 own, .int .i64 high, .slice ba n bc] w fun e w' => ∃ a m cap', e = .returned (vwV own high a m cap') ∧ m = (vwBusy own high l).length ∧ SlAt w' a m cap' 3 1 ((vwBusy own high l).map encI) ∧ Fr none_ w w' ∧ ∀ k, blk a k → w.heap.size ≤ k := by
  have HL := Lib.hid hl
  have HN := Lib.hid hn
  clear hl hn
  go_enter Try.func12, Try.ntmps12
  go_wp2_with fail
  have V0 : VrAt w ((w.alloc (.cells #[.int .i64 0, .int .i64 0, .slice none 0 0] 38)).alloc (.cells #[.int .i64 own, .int .i64 high, .slice none 0 0] 38)) (w.heap.size + 1) own high none 0 0 [] := by
    have e : (w.alloc (.cells #[.int .i64 0, .int .i64 0, .slice none 0 0] 38)).heap.size = w.heap.size + 1 := by simp
    have hr := Row.new (w.alloc (.cells #[.int .i64 0, .int .i64 0, .slice none 0 0] 38)) #[.int .i64 own, .int .i64 high, .slice none 0 0] 38
    rw [e] at hr
    exact ⟨hr, SlAt.empty _ _ _, rfl, fun k hk => absurd hk (blk_none k), (Fr.alloc _ _ _).alloc_r _, by omega, (Row.new _ _ _).alloc _⟩
  generalize ((w.alloc (.cells #[.int .i64 0, .int .i64 0, .slice none 0 0] 38)).alloc (.cells #[.int .i64 own, .int .i64 high, .slice none 0 0] 38)) = w2 at V0 ⊢
  have V0' := Lib.hid V0
  clear V0
  obtain ⟨X, hX⟩ : ∃ X, X = w.heap.size + 1 := ⟨_, rfl⟩
  rw [← hX] at V0' ⊢
  have HX := Lib.hid hX
  clear hX
  go_loopw [8] (fun iv wr => ∃ (k : Nat) (acc : List Int) (va : Option Addr) (m vc : Nat), Hid (k ≤ n) ∧ iv = .int .i64 (k : Int) ∧ Hid (VrIs own high l k acc) ∧ Hid (VrAt w wr X own high va m vc acc)) (fun iv _ => n - (intOf iv).toNat)
  case atStart => exact ⟨0, [], none, 0, 0, Nat.zero_le _, rfl, Lib.hid (VrIs.zero _ _ _), V0'⟩
  case round =>
    obtain ⟨k, acc, va, m, vc, hk, rfl, hI, hV⟩ := hrel
    clear V0'
    have c0 : wr.cell? ⟨X, 0, none⟩ = some (.int .i64 own) := hV.out.row.cell 0
    have c1 : wr.cell? ⟨X, 1, none⟩ = some (.int .i64 high) := hV.out.row.cell 1
    have c2 : wr.cell? ⟨X, 2, none⟩ = some (.slice va m vc) := hV.out.row.cell 2
    by_cases hlt : k < n
    · have hkl : k < l.length := by rw [← HN.out]; exact hlt
      obtain ⟨x, hx⟩ : ∃ x, l[k]? = some x := ⟨_, List.getElem?_eq_getElem hkl⟩
      obtain ⟨b, o, hbo⟩ := HL.out.some_ (fun e => by rw [e] at hkl; simp at hkl)
      subst hbo
      have q0 := hV.out.fr.keep (HL.out.at_ hx)
      have HXK := Lib.hid hx
      have SKIP : Hid ((x ∈ acc ∨ ¬ (1 ≤ x ∧ x < high ∧ x ≠ own)) → ∃ (k1 : Nat) (acc1 : List Int) (va1 : Option Addr) (m1 vc1 : Nat), Hid (k1 ≤ n) ∧ Value.int .i64 ((k : Int) + 1) = .int .i64 (k1 : Int) ∧ Hid (VrIs own high l k1 acc1) ∧ Hid (VrAt w wr X own high va1 m1 vc1 acc1)) :=
        Lib.hid fun h => ⟨k + 1, acc, va, m, vc, hlt, by go_num, Lib.hid (hI.out.skip HXK.out h), hV⟩
      have hmb : m ≤ 100000 := by have h1 := hV.out.len; have h2 := hI.out.len; have h3 : k ≤ n := hk; omega
      clear hx hkl
      by_cases h1 : x < 1
      · go_wp2_with fail
        exact ⟨SKIP.out (Or.inr (fun q => by omega)), by simp [intOf]; omega⟩
      · by_cases h2 : high ≤ x
        · go_wp2_with fail
          exact ⟨SKIP.out (Or.inr (fun q => by omega)), by simp [intOf]; omega⟩
        · cases h3 : (x == own)
          · have H3 : Hid (x ≠ own) := Lib.hid (fun e => by rw [e] at h3; simp at h3)
            have HS := Lib.hid (rhas_any wr va m vc acc x (hV.out.sl.ls1 hV.out.len) hV.out.len (by omega))
            cases hq : hasI acc x
            · rw [hq] at HS
              have HNA : Hid (x ∉ acc) := Lib.hid (fun e => by rw [hasI_iff.2 e] at hq; cases hq)
              clear hq
              go_wp2_with fail
              refine HS.out.mono ?_
              rintro e w5 ⟨rfl, rfl⟩
              go_wp2_with fail
              go_loop [10] (fun iv => ∃ j : Nat, Hid (j ≤ m) ∧ iv = .int .i64 (j : Int) ∧ Hid (∀ y ∈ acc.take j, y < x)) (fun iv => m - (intOf iv).toNat)
              case atStart => exact ⟨0, Nat.zero_le _, rfl, Lib.hid (by simp)⟩
              case round =>
                obtain ⟨j, hj, rfl, hat⟩ := hrel
                have hcases : (∃ y, j < m ∧ acc[j]? = some y ∧ y < x) ∨ (∃ y, j < m ∧ acc[j]? = some y ∧ ¬ y < x) ∨ ¬ j < m := by
                  by_cases hjm : j < m
                  · have hja : j < acc.length := by rw [← hV.out.len]; exact hjm
                    by_cases hyx : acc[j] < x
                    · exact Or.inl ⟨_, hjm, List.getElem?_eq_getElem hja, hyx⟩
                    · exact Or.inr (Or.inl ⟨_, hjm, List.getElem?_eq_getElem hja, hyx⟩)
                  · exact Or.inr (Or.inr hjm)
                rcases hcases with ⟨y, hjm, hy, hyx⟩ | ⟨y, hjm, hy, hyx⟩ | hjm
                · obtain ⟨vg, hvg⟩ := hV.out.sl.isAddr (by omega)
                  subst hvg
                  have qy : wr.cell? ⟨vg, j, none⟩ = some (.int .i64 y) := hV.out.sl.cell (by rw [List.getElem?_map, hy]; rfl)
                  have HY := Lib.hid hy
                  clear hy
                  go_wp2_with fail
                  go_round
                  case rel =>
                    refine ⟨j + 1, hjm, by go_num, Lib.hid ?_⟩
                    rw [List.take_add_one, HY.out]
                    intro z hz
                    rcases List.mem_append.1 hz with q | q
                    · exact hat.out z q
                    · obtain rfl : z = y := by simpa using q
                      exact hyx
                  case measure => simp [intOf]; omega
                · obtain ⟨vg, hvg⟩ := hV.out.sl.isAddr (by omega)
                  subst hvg
                  have qy : wr.cell? ⟨vg, j, none⟩ = some (.int .i64 y) := hV.out.sl.cell (by rw [List.getElem?_map, hy]; rfl)
                  have HLE : Hid (∀ z, acc[j]? = some z → x ≤ z) := Lib.hid (fun z hz => by rw [hy] at hz; cases hz; omega)
                  have hjm' : j ≤ m := by omega
                  clear hy
                  have hvcap := hV.out.sl.2.1
                  have JB : Hid (j ≤ 100000) := Lib.hid (by omega)
                  have JM : Hid (j ≤ m) := Lib.hid hjm'
                  have cA : (wr.alloc (.cells #[] 3)).cell? ⟨X, 2, none⟩ = some (.slice (some ⟨vg, 0, none⟩) m vc) := (made_fr wr 3 #[]).keep c2
                  go_wp2_with ((with_reducible refine at_slot 63 ?_); refine Stop.mk ?_)
                  show wpList _ _ _ _ _ _
                  have fA := made_fr wr 3 #[]
                  have VA := Lib.hid (hV.out.kept fA (fun k hk => hk.elim))
                  have SA := Lib.hid (SlAt.made' wr 3 1)
                  have lA : wr.heap.size < (wr.alloc (.cells #[] 3)).heap.size := by simp
                  clear fA
                  obtain ⟨gA, hgA⟩ : ∃ gA, gA = wr.heap.size := ⟨_, rfl⟩
                  rw [← hgA] at SA lA ⊢
                  have XA : Hid (X < gA) := Lib.hid (by rw [hgA]; exact hV.out.row.lt)
                  generalize (wr.alloc (.cells #[] 3)) = w3 at VA SA lA ⊢
                  have VB : Hid (∀ k, blk (some ⟨vg, 0, none⟩) k → k < gA) := Lib.hid (by rw [hgA]; exact hV.out.sl.lt)
                  clear hgA
                  refine wpSliceL rfl _ _ _ rfl 3 1 Try.underlying22 (by kernel_rfl) rfl rfl hjm' hvcap VA.out.len (VA.out.sl.ls1 VA.out.len) ?_
                  intro sa3 n3 c3 hn3 hl3 hb3
                  have hlen3 : Hid (n3 = (acc.drop j).length) := Lib.hid (by rw [List.length_drop, hn3.out, VA.out.len])
                  have hn3b : n3 ≤ 100000 := by have := hn3.out; omega
                  go_wp2_with ((with_reducible refine at_slot 64 ?_); refine Stop.mk ?_)
                  show wpList _ _ _ _ _ _
                  refine wpAppendLn rfl _ _ _ rfl 3 (.int .i64 0) 1 8 Try.underlying22 vw_int_info rfl SA.out hl3 hlen3.out (fun _ => rfl) (fun x u hu => by simp at hu; subst hu; rfl) rfl rfl (by simp [maxLen]; omega) (by omega) ?_
                  intro a4 n4 c4 w4 hn4 hs4 f4 hb4
                  rw [List.nil_append, flat_one] at hs4
                  have hn4' : n4 = (acc.drop j).length := by rw [hn4.out, hlen3.out]; omega
                  have V4 := Lib.hid (VA.out.kept f4 (fun k hk => by rw [blk_some] at hk; subst hk; exact ⟨XA.out, fun q => Nat.lt_irrefl _ (VB.out _ q)⟩))
                  have S4 := Lib.hid hs4
                  have B4 : Hid (∀ k, blk a4 k → X < k ∧ ¬ blk (some ⟨vg, 0, none⟩) k) := Lib.hid (fun k hk => by
                    rcases hb4 k hk with q | q
                    · rw [blk_some] at q; subst q; exact ⟨XA.out, fun q => Nat.lt_irrefl _ (VB.out _ q)⟩
                    · have := XA.out; refine ⟨by omega, fun q2 => ?_⟩; have := VB.out _ q2; omega)
                  have HN4 := Lib.hid hn4'
                  have cB : (w4.alloc (.cells #[] 3)).cell? ⟨X, 2, none⟩ = some (.slice (some ⟨vg, 0, none⟩) m vc) := (made_fr w4 3 #[]).keep (V4.out.row.cell 2)
                  have n4b : n4 ≤ 100000 := by have := hn4.out; omega
                  clear hs4 f4 hb4 hn4 hn4' cA
                  go_wp2_with ((with_reducible refine at_slot 69 ?_); refine Stop.mk ?_)
                  show wpList _ _ _ _ _ _
                  have fB := made_fr w4 3 #[]
                  have V5 := Lib.hid (V4.out.kept fB (fun k hk => hk.elim))
                  have S5 := Lib.hid (S4.out.kept0 fB)
                  have SB := Lib.hid (SlAt.made' w4 3 1)
                  have lB : w4.heap.size < (w4.alloc (.cells #[] 3)).heap.size := by simp
                  obtain ⟨gB, hgB⟩ : ∃ gB, gB = w4.heap.size := ⟨_, rfl⟩
                  rw [← hgB] at SB lB ⊢
                  have XB : Hid (X < gB) := Lib.hid (by rw [hgB]; exact V4.out.row.lt)
                  have VB4 : Hid (∀ k, blk (some ⟨vg, 0, none⟩) k → k < gB) := Lib.hid (by rw [hgB]; exact V4.out.sl.lt)
                  have AB4 : Hid (∀ k, blk a4 k → k < gB) := Lib.hid (by rw [hgB]; exact S4.out.lt)
                  clear fB cB
                  generalize (w4.alloc (.cells #[] 3)) = w5 at V5 S5 SB lB ⊢
                  clear hgB
                  refine wpSliceH rfl _ _ _ rfl 3 1 Try.underlying22 (by kernel_rfl) rfl rfl (Nat.le_trans hjm' hvcap) ?_
                  go_wp2_with ((with_reducible refine at_slot 70 ?_); refine Stop.mk ?_)
                  show wpList _ _ _ _ _ _
                  refine wpAppendLn rfl _ _ _ rfl 3 (.int .i64 0) 1 8 Try.underlying22 vw_int_info rfl SB.out ((V5.out.sl.ls1 V5.out.len).takeN j) (by have := JM.out; rw [List.length_take, ← V5.out.len]; omega) (fun _ => rfl) (fun x u hu => by simp at hu; subst hu; rfl) rfl rfl (by have := JB.out; simp [maxLen]; omega) (by have := JB.out; omega) ?_
                  intro a6 n6 c6 w6 hn6 hs6 f6 hb6
                  rw [List.nil_append, flat_one] at hs6
                  have V6 := Lib.hid (V5.out.kept f6 (fun k hk => by rw [blk_some] at hk; subst hk; exact ⟨XB.out, fun q => Nat.lt_irrefl _ (VB4.out _ q)⟩))
                  have S46 := Lib.hid (S5.out.kept f6 (fun k hk e => by rw [blk_some] at e; subst e; exact Nat.lt_irrefl _ (AB4.out _ hk)))
                  have B6 : Hid (∀ k, blk a6 k → X < k ∧ ¬ blk (some ⟨vg, 0, none⟩) k ∧ ¬ blk a4 k) := Lib.hid (fun k hk => by
                    have hk2 : gB ≤ k := by
                      rcases hb6 k hk with q | q
                      · rw [blk_some] at q; omega
                      · omega
                    have := XB.out
                    exact ⟨by omega, fun q => by have := VB4.out _ q; omega, fun q => by have := AB4.out _ q; omega⟩)
                  have S6 := Lib.hid hs6
                  have n6b : n6 ≤ 100000 := by have := hn6.out; have := JB.out; omega
                  clear hs6 f6 hb6
                  go_wp2_with ((with_reducible refine at_slot 73 ?_); refine Stop.mk ?_)
                  show wpList _ _ _ _ _ _
                  have fC := made_fr w6 3 #[.int .i64 x]
                  have V7 := Lib.hid (V6.out.kept fC (fun k hk => hk.elim))
                  have S47 := Lib.hid (S46.out.kept0 fC)
                  have S7 := Lib.hid (S6.out.kept0 fC)
                  have O7 := Lib.hid (one_ls w6 3 x)
                  have lC : w6.heap.size < (w6.alloc (.cells #[.int .i64 x] 3)).heap.size := by simp
                  obtain ⟨gC, hgC⟩ : ∃ gC, gC = w6.heap.size := ⟨_, rfl⟩
                  rw [← hgC] at O7 lC ⊢
                  have XC : Hid (X < gC) := Lib.hid (by rw [hgC]; exact V6.out.row.lt)
                  have VC : Hid (∀ k, blk (some ⟨vg, 0, none⟩) k → k < gC) := Lib.hid (by rw [hgC]; exact V6.out.sl.lt)
                  have AC : Hid (∀ k, blk a4 k → k < gC) := Lib.hid (by rw [hgC]; exact S46.out.lt)
                  clear fC
                  generalize (w6.alloc (.cells #[.int .i64 x] 3)) = w7 at V7 S47 S7 O7 lC ⊢
                  clear hgC
                  refine wpAppendLn (m := 1) rfl _ _ _ rfl 3 (.int .i64 0) 1 8 Try.underlying22 vw_int_info rfl S7.out O7.out rfl (fun _ => rfl) (fun x u hu => by simp at hu; subst hu; rfl) rfl rfl (by simp [maxLen]; omega) (by omega) ?_
                  intro a8 n8 c8 w8 hn8 hs8 f8 hb8
                  rw [flat_one] at hs8
                  have V8 := Lib.hid (V7.out.kept f8 (fun k hk => ⟨(B6.out k hk).1, (B6.out k hk).2.1⟩))
                  have S48 := Lib.hid (S47.out.kept f8 (fun k hk e => (B6.out k e).2.2 hk))
                  have B8 : Hid (∀ k, blk a8 k → X < k ∧ ¬ blk (some ⟨vg, 0, none⟩) k ∧ ¬ blk a4 k) := Lib.hid (fun k hk => by
                    rcases hb8 k hk with q | q
                    · exact B6.out k q
                    · have := XC.out
                      exact ⟨by omega, fun q => by have := VC.out _ q; omega, fun q => by have := AC.out _ q; omega⟩)
                  have S8 := Lib.hid hs8
                  have n8b : n8 ≤ 100001 := by have := hn8.out; omega
                  clear hs8 f8 hb8
                  go_wp2_with ((with_reducible refine at_slot 75 ?_); refine Stop.mk ?_)
                  show wpList _ _ _ _ _ _
                  refine wpAppendLn rfl _ _ _ rfl 3 (.int .i64 0) 1 8 Try.underlying22 vw_int_info rfl S8.out (S48.out.ls1 HN4.out) HN4.out (fun _ => rfl) (fun x u hu => by simp at hu; subst hu; rfl) rfl rfl (by simp [maxLen]; omega) (by omega) ?_
                  intro a9 n9 c9 w9 hn9 hs9 f9 hb9
                  rw [flat_one] at hs9
                  have V9 := Lib.hid (V8.out.kept f9 (fun k hk => ⟨(B8.out k hk).1, (B8.out k hk).2.1⟩))
                  have B9 : Hid (∀ k, blk a9 k → X < k) := Lib.hid (fun k hk => by
                    rcases hb9 k hk with q | q
                    · exact (B8.out k q).1
                    · have := V8.out.row.lt; omega)
                  have el : acc.take j ++ x :: acc.drop j = (acc.take j ++ [x]) ++ acc.drop j := by simp
                  have S9 : Hid (SlAt w9 a9 n9 c9 3 1 ((acc.take j ++ x :: acc.drop j).map encI)) := Lib.hid (by rw [el, List.map_append, List.map_append]; exact hs9)
                  have N9 : Hid (n9 = (acc.take j ++ x :: acc.drop j).length) := Lib.hid (by
                    have := JM.out; rw [hn9.out, hn8.out, hn6.out, HN4.out, List.length_append, List.length_cons, List.length_take, ← V9.out.len]; omega)
                  have FIN := Lib.hid (V9.out.put S9.out N9.out B9.out)
                  have IPUT := Lib.hid (hI.out.put HXK.out ⟨by omega, by omega, H3.out⟩ HNA.out j hat.out HLE.out)
                  have e0 : w9.cell? ⟨X, 2, none⟩ = some (.slice (some ⟨vg, 0, none⟩) m vc) := V9.out.row.cell 2
                  have e1 : w9.frozen? ⟨X, 2, none⟩ = false := V9.out.row.free 2
                  clear hs9 f9 hb9 el c0 c1 c2
                  go_wp2_with fail
                  exact ⟨⟨k + 1, _, a9, n9, c9, hlt, by go_num, IPUT, FIN⟩, by simp [intOf]; omega⟩
                · have HLE : Hid (∀ z, acc[j]? = some z → x ≤ z) := Lib.hid (fun z hz => by have := (List.getElem?_eq_some_iff.1 hz).1; have := hV.out.len; omega)
                  have hjm' : j ≤ m := by have : j ≤ m := hj; omega
                  have hvcap := hV.out.sl.2.1
                  have JB : Hid (j ≤ 100000) := Lib.hid (by omega)
                  have JM : Hid (j ≤ m) := Lib.hid hjm'
                  have cA : (wr.alloc (.cells #[] 3)).cell? ⟨X, 2, none⟩ = some (.slice va m vc) := (made_fr wr 3 #[]).keep c2
                  go_wp2_with ((with_reducible refine at_slot 63 ?_); refine Stop.mk ?_)
                  show wpList _ _ _ _ _ _
                  have fA := made_fr wr 3 #[]
                  have VA := Lib.hid (hV.out.kept fA (fun k hk => hk.elim))
                  have SA := Lib.hid (SlAt.made' wr 3 1)
                  have lA : wr.heap.size < (wr.alloc (.cells #[] 3)).heap.size := by simp
                  clear fA
                  obtain ⟨gA, hgA⟩ : ∃ gA, gA = wr.heap.size := ⟨_, rfl⟩
                  rw [← hgA] at SA lA ⊢
                  have XA : Hid (X < gA) := Lib.hid (by rw [hgA]; exact hV.out.row.lt)
                  generalize (wr.alloc (.cells #[] 3)) = w3 at VA SA lA ⊢
                  have VB : Hid (∀ k, blk va k → k < gA) := Lib.hid (by rw [hgA]; exact hV.out.sl.lt)
                  clear hgA
                  refine wpSliceL rfl _ _ _ rfl 3 1 Try.underlying22 (by kernel_rfl) rfl rfl hjm' hvcap VA.out.len (VA.out.sl.ls1 VA.out.len) ?_
                  intro sa3 n3 c3 hn3 hl3 hb3
                  have hlen3 : Hid (n3 = (acc.drop j).length) := Lib.hid (by rw [List.length_drop, hn3.out, VA.out.len])
                  have hn3b : n3 ≤ 100000 := by have := hn3.out; omega
                  go_wp2_with ((with_reducible refine at_slot 64 ?_); refine Stop.mk ?_)
                  show wpList _ _ _ _ _ _
                  refine wpAppendLn rfl _ _ _ rfl 3 (.int .i64 0) 1 8 Try.underlying22 vw_int_info rfl SA.out hl3 hlen3.out (fun _ => rfl) (fun x u hu => by simp at hu; subst hu; rfl) rfl rfl (by simp [maxLen]; omega) (by omega) ?_
                  intro a4 n4 c4 w4 hn4 hs4 f4 hb4
                  rw [List.nil_append, flat_one] at hs4
                  have hn4' : n4 = (acc.drop j).length := by rw [hn4.out, hlen3.out]; omega
                  have V4 := Lib.hid (VA.out.kept f4 (fun k hk => by rw [blk_some] at hk; subst hk; exact ⟨XA.out, fun q => Nat.lt_irrefl _ (VB.out _ q)⟩))
                  have S4 := Lib.hid hs4
                  have B4 : Hid (∀ k, blk a4 k → X < k ∧ ¬ blk va k) := Lib.hid (fun k hk => by
                    rcases hb4 k hk with q | q
                    · rw [blk_some] at q; subst q; exact ⟨XA.out, fun q => Nat.lt_irrefl _ (VB.out _ q)⟩
                    · have := XA.out; refine ⟨by omega, fun q2 => ?_⟩; have := VB.out _ q2; omega)
                  have HN4 := Lib.hid hn4'
                  have cB : (w4.alloc (.cells #[] 3)).cell? ⟨X, 2, none⟩ = some (.slice va m vc) := (made_fr w4 3 #[]).keep (V4.out.row.cell 2)
                  have n4b : n4 ≤ 100000 := by have := hn4.out; omega
                  clear hs4 f4 hb4 hn4 hn4' cA
                  go_wp2_with ((with_reducible refine at_slot 69 ?_); refine Stop.mk ?_)
                  show wpList _ _ _ _ _ _
                  have fB := made_fr w4 3 #[]
                  have V5 := Lib.hid (V4.out.kept fB (fun k hk => hk.elim))
                  have S5 := Lib.hid (S4.out.kept0 fB)
                  have SB := Lib.hid (SlAt.made' w4 3 1)
                  have lB : w4.heap.size < (w4.alloc (.cells #[] 3)).heap.size := by simp
                  obtain ⟨gB, hgB⟩ : ∃ gB, gB = w4.heap.size := ⟨_, rfl⟩
                  rw [← hgB] at SB lB ⊢
                  have XB : Hid (X < gB) := Lib.hid (by rw [hgB]; exact V4.out.row.lt)
                  have VB4 : Hid (∀ k, blk va k → k < gB) := Lib.hid (by rw [hgB]; exact V4.out.sl.lt)
                  have AB4 : Hid (∀ k, blk a4 k → k < gB) := Lib.hid (by rw [hgB]; exact S4.out.lt)
                  clear fB cB
                  generalize (w4.alloc (.cells #[] 3)) = w5 at V5 S5 SB lB ⊢
                  clear hgB
                  refine wpSliceH rfl _ _ _ rfl 3 1 Try.underlying22 (by kernel_rfl) rfl rfl (Nat.le_trans hjm' hvcap) ?_
                  go_wp2_with ((with_reducible refine at_slot 70 ?_); refine Stop.mk ?_)
                  show wpList _ _ _ _ _ _
                  refine wpAppendLn rfl _ _ _ rfl 3 (.int .i64 0) 1 8 Try.underlying22 vw_int_info rfl SB.out ((V5.out.sl.ls1 V5.out.len).takeN j) (by have := JM.out; rw [List.length_take, ← V5.out.len]; omega) (fun _ => rfl) (fun x u hu => by simp at hu; subst hu; rfl) rfl rfl (by have := JB.out; simp [maxLen]; omega) (by have := JB.out; omega) ?_
                  intro a6 n6 c6 w6 hn6 hs6 f6 hb6
                  rw [List.nil_append, flat_one] at hs6
                  have V6 := Lib.hid (V5.out.kept f6 (fun k hk => by rw [blk_some] at hk; subst hk; exact ⟨XB.out, fun q => Nat.lt_irrefl _ (VB4.out _ q)⟩))
                  have S46 := Lib.hid (S5.out.kept f6 (fun k hk e => by rw [blk_some] at e; subst e; exact Nat.lt_irrefl _ (AB4.out _ hk)))
                  have B6 : Hid (∀ k, blk a6 k → X < k ∧ ¬ blk va k ∧ ¬ blk a4 k) := Lib.hid (fun k hk => by
                    have hk2 : gB ≤ k := by
                      rcases hb6 k hk with q | q
                      · rw [blk_some] at q; omega
                      · omega
                    have := XB.out
                    exact ⟨by omega, fun q => by have := VB4.out _ q; omega, fun q => by have := AB4.out _ q; omega⟩)
                  have S6 := Lib.hid hs6
                  have n6b : n6 ≤ 100000 := by have := hn6.out; have := JB.out; omega
                  clear hs6 f6 hb6
                  go_wp2_with ((with_reducible refine at_slot 73 ?_); refine Stop.mk ?_)
                  show wpList _ _ _ _ _ _
                  have fC := made_fr w6 3 #[.int .i64 x]
                  have V7 := Lib.hid (V6.out.kept fC (fun k hk => hk.elim))
                  have S47 := Lib.hid (S46.out.kept0 fC)
                  have S7 := Lib.hid (S6.out.kept0 fC)
                  have O7 := Lib.hid (one_ls w6 3 x)
                  have lC : w6.heap.size < (w6.alloc (.cells #[.int .i64 x] 3)).heap.size := by simp
                  obtain ⟨gC, hgC⟩ : ∃ gC, gC = w6.heap.size := ⟨_, rfl⟩
                  rw [← hgC] at O7 lC ⊢
                  have XC : Hid (X < gC) := Lib.hid (by rw [hgC]; exact V6.out.row.lt)
                  have VC : Hid (∀ k, blk va k → k < gC) := Lib.hid (by rw [hgC]; exact V6.out.sl.lt)
                  have AC : Hid (∀ k, blk a4 k → k < gC) := Lib.hid (by rw [hgC]; exact S46.out.lt)
                  clear fC
                  generalize (w6.alloc (.cells #[.int .i64 x] 3)) = w7 at V7 S47 S7 O7 lC ⊢
                  clear hgC
                  refine wpAppendLn (m := 1) rfl _ _ _ rfl 3 (.int .i64 0) 1 8 Try.underlying22 vw_int_info rfl S7.out O7.out rfl (fun _ => rfl) (fun x u hu => by simp at hu; subst hu; rfl) rfl rfl (by simp [maxLen]; omega) (by omega) ?_
                  intro a8 n8 c8 w8 hn8 hs8 f8 hb8
                  rw [flat_one] at hs8
                  have V8 := Lib.hid (V7.out.kept f8 (fun k hk => ⟨(B6.out k hk).1, (B6.out k hk).2.1⟩))
                  have S48 := Lib.hid (S47.out.kept f8 (fun k hk e => (B6.out k e).2.2 hk))
                  have B8 : Hid (∀ k, blk a8 k → X < k ∧ ¬ blk va k ∧ ¬ blk a4 k) := Lib.hid (fun k hk => by
                    rcases hb8 k hk with q | q
                    · exact B6.out k q
                    · have := XC.out
                      exact ⟨by omega, fun q => by have := VC.out _ q; omega, fun q => by have := AC.out _ q; omega⟩)
                  have S8 := Lib.hid hs8
                  have n8b : n8 ≤ 100001 := by have := hn8.out; omega
                  clear hs8 f8 hb8
                  go_wp2_with ((with_reducible refine at_slot 75 ?_); refine Stop.mk ?_)
                  show wpList _ _ _ _ _ _
                  refine wpAppendLn rfl _ _ _ rfl 3 (.int .i64 0) 1 8 Try.underlying22 vw_int_info rfl S8.out (S48.out.ls1 HN4.out) HN4.out (fun _ => rfl) (fun x u hu => by simp at hu; subst hu; rfl) rfl rfl (by simp [maxLen]; omega) (by omega) ?_
                  intro a9 n9 c9 w9 hn9 hs9 f9 hb9
                  rw [flat_one] at hs9
                  have V9 := Lib.hid (V8.out.kept f9 (fun k hk => ⟨(B8.out k hk).1, (B8.out k hk).2.1⟩))
                  have B9 : Hid (∀ k, blk a9 k → X < k) := Lib.hid (fun k hk => by
                    rcases hb9 k hk with q | q
                    · exact (B8.out k q).1
                    · have := V8.out.row.lt; omega)
                  have el : acc.take j ++ x :: acc.drop j = (acc.take j ++ [x]) ++ acc.drop j := by simp
                  have S9 : Hid (SlAt w9 a9 n9 c9 3 1 ((acc.take j ++ x :: acc.drop j).map encI)) := Lib.hid (by rw [el, List.map_append, List.map_append]; exact hs9)
                  have N9 : Hid (n9 = (acc.take j ++ x :: acc.drop j).length) := Lib.hid (by
                    have := JM.out; rw [hn9.out, hn8.out, hn6.out, HN4.out, List.length_append, List.length_cons, List.length_take, ← V9.out.len]; omega)
                  have FIN := Lib.hid (V9.out.put S9.out N9.out B9.out)
                  have IPUT := Lib.hid (hI.out.put HXK.out ⟨by omega, by omega, H3.out⟩ HNA.out j hat.out HLE.out)
                  have e0 : w9.cell? ⟨X, 2, none⟩ = some (.slice va m vc) := V9.out.row.cell 2
                  have e1 : w9.frozen? ⟨X, 2, none⟩ = false := V9.out.row.free 2
                  clear hs9 f9 hb9 el c0 c1 c2
                  go_wp2_with fail
                  exact ⟨⟨k + 1, _, a9, n9, c9, hlt, by go_num, IPUT, FIN⟩, by simp [intOf]; omega⟩
            · rw [hq] at HS
              have HNA : Hid (x ∈ acc) := Lib.hid (hasI_iff.1 hq)
              clear hq
              go_wp2_with fail
              refine HS.out.mono ?_
              rintro e w5 ⟨rfl, rfl⟩
              go_wp2_with fail
              exact ⟨SKIP.out (Or.inl HNA.out), by simp [intOf]; omega⟩
          · have H3 : Hid (x = own) := Lib.hid (by simpa using h3)
            go_wp2_with fail
            exact ⟨SKIP.out (Or.inr (fun q => absurd H3.out q.2.2)), by simp [intOf]; omega⟩
    · have hkn : k = n := by have : k ≤ n := hk; omega
      have hfin : acc = vwBusy own high l := by have := hI.out; rw [hkn, HN.out] at this; exact this.fin
      have hm := hV.out.len
      have HFI := Lib.hid hfin
      have HM := Lib.hid hm
      have e0 : wr.cell? ⟨w.heap.size, 0, none⟩ = some (.int .i64 0) := hV.out.res.cell 0
      have e1 : wr.cell? ⟨w.heap.size, 1, none⟩ = some (.int .i64 0) := hV.out.res.cell 1
      have e2 : wr.cell? ⟨w.heap.size, 2, none⟩ = some (.slice none 0 0) := hV.out.res.cell 2
      have k0 : wr.frozen? ⟨w.heap.size, 0, none⟩ = false := hV.out.res.free 0
      have k1 : wr.frozen? ⟨w.heap.size, 1, none⟩ = false := hV.out.res.free 1
      have k2 : wr.frozen? ⟨w.heap.size, 2, none⟩ = false := hV.out.res.free 2
      have FT : Hid (Fr (one w.heap.size) wr (((wr.setCell ⟨w.heap.size, 0, none⟩ (.int .i64 own)).setCell ⟨w.heap.size, 1, none⟩ (.int .i64 high)).setCell ⟨w.heap.size, 2, none⟩ (.slice va m vc))) := fr_set3 (Fr.refl _ _) rfl
      clear hfin hm hkn
      go_wp2_with fail
      refine bodyPost_ret (v := vwV own high va m vc) (by simp [results, Try.results12, go_sem, e0, e1, e2, vwV]) rfl ⟨_, _, _, rfl, by rw [HM.out, HFI.out], ?_, ?_, fun q hq => by have := hV.out.new q hq; have := hV.out.old; omega⟩
      · rw [← HFI.out]
        exact hV.out.sl.kept FT.out (fun q hq e => by have := hV.out.new q hq; have := hV.out.old; unfold one at e; omega)
      · exact hV.out.fr.step FT.out (fun i hi e => by unfold one at e; omega)
end Go.Proofs.Ytnnomeichppkpaa
