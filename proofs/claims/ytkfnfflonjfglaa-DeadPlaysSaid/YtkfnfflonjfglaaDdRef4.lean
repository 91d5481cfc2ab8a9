/-
  The reference of layer 10: Add.
-/
import Derived.Test.YtkfnfflonjfglaaDdRef3
namespace Go.Proofs.Ytkfnfflonjfglaa
open Go.RowKit
set_option linter.unusedVariables false
set_option linter.unusedSimpArgs false
set_option maxRecDepth 100000

set_option maxHeartbeats 2000000 in
theorem Ref_Add_in {w : World} {r : Nat} {a : Option Addr} {cap : Nat} {l : List Int} (h : RefAt w r a cap l) (t : Int) (h1 : ¬ t < 1) (h2 : ¬ 1048576 < t) (hl : l.length < 64) :
    Calls Try.prog 23 #[.pointer (some ⟨r, 0, none⟩), .int .i64 t] w fun e w' => e = .returned (.int .i64 0) ∧ (∃ b bc, RefAt w' r b bc (insT t l) ∧ ∀ k, blk b k → blk a k ∨ w.heap.size ≤ k) ∧ Fr (one r) w w' := by
  have H := Lib.hid h
  have c00 := h.c0
  have hr0 : RlRel w r a cap l 0 none 0 (preT t (l.take 0)) w := ⟨h, SlAt.empty _ _ _, rfl, Fr.refl _ _, fun j hj => absurd hj (blk_none j)⟩
  have hl2 : ¬ (64 : Int) ≤ (l.length : Int) := by omega
  clear h
  go_enter Try.func23, Try.ntmps23
  go_wp2_with fail
  go_loopw [5, 6, 7] (fun u o i wr => ∃ (k n bc : Nat) (b : Option Addr) (dn : Bool), Hid (k ≤ l.length) ∧ i = .int .i64 k ∧ u = .slice b n bc ∧ o = .bool dn ∧ Hid (dn = anyT t (l.take k)) ∧ RlRel w r a cap l n b bc (preT t (l.take k)) wr) (fun _ _ i _ => l.length - (intOf i).toNat)
  case atStart => exact ⟨0, 0, 0, none, false, Nat.zero_le _, rfl, rfl, rfl, rfl, hr0⟩
  case round =>
    obtain ⟨k, n, bc, b, dn, hk, rfl, rfl, rfl, hd, hr⟩ := hrel
    clear hr0 c00
    have c0 := hr.ref.c0
    by_cases hlt : k < l.length
    · obtain ⟨v, hv⟩ : ∃ v, l[k]? = some v := ⟨l[k], List.getElem?_eq_getElem hlt⟩
      obtain ⟨g, rfl⟩ := hr.ref.sl.isAddr (by omega)
      have hcv : (l.map (Value.int .i64))[k]? = some (.int .i64 v) := by rw [List.getElem?_map, hv]; rfl
      have ck := hr.ref.sl.cell (i := k) (v := .int .i64 v) hcv
      have hnb : n ≤ 1000 := by
        rw [hr.len]
        unfold preT
        have q := (insT_perm t (l.take k)).length_eq
        simp only [List.length_cons, List.length_take] at q
        split
        · omega
        · rw [List.length_take]; omega
      have hsn := take_succ_get2 _ _ _ hv
      have hdo := hd.out.symm
      cases dn with
      | true =>
          have HT := Lib.hid (show preT t (l.take (k + 1)) = _ by rw [hsn, preT_done _ _ _ hdo])
          have HM := Lib.hid (show true = anyT t (l.take (k + 1)) by rw [hsn, anyT_snoc, hdo]; rfl)
          clear hd hdo hsn hv
          cases hvt : decide (t < v)
          · go_wp2_with (at_builtin; refine wpAppend rfl _ _ _ rfl 3 (.int .i64 0) 1 8 Try.underlying31 int_info8 rfl (hr.sl.kept0 (Fr.alloc _ _ _)) rfl ⟨wr.heap.size, 0, none⟩ 1 1 [.int .i64 v] rfl rfl (one_cell0 _ _ _ (by simp)) (by simp [Value.oneCell']) (by omega) (by simp [maxLen]; omega) (by omega) ?_; intro b6 bc6 w6 hs6 f6 hb6; have hr6 := RlRel.push H.out hr (Fr.alloc none_ _ _) hs6 f6 hb6)
            rw [← HT.out] at hr6
            go_roundw
            case rel => exact ⟨k + 1, n + 1, bc6, b6, true, hlt, by go_num, rfl, rfl, HM, hr6⟩
            case measure => simp [intOf]; omega
          · go_wp2_with (at_builtin; refine wpAppend rfl _ _ _ rfl 3 (.int .i64 0) 1 8 Try.underlying31 int_info8 rfl (hr.sl.kept0 (Fr.alloc _ _ _)) rfl ⟨wr.heap.size, 0, none⟩ 1 1 [.int .i64 v] rfl rfl (one_cell0 _ _ _ (by simp)) (by simp [Value.oneCell']) (by omega) (by simp [maxLen]; omega) (by omega) ?_; intro b6 bc6 w6 hs6 f6 hb6; have hr6 := RlRel.push H.out hr (Fr.alloc none_ _ _) hs6 f6 hb6)
            rw [← HT.out] at hr6
            go_roundw
            case rel => exact ⟨k + 1, n + 1, bc6, b6, true, hlt, by go_num, rfl, rfl, HM, hr6⟩
            case measure => simp [intOf]; omega
      | false =>
        by_cases e : t < v
        · have HT := Lib.hid (show preT t (l.take (k + 1)) = _ by rw [hsn, preT_now _ _ _ hdo e])
          have HM := Lib.hid (show true = anyT t (l.take (k + 1)) by rw [hsn, anyT_snoc, hdo]; simp [e])
          clear hd hdo hsn hv
          go_wp2_with (first | ((with_reducible refine at_slot 45 ?_); refine wpAppend rfl _ _ _ rfl 3 (.int .i64 0) 1 8 Try.underlying31 int_info8 rfl (hr.sl.kept0 (Fr.alloc _ _ _)) rfl ⟨wr.heap.size, 0, none⟩ 1 1 [.int .i64 t] rfl rfl (one_cell0 _ _ _ (by simp)) (by simp [Value.oneCell']) (by omega) (by simp [maxLen]; omega) (by omega) ?_; intro b6 bc6 w6 hs6 f6 hb6; have hr6 := RlRel.push H.out hr (Fr.alloc none_ _ _) hs6 f6 hb6; have c6 := hr6.ref.c0; have k6 := hr6.ref.sl.cell (i := k) (v := .int .i64 v) hcv) | ((with_reducible refine at_slot 55 ?_); refine wpAppend rfl _ _ _ rfl 3 (.int .i64 0) 1 8 Try.underlying31 int_info8 rfl (hr6.sl.kept0 (Fr.alloc _ _ _)) rfl ⟨w6.heap.size, 0, none⟩ 1 1 [.int .i64 v] rfl rfl (one_cell0 _ _ _ (by simp)) (by simp [Value.oneCell']) (by omega) (by simp [maxLen]; omega) (by omega) ?_; intro b7 bc7 w7 hs7 f7 hb7; have hr7 := RlRel.push H.out hr6 (Fr.alloc none_ _ _) hs7 f7 hb7))
          rw [← HT.out] at hr7
          go_roundw
          case rel => exact ⟨k + 1, n + 1 + 1, bc7, b7, true, hlt, by go_num, rfl, rfl, HM, hr7⟩
          case measure => simp [intOf]; omega
        · have HT := Lib.hid (show preT t (l.take (k + 1)) = _ by rw [hsn, preT_yet _ _ _ hdo e])
          have HM := Lib.hid (show false = anyT t (l.take (k + 1)) by rw [hsn, anyT_snoc, hdo]; simp [e]; try omega)
          clear hd hdo hsn hv
          go_wp2_with (at_builtin; refine wpAppend rfl _ _ _ rfl 3 (.int .i64 0) 1 8 Try.underlying31 int_info8 rfl (hr.sl.kept0 (Fr.alloc _ _ _)) rfl ⟨wr.heap.size, 0, none⟩ 1 1 [.int .i64 v] rfl rfl (one_cell0 _ _ _ (by simp)) (by simp [Value.oneCell']) (by omega) (by simp [maxLen]; omega) (by omega) ?_; intro b6 bc6 w6 hs6 f6 hb6; have hr6 := RlRel.push H.out hr (Fr.alloc none_ _ _) hs6 f6 hb6)
          rw [← HT.out] at hr6
          go_roundw
          case rel => exact ⟨k + 1, n + 1, bc6, b6, false, hlt, by go_num, rfl, rfl, HM, hr6⟩
          case measure => simp [intOf]; omega
    · have hke : k = l.length := by have := hk.out; omega
      rw [hke, List.take_length] at hr
      have hdo := hd.out.symm
      rw [hke, List.take_length] at hdo
      have hnb : n ≤ 1000 := by
        rw [hr.len]
        unfold preT
        have q := (insT_perm t l).length_eq
        simp only [List.length_cons] at q
        split <;> omega
      cases dn with
      | true =>
        have he : preT t l = insT t l := by unfold preT; rw [if_pos hdo]
        rw [he] at hr
        obtain ⟨p1, p2⟩ := RlRel.put H.out hr
        have fz := hr.ref.free 0
        have HR := Lib.hid (show RefAt _ r b bc _ ∧ Fr (one r) _ _ from ⟨p1, p2⟩)
        have HOW := Lib.hid (show ∀ k, blk b k → blk a k ∨ w.heap.size ≤ k from fun k hk => Or.inr (hr.own k hk))
        clear p1 p2 hke hr hd hdo he
        go_wp2_with fail
        go_ret
        exact ⟨rfl, ⟨b, bc, HR.out.1, HOW.out⟩, HR.out.2⟩
      | false =>
        have he : preT t l ++ [t] = insT t l := by unfold preT; rw [hdo, insT_last _ _ hdo]; rfl
        have HE := Lib.hid he
        clear hke hd hdo he
        go_wp2_with (at_builtin; refine wpAppend rfl _ _ _ rfl 3 (.int .i64 0) 1 8 Try.underlying31 int_info8 rfl (hr.sl.kept0 (Fr.alloc _ _ _)) rfl ⟨wr.heap.size, 0, none⟩ 1 1 [.int .i64 t] rfl rfl (one_cell0 _ _ _ (by simp)) (by simp [Value.oneCell']) (by omega) (by simp [maxLen]; omega) (by omega) ?_; intro b6 bc6 w6 hs6 f6 hb6; have hr6 := RlRel.push H.out hr (Fr.alloc none_ _ _) hs6 f6 hb6; rw [HE.out] at hr6; have fz := hr6.ref.free 0; have c6 := hr6.ref.c0)
        obtain ⟨p1, p2⟩ := RlRel.put H.out hr6
        go_ret
        exact ⟨rfl, ⟨b6, bc6, p1, fun k hk => Or.inr (hr6.own k hk)⟩, p2⟩
end Go.Proofs.Ytkfnfflonjfglaa
