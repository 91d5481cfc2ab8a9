/-
  The reference of layer 10: Less.
-/
import Derived.Test.YtkfnfflonjfglaaDdRef
namespace Go.Proofs.Ytkfnfflonjfglaa
open Go.RowKit
set_option linter.unusedVariables false
set_option linter.unusedSimpArgs false
set_option maxRecDepth 100000

theorem erase_snoc (l : List Int) (v t : Int) : (l ++ [v]).erase t = if v = t ∧ t ∉ l then l.erase t else l.erase t ++ [v] := by
  by_cases h : t ∈ l
  · rw [List.erase_append_left _ h, if_neg (fun q => q.2 h)]
  · rw [List.erase_append_right _ h, List.erase_of_not_mem h]
    by_cases e : v = t
    · subst e; rw [if_pos ⟨rfl, h⟩]; simp
    · rw [if_neg (fun q => e q.1), List.erase_of_not_mem (by simp; exact fun q => e q.symm)]

set_option maxHeartbeats 2000000 in
theorem Ref_Less {w : World} {r : Nat} {a : Option Addr} {cap : Nat} {l : List Int} (h : RefAt w r a cap l) (hl : l.length ≤ 1000) (t : Int) :
    Calls Try.prog 24 #[.pointer (some ⟨r, 0, none⟩), .int .i64 t] w fun e w' => e = .returned (.bool (decide (t ∈ l))) ∧ (∃ b bc, RefAt w' r b bc (l.erase t) ∧ ∀ k, blk b k → blk a k ∨ w.heap.size ≤ k) ∧ Fr (one r) w w' := by
  have H := Lib.hid h
  have hr0 : RlRel w r a cap l 0 none 0 ((l.take 0).erase t) w := ⟨h, SlAt.empty _ _ _, rfl, Fr.refl _ _, fun j hj => absurd hj (blk_none j)⟩
  clear h
  go_enter Try.func24, Try.ntmps24
  go_wp2_with fail
  go_loopw [5, 6, 7] (fun u o i wr => ∃ (k n bc : Nat) (b : Option Addr) (dn : Bool), Hid (k ≤ l.length) ∧ i = .int .i64 k ∧ u = .slice b n bc ∧ o = .bool dn ∧ Hid (dn = decide (t ∈ l.take k)) ∧ RlRel w r a cap l n b bc ((l.take k).erase t) wr) (fun _ _ i _ => l.length - (intOf i).toNat)
  case atStart => exact ⟨0, 0, 0, none, false, Nat.zero_le _, rfl, rfl, rfl, by show _ = _; simp, hr0⟩
  case round =>
    obtain ⟨k, n, bc, b, dn, hk, rfl, rfl, rfl, hd, hr⟩ := hrel
    clear hr0
    have c0 := hr.ref.c0
    by_cases hlt : k < l.length
    · obtain ⟨v, hv⟩ : ∃ v, l[k]? = some v := ⟨l[k], List.getElem?_eq_getElem hlt⟩
      obtain ⟨g, rfl⟩ := hr.ref.sl.isAddr (by omega)
      have ck := hr.ref.sl.cell (i := k) (v := .int .i64 v) (by rw [List.getElem?_map, hv]; rfl)
      have hnb : n ≤ 1000 := by
        rw [hr.len]
        have := List.length_erase_le (a := t) (l := l.take k)
        rw [List.length_take] at this
        omega
      have htk : (l.take (k + 1)).erase t = if v = t ∧ t ∉ l.take k then (l.take k).erase t else (l.take k).erase t ++ [v] := by
        rw [take_succ_get2 _ _ _ hv, erase_snoc]
      have hmk : decide (t ∈ l.take (k + 1)) = (decide (t ∈ l.take k) || decide (v = t)) := by
        rw [take_succ_get2 _ _ _ hv]
        by_cases e1 : t ∈ l.take k <;> by_cases e2 : v = t <;> simp [e1, e2]
        all_goals (intro q; exact e2 q.symm)
      rw [← hd.out] at hmk
      have hdo := hd.out
      by_cases e : v = t ∧ t ∉ l.take k
      · rw [if_pos e] at htk
        rw [← htk] at hr
        obtain ⟨e1, e2⟩ := e
        have hdf : dn = false := by rw [hdo]; simp [e2]
        subst hdf
        subst e1
        have HM := Lib.hid (show true = decide (v ∈ l.take (k + 1)) by rw [hmk]; simp)
        clear htk hv hmk hdo e2 hd
        go_wp2_with fail
        go_roundw
        case rel => exact ⟨k + 1, n, bc, b, true, hlt, by go_num, rfl, rfl, HM, hr⟩
        case measure => simp [intOf]; omega
      · rw [if_neg e] at htk
        have HT := Lib.hid htk
        have HM := Lib.hid (show dn = decide (t ∈ l.take (k + 1)) by
          rw [hmk]
          cases dn with
          | true => rfl
          | false =>
            have : ¬ v = t := fun q => e ⟨q, of_decide_eq_false hdo.symm⟩
            simp [this])
        have hg : ((v == t) && !dn) = false := by
          cases dn with
          | true => simp
          | false =>
            have : ¬ v = t := fun q => e ⟨q, of_decide_eq_false hdo.symm⟩
            simp [this]
        clear htk hv hmk hdo e hd
        cases dn <;> cases hvt : (v == t) <;> rw [hvt] at hg <;> first | (cases hg; done) | skip
        all_goals
          clear hg
          go_wp2_with (at_builtin; refine wpAppend rfl _ _ _ rfl 3 (.int .i64 0) 1 8 Try.underlying31 int_info8 rfl (hr.sl.kept0 (Fr.alloc _ _ _)) rfl ⟨wr.heap.size, 0, none⟩ 1 1 [.int .i64 v] rfl rfl (one_cell0 _ _ _ (by simp)) (by simp [Value.oneCell']) (by omega) (by simp [maxLen]; omega) (by omega) ?_; intro b2 bc2 w6 hs6 f6 hb6)
          have hr6 := RlRel.push H.out hr (Fr.alloc none_ _ _) hs6 f6 hb6
          rw [← HT.out] at hr6
          go_roundw
          case rel => exact ⟨k + 1, n + 1, bc2, b2, _, hlt, by go_num, rfl, rfl, HM, hr6⟩
          case measure => simp [intOf]; omega
    · have hke : k = l.length := by have := hk.out; omega
      rw [hke, List.take_length] at hr
      have hdo := hd.out
      rw [hke, List.take_length] at hdo
      obtain ⟨p1, p2⟩ := RlRel.put H.out hr
      have fz := hr.ref.free 0
      have HR := Lib.hid (show RefAt _ r b bc _ ∧ Fr (one r) _ _ from ⟨p1, p2⟩)
      have HOW := Lib.hid (show ∀ k, blk b k → blk a k ∨ w.heap.size ≤ k from fun k hk => Or.inr (hr.own k hk))
      have HD := Lib.hid hdo
      clear p1 p2 hke hr hd hdo
      go_wp2_with fail
      go_ret
      exact ⟨by rw [← HD.out]; rfl, ⟨b, bc, HR.out.1, HOW.out⟩, HR.out.2⟩
end Go.Proofs.Ytkfnfflonjfglaa
