/-
  The reference of layer 3: Used, Room, Alloc, Free.
-/
import Derived.Test.YtdbnopfpopeefaaRp
namespace Go.Proofs.Ytdbnopfpopeefaa
open Go.RowKit
set_option linter.unusedVariables false
set_option linter.unusedSimpArgs false
set_option maxRecDepth 100000

theorem rp_take_succ {α : Type} (l : List α) (k : Nat) (x : α) (h : l[k]? = some x) : l.take (k + 1) = l.take k ++ [x] := by
  rw [List.take_add_one, h]; rfl
theorem PS.WF.nslots {s : PS} (hw : s.WF) : s.slots.length ≤ 2048 := by
  have := hw.lo
  have := hw.fit
  have : s.slots.length * 2 ≤ s.slots.length * s.slot := Nat.mul_le_mul_left _ (by omega)
  omega
section
variable {w w' : World} {x : Nat} {ba ua ka : Option Addr} {bc uc kc : Nat} {s : PS} {Bs : List ByteArray}
theorem Rp_Used (h : RPAt w x ba ua ka bc uc kc s Bs) (hw : s.WF) :
    Calls Try.prog 27 #[.pointer (some ⟨x, 0, none⟩)] w fun e w' => e = .returned (.int .i64 (s.used : Int)) ∧ w = w' := by
  have c2 := h.c2
  have hn := hw.nslots
  have H := Lib.hid h
  clear h hw
  obtain ⟨n, hnn⟩ : ∃ n, n = s.slots.length := ⟨_, rfl⟩
  rw [← hnn] at c2 hn
  have HN := Lib.hid hnn
  clear hnn
  go_enter Try.func27, Try.ntmps27
  go_wp2_with fail
  go_loop [3, 4] (fun u i => ∃ k c : Nat, Hid (k ≤ n) ∧ i = .int .i64 k ∧ u = .int .i64 c ∧ Hid (c = ((s.slots.take k).filter (·.isSome)).length)) (fun _ i => n - (intOf i).toNat)
  case atStart => exact ⟨0, 0, Nat.zero_le _, rfl, rfl, rfl⟩
  case round =>
    obtain ⟨k, c, hk, rfl, rfl, hc⟩ := hrel
    by_cases hlt : k < n
    · obtain ⟨o, ho⟩ : ∃ o, s.slots[k]? = some o := ⟨s.slots[k]'(by rw [← HN.out]; exact hlt), List.getElem?_eq_getElem _⟩
      obtain ⟨g, hg⟩ := H.out.us.isAddr (by rw [← HN.out]; omega)
      subst hg
      have cu := H.out.us.cell (usesOf_get ho)
      have hcb : c ≤ 2048 := by
        rw [hc.out]
        have := List.length_filter_le (fun o : Option (List UInt8) => o.isSome) (s.slots.take k)
        rw [List.length_take] at this
        omega
      have hcs : ((s.slots.take (k + 1)).filter (·.isSome)).length = ((s.slots.take k).filter (·.isSome)).length + if o.isSome then 1 else 0 := by
        rw [rp_take_succ _ _ _ ho, List.filter_append, List.length_append]
        cases o <;> simp
      rw [← hc.out] at hcs
      cases hos : o.isSome with
      | true =>
        rw [hos] at cu hcs
        have HCS := Lib.hid hcs.symm
        clear hcs ho hos
        go_wp2_with fail
        go_round
        case rel => exact ⟨k + 1, c + 1, hlt, by go_num, by go_num, HCS.out⟩
        case measure => simp [intOf]; omega
      | false =>
        rw [hos] at cu hcs
        have HCS := Lib.hid hcs.symm
        clear hcs ho hos
        go_wp2_with fail
        go_round
        case rel => exact ⟨k + 1, c, hlt, by go_num, rfl, HCS.out⟩
        case measure => simp [intOf]; omega
    · have hke : k = n := by have := hk.out; omega
      have hcu : c = s.used := by
        rw [hc.out, hke, HN.out, List.take_length]; rfl
      clear hke
      go_wp2_with fail
      go_ret
      exact ⟨by rw [← hcu]; rfl, rfl⟩
theorem Rp_Room (h : RPAt w x ba ua ka bc uc kc s Bs) (hw : s.WF) :
    Calls Try.prog 28 #[.pointer (some ⟨x, 0, none⟩)] w fun e w' => e = .returned (.int .i64 (((4096 / s.slot : Nat) : Int) - (s.used : Int))) ∧ Fr none_ w w' := by
  have c0 := h.c0
  have gu : ∀ n, Calls Try.prog 27 #[.pointer (some ⟨x, 0, none⟩)] (w.drewN n) fun e w' => e = .returned (.int .i64 (s.used : Int)) ∧ w' = w.drewN n := fun n => (Rp_Used (h.kept0 (Fr.drewN none_ w n)) hw).mono fun e w' q => ⟨q.1, q.2.symm⟩
  have hlo := hw.lo
  have hhi := hw.hi
  have hub : s.used ≤ 2048 := by
    have := hw.nslots
    have := List.length_filter_le (fun o : Option (List UInt8) => o.isSome) s.slots
    unfold PS.used; omega
  obtain ⟨Q, hQ⟩ : ∃ Q, Q = 4096 / s.slot := ⟨_, rfl⟩
  have hQb : Q ≤ 4096 := by rw [hQ]; exact Nat.div_le_self _ _
  have hq1 : (4096 : Int).tdiv (s.slot : Int) = (Q : Int) := by rw [hQ]; rfl
  have hq2 : (4096 : Int) / (s.slot : Int) = (Q : Int) := by rw [hQ]; rfl
  have hz : ¬ (s.slot : Int) = 0 := by omega
  have hz2 : ¬ s.slot = 0 := by omega
  have hw1 : IntKind.i64.wrap (Q : Int) = (Q : Int) := IntWalk.i64_in _ (by omega)
  have hw2 : IntKind.i64.wrap ((Q : Int) - (s.used : Int)) = (Q : Int) - (s.used : Int) := IntWalk.i64_in _ (by omega)
  have hw3 : wrap64 ((Q : Int) - (s.used : Int)) = (Q : Int) - (s.used : Int) := by unfold wrap64; omega
  rw [← hQ]
  generalize s.used = u at gu hub hw2 hw3 ⊢
  have GU := Lib.hid gu
  clear gu hQ h hw
  go_enter Try.func28, Try.ntmps28
  go_wp2_with fail
  go_quiet (first | (go_at_call 27; exact Calls.quiet_of_same (GU.out _)))
  go_wp2_with fail
  go_ret
  exact ⟨rfl, Fr.drewN _ _ _⟩

/-- The reference behind a turn. -/
def RPost (w : World) (x : Nat) (ba ua ka : Option Addr) (s' : PS) (w' : World) : Prop :=
  ∃ ba' ua' ka' bc' uc' kc' Bs', RPAt w' x ba' ua' ka' bc' uc' kc' s' Bs' ∧ (∀ k, rown x ba' ua' ka' k → rown x ba ua ka k ∨ w.heap.size ≤ k) ∧ Fr (rown x ba ua ka) w w'
end
end Go.Proofs.Ytdbnopfpopeefaa
