/-
  PageNames (P3.1, P3.2): the closed law of layer 3.
-/
import Derived.Test.YtekojokdeimgpaaPgLast
import Derived.Test.YtekojokdeimgpaaPageNil
namespace Go.Proofs.Ytekojokdeimgpaa
open Go.RowKit
set_option linter.unusedVariables false
set_option linter.unusedSimpArgs false
set_option maxRecDepth 100000

theorem stair_at {sl k j : Nat} (h : 0 < sl) (hj : j < k) : (stair sl k).at_ (j * sl) = some (zeros sl) := by
  unfold stair PS.at_
  simp only
  rw [if_pos (Nat.mul_mod_left _ _), Nat.mul_div_cancel _ h, List.getElem?_replicate, if_pos hj]; rfl
theorem stair_past {sl k j : Nat} (h : 0 < sl) (hj : k ≤ j) : (stair sl k).at_ (j * sl) = none := by
  unfold stair PS.at_
  simp only
  rw [if_pos (Nat.mul_mod_left _ _), Nat.mul_div_cancel _ h, List.getElem?_replicate, if_neg (by omega)]; rfl
theorem stair_odd {sl k o : Nat} (h : ¬ o % sl = 0) : (stair sl k).at_ o = none := by
  unfold stair PS.at_
  simp only
  rw [if_neg h]
theorem stair_full {sl k : Nat} (h : ¬ (k + 1) * sl ≤ 4096) : (stair sl k).alloc = none := by
  unfold stair PS.alloc
  simp only [List.length_replicate]
  rw [if_neg h]
theorem stair_used (sl k : Nat) : (stair sl k).used = k := by
  unfold stair PS.used
  simp
theorem free_alloc (s : PS) (k : Nat) : (s.free k).alloc = some (k, { (s.free k) with slots := (s.free k).slots.set k (some (zeros s.slot)), back := s.back }) := rfl


theorem stair_wf {sl k : Nat} (h2 : 2 ≤ sl) (h3 : sl ≤ 4096) (hf : k * sl ≤ 4096) : (stair sl k).WF := by
  have hget : ∀ i, (stair sl k).slots[i]? = if i < k then some (some (zeros sl)) else none := fun i => List.getElem?_replicate
  refine ⟨h2, h3, by simpa [stair] using hf, List.nodup_nil, fun i => ?_, fun i bs hb => ?_⟩
  · rw [hget]; constructor
    · intro h; simp [stair] at h
    · intro h; split at h <;> simp at h
  · rw [hget] at hb
    split at hb
    · simp at hb; subst hb; exact List.length_replicate
    · simp at hb

/-- The page of one slot, written over. -/
def oneW : PS := (stair 4096 1).write (0 / 4096) (strOf (zeros 4096))
theorem z4096 : (strOf (zeros 4096)).size = 4096 := by rw [strOf_size]; exact List.length_replicate
theorem z4097 : (strOf (zeros 4097)).size = 4097 := by rw [strOf_size]; exact List.length_replicate
theorem one_at0 : (stair 4096 1).at_ 0 = some (zeros 4096) := stair_at (sl := 4096) (k := 1) (j := 0) (by omega) (by omega)
theorem oneW_at (o : Nat) : oneW.at_ o = if o = 0 then some (newBytes 4096 (strOf (zeros 4096))) else (stair 4096 1).at_ o := by
  have hk : (stair 4096 1).slots[0]? = some (some (zeros 4096)) := by
    unfold stair; exact (List.getElem?_replicate).trans (by rw [if_pos (by omega)])
  exact ((stair_wf (sl := 4096) (k := 1) (by omega) (by omega) (by omega)).write hk (strOf (zeros 4096)) (by rw [z4096]; exact Nat.le_refl _)).2.1 o
theorem oneW_at0 : oneW.at_ 0 = some (newBytes 4096 (strOf (zeros 4096))) := by rw [oneW_at, if_pos rfl]
theorem oneW_no {o : Nat} (h : ¬ o % 4096 = 0) : oneW.at_ o = none := by
  rw [oneW_at, if_neg (by rintro rfl; exact h rfl)]; exact stair_odd h
theorem oneF_at0 : (oneW.free (0 / 4096)).at_ 0 = none := by
  unfold PS.at_
  rw [if_pos (Nat.zero_mod _)]
  have hl : 0 < oneW.slots.length := by unfold oneW PS.write stair; simp
  have : (oneW.slots.set 0 none)[0]? = some none := by rw [List.getElem?_set_self hl]
  rw [Nat.zero_div]
  exact congrArg Option.join this

section calls
variable {w : World} {p m : Nat}
theorem one_room (h : PageIs w p m (stair 4096 0)) : Calls Try.prog 19 #[.pointer (some ⟨p, 0, none⟩)] w fun e w' => e = .returned (.int .i64 1) ∧ w' = w.drew := by
  have := Page_Room h
  rw [stair_used] at this
  exact this
theorem two_room (h : PageIs w p m (stair 2 0)) : Calls Try.prog 19 #[.pointer (some ⟨p, 0, none⟩)] w fun e w' => e = .returned (.int .i64 2048) ∧ w' = w.drew := by
  have := Page_Room h
  rw [stair_used] at this
  exact this
theorem one_alloc (h : PageIs w p m (stair 4096 0)) : Calls Try.prog 23 #[.pointer (some ⟨p, 0, none⟩)] w fun e w' => e = .returned (.int .u16 0) ∧ PageIs w' p m (stair 4096 1) ∧ Fr (two p m) w w' := by
  have := alloc_yes h (stair_alloc (slot := 4096) (k := 0) (by omega) : (stair 4096 0).alloc = some (0, stair 4096 (0 + 1)))
  rw [Nat.zero_mul] at this
  exact this
theorem one_full (h : PageIs w p m (stair 4096 1)) : Calls Try.prog 23 #[.pointer (some ⟨p, 0, none⟩)] w fun e w' => e = .returned (.int .u16 9) ∧ w' = w.drew := alloc_no h (stair_full (by omega))
theorem one_big (h : PageIs w p m (stair 4096 1)) : Calls Try.prog 16 #[.pointer (some ⟨p, 0, none⟩), .int .u16 0, .string (strOf (zeros 4097))] w fun e w' => e = .returned (.int .i64 40) ∧ Fr none_ w w' :=
  Page_Write_big (off := 0) h one_at0 (strOf (zeros 4097)) (by rw [z4097]; show 4096 < 4097; omega)
theorem one_write (h : PageIs w p m (stair 4096 1)) : Calls Try.prog 16 #[.pointer (some ⟨p, 0, none⟩), .int .u16 0, .string (strOf (zeros 4096))] w fun e w' => e = .returned (.int .i64 0) ∧ PageIs w' p m oneW ∧ Fr (one p) w w' :=
  Page_Write_yes (off := 0) h one_at0 (strOf (zeros 4096)) (by rw [z4096]; exact Nat.le_refl 4096)
theorem oneW_read (h : PageIs w p m oneW) : Calls Try.prog 12 #[.pointer (some ⟨p, 0, none⟩), .int .u16 1] w fun e w' => e = .returned (.tuple #[.string (strOf []), .int .i64 5]) ∧ Fr none_ w w' :=
  Page_Read_no (off := 1) h (oneW_no (by decide))
theorem oneW_free_no (h : PageIs w p m oneW) : Calls Try.prog 15 #[.pointer (some ⟨p, 0, none⟩), .int .u16 65535] w fun e w' => e = .returned (.int .i64 5) ∧ Fr none_ w w' :=
  Page_Free_no (off := 65535) h (oneW_no (by decide))
theorem oneW_free (h : PageIs w p m oneW) : Calls Try.prog 15 #[.pointer (some ⟨p, 0, none⟩), .int .u16 0] w fun e w' => e = .returned (.int .i64 0) ∧ PageIs w' p m (oneW.free (0 / 4096)) ∧ Fr (two p m) w w' :=
  Page_Free_yes (off := 0) h oneW_at0
theorem oneF_free (h : PageIs w p m (oneW.free (0 / 4096))) : Calls Try.prog 15 #[.pointer (some ⟨p, 0, none⟩), .int .u16 0] w fun e w' => e = .returned (.int .i64 5) ∧ Fr none_ w w' :=
  Page_Free_no (off := 0) h oneF_at0
theorem oneF_write (h : PageIs w p m (oneW.free (0 / 4096))) : Calls Try.prog 16 #[.pointer (some ⟨p, 0, none⟩), .int .u16 0, .string ByteArray.empty] w fun e w' => e = .returned (.int .i64 5) ∧ Fr none_ w w' :=
  Page_Write_no (off := 0) h oneF_at0 _
theorem oneF_is (h : PageIs w p m (oneW.free (0 / 4096))) : Calls Try.prog 20 #[.pointer (some ⟨p, 0, none⟩), .int .u16 0] w fun e w' => e = .returned (.bool false) ∧ Fr none_ w w' := by
  have := Page_Is h 0
  rw [oneF_at0] at this; exact this
theorem two_full (h : PageIs w p m (stair 2 2048)) : Calls Try.prog 14 #[.pointer (some ⟨p, 0, none⟩)] w fun e w' => e = .returned (.tuple #[.int .u16 0, .int .i64 41]) ∧ w' = w.drew :=
  Page_Alloc_no h (stair_full (by omega))
theorem two_is (h : PageIs w p m (stair 2 2048)) : Calls Try.prog 20 #[.pointer (some ⟨p, 0, none⟩), .int .u16 4094] w fun e w' => e = .returned (.bool true) ∧ Fr none_ w w' := by
  have := Page_Is h 4094
  rw [(stair_at (sl := 2) (k := 2048) (j := 2047) (by omega) (by omega) : (stair 2 2048).at_ 4094 = some (zeros 2))] at this; exact this
theorem two_is_past (h : PageIs w p m (stair 2 2048)) : Calls Try.prog 20 #[.pointer (some ⟨p, 0, none⟩), .int .u16 4096] w fun e w' => e = .returned (.bool false) ∧ Fr none_ w w' := by
  have := Page_Is h 4096
  rw [(stair_past (sl := 2) (k := 2048) (j := 2048) (by omega) (by omega) : (stair 2 2048).at_ 4096 = none)] at this; exact this
theorem two_is_odd (h : PageIs w p m (stair 2 2048)) : Calls Try.prog 20 #[.pointer (some ⟨p, 0, none⟩), .int .u16 1] w fun e w' => e = .returned (.bool false) ∧ Fr none_ w w' := by
  have := Page_Is h 1
  rw [(stair_odd (sl := 2) (k := 2048) (by decide) : (stair 2 2048).at_ 1 = none)] at this; exact this
theorem two_free (h : PageIs w p m (stair 2 2048)) : Calls Try.prog 15 #[.pointer (some ⟨p, 0, none⟩), .int .u16 4094] w fun e w' => e = .returned (.int .i64 0) ∧ PageIs w' p m ((stair 2 2048).free 2047) ∧ Fr (two p m) w w' :=
  Page_Free_yes (off := 4094) h (stair_at (sl := 2) (k := 2048) (j := 2047) (by omega) (by omega) : (stair 2 2048).at_ 4094 = some (zeros 2))
theorem two_again (h : PageIs w p m ((stair 2 2048).free 2047)) : Calls Try.prog 23 #[.pointer (some ⟨p, 0, none⟩)] w fun e w' => e = .returned (.int .u16 4094) ∧ Fr (two p m) w w' :=
  (alloc_yes h (free_alloc _ _)).mono fun e w' ⟨he, _, hf⟩ => ⟨he, hf⟩
end calls

set_option maxHeartbeats 4000000 in
theorem walk_PageNames (W : World) :
   Calls Try.prog 7 #[] W fun e w' => e = .returned (.bool true) ∧ Fr none_ W w' := by
  have nAl := fun w => Nil_Alloc w
  have nRd := fun w => Nil_Read w 0
  have nFr := fun w => Nil_Free w 0
  have nWr := fun w => Nil_Write w 0 ByteArray.empty
  have nIs := fun w => Nil_Is w 0
  unfold v16 at nIs
  unfold v16 err at nAl nRd nFr nWr
  have NAl := Lib.hid nAl
  have NRd := Lib.hid nRd
  have NFr := Lib.hid nFr
  have NWr := Lib.hid nWr
  have NIs := Lib.hid nIs
  clear nAl nRd nFr nWr nIs
  go_enter Try.func7, Try.ntmps7
  go_wp2_with (first
    | (go_at_call 10; refine (awake_any _).mono ?_; rintro e w1 ⟨rfl, f1⟩)
    | (go_at_call 14; refine (NAl.out _).mono ?_; rintro e w0 ⟨rfl, rfl⟩)
    | (go_at_call 12; refine (NRd.out _).mono ?_; rintro e w0 ⟨rfl, rfl⟩)
    | (go_at_call 15; refine (NFr.out _).mono ?_; rintro e w0 ⟨rfl, rfl⟩)
    | (go_at_call 16; refine (NWr.out _).mono ?_; rintro e w0 ⟨rfl, rfl⟩)
    | (go_at_call 20; refine (NIs.out _).mono ?_; rintro e w0 ⟨rfl, rfl⟩)
    | (go_at_call 18; refine (Nil_Used _).mono ?_; rintro e w0 ⟨rfl, rfl⟩)
    | (go_at_call 19; refine (Nil_Room _).mono ?_; rintro e w0 ⟨rfl, rfl⟩)
    | (go_at_call 21; refine (Nil_Copy _).mono ?_; rintro e w0 ⟨rfl, rfl⟩))
  have hrow := Row.new w1 #[.int .i64 1, .int .i64 0, .int .i64 (-1), .int .i64 4097, .int .i64 9223372036854775807, .int .i64 (-9223372036854775808)] 3
  have hcell : ∀ k, k < 6 → ∃ c : Int, (c < 2 ∨ 4096 < c) ∧ (World.alloc w1 (.cells #[.int .i64 1, .int .i64 0, .int .i64 (-1), .int .i64 4097, .int .i64 9223372036854775807, .int .i64 (-9223372036854775808)] 3)).cell? ⟨w1.heap.size, k, none⟩ = some (.int .i64 c) := by
    intro k hk
    rcases (by omega : k = 0 ∨ k = 1 ∨ k = 2 ∨ k = 3 ∨ k = 4 ∨ k = 5) with rfl | rfl | rfl | rfl | rfl | rfl
    · exact ⟨1, by omega, hrow.cell 0⟩
    · exact ⟨0, by omega, hrow.cell 1⟩
    · exact ⟨-1, by omega, hrow.cell 2⟩
    · exact ⟨4097, by omega, hrow.cell 3⟩
    · exact ⟨9223372036854775807, by omega, hrow.cell 4⟩
    · exact ⟨-9223372036854775808, by omega, hrow.cell 5⟩
  have fA := f1.alloc_r (.cells #[.int .i64 1, .int .i64 0, .int .i64 (-1), .int .i64 4097, .int .i64 9223372036854775807, .int .i64 (-9223372036854775808)] 3)
  have Hcell := Lib.hid hcell
  have HfA := Lib.hid fA
  clear hrow hcell fA
  go_loop [72] (fun i => ∃ k : Nat, Hid (k ≤ 6) ∧ i = .int .i64 k) (fun i => 6 - (intOf i).toNat)
  case atStart => exact ⟨0, by unfold Hid; omega, rfl⟩
  case round =>
    obtain ⟨k, hk, rfl⟩ := hrel
    by_cases hk6 : k < 6
    · obtain ⟨c, hc, hce⟩ := Hcell.out k hk6
      have hnew := fun w => Page_New_no w c hc
      unfold err at hnew
      have Hnew := Lib.hid hnew
      have hk6i : (k : Int) < 6 := by omega
      clear hnew hc
      go_wp2_with (go_at_call 17; refine (Hnew.out _).mono ?_; rintro e w0 ⟨rfl, rfl⟩)
      go_round
      case rel => exact ⟨k + 1, hk6, by go_num⟩
      case measure => simp [intOf]; omega
    · have hnp := fun w => Page_New_yes w 4096 (by omega) (by omega)
      have hnq := fun w => Page_New_yes w 2 (by omega) (by omega)
      unfold ptr err at hnp hnq
      have HnP := Lib.hid hnp
      have HnQ := Lib.hid hnq
      clear hnp hnq Hcell
      go_wp2_with fail
      refine (HnP.out _).mono ?_
      rintro e w2 ⟨p, mp, rfl, hp2, f2, hpb, hmb⟩
      replace hp2 : PageIs w2 p mp (stair 4096 0) := hp2
      go_wp2_with fail
      refine (HnQ.out _).mono ?_
      rintro e w3 ⟨q, mq, rfl, hq3, f3, hqb, hmqb⟩
      replace hq3 : PageIs w3 q mq (stair 2 0) := hq3
      have hp3 := hp2.kept f3 (fun e => e) (fun e => e)
      have hlt := hp2.lt
      have ne : ¬ two p mp q ∧ ¬ two p mp mq ∧ ¬ two q mq p ∧ ¬ two q mq mp ∧ ¬ one p q ∧ ¬ one p mq := by
        unfold two one; omega
      have hsA := HfA.out.size
      have F3 := Lib.hid (HfA.out.trans (f2.trans f3))
      have NE := Lib.hid ne
      have HB : Hid (W.heap.size ≤ p ∧ W.heap.size ≤ mp ∧ W.heap.size ≤ q ∧ W.heap.size ≤ mq) := by have := f2.size; exact ⟨by omega, by omega, by omega, by omega⟩
      clear ne hlt hpb hmb hqb hmqb f2 f3 hp2 hsA
      go_wp2_with (first
        | (go_at_call 20; refine (oneF_is hp16).mono ?_; rintro e w17 ⟨rfl, f17⟩; have hq17 := hq16.kept f17 (fun e => e) (fun e => e))
        | (go_at_call 16; refine (oneF_write hp15).mono ?_; rintro e w16 ⟨rfl, f16⟩; have hp16 := hp15.kept f16 (fun e => e) (fun e => e); have hq16 := hq15.kept f16 (fun e => e) (fun e => e))
        | (go_at_call 15; refine (oneF_free hp14).mono ?_; rintro e w15 ⟨rfl, f15⟩; have hp15 := hp14.kept f15 (fun e => e) (fun e => e); have hq15 := hq14.kept f15 (fun e => e) (fun e => e))
        | (go_at_call 15; refine (oneW_free hp13).mono ?_; rintro e w14 ⟨rfl, hp14, f14⟩; have hq14 := hq13.kept f14 NE.out.1 NE.out.2.1)
        | (go_at_call 15; refine (oneW_free_no hp12).mono ?_; rintro e w13 ⟨rfl, f13⟩; have hp13 := hp12.kept f13 (fun e => e) (fun e => e); have hq13 := hq12.kept f13 (fun e => e) (fun e => e))
        | (go_at_call 12; refine (oneW_read hp11).mono ?_; rintro e w12 ⟨rfl, f12⟩; have hp12 := hp11.kept f12 (fun e => e) (fun e => e); have hq12 := hq11.kept f12 (fun e => e) (fun e => e))
        | (go_at_call 16; refine (one_write hp10).mono ?_; rintro e w11 ⟨rfl, hp11, f11⟩; have hq11 := hq10.kept f11 NE.out.2.2.2.2.1 NE.out.2.2.2.2.2)
        | ((with_reducible refine at_slot 132 ?_); refine wpString rfl _ _ _ 5 rfl hrow2 Try.underlying43 Try.underlying5 Try.underlying9 0 4096 4096 rfl (zeros 4096) List.length_replicate (made_at 4096) ?_; have hp10 := hp9.kept f10 (fun e => e) (fun e => e); have hq10 := hq9.kept f10 (fun e => e) (fun e => e))
        | ((with_reducible refine at_slot 131 ?_); refine wpMakeBytes rfl _ _ _ 5 rfl Try.underlying43 u8_info .i64 .i64 4096 4096 rfl rfl (Nat.le_refl _) (by omega) ?_; intro w10 hrow2 f10 hs10)
        | (go_at_call 16; refine (one_big hp8).mono ?_; rintro e w9 ⟨rfl, f9⟩; have hp9 := hp8.kept f9 (fun e => e) (fun e => e); have hq9 := hq8.kept f9 (fun e => e) (fun e => e))
        | ((with_reducible refine at_slot 125 ?_); refine wpString rfl _ _ _ 5 rfl hrow Try.underlying43 Try.underlying5 Try.underlying9 0 4097 4097 rfl (zeros 4097) List.length_replicate (made_at 4097) ?_; have hp8 := hp7.kept f8 (fun e => e) (fun e => e); have hq8 := hq7.kept f8 (fun e => e) (fun e => e))
        | ((with_reducible refine at_slot 124 ?_); refine wpMakeBytes rfl _ _ _ 5 rfl Try.underlying43 u8_info .i64 .i64 4097 4097 rfl rfl (Nat.le_refl _) (by omega) ?_; intro w8 hrow f8 hs8)
        | (go_at_call 23; refine (one_alloc hp5).mono ?_; rintro e w6 ⟨rfl, hp6, f6⟩; have hq6 := hq5.kept f6 NE.out.1 NE.out.2.1)
        | (go_at_call 23; refine (one_full hp6).mono ?_; rintro e w7 ⟨rfl, rfl⟩; have hp7 := hp6.kept (Fr.drew none_ _) (fun e => e) (fun e => e); have hq7 := hq6.kept (Fr.drew none_ _) (fun e => e) (fun e => e))
        | (go_at_call 19; refine (two_room hq4).mono ?_; rintro e w5 ⟨rfl, rfl⟩; have hp5 := hp4.kept (Fr.drew none_ _) (fun e => e) (fun e => e); have hq5 := hq4.kept (Fr.drew none_ _) (fun e => e) (fun e => e))
        | (go_at_call 19; refine (one_room hp3).mono ?_; rintro e w4 ⟨rfl, rfl⟩; have hp4 := hp3.kept (Fr.drew none_ _) (fun e => e) (fun e => e); have hq4 := hq3.kept (Fr.drew none_ _) (fun e => e) (fun e => e); clear hp3))
      have hno2 : ∀ i, i < W.heap.size → two p mp i → none_ i := by
        intro i hi e; have := HB.out; rcases e with rfl | rfl <;> omega
      have hno1 : ∀ i, i < W.heap.size → one p i → none_ i := by
        intro i hi e; have := HB.out; rcases e with rfl <;> omega
      have hnoq : ∀ i, i < W.heap.size → two q mq i → none_ i := by
        intro i hi e; have := HB.out; rcases e with rfl | rfl <;> omega
      have g6 := (F3.out.drew_r.drew_r).step f6 hno2
      have g11 := (((g6.drew_r.trans f8).trans f9).trans f10).step f11 hno1
      have g17 := (((g11.trans (f12.trans f13)).step f14 hno2).trans (f15.trans f16)).trans f17
      have G17 := Lib.hid g17
      have HNQ := Lib.hid hnoq
      clear hno2 hno1 hnoq g6 g11 g17 f6 f8 f9 f10 f11 f12 f13 f14 f15 f16 f17 hrow hrow2 hp4 hp5 hp6 hp7 hp8 hp9 hp10 hp11 hp12 hp13 hp14 hp15 hp16 hq3 hq4 hq5 hq6 hq7 hq8 hq9 hq10 hq11 hq12 hq13 hq14 hq15 hq16 hs8 hs10
      go_loopw [16] (fun i wr => ∃ k : Nat, Hid (k ≤ 2048) ∧ i = .int .i64 k ∧ PageIs wr q mq (stair 2 k) ∧ Fr (two q mq) w17 wr) (fun i _ => 2048 - (intOf i).toNat)
      case atStart => exact ⟨0, by unfold Hid; omega, rfl, hq17, Fr.refl _ _⟩
      case round =>
        obtain ⟨k, hk, rfl, hq, hf⟩ := hrel
        clear hq17
        by_cases hk2 : k < 2048
        · have hal := Page_Alloc_yes hq (stair_alloc (by omega))
          have hmul : IntKind.i64.wrap (2 * (k : Int)) = 2 * (k : Int) := IntWalk.i64_in _ (by omega)
          have hcast : ((k * 2 : Nat) : Int) = 2 * (k : Int) := by omega
          rw [show (stair 2 k).slot = 2 from rfl] at hal
          unfold ptr v16 err at hal
          rw [hcast] at hal
          have hkb : 2 * (k : Int) < 65536 := by omega
          have hk2i : (k : Int) < 2048 := by omega
          clear hcast
          go_wp2_with (go_at_call 14; refine hal.mono ?_; rintro e w18 ⟨rfl, hq18, f18⟩)
          go_roundw
          case rel => exact ⟨k + 1, hk2, by go_num, hq18, hf.trans f18⟩
          case measure => simp [intOf]; omega
        · have hke : k = 2048 := by have := hk; unfold Hid at this; omega
          subst hke
          go_wp2_with (first
            | (go_at_call 14; refine (two_full hq).mono ?_; rintro e w18 ⟨rfl, rfl⟩; have hq18 := hq.kept (Fr.drew none_ _) (fun e => e) (fun e => e))
            | (go_at_call 20; refine (two_is_odd hq20).mono ?_; rintro e w21 ⟨rfl, f21⟩; have hq21 := hq20.kept f21 (fun e => e) (fun e => e))
            | (go_at_call 20; refine (two_is_past hq19).mono ?_; rintro e w20 ⟨rfl, f20⟩; have hq20 := hq19.kept f20 (fun e => e) (fun e => e))
            | (go_at_call 20; refine (two_is hq18).mono ?_; rintro e w19 ⟨rfl, f19⟩; have hq19 := hq18.kept f19 (fun e => e) (fun e => e))
            | (go_at_call 15; refine (two_free hq21).mono ?_; rintro e w22 ⟨rfl, hq22, f22⟩)
            | (go_at_call 23; refine (two_again hq22).mono ?_; rintro e w23 ⟨rfl, f23⟩))
          go_ret
          refine ⟨rfl, ?_⟩
          have h1 := (G17.out.step hf HNQ.out).drew_r
          exact (((h1.trans f19).trans (f20.trans f21)).step f22 HNQ.out).step f23 HNQ.out
end Go.Proofs.Ytekojokdeimgpaa
