/-
  text.May: whether a config may be.
  Walks of package bits: two bytes got and put.
-/
import Derived.Test.YtckkccnebjacdaaGreatMgOwn
import Derived.Deep.QuietTactic
namespace Go.Proofs.YtckkccnebjacdaaGreat
open Go.RowKit
set_option linter.unusedVariables false
set_option linter.unusedSimpArgs false
set_option maxRecDepth 100000

structure CfgV where
  tasks : Int
  active : Int
  keys : Int
  depth : Int
  ts : Int
  keyLen : Int
  valLen : Int
  fan : Int
def CfgV.cells (c : CfgV) : Array Value := #[.int .i64 c.tasks, .int .i64 c.active, .int .i64 c.keys, .int .i64 c.depth, .int .i64 c.ts, .int .i64 c.keyLen, .int .i64 c.valLen, .int .i64 c.fan]
/-- What a config's j-th number is to be. -/
def CfgV.ok (c : CfgV) : Nat → Prop
  | 0 => 1 ≤ c.tasks ∧ c.tasks ≤ 6
  | 1 => 1 ≤ c.active ∧ c.active ≤ 8
  | 2 => 1 ≤ c.keys ∧ c.keys ≤ 64
  | 3 => 2 ≤ c.depth ∧ c.depth ≤ 8
  | 4 => 1 ≤ c.ts ∧ c.ts ≤ 1048576
  | 5 => 1 ≤ c.keyLen ∧ c.keyLen ≤ 64
  | 6 => 0 ≤ c.valLen ∧ c.valLen ≤ 256
  | 7 => 3 ≤ c.fan ∧ c.fan ≤ 8
  | _ => True
def CfgV.Ok (c : CfgV) : Prop := ∀ j, j < 8 → c.ok j
noncomputable def CfgV.may (c : CfgV) : Bool := @decide c.Ok (Classical.propDecidable _)
theorem CfgV.may_no {c : CfgV} {j : Nat} (hj : j < 8) (h : ¬ c.ok j) : c.may = false := @decide_eq_false _ (Classical.propDecidable _) (fun q => h (q j hj))
theorem CfgV.may_yes {c : CfgV} (h : c.Ok) : c.may = true := @decide_eq_true _ (Classical.propDecidable _) h
set_option maxHeartbeats 8000000 in
theorem May_any (w : World) (c : CfgV) : Calls Tryz.prog 46 #[.agg c.cells] w fun e w' => e = .returned (.bool c.may) ∧ Fr none_ w w' := by
  have HNO := Lib.hid (fun j (hj : j < 8) (h : ¬ c.ok j) => CfgV.may_no hj h)
  have HYES := Lib.hid (fun (h : ∀ j, j < 8 → c.ok j) => CfgV.may_yes h)
  have HOK := Lib.hid (show (c.ok 0 ↔ (1 ≤ c.tasks ∧ c.tasks ≤ 6)) ∧ (c.ok 1 ↔ (1 ≤ c.active ∧ c.active ≤ 8)) ∧ (c.ok 2 ↔ (1 ≤ c.keys ∧ c.keys ≤ 64)) ∧ (c.ok 3 ↔ (2 ≤ c.depth ∧ c.depth ≤ 8)) ∧ (c.ok 4 ↔ (1 ≤ c.ts ∧ c.ts ≤ 1048576)) ∧ (c.ok 5 ↔ (1 ≤ c.keyLen ∧ c.keyLen ≤ 64)) ∧ (c.ok 6 ↔ (0 ≤ c.valLen ∧ c.valLen ≤ 256)) ∧ (c.ok 7 ↔ (3 ≤ c.fan ∧ c.fan ≤ 8)) from ⟨Iff.rfl, Iff.rfl, Iff.rfl, Iff.rfl, Iff.rfl, Iff.rfl, Iff.rfl, Iff.rfl⟩)
  obtain ⟨okf, hokf⟩ : ∃ okf : Nat → Prop, okf = c.ok := ⟨_, rfl⟩
  obtain ⟨m, hm⟩ : ∃ m, m = c.may := ⟨_, rfl⟩
  rw [← hokf] at HNO HYES HOK
  rw [← hm] at HNO HYES ⊢
  unfold CfgV.cells
  obtain ⟨x0, x1, x2, x3, x4, x5, x6, x7⟩ := c
  simp only at HOK ⊢
  clear hokf hm
  have fB := Lib.hid (Fr.alloc none_ w (.cells #[.int .i64 x0, .int .i64 x1, .int .i64 x2, .int .i64 x3, .int .i64 x4, .int .i64 x5, .int .i64 x6, .int .i64 x7] 23))
  go_enter Tryz.func46, Tryz.ntmps46
  go_wp2_with fail
  go_loopw [30] (fun i wr => ∃ k : Nat, Hid (k ≤ 8) ∧ i = .int .i64 k ∧ Hid (∀ j, j < k → okf j) ∧ Hid (Fr none_ w wr)) (fun i _ => 8 - (intOf i).toNat)
  case atStart => exact ⟨0, Nat.zero_le _, rfl, (fun j hj => absurd hj (by omega)), fB.out⟩
  case round =>
    obtain ⟨k, hk, rfl, hok, hf⟩ := hrel
    have hk8 := hk.out
    rcases (show k = 0 ∨ k = 1 ∨ k = 2 ∨ k = 3 ∨ k = 4 ∨ k = 5 ∨ k = 6 ∨ k = 7 ∨ k = 8 by omega) with rfl | rfl | rfl | rfl | rfl | rfl | rfl | rfl | rfl
    · by_cases l : x0 < 1
      · have hr := Lib.hid (HNO.out 0 (by omega) (fun q => by have := (HOK.out.1).1 q; omega))
        clear hok hk hk8
        go_wp2_with ((with_reducible refine at_slot 32 ?_); refine wpValue rfl (.agg #[.int .i64 x0, .int .i64 1, .int .i64 6]) _ rfl ?_)
        go_ret
        exact ⟨by rw [hr.out]; first | done | rfl, hf.out.trans (by repeat (first | exact Fr.refl _ _ | refine Fr.setCell_r ?_ _ _ (fun h => absurd h (by simp)) | refine Fr.alloc_r ?_ _))⟩
      by_cases g : 6 < x0
      · have hr := Lib.hid (HNO.out 0 (by omega) (fun q => by have := (HOK.out.1).1 q; omega))
        clear hok hk hk8
        go_wp2_with ((with_reducible refine at_slot 32 ?_); refine wpValue rfl (.agg #[.int .i64 x0, .int .i64 1, .int .i64 6]) _ rfl ?_)
        go_ret
        exact ⟨by rw [hr.out]; first | done | rfl, hf.out.trans (by repeat (first | exact Fr.refl _ _ | refine Fr.setCell_r ?_ _ _ (fun h => absurd h (by simp)) | refine Fr.alloc_r ?_ _))⟩
      · have hr := Lib.hid (show ∀ j, j < 1 → okf j from fun j hj => by
          by_cases e : j = 0
          · subst e; exact (HOK.out.1).2 ⟨by omega, by omega⟩
          · exact hok.out j (by omega))
        clear hok hk hk8
        go_wp2_with ((with_reducible refine at_slot 32 ?_); refine wpValue rfl (.agg #[.int .i64 x0, .int .i64 1, .int .i64 6]) _ rfl ?_)
        go_roundw
        case rel => exact ⟨1, by show _ ≤ _; omega, rfl, hr.out, hf.out.trans (by repeat (first | exact Fr.refl _ _ | refine Fr.setCell_r ?_ _ _ (fun h => absurd h (by simp)) | refine Fr.alloc_r ?_ _))⟩
        case measure => simp [intOf]
    · by_cases l : x1 < 1
      · have hr := Lib.hid (HNO.out 1 (by omega) (fun q => by have := (HOK.out.2.1).1 q; omega))
        clear hok hk hk8
        go_wp2_with ((with_reducible refine at_slot 32 ?_); refine wpValue rfl (.agg #[.int .i64 x1, .int .i64 1, .int .i64 8]) _ rfl ?_)
        go_ret
        exact ⟨by rw [hr.out]; first | done | rfl, hf.out.trans (by repeat (first | exact Fr.refl _ _ | refine Fr.setCell_r ?_ _ _ (fun h => absurd h (by simp)) | refine Fr.alloc_r ?_ _))⟩
      by_cases g : 8 < x1
      · have hr := Lib.hid (HNO.out 1 (by omega) (fun q => by have := (HOK.out.2.1).1 q; omega))
        clear hok hk hk8
        go_wp2_with ((with_reducible refine at_slot 32 ?_); refine wpValue rfl (.agg #[.int .i64 x1, .int .i64 1, .int .i64 8]) _ rfl ?_)
        go_ret
        exact ⟨by rw [hr.out]; first | done | rfl, hf.out.trans (by repeat (first | exact Fr.refl _ _ | refine Fr.setCell_r ?_ _ _ (fun h => absurd h (by simp)) | refine Fr.alloc_r ?_ _))⟩
      · have hr := Lib.hid (show ∀ j, j < 2 → okf j from fun j hj => by
          by_cases e : j = 1
          · subst e; exact (HOK.out.2.1).2 ⟨by omega, by omega⟩
          · exact hok.out j (by omega))
        clear hok hk hk8
        go_wp2_with ((with_reducible refine at_slot 32 ?_); refine wpValue rfl (.agg #[.int .i64 x1, .int .i64 1, .int .i64 8]) _ rfl ?_)
        go_roundw
        case rel => exact ⟨2, by show _ ≤ _; omega, rfl, hr.out, hf.out.trans (by repeat (first | exact Fr.refl _ _ | refine Fr.setCell_r ?_ _ _ (fun h => absurd h (by simp)) | refine Fr.alloc_r ?_ _))⟩
        case measure => simp [intOf]
    · by_cases l : x2 < 1
      · have hr := Lib.hid (HNO.out 2 (by omega) (fun q => by have := (HOK.out.2.2.1).1 q; omega))
        clear hok hk hk8
        go_wp2_with ((with_reducible refine at_slot 32 ?_); refine wpValue rfl (.agg #[.int .i64 x2, .int .i64 1, .int .i64 64]) _ rfl ?_)
        go_ret
        exact ⟨by rw [hr.out]; first | done | rfl, hf.out.trans (by repeat (first | exact Fr.refl _ _ | refine Fr.setCell_r ?_ _ _ (fun h => absurd h (by simp)) | refine Fr.alloc_r ?_ _))⟩
      by_cases g : 64 < x2
      · have hr := Lib.hid (HNO.out 2 (by omega) (fun q => by have := (HOK.out.2.2.1).1 q; omega))
        clear hok hk hk8
        go_wp2_with ((with_reducible refine at_slot 32 ?_); refine wpValue rfl (.agg #[.int .i64 x2, .int .i64 1, .int .i64 64]) _ rfl ?_)
        go_ret
        exact ⟨by rw [hr.out]; first | done | rfl, hf.out.trans (by repeat (first | exact Fr.refl _ _ | refine Fr.setCell_r ?_ _ _ (fun h => absurd h (by simp)) | refine Fr.alloc_r ?_ _))⟩
      · have hr := Lib.hid (show ∀ j, j < 3 → okf j from fun j hj => by
          by_cases e : j = 2
          · subst e; exact (HOK.out.2.2.1).2 ⟨by omega, by omega⟩
          · exact hok.out j (by omega))
        clear hok hk hk8
        go_wp2_with ((with_reducible refine at_slot 32 ?_); refine wpValue rfl (.agg #[.int .i64 x2, .int .i64 1, .int .i64 64]) _ rfl ?_)
        go_roundw
        case rel => exact ⟨3, by show _ ≤ _; omega, rfl, hr.out, hf.out.trans (by repeat (first | exact Fr.refl _ _ | refine Fr.setCell_r ?_ _ _ (fun h => absurd h (by simp)) | refine Fr.alloc_r ?_ _))⟩
        case measure => simp [intOf]
    · by_cases l : x3 < 2
      · have hr := Lib.hid (HNO.out 3 (by omega) (fun q => by have := (HOK.out.2.2.2.1).1 q; omega))
        clear hok hk hk8
        go_wp2_with ((with_reducible refine at_slot 32 ?_); refine wpValue rfl (.agg #[.int .i64 x3, .int .i64 2, .int .i64 8]) _ rfl ?_)
        go_ret
        exact ⟨by rw [hr.out]; first | done | rfl, hf.out.trans (by repeat (first | exact Fr.refl _ _ | refine Fr.setCell_r ?_ _ _ (fun h => absurd h (by simp)) | refine Fr.alloc_r ?_ _))⟩
      by_cases g : 8 < x3
      · have hr := Lib.hid (HNO.out 3 (by omega) (fun q => by have := (HOK.out.2.2.2.1).1 q; omega))
        clear hok hk hk8
        go_wp2_with ((with_reducible refine at_slot 32 ?_); refine wpValue rfl (.agg #[.int .i64 x3, .int .i64 2, .int .i64 8]) _ rfl ?_)
        go_ret
        exact ⟨by rw [hr.out]; first | done | rfl, hf.out.trans (by repeat (first | exact Fr.refl _ _ | refine Fr.setCell_r ?_ _ _ (fun h => absurd h (by simp)) | refine Fr.alloc_r ?_ _))⟩
      · have hr := Lib.hid (show ∀ j, j < 4 → okf j from fun j hj => by
          by_cases e : j = 3
          · subst e; exact (HOK.out.2.2.2.1).2 ⟨by omega, by omega⟩
          · exact hok.out j (by omega))
        clear hok hk hk8
        go_wp2_with ((with_reducible refine at_slot 32 ?_); refine wpValue rfl (.agg #[.int .i64 x3, .int .i64 2, .int .i64 8]) _ rfl ?_)
        go_roundw
        case rel => exact ⟨4, by show _ ≤ _; omega, rfl, hr.out, hf.out.trans (by repeat (first | exact Fr.refl _ _ | refine Fr.setCell_r ?_ _ _ (fun h => absurd h (by simp)) | refine Fr.alloc_r ?_ _))⟩
        case measure => simp [intOf]
    · by_cases l : x4 < 1
      · have hr := Lib.hid (HNO.out 4 (by omega) (fun q => by have := (HOK.out.2.2.2.2.1).1 q; omega))
        clear hok hk hk8
        go_wp2_with ((with_reducible refine at_slot 32 ?_); refine wpValue rfl (.agg #[.int .i64 x4, .int .i64 1, .int .i64 1048576]) _ rfl ?_)
        go_ret
        exact ⟨by rw [hr.out]; first | done | rfl, hf.out.trans (by repeat (first | exact Fr.refl _ _ | refine Fr.setCell_r ?_ _ _ (fun h => absurd h (by simp)) | refine Fr.alloc_r ?_ _))⟩
      by_cases g : 1048576 < x4
      · have hr := Lib.hid (HNO.out 4 (by omega) (fun q => by have := (HOK.out.2.2.2.2.1).1 q; omega))
        clear hok hk hk8
        go_wp2_with ((with_reducible refine at_slot 32 ?_); refine wpValue rfl (.agg #[.int .i64 x4, .int .i64 1, .int .i64 1048576]) _ rfl ?_)
        go_ret
        exact ⟨by rw [hr.out]; first | done | rfl, hf.out.trans (by repeat (first | exact Fr.refl _ _ | refine Fr.setCell_r ?_ _ _ (fun h => absurd h (by simp)) | refine Fr.alloc_r ?_ _))⟩
      · have hr := Lib.hid (show ∀ j, j < 5 → okf j from fun j hj => by
          by_cases e : j = 4
          · subst e; exact (HOK.out.2.2.2.2.1).2 ⟨by omega, by omega⟩
          · exact hok.out j (by omega))
        clear hok hk hk8
        go_wp2_with ((with_reducible refine at_slot 32 ?_); refine wpValue rfl (.agg #[.int .i64 x4, .int .i64 1, .int .i64 1048576]) _ rfl ?_)
        go_roundw
        case rel => exact ⟨5, by show _ ≤ _; omega, rfl, hr.out, hf.out.trans (by repeat (first | exact Fr.refl _ _ | refine Fr.setCell_r ?_ _ _ (fun h => absurd h (by simp)) | refine Fr.alloc_r ?_ _))⟩
        case measure => simp [intOf]
    · by_cases l : x5 < 1
      · have hr := Lib.hid (HNO.out 5 (by omega) (fun q => by have := (HOK.out.2.2.2.2.2.1).1 q; omega))
        clear hok hk hk8
        go_wp2_with ((with_reducible refine at_slot 32 ?_); refine wpValue rfl (.agg #[.int .i64 x5, .int .i64 1, .int .i64 64]) _ rfl ?_)
        go_ret
        exact ⟨by rw [hr.out]; first | done | rfl, hf.out.trans (by repeat (first | exact Fr.refl _ _ | refine Fr.setCell_r ?_ _ _ (fun h => absurd h (by simp)) | refine Fr.alloc_r ?_ _))⟩
      by_cases g : 64 < x5
      · have hr := Lib.hid (HNO.out 5 (by omega) (fun q => by have := (HOK.out.2.2.2.2.2.1).1 q; omega))
        clear hok hk hk8
        go_wp2_with ((with_reducible refine at_slot 32 ?_); refine wpValue rfl (.agg #[.int .i64 x5, .int .i64 1, .int .i64 64]) _ rfl ?_)
        go_ret
        exact ⟨by rw [hr.out]; first | done | rfl, hf.out.trans (by repeat (first | exact Fr.refl _ _ | refine Fr.setCell_r ?_ _ _ (fun h => absurd h (by simp)) | refine Fr.alloc_r ?_ _))⟩
      · have hr := Lib.hid (show ∀ j, j < 6 → okf j from fun j hj => by
          by_cases e : j = 5
          · subst e; exact (HOK.out.2.2.2.2.2.1).2 ⟨by omega, by omega⟩
          · exact hok.out j (by omega))
        clear hok hk hk8
        go_wp2_with ((with_reducible refine at_slot 32 ?_); refine wpValue rfl (.agg #[.int .i64 x5, .int .i64 1, .int .i64 64]) _ rfl ?_)
        go_roundw
        case rel => exact ⟨6, by show _ ≤ _; omega, rfl, hr.out, hf.out.trans (by repeat (first | exact Fr.refl _ _ | refine Fr.setCell_r ?_ _ _ (fun h => absurd h (by simp)) | refine Fr.alloc_r ?_ _))⟩
        case measure => simp [intOf]
    · by_cases l : x6 < 0
      · have hr := Lib.hid (HNO.out 6 (by omega) (fun q => by have := (HOK.out.2.2.2.2.2.2.1).1 q; omega))
        clear hok hk hk8
        go_wp2_with ((with_reducible refine at_slot 32 ?_); refine wpValue rfl (.agg #[.int .i64 x6, .int .i64 0, .int .i64 256]) _ rfl ?_)
        go_ret
        exact ⟨by rw [hr.out]; first | done | rfl, hf.out.trans (by repeat (first | exact Fr.refl _ _ | refine Fr.setCell_r ?_ _ _ (fun h => absurd h (by simp)) | refine Fr.alloc_r ?_ _))⟩
      by_cases g : 256 < x6
      · have hr := Lib.hid (HNO.out 6 (by omega) (fun q => by have := (HOK.out.2.2.2.2.2.2.1).1 q; omega))
        clear hok hk hk8
        go_wp2_with ((with_reducible refine at_slot 32 ?_); refine wpValue rfl (.agg #[.int .i64 x6, .int .i64 0, .int .i64 256]) _ rfl ?_)
        go_ret
        exact ⟨by rw [hr.out]; first | done | rfl, hf.out.trans (by repeat (first | exact Fr.refl _ _ | refine Fr.setCell_r ?_ _ _ (fun h => absurd h (by simp)) | refine Fr.alloc_r ?_ _))⟩
      · have hr := Lib.hid (show ∀ j, j < 7 → okf j from fun j hj => by
          by_cases e : j = 6
          · subst e; exact (HOK.out.2.2.2.2.2.2.1).2 ⟨by omega, by omega⟩
          · exact hok.out j (by omega))
        clear hok hk hk8
        go_wp2_with ((with_reducible refine at_slot 32 ?_); refine wpValue rfl (.agg #[.int .i64 x6, .int .i64 0, .int .i64 256]) _ rfl ?_)
        go_roundw
        case rel => exact ⟨7, by show _ ≤ _; omega, rfl, hr.out, hf.out.trans (by repeat (first | exact Fr.refl _ _ | refine Fr.setCell_r ?_ _ _ (fun h => absurd h (by simp)) | refine Fr.alloc_r ?_ _))⟩
        case measure => simp [intOf]
    · by_cases l : x7 < 3
      · have hr := Lib.hid (HNO.out 7 (by omega) (fun q => by have := (HOK.out.2.2.2.2.2.2.2).1 q; omega))
        clear hok hk hk8
        go_wp2_with ((with_reducible refine at_slot 32 ?_); refine wpValue rfl (.agg #[.int .i64 x7, .int .i64 3, .int .i64 8]) _ rfl ?_)
        go_ret
        exact ⟨by rw [hr.out]; first | done | rfl, hf.out.trans (by repeat (first | exact Fr.refl _ _ | refine Fr.setCell_r ?_ _ _ (fun h => absurd h (by simp)) | refine Fr.alloc_r ?_ _))⟩
      by_cases g : 8 < x7
      · have hr := Lib.hid (HNO.out 7 (by omega) (fun q => by have := (HOK.out.2.2.2.2.2.2.2).1 q; omega))
        clear hok hk hk8
        go_wp2_with ((with_reducible refine at_slot 32 ?_); refine wpValue rfl (.agg #[.int .i64 x7, .int .i64 3, .int .i64 8]) _ rfl ?_)
        go_ret
        exact ⟨by rw [hr.out]; first | done | rfl, hf.out.trans (by repeat (first | exact Fr.refl _ _ | refine Fr.setCell_r ?_ _ _ (fun h => absurd h (by simp)) | refine Fr.alloc_r ?_ _))⟩
      · have hr := Lib.hid (show ∀ j, j < 8 → okf j from fun j hj => by
          by_cases e : j = 7
          · subst e; exact (HOK.out.2.2.2.2.2.2.2).2 ⟨by omega, by omega⟩
          · exact hok.out j (by omega))
        clear hok hk hk8
        go_wp2_with ((with_reducible refine at_slot 32 ?_); refine wpValue rfl (.agg #[.int .i64 x7, .int .i64 3, .int .i64 8]) _ rfl ?_)
        go_roundw
        case rel => exact ⟨8, by show _ ≤ _; omega, rfl, hr.out, hf.out.trans (by repeat (first | exact Fr.refl _ _ | refine Fr.setCell_r ?_ _ _ (fun h => absurd h (by simp)) | refine Fr.alloc_r ?_ _))⟩
        case measure => simp [intOf]
    · have hr := Lib.hid (HYES.out hok.out)
      clear hok hk hk8
      go_wp2_with fail
      go_ret
      exact ⟨by rw [hr.out]; first | done | rfl, hf.out⟩
end Go.Proofs.YtckkccnebjacdaaGreat
namespace Go.Proofs.YtckkccnebjacdaaGreat
open Go.RowKit
set_option linter.unusedVariables false
set_option linter.unusedSimpArgs false

set_option maxHeartbeats 400000 in
theorem wide16 (w : World) :
    Calls Tryz.prog 150 #[] w fun e w' => e = .returned (.int .i64 2) ∧ w = w' := by
  go_enter Tryz.func150, Tryz.ntmps150
  go_wp2
  go_rounds 3
  go_ret
  exact ⟨rfl, rfl⟩

set_option maxHeartbeats 400000 in
theorem within16 (w : World) (bk off len cap : Nat) (at_ : Int) (h0 : 0 ≤ at_) (h1 : at_ + 2 ≤ len) (hc : len ≤ cap) (hcap : cap ≤ 9223372036854775807) :
    Calls Tryz.prog 136 #[.slice (some ⟨bk, off, none⟩) len cap, .int .i64 at_] w fun e w' => e = .returned (.slice (some ⟨bk, off + at_.toNat, none⟩) 2 (cap - at_.toNat)) ∧ w = w' := by
  go_enter Tryz.func136, Tryz.ntmps136
  go_wp2_with (go_at_call 150; refine (wide16 _).mono ?_; rintro e w' ⟨rfl, rfl⟩)
  go_ret
  have e : (at_ + 2).toNat - at_.toNat = 2 := by omega
  exact ⟨congrArg (fun n => Ending.returned (.slice (some ⟨bk, off + at_.toNat, none⟩) n (cap - at_.toNat))) e, rfl⟩

theorem or16 (b0 b1 : Int) (r0 : 0 ≤ b0) (r0' : b0 < 256) (r1 : 0 ≤ b1) (r1' : b1 < 256) :
    bits .or .u16 (IntKind.u16.wrap (bits .or .u16 0 b0 * 256)) b1 = b0 * 256 + b1 := by
  obtain ⟨a, rfl⟩ := Int.eq_ofNat_of_zero_le r0
  obtain ⟨b, rfl⟩ := Int.eq_ofNat_of_zero_le r1
  have ha : a < 256 := by omega
  have hb : b < 256 := by omega
  have e0 : bits .or .u16 0 (a : Int) = (a : Int) := by
    have := u16_or_nat 0 a (by omega) (by omega)
    simpa using this
  have hw : IntKind.u16.wrap ((a : Int) * 256) = ((2 ^ 8 * a : Nat) : Int) := by
    rw [IntKind.wrap_u16]; omega
  show bits .or .u16 (IntKind.u16.wrap (bits .or .u16 0 (a : Int) * 256)) (b : Int) = (a : Int) * 256 + (b : Int)
  rw [e0, hw, u16_or_nat _ _ (by omega) (by omega), ← Nat.two_pow_add_eq_or_of_lt (by omega : b < 2 ^ 8) a]
  omega

set_option maxHeartbeats 400000 in
theorem get16 (w : World) (bk off len cap : Nat) (at_ : Int) (b0 b1 : Int) (h0 : 0 ≤ at_) (h1 : at_ + 2 ≤ len) (hc : len ≤ cap) (hcap : cap ≤ 9223372036854775807)
    (c0 : w.cell? ⟨bk, off + at_.toNat, none⟩ = some (.int .u8 b0)) (c1 : w.cell? ⟨bk, off + at_.toNat + 1, none⟩ = some (.int .u8 b1))
    (r0 : 0 ≤ b0) (r0' : b0 < 256) (r1 : 0 ≤ b1) (r1' : b1 < 256) :
    Calls Tryz.prog 84 #[.slice (some ⟨bk, off, none⟩) len cap, .int .i64 at_] w fun e w' => e = .returned (.tuple #[.int .u16 (b0 * 256 + b1), .bool true]) ∧ w = w' := by
  have ho := Lib.hid (or16 b0 b1 r0 r0' r1 r1')
  go_enter Tryz.func84, Tryz.ntmps84
  go_wp2_with (first | (go_at_call 136; refine (within16 _ _ _ _ _ _ h0 h1 hc hcap).mono ?_; rintro e w' ⟨rfl, rfl⟩) | go_in)
  go_rounds 3
  all_goals go_wp2
  go_ret2
  rw [← ho.out]
  exact ⟨rfl, rfl⟩

set_option maxHeartbeats 400000 in
theorem put16 (w : World) (bk off len cap : Nat) (at_ n : Int) (h0 : 0 ≤ at_) (h1 : at_ + 2 ≤ len) (hc : len ≤ cap) (hcap : cap ≤ 9223372036854775807) (u0 u1 : Value)
    (c0 : w.cell? ⟨bk, off + at_.toNat, none⟩ = some u0) (c1 : w.cell? ⟨bk, off + at_.toNat + 1, none⟩ = some u1)
    (f0 : w.frozen? ⟨bk, off + at_.toNat, none⟩ = false) (f1 : w.frozen? ⟨bk, off + at_.toNat + 1, none⟩ = false)
    (hn0 : 0 ≤ n) (hn1 : n < 65536) :
    Calls Tryz.prog 91 #[.slice (some ⟨bk, off, none⟩) len cap, .int .i64 at_, .int .u16 n] w fun e w' => e = .returned (.bool true) ∧ w' = (w.setCell ⟨bk, off + at_.toNat, none⟩ (.int .u8 (n / 256))).setCell ⟨bk, off + at_.toNat + 1, none⟩ (.int .u8 (n % 256)) := by
  go_enter Tryz.func91, Tryz.ntmps91
  go_wp2_with (first | (go_at_call 136; refine (within16 _ _ _ _ _ _ h0 h1 hc hcap).mono ?_; rintro e w' ⟨rfl, rfl⟩) | go_in)
  go_rounds 3
  go_ret
  exact ⟨rfl, rfl⟩
end Go.Proofs.YtckkccnebjacdaaGreat
