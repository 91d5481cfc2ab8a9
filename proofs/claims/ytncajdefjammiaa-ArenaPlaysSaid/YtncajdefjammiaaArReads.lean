/-
  'reads': a slot that begins by a text, 00s behind.
-/
import Derived.Test.YtncajdefjammiaaArBound
namespace Go.Proofs.Ytncajdefjammiaa
open Go.RowKit
set_option linter.unusedVariables false
set_option linter.unusedSimpArgs false
set_option maxRecDepth 100000

set_option maxHeartbeats 1000000 in
theorem reads_yes {w : World} {xa m : Nat} {pa : Option Addr} {cap : Nat} {ps : List (Nat × Nat)} {s : AS} (h : ArenaAt w xa m pa cap ps s) (hw : s.WF) {hd : Nat} (hh : hd < 18446744073709551616) (b : ByteArray) (hb : b.size ≤ s.slot) (hf : aFind s hd = some (newBytes s.slot b)) :
    Calls Try.prog 18 #[.pointer (some ⟨xa, 0, none⟩), .int .u64 (hd : Int), .string b] w fun e w' => e = .returned (.bool true) ∧ Fr none_ w w' := by
  have hr := Arena_Read h hh hw.len
  have hre : aRead s hd = (newBytes s.slot b, 0) := by unfold aRead; rw [hf]
  rw [hre] at hr
  simp only at hr
  have hs := fun w1 (f : Fr none_ w w1) => Arena_Slot (h.kept0 f)
  have hi := hw.hi
  generalize s.slot = sl at hr hs hb hi
  have hsz : (strOf (newBytes sl b)).size = sl := by
    rw [strOf_size]; unfold newBytes zeros
    rw [List.length_append, List.length_replicate]
    have : b.data.toList.length = b.size := Array.length_toList
    omega
  generalize hT : strOf (newBytes sl b) = T at hr hsz
  have HT := Lib.hid hT
  have Hr := Lib.hid hr
  have Hs := Lib.hid hs
  have hne : ((T.size : Int) != (sl : Int)) = false := by rw [hsz]; exact bne_self_eq_false _
  have hgt : decide (sl < b.size) = false := decide_eq_false (by omega)
  have hext : T.extract 0 b.size = b := by
    rw [← HT.out]
    apply ByteArray.ext
    rw [ByteArray.data_extract]
    apply Array.ext'
    rw [Array.toList_extract]
    have hbl : b.data.toList.length = b.size := Array.length_toList
    show (List.extract (newBytes sl b) 0 b.size) = b.data.toList
    unfold newBytes
    rw [List.extract_eq_take_drop, List.drop_zero, Nat.sub_zero, ← hbl, List.take_left']
    rfl
  have hz : ∀ k, b.size ≤ k → (hk : k < T.size) → T[k]'hk = 0 := by
    intro k hbk hk
    have hd : T.data.toList = newBytes sl b := by rw [← HT.out]; rfl
    have hbl : b.data.toList.length = b.size := Array.length_toList
    have h2 : T.data.toList[k]? = some 0 := by
      rw [hd]; unfold newBytes zeros
      rw [List.getElem?_append_right (by omega), List.getElem?_replicate, if_pos (by omega)]
    rw [Array.getElem?_toList] at h2
    exact (Array.getElem?_eq_some_iff.1 h2).2
  clear hT hr hs hf hre h hw
  go_enter Try.func18, Try.ntmps18
  go_wp2_with (first
    | (go_at_call 15; refine Hr.out.mono ?_; rintro e w1 ⟨rfl, f1⟩)
    | (go_at_call 25; refine (Hs.out _ f1).mono ?_; rintro e w2 ⟨rfl, rfl⟩))
  go_loopw [9] (fun i wr => ∃ k : Nat, Hid (b.size ≤ k ∧ k ≤ sl) ∧ i = .int .i64 k ∧ Fr none_ w wr) (fun i _ => sl - (intOf i).toNat)
  case atStart => exact ⟨b.size, ⟨Nat.le_refl _, hb⟩, rfl, f1⟩
  case round =>
    obtain ⟨k, hk, rfl, hfr⟩ := hrel
    by_cases hlt : k < sl
    · have hz1 := hz k (by have := hk; unfold Hid at this; omega) (by omega)
      go_wp2
      go_roundw
      case rel => exact ⟨k + 1, by have := hk; unfold Hid at this ⊢; omega, by go_num, hfr⟩
      case measure => simp [intOf]; omega
    · go_wp2
      go_ret
      exact ⟨rfl, hfr⟩
end Go.Proofs.Ytncajdefjammiaa
