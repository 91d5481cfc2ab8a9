/-
  Package undo: may: whether versions may be.
-/
import Derived.Test.YtckkccnebjacdaaGreatUnS
import Derived.Test.YtckkccnebjacdaaGreatVer
import Derived.Test.YtckkccnebjacdaaGreatMgHeld
import Derived.Test.YtckkccnebjacdaaGreatMgPage
import Derived.Deep.QuietTactic
import Derived.BigQuiet
namespace Go.Proofs.YtckkccnebjacdaaGreat
open Go.RowKit
set_option linter.unusedVariables false
set_option linter.unusedSimpArgs false
set_option maxRecDepth 100000

def VerV.umay (vl : Nat) (v : VerV) : Bool := decide (1 ≤ v.wr) && decide (v.val.size ≤ vl) && (!v.tomb || decide (v.val.size = 0))
theorem VerV.umay_iff {vl : Nat} {v : VerV} : v.umay vl = true ↔ 1 ≤ v.wr ∧ v.val.size ≤ vl ∧ (v.tomb = true → v.val.size = 0) := by
  unfold VerV.umay
  cases v.tomb <;> simp [Bool.and_eq_true, and_assoc]
theorem empty_iff (b : ByteArray) : b.toList.isEmpty = decide (b.size = 0) := by
  have e : b.toList = b.data.toList := by
    unfold ByteArray.toList
    rw [ByteArray.toList_loop_eq b b.size 0 [] (by omega) (by omega)]; simp
  rw [e]
  cases h : b.data.toList with
  | nil =>
    have : b.size = 0 := by show b.data.size = 0; rw [← Array.length_toList, h]; rfl
    rw [decide_eq_true this]; rfl
  | cons x r =>
    have : ¬ b.size = 0 := by show ¬ b.data.size = 0; rw [← Array.length_toList, h]; simp
    rw [decide_eq_false this]; rfl
set_option maxHeartbeats 4000000 in
/-- Whether one may not be. -/
theorem Undo_may1 {w : World} {x q : Nat} (vl : Nat) (v : VerV) (hvl : vl ≤ 256) (hq : w.cell? ⟨q, 0, none⟩ = some (.pointer (some ⟨x, 0, none⟩))) (hc : w.cell? ⟨x, 6, none⟩ = some (.int .i64 (vl : Int))) (hs : v.val.size ≤ 140737488351232) :
    Calls Tryz.prog 86 #[.agg v.cells, .pointer (some ⟨q, 0, none⟩)] w fun e w' => e = .returned (.bool (!v.umay vl)) ∧ Fr none_ w w' := by
  have fB := Fr.alloc none_ w (.cells v.cells 40)
  have hc1 := fB.keep hc
  have hq1 := fB.keep hq
  have FB := Lib.hid fB
  obtain ⟨m, hm⟩ : ∃ m, m = v.umay vl := ⟨_, rfl⟩
  have HM := Lib.hid (show m = (decide (1 ≤ v.wr) && decide (v.val.size ≤ vl) && (!v.tomb || decide (v.val.size = 0))) from hm)
  have HE := Lib.hid (empty_iff v.val)
  rw [← hm]
  unfold VerV.cells at hc1 hq1 FB ⊢
  clear hc hq hm fB
  obtain ⟨vw, vt, vtomb, vv⟩ := v
  simp only at HM hc1 hq1 hs FB HE ⊢
  by_cases l1 : vw < 1
  · have hr := Lib.hid (show m = false by rw [HM.out, decide_eq_false (by omega)]; rfl)
    clear HM HE
    go_enter Tryz.func86, Tryz.ntmps86
    go_wp2_with fail
    go_quiet (fail)
    go_wp2_with fail
    go_ret
    exact ⟨by rw [hr.out]; rfl, FB.out.trans (Fr.drewN none_ _ _)⟩
  have hd1 : decide (1 ≤ vw) = true := by simp; omega
  have hd1' : decide (vw < 1) = false := by simp; omega
  by_cases l4 : vl < vv.size
  · have hr := Lib.hid (show m = false by rw [HM.out, decide_eq_false (show ¬ vv.size ≤ vl by omega)]; simp)
    clear HM HE
    go_enter Tryz.func86, Tryz.ntmps86
    go_wp2_with fail
    go_quiet (fail)
    go_wp2_with fail
    go_ret
    exact ⟨by rw [hr.out]; rfl, FB.out.trans (Fr.drewN none_ _ _)⟩
  have hd4 : decide (vl < vv.size) = false := by simp; omega
  have hd4' : decide ((vl : Int) < (vv.size : Int)) = false := by simp; omega
  have hd4n : ¬ ((vl : Int) < (vv.size : Int)) := by omega
  cases vtomb with
  | false =>
    have hr := Lib.hid (show m = true by rw [HM.out, hd1, decide_eq_true (show vv.size ≤ vl by omega)]; rfl)
    clear HM HE
    go_enter Tryz.func86, Tryz.ntmps86
    go_wp2_with fail
    go_quiet (fail)
    go_wp2_with fail
    go_ret
    exact ⟨by rw [hr.out]; rfl, FB.out.trans (Fr.drewN none_ _ _)⟩
  | true =>
    by_cases l5 : vv.size = 0
    · have hr := Lib.hid (show m = true by rw [HM.out, hd1, decide_eq_true (show vv.size ≤ vl by omega), decide_eq_true l5]; rfl)
      have hd5 : vv.toList.isEmpty = true := by rw [HE.out]; simpa using l5
      have hd6 : vv.toList = [] := by simpa using hd5
      clear HM HE l5
      go_enter Tryz.func86, Tryz.ntmps86
      go_wp2_with fail
      go_quiet (fail)
      go_wp2_with fail
      go_ret
      exact ⟨by rw [hr.out]; first | rfl | simp [hd5] | simp [hd6], FB.out.trans (Fr.drewN none_ _ _)⟩
    · have hr := Lib.hid (show m = false by rw [HM.out, hd1, decide_eq_true (show vv.size ≤ vl by omega), decide_eq_false l5]; rfl)
      have hd5 : vv.toList.isEmpty = false := by rw [HE.out]; simpa using l5
      have hd6 : vv.toList ≠ [] := by simpa using hd5
      clear HM HE l5
      go_enter Tryz.func86, Tryz.ntmps86
      go_wp2_with fail
      go_quiet (fail)
      go_wp2_with fail
      go_ret
      exact ⟨by rw [hr.out]; first | rfl | simp [hd5] | simp [hd6], FB.out.trans (Fr.drewN none_ _ _)⟩
def verL (v : VerV) : List Value := v.cells.toList
set_option maxHeartbeats 4000000 in
theorem index_v {w : World} {x q : Nat} (vl : Nat) (hvl : vl ≤ 256) (hq : w.cell? ⟨q, 0, none⟩ = some (.pointer (some ⟨x, 0, none⟩))) (hcx : w.cell? ⟨x, 6, none⟩ = some (.int .i64 (vl : Int)))
    (a : Option Addr) (n c : Nat) (l : List VerV) (h : LsAt w a 4 verL l) (hn : n = l.length) (hb : n ≤ 1000000) (hs : ∀ v ∈ l, v.val.size ≤ 140737488351232) :
    Calls Tryz.prog 115 #[.slice a n c, .func (.func 86) #[] #[.pointer (some ⟨q, 0, none⟩)]] w fun e w' => (∃ r : Int, e = .returned (.int .i64 r) ∧ decide (0 ≤ r) = l.any (fun v => !v.umay vl)) ∧ Fr none_ w w' := by
  have HL := Lib.hid h
  have HN := Lib.hid hn
  have HQ := Lib.hid (And.intro hq hcx)
  have HSZ := Lib.hid hs
  clear h hn hq hcx hs
  have f0 : Fr none_ w w := Fr.refl _ _
  go_enter Tryz.func115, Tryz.ntmps115
  go_wp2_with fail
  go_loopw [8] (fun i wr => ∃ k : Nat, i = .int .i64 k ∧ Hid (k ≤ n) ∧ Hid ((l.take k).any (fun v => !v.umay vl) = false) ∧ Hid (Fr none_ w wr)) (fun i _ => n - (intOf i).toNat)
  case atStart => exact ⟨0, rfl, Nat.zero_le _, rfl, f0⟩
  case round =>
    obtain ⟨k, rfl, hk, hbf, hf⟩ := hrel
    clear f0
    by_cases hlt : k < n
    · obtain ⟨v, hx⟩ : ∃ v, l[k]? = some v := ⟨l[k]'(by rw [← HN.out]; exact hlt), List.getElem?_eq_getElem _⟩
      obtain ⟨b, o, rfl, _, hc⟩ := (HL.out.kept0 hf.out).get hx
      have hsv := HSZ.out v (List.mem_of_getElem? hx)
      have HF := Lib.hid (Undo_may1 (w := wr) (x := x) (q := q) vl v hvl (hf.out.keep HQ.out.1) (hf.out.keep HQ.out.2) hsv)
      have c0 : wr.cell? ⟨b, o + k * 4, none⟩ = some (.int .i64 v.wr) := hc k v hx 0 _ rfl
      have c1 : wr.cell? ⟨b, o + k * 4 + 1, none⟩ = some (.int .i64 v.ts) := hc k v hx 1 _ rfl
      have c2 : wr.cell? ⟨b, o + k * 4 + 2, none⟩ = some (.bool v.tomb) := hc k v hx 2 _ rfl
      have c3 : wr.cell? ⟨b, o + k * 4 + 3, none⟩ = some (.string v.val) := hc k v hx 3 _ rfl
      unfold VerV.cells at HF
      have wk : IntKind.i64.wrap ((k : Int) + 1) = ((k + 1 : Nat) : Int) := by rw [show (k : Int) + 1 = ((k + 1 : Nat) : Int) by omega]; exact IntWalk.i64_in _ (by omega)
      have HX := Lib.hid hx
      have hany : (l.take (k + 1)).any (fun v => !v.umay vl) = !v.umay vl := by
        rw [List.take_add_one, hx]
        show (l.take k ++ [v]).any _ = _
        rw [List.any_append, hbf.out]; simp
      clear hc hx hsv
      cases hm : v.umay vl with
      | false =>
        rw [hm] at HF hany
        have HA := Lib.hid (show l.any (fun v => !v.umay vl) = true from by
          rw [List.any_eq_true]
          exact ⟨v, List.mem_of_getElem? HX.out, by rw [hm]; rfl⟩)
        clear hm hany
        go_wp2_with fail
        refine HF.out.mono ?_
        rintro e w1 ⟨rfl, f1⟩
        have F1 := Lib.hid (hf.out.trans f1)
        clear f1
        go_wp2_with fail
        go_ret
        refine ⟨⟨(k : Int), rfl, ?_⟩, F1.out⟩
        rw [HA.out]; simp
      | true =>
        rw [hm] at HF hany
        have HA := Lib.hid (show (l.take (k + 1)).any (fun v => !v.umay vl) = false from hany)
        clear hm hany
        go_wp2_with fail
        refine HF.out.mono ?_
        rintro e w1 ⟨rfl, f1⟩
        have F1 := Lib.hid (hf.out.trans f1)
        clear f1
        go_wp2_with fail
        go_roundw
        case rel => exact ⟨k + 1, by first | rfl | (rw [wk]), hlt, HA.out, F1.out⟩
        case measure => simp [intOf]; omega
    · have hke : k = l.length := by have := hk.out; have := HN.out; omega
      have hb := hbf.out
      rw [hke, List.take_length] at hb
      have HB := Lib.hid hb
      clear hke hb
      go_wp2_with fail
      go_ret
      refine ⟨⟨-1, rfl, ?_⟩, hf.out⟩
      rw [HB.out]; rfl
theorem contains_v {w : World} {x q : Nat} (vl : Nat) (hvl : vl ≤ 256) (hq : w.cell? ⟨q, 0, none⟩ = some (.pointer (some ⟨x, 0, none⟩))) (hcx : w.cell? ⟨x, 6, none⟩ = some (.int .i64 (vl : Int)))
    (a : Option Addr) (n c : Nat) (l : List VerV) (h : LsAt w a 4 verL l) (hn : n = l.length) (hb : n ≤ 1000000) (hs : ∀ v ∈ l, v.val.size ≤ 140737488351232) :
    Calls Tryz.prog 85 #[.slice a n c, .func (.func 86) #[] #[.pointer (some ⟨q, 0, none⟩)]] w fun e w' => e = .returned (.bool (l.any (fun v => !v.umay vl))) ∧ Fr none_ w w' := by
  have HI := Lib.hid (index_v vl hvl hq hcx a n c l h hn hb hs)
  clear h hn hq hcx hs
  go_enter Tryz.func85, Tryz.ntmps85
  go_wp2_with fail
  refine HI.out.mono ?_
  rintro e w1 ⟨⟨r, rfl, hr⟩, f1⟩
  have F1 := Lib.hid f1
  have HR := Lib.hid hr
  clear f1 hr
  go_wp2_with fail
  go_ret
  exact ⟨by rw [← HR.out]; rfl, F1.out⟩
theorem Undo_may {w : World} {x : Nat} (vl : Nat) (hvl : vl ≤ 256) (hcx : w.cell? ⟨x, 6, none⟩ = some (.int .i64 (vl : Int)))
    (a : Option Addr) (n c : Nat) (l : List VerV) (h : LsAt w a 4 verL l) (hn : n = l.length) (hb : n ≤ 1000000) (hs : ∀ v ∈ l, v.val.size ≤ 140737488351232) (m : Bool) (hm : m = l.all (fun v => v.umay vl)) :
    Calls Tryz.prog 53 #[.pointer (some ⟨x, 0, none⟩), .slice a n c] w fun e w' => e = .returned (.bool m) ∧ Fr none_ w w' := by
  have fA := Fr.alloc none_ w (.cells #[.pointer (some ⟨x, 0, none⟩)] 27)
  have HI := Lib.hid (contains_v (q := w.heap.size) (x := x) vl hvl ((Row.new w #[.pointer (some ⟨x, 0, none⟩)] 27).cell 0) (fA.keep hcx) a n c l (h.kept0 fA) hn hb hs)
  have FA := Lib.hid fA
  have HM := Lib.hid (show (!l.any (fun v => !v.umay vl)) = m from by rw [hm, List.any_eq_not_all_not]; simp)
  clear h hn hcx hs fA hm
  go_enter Tryz.func53, Tryz.ntmps53
  go_wp2_with fail
  refine HI.out.mono ?_
  rintro e w1 ⟨rfl, f1⟩
  have F1 := Lib.hid (FA.out.trans f1)
  clear f1
  go_wp2_with fail
  go_ret
  exact ⟨by rw [← HM.out]; rfl, F1.out⟩
end Go.Proofs.YtckkccnebjacdaaGreat
