/-
  Layer 9's statements: the examples (awake).
-/
import Derived.Test.YtnnomeichppkpaaVwRef3
namespace Go.Proofs.Ytnnomeichppkpaa
open Go.RowKit Go.Sort
set_option linter.unusedVariables false
set_option linter.unusedSimpArgs false
set_option maxRecDepth 100000

theorem aw_busy : vwBusy 5 5 [3, 2, 3, 9, 0] = [2, 3] := by
  obtain ⟨q1, q2⟩ := vwBusy_spec 5 5 [3, 2, 3, 9, 0]
  refine rise_ext q1 (by decide) (fun x => ?_)
  rw [q2]
  simp only [List.mem_cons, List.not_mem_nil, or_false]
  omega
theorem aw_busy0 (own high : Int) : vwBusy own high [] = [] := by
  obtain ⟨q1, q2⟩ := vwBusy_spec own high []
  refine rise_ext q1 (by simp) (fun x => ?_)
  rw [q2]; simp
theorem aw_least : vwLeast 5 5 [2, 3] = 2 := by decide +kernel
theorem aw_least0 : vwLeast 1 1 [] = 2 := by decide +kernel
theorem aw_sees (w : World) (a : Option Addr) (c : Nat) (h : IntsAt w a [2, 3]) (x : Int) (b : Bool) (hb : vwSees 5 5 [2, 3] x = b) :
    Calls Try.prog 9 #[.agg #[.int .i64 5, .int .i64 5, .slice a 2 c], .int .i64 x] w fun e w' => e = .returned (.bool b) ∧ Fr none_ w w' := by
  rw [← hb]
  exact Sees_any w 5 5 a 2 c [2, 3] x h rfl (by omega)
theorem ints_built (w : World) (l : List Int) : IntsAt (w.alloc (.cells (l.map encI).toArray 3)) (some ⟨w.heap.size, 0, none⟩) l := by
  refine Or.inr ⟨w.heap.size, 0, rfl, by simp, fun i x hx j v hv => ?_⟩
  have hj : j = 0 := by have := (List.getElem?_eq_some_iff.1 hv).1; simp at this; omega
  subst hj
  have hv' : v = encI x := by simpa using hv.symm
  subst hv'
  have := (Row.new w (l.map encI).toArray 3).cell i
  rw [Nat.zero_add, Nat.mul_one, Nat.add_zero, this]
  simp [hx]
/-- A view in a variable of the call's own. -/
theorem Row.set3 {w : World} {g : Nat} {x0 x1 x2 y0 y1 y2 : Value} {t : TypeId} (h : Row w g #[x0, x1, x2] t) : Row (((w.setCell ⟨g, 0, none⟩ y0).setCell ⟨g, 1, none⟩ y1).setCell ⟨g, 2, none⟩ y2) g #[y0, y1, y2] t := by
  have := ((h.set 0 y0).set 1 y1).set 2 y2
  simpa using this
set_option maxHeartbeats 4000000 in
theorem awake_any (w : World) : Calls Try.prog 7 #[] w fun e w' => e = .returned (.bool true) ∧ Fr none_ w w' := by
  go_enter Try.func7, Try.ntmps7
  go_wp2_with fail
  have hb := ints_built w [3, 2, 3, 9, 0]
  have OF := Of_any _ 5 5 _ 5 5 [3, 2, 3, 9, 0] hb rfl (by omega)
  rw [aw_busy] at OF
  have F1 : Fr none_ w (w.alloc (.cells ([3, 2, 3, 9, 0].map encI).toArray 3)) := Fr.alloc _ _ _
  have OF' := Lib.hid OF
  have F1' := Lib.hid F1
  clear OF F1 hb
  refine OF'.out.mono ?_
  rintro e w2 ⟨a, m, c, rfl, rfl, hs, f, hk⟩
  have F2 := Lib.hid (F1'.out.trans f)
  have S2 := Lib.hid (hs.ls1 (enc := encI) rfl)
  have L2 := Lib.hid hs.lt
  clear hs f hk F1' OF'
  go_wp2_with ((with_reducible refine at_storeOf 25 ?_); refine Stop.mk ?_)
  show wpList _ _ _ _ _ _
  have r3 := Row.new w2 #[.int .i64 0, .int .i64 0, .slice none 0 0] 25
  have f3 := Fr.alloc none_ w2 (.cells #[.int .i64 0, .int .i64 0, .slice none 0 0] 25)
  have R3 := Lib.hid r3
  have F3 := Lib.hid (F2.out.trans f3)
  have S3 := Lib.hid (S2.out.kept0 f3)
  have Z3 : Hid (w.heap.size ≤ w2.heap.size) := Lib.hid F2.out.size
  obtain ⟨g, hg⟩ : ∃ g, g = w2.heap.size := ⟨_, rfl⟩
  rw [← hg] at R3 Z3 L2 ⊢
  clear r3 f3 F2 S2
  generalize (w2.alloc (.cells #[.int .i64 0, .int .i64 0, .slice none 0 0] 25)) = w3 at R3 F3 S3 ⊢
  clear hg
  refine wpStoreRow rfl _ _ _ rfl R3.out rfl rfl (by kernel_rfl) rfl (by simp [Value.oneCell']) ?_
  intro w4 r4 f4
  have R4 := Lib.hid r4
  have F4 := Lib.hid (F3.out.step f4 (fun i hi e => by have := Z3.out; unfold one at e; omega))
  have S4 := Lib.hid (S3.out.kept f4 (fun k hk e => by have := L2.out k hk; unfold one at e; omega))
  have c0 : w4.cell? ⟨g, 0, none⟩ = some (.int .i64 5) := R4.out.cell 0
  have c1 : w4.cell? ⟨g, 1, none⟩ = some (.int .i64 5) := R4.out.cell 1
  have c2 : w4.cell? ⟨g, 2, none⟩ = some (.slice a 2 c) := R4.out.cell 2
  clear r4 f4 R3 F3 S3
  go_wp2_with fail
  have SB := ints_built w4 [2, 3]
  have fB := Fr.alloc none_ w4 (.cells ([2, 3].map encI).toArray 3)
  have SM := Lib.hid (rSame_any _ 5 5 a 2 c [2, 3] 5 5 _ 2 2 [2, 3] (S4.out.kept0 fB) rfl (by omega) SB rfl (by omega))
  have FB := Lib.hid fB
  clear SB fB
  refine SM.out.mono ?_
  rintro e w5 ⟨he, f⟩
  have hv : vwSame 5 5 [2, 3] 5 5 [2, 3] = true := by decide +kernel
  rw [hv] at he
  subst he
  have F5 := Lib.hid (F4.out.trans (FB.out.trans f))
  have G5 := Lib.hid (FB.out.trans f)
  have R5 := Lib.hid (R4.out.kept G5.out (fun e => e))
  have S5 := Lib.hid (S4.out.kept0 G5.out)
  have c0 : w5.cell? ⟨g, 0, none⟩ = some (.int .i64 5) := R5.out.cell 0
  have c1 : w5.cell? ⟨g, 1, none⟩ = some (.int .i64 5) := R5.out.cell 1
  have c2 : w5.cell? ⟨g, 2, none⟩ = some (.slice a 2 c) := R5.out.cell 2
  clear f SM FB G5 R4 S4 F4
  have SN := Lib.hid (aw_sees w5 a c S5.out 1 true (by decide +kernel))
  go_wp2_with fail
  refine SN.out.mono ?_
  rintro e w6 ⟨rfl, f⟩
  have F6 := Lib.hid (F5.out.trans f)
  have R6 := Lib.hid (R5.out.kept f (fun e => e))
  have S6 := Lib.hid (S5.out.kept0 f)
  have c0 : w6.cell? ⟨g, 0, none⟩ = some (.int .i64 5) := R6.out.cell 0
  have c1 : w6.cell? ⟨g, 1, none⟩ = some (.int .i64 5) := R6.out.cell 1
  have c2 : w6.cell? ⟨g, 2, none⟩ = some (.slice a 2 c) := R6.out.cell 2
  clear f SN F5 R5 S5
  have SN := Lib.hid (aw_sees w6 a c S6.out 4 true (by decide +kernel))
  go_wp2_with fail
  refine SN.out.mono ?_
  rintro e w7 ⟨rfl, f⟩
  have F7 := Lib.hid (F6.out.trans f)
  have R7 := Lib.hid (R6.out.kept f (fun e => e))
  have S7 := Lib.hid (S6.out.kept0 f)
  have c0 : w7.cell? ⟨g, 0, none⟩ = some (.int .i64 5) := R7.out.cell 0
  have c1 : w7.cell? ⟨g, 1, none⟩ = some (.int .i64 5) := R7.out.cell 1
  have c2 : w7.cell? ⟨g, 2, none⟩ = some (.slice a 2 c) := R7.out.cell 2
  clear f SN F6 R6 S6
  have SN := Lib.hid (aw_sees w7 a c S7.out 5 true (by decide +kernel))
  go_wp2_with fail
  refine SN.out.mono ?_
  rintro e w8 ⟨rfl, f⟩
  have F8 := Lib.hid (F7.out.trans f)
  have R8 := Lib.hid (R7.out.kept f (fun e => e))
  have S8 := Lib.hid (S7.out.kept0 f)
  have c0 : w8.cell? ⟨g, 0, none⟩ = some (.int .i64 5) := R8.out.cell 0
  have c1 : w8.cell? ⟨g, 1, none⟩ = some (.int .i64 5) := R8.out.cell 1
  have c2 : w8.cell? ⟨g, 2, none⟩ = some (.slice a 2 c) := R8.out.cell 2
  clear f SN F7 R7 S7
  have SN := Lib.hid (aw_sees w8 a c S8.out 2 false (by decide +kernel))
  go_wp2_with fail
  refine SN.out.mono ?_
  rintro e w9 ⟨rfl, f⟩
  have F9 := Lib.hid (F8.out.trans f)
  have R9 := Lib.hid (R8.out.kept f (fun e => e))
  have S9 := Lib.hid (S8.out.kept0 f)
  have c0 : w9.cell? ⟨g, 0, none⟩ = some (.int .i64 5) := R9.out.cell 0
  have c1 : w9.cell? ⟨g, 1, none⟩ = some (.int .i64 5) := R9.out.cell 1
  have c2 : w9.cell? ⟨g, 2, none⟩ = some (.slice a 2 c) := R9.out.cell 2
  clear f SN F8 R8 S8
  have SN := Lib.hid (aw_sees w9 a c S9.out 3 false (by decide +kernel))
  go_wp2_with fail
  refine SN.out.mono ?_
  rintro e w10 ⟨rfl, f⟩
  have F10 := Lib.hid (F9.out.trans f)
  have R10 := Lib.hid (R9.out.kept f (fun e => e))
  have S10 := Lib.hid (S9.out.kept0 f)
  have c0 : w10.cell? ⟨g, 0, none⟩ = some (.int .i64 5) := R10.out.cell 0
  have c1 : w10.cell? ⟨g, 1, none⟩ = some (.int .i64 5) := R10.out.cell 1
  have c2 : w10.cell? ⟨g, 2, none⟩ = some (.slice a 2 c) := R10.out.cell 2
  clear f SN F9 R9 S9
  have SN := Lib.hid (aw_sees w10 a c S10.out 6 false (by decide +kernel))
  go_wp2_with fail
  refine SN.out.mono ?_
  rintro e w11 ⟨rfl, f⟩
  have F11 := Lib.hid (F10.out.trans f)
  have R11 := Lib.hid (R10.out.kept f (fun e => e))
  have S11 := Lib.hid (S10.out.kept0 f)
  have c0 : w11.cell? ⟨g, 0, none⟩ = some (.int .i64 5) := R11.out.cell 0
  have c1 : w11.cell? ⟨g, 1, none⟩ = some (.int .i64 5) := R11.out.cell 1
  have c2 : w11.cell? ⟨g, 2, none⟩ = some (.slice a 2 c) := R11.out.cell 2
  clear f SN F10 R10 S10
  have SN := Lib.hid (aw_sees w11 a c S11.out 0 false (by decide +kernel))
  go_wp2_with fail
  refine SN.out.mono ?_
  rintro e w12 ⟨rfl, f⟩
  have F12 := Lib.hid (F11.out.trans f)
  have R12 := Lib.hid (R11.out.kept f (fun e => e))
  have S12 := Lib.hid (S11.out.kept0 f)
  have c0 : w12.cell? ⟨g, 0, none⟩ = some (.int .i64 5) := R12.out.cell 0
  have c1 : w12.cell? ⟨g, 1, none⟩ = some (.int .i64 5) := R12.out.cell 1
  have c2 : w12.cell? ⟨g, 2, none⟩ = some (.slice a 2 c) := R12.out.cell 2
  clear f SN F11 R11 S11
  have LE := Lib.hid (Least_any w12 5 5 a 2 c [2, 3] S12.out rfl (by omega) (by decide +kernel))
  rw [aw_least] at LE
  go_wp2_with fail
  refine LE.out.mono ?_
  rintro e w13 ⟨rfl, f⟩
  have F13 := Lib.hid (F12.out.trans f)
  clear f LE F12 R12 S12
  have OF0 := Of_any w13 1 1 none 0 0 [] (Or.inl rfl) rfl (by omega)
  rw [aw_busy0] at OF0
  have OF := Lib.hid OF0
  clear OF0
  go_wp2_with fail
  refine OF.out.mono ?_
  rintro e w14 ⟨a2, m2, cap2, rfl, rfl, hs, f, hk⟩
  have F14 := Lib.hid (F13.out.trans f)
  have LE := Lib.hid (Least_any w14 1 1 a2 0 cap2 [] (Or.inl rfl) rfl (by omega) (by decide +kernel))
  rw [aw_least0] at LE
  clear hs f hk F13 OF
  go_wp2_with fail
  refine LE.out.mono ?_
  rintro e w15 ⟨rfl, f⟩
  have F15 := Lib.hid (F14.out.trans f)
  clear f LE
  go_wp2_with fail
  go_ret
  exact ⟨rfl, F15.out⟩
end Go.Proofs.Ytnnomeichppkpaa
