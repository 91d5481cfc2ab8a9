/-
  Package undo's statements: small, val, fit, many.
-/
import Derived.Test.YtckkccnebjacdaaGreatMgUnBag
import Derived.Test.YtckkccnebjacdaaGreatUnSame
import Derived.Test.YtckkccnebjacdaaGreatMgArenaFind
import Derived.Test.YtckkccnebjacdaaGreatMgArgs
namespace Go.Proofs.YtckkccnebjacdaaGreat
open Go.ChangeShapes Go.WideShapes Go.ChangeAt Go.RowKit Go.Deep Go.Joins
set_option linter.unusedVariables false
set_option linter.unusedSimpArgs false
set_option maxRecDepth 100000

def cfgSmall : CfgV := ⟨1, 1, 1, 2, 9, 1, 4, 3⟩
theorem cfgSmall_may : cfgSmall.may = true := by
  refine CfgV.may_yes fun j hj => ?_
  rcases (show j = 0 ∨ j = 1 ∨ j = 2 ∨ j = 3 ∨ j = 4 ∨ j = 5 ∨ j = 6 ∨ j = 7 by omega) with rfl | rfl | rfl | rfl | rfl | rfl | rfl | rfl
  · exact (show (1 : Int) ≤ 1 ∧ (1 : Int) ≤ 6 from by decide)
  · exact (show (1 : Int) ≤ 1 ∧ (1 : Int) ≤ 8 from by decide)
  · exact (show (1 : Int) ≤ 1 ∧ (1 : Int) ≤ 64 from by decide)
  · exact (show (2 : Int) ≤ 2 ∧ (2 : Int) ≤ 8 from by decide)
  · exact (show (1 : Int) ≤ 9 ∧ (9 : Int) ≤ 1048576 from by decide)
  · exact (show (1 : Int) ≤ 1 ∧ (1 : Int) ≤ 64 from by decide)
  · exact (show (0 : Int) ≤ 4 ∧ (4 : Int) ≤ 256 from by decide)
  · exact (show (3 : Int) ≤ 3 ∧ (3 : Int) ≤ 8 from by decide)
theorem small_any (w : World) : Calls Tryz.prog 32 #[] w fun e w' => e = .returned (.agg #[.int .i64 1, .int .i64 1, .int .i64 1, .int .i64 2, .int .i64 9, .int .i64 1, .int .i64 4, .int .i64 3]) ∧ Fr none_ w w' := by
  have RA := Lib.hid (Row.new w #[.int .i64 0, .int .i64 0, .int .i64 0, .int .i64 0, .int .i64 0, .int .i64 0, .int .i64 0, .int .i64 0] 23)
  have FA := Lib.hid (Fr.alloc none_ w (.cells #[.int .i64 0, .int .i64 0, .int .i64 0, .int .i64 0, .int .i64 0, .int .i64 0, .int .i64 0, .int .i64 0] 23))
  have fin : ∀ w2, Row w2 w.heap.size #[.int .i64 1, .int .i64 1, .int .i64 1, .int .i64 2, .int .i64 9, .int .i64 1, .int .i64 4, .int .i64 3] 23 → w2.cell? ⟨w.heap.size, 0, none⟩ = some (.int .i64 1) ∧ w2.cell? ⟨w.heap.size, 1, none⟩ = some (.int .i64 1) ∧ w2.cell? ⟨w.heap.size, 2, none⟩ = some (.int .i64 1) ∧ w2.cell? ⟨w.heap.size, 3, none⟩ = some (.int .i64 2) ∧ w2.cell? ⟨w.heap.size, 4, none⟩ = some (.int .i64 9) ∧ w2.cell? ⟨w.heap.size, 5, none⟩ = some (.int .i64 1) ∧ w2.cell? ⟨w.heap.size, 6, none⟩ = some (.int .i64 4) ∧ w2.cell? ⟨w.heap.size, 7, none⟩ = some (.int .i64 3) := fun w2 R => ⟨R.cell 0, R.cell 1, R.cell 2, R.cell 3, R.cell 4, R.cell 5, R.cell 6, R.cell 7⟩
  have FIN := Lib.hid fin
  clear fin
  go_enter Tryz.func32, Tryz.ntmps32
  go_wp2_with ((with_reducible refine at_storeOf 23 ?_); refine wpStoreRow (cs' := #[.int .i64 1, .int .i64 1, .int .i64 1, .int .i64 2, .int .i64 9, .int .i64 1, .int .i64 4, .int .i64 3]) rfl _ _ _ rfl RA.out rfl rfl (by kernel_rfl) rfl (by simp [Value.oneCell']) ?_; intro w2 R2 f2; obtain ⟨c0, c1, c2, c3, c4, c5, c6, c7⟩ := FIN.out _ R2; have F2 := Lib.hid f2; clear f2 R2)
  refine bodyPost_ret (v := .agg #[.int .i64 1, .int .i64 1, .int .i64 1, .int .i64 2, .int .i64 9, .int .i64 1, .int .i64 4, .int .i64 3]) (by simp [results, Tryz.results32, go_sem, c0, c1, c2, c3, c4, c5, c6, c7]) rfl ⟨rfl, ?_⟩
  exact FA.out.step F2.out (fun i hi e => by unfold one at e; omega)
def verOf (w2 : World) (b : Nat) (v : VerV) : Prop := w2.cell? ⟨b, 0, none⟩ = some (.int .i64 v.wr) ∧ w2.cell? ⟨b, 1, none⟩ = some (.int .i64 v.ts) ∧ w2.cell? ⟨b, 2, none⟩ = some (.bool v.tomb) ∧ w2.cell? ⟨b, 3, none⟩ = some (.string v.val)
theorem verOf_row {w2 : World} {b : Nat} {v : VerV} {t : TypeId} (R : Row w2 b v.cells t) : verOf w2 b v := ⟨R.cell 0, R.cell 1, R.cell 2, R.cell 3⟩
theorem val_any (w : World) (wr : Int) (s : ByteArray) : Calls Tryz.prog 29 #[.int .i64 wr, .string s] w fun e w' => e = .returned (.agg #[.int .i64 wr, .int .i64 0, .bool false, .string s]) ∧ Fr none_ w w' := by
  have RA := Lib.hid (Row.new w #[.int .i64 0, .int .i64 0, .bool false, .string ⟨#[]⟩] 40)
  have FA := Lib.hid (Fr.alloc none_ w (.cells #[.int .i64 0, .int .i64 0, .bool false, .string ⟨#[]⟩] 40))
  go_enter Tryz.func29, Tryz.ntmps29
  go_wp2_with ((with_reducible refine at_storeOf 40 ?_); refine wpStoreRow (cs' := #[.int .i64 wr, .int .i64 0, .bool false, .string s]) rfl _ _ _ rfl RA.out rfl rfl (by kernel_rfl) rfl (by simp [Value.oneCell']) ?_; intro w2 R2 f2; obtain ⟨c0, c1, c2, c3⟩ := verOf_row (v := ⟨wr, 0, false, s⟩) R2; have F2 := Lib.hid f2; clear f2 R2)
  refine bodyPost_ret (v := .agg #[.int .i64 wr, .int .i64 0, .bool false, .string s]) (by simp [results, Tryz.results29, go_sem, c0, c1, c2, c3]) rfl ⟨rfl, ?_⟩
  exact FA.out.step F2.out (fun i hi e => by unfold one at e; omega)
/-- What fit makes of a version. -/
def VerV.fitted (v : VerV) (vl : Nat) : VerV := ⟨1 + (IntKind.u64.wrap v.wr).tmod 9, 0, v.tomb, if v.tomb then ⟨#[]⟩ else v.val.extract 0 (min v.val.size vl)⟩
theorem VerV.fitted_fit (v : VerV) (vl : Nat) : (v.fitted vl).Fit vl := by
  have hw : 0 ≤ IntKind.u64.wrap v.wr := by rw [IntKind.wrap_u64]; omega
  have h1 : 0 ≤ (IntKind.u64.wrap v.wr).tmod 9 ∧ (IntKind.u64.wrap v.wr).tmod 9 < 9 := by
    rw [Int.tmod_eq_emod_of_nonneg hw]; omega
  refine ⟨VerV.umay_iff.2 ⟨?_, ?_, fun e => ?_⟩, rfl, ?_⟩
  · show 1 ≤ 1 + (IntKind.u64.wrap v.wr).tmod 9; omega
  · unfold VerV.fitted
    cases v.tomb
    · show (v.val.extract 0 (min v.val.size vl)).size ≤ vl
      rw [ByteArray.size_extract]; omega
    · exact Nat.zero_le _
  · unfold VerV.fitted at e ⊢
    have e : v.tomb = true := e
    rw [e]; rfl
  · show 1 + (IntKind.u64.wrap v.wr).tmod 9 < _; omega
set_option maxHeartbeats 4000000 in
theorem fit_any (w : World) (v : VerV) (hs : v.val.size ≤ 140737488351232) (vl : Nat) (hvl : vl ≤ 256) :
    Calls Tryz.prog 45 #[.agg v.cells, .int .i64 (vl : Int)] w fun e w' => e = .returned (.agg (v.fitted vl).cells) ∧ Fr none_ w w' := by
  obtain ⟨vw, vt, vtomb, vv⟩ := v
  simp only at hs
  have f1 := Fr.alloc none_ w (.cells #[.int .i64 vw, .int .i64 vt, .bool vtomb, .string vv] 40)
  unfold VerV.cells
  unfold VerV.fitted
  simp only
  have hw : wrap64 (1 + wrap64 ((IntKind.u64.wrap vw).tmod 9)) = 1 + (IntKind.u64.wrap vw).tmod 9 := by
    have hw : 0 ≤ IntKind.u64.wrap vw := by rw [IntKind.wrap_u64]; omega
    have h1 : 0 ≤ (IntKind.u64.wrap vw).tmod 9 ∧ (IntKind.u64.wrap vw).tmod 9 < 9 := by
      rw [Int.tmod_eq_emod_of_nonneg hw]; omega
    rw [IntWalk.wrap64_in ((IntKind.u64.wrap vw).tmod 9) (by omega), IntWalk.wrap64_in _ (by omega)]
  have HW := Lib.hid hw
  have HC := Lib.hid (show ∀ (tb : Bool) (sv : ByteArray), verOf (((w.alloc (.cells #[.int .i64 vw, .int .i64 vt, .bool vtomb, .string vv] 40)).alloc (.cells (VerV.mk (1 + (IntKind.u64.wrap vw).tmod 9) 0 tb sv).cells 40)).alloc (.cells (VerV.mk (1 + (IntKind.u64.wrap vw).tmod 9) 0 tb sv).cells 40)) (w.heap.size + 1) ⟨1 + (IntKind.u64.wrap vw).tmod 9, 0, tb, sv⟩ from fun tb sv => by
    have R := (Row.new (w.alloc (.cells #[.int .i64 vw, .int .i64 vt, .bool vtomb, .string vv] 40)) (VerV.mk (1 + (IntKind.u64.wrap vw).tmod 9) 0 tb sv).cells 40)
    rw [World.size_alloc] at R
    exact verOf_row (R.kept (Fr.alloc none_ _ _) (fun e => e)))
  clear hw
  unfold VerV.cells at HC
  cases vtomb with
  | true =>
    go_enter Tryz.func45, Tryz.ntmps45
    go_wp2_with fail
    all_goals rw [HW.out]
    all_goals obtain ⟨c0, c1, c2, c3⟩ := HC.out true ⟨#[]⟩
    all_goals exact bodyPost_ret (v := .agg #[.int .i64 (1 + (IntKind.u64.wrap vw).tmod 9), .int .i64 0, .bool true, .string ⟨#[]⟩]) (by simp [results, Tryz.results45, go_sem, c0, c1, c2, c3]) rfl ⟨rfl, (((Fr.alloc none_ _ _).trans (Fr.alloc none_ _ _)).trans (Fr.alloc none_ _ _))⟩
  | false =>
    obtain ⟨M, hM⟩ : ∃ M, M = min vv.size vl := ⟨_, rfl⟩
    rw [← hM]
    have hMl : M ≤ vv.size := by omega
    have HM := Lib.hid hM
    clear hM
    go_enter Tryz.func45, Tryz.ntmps45
    go_wp2_with ((with_reducible refine at_slot 24 ?_); refine wpMin rfl _ _ _ rfl .i64 .i64 vv.size vl M HM.out (by kernel_rfl) (by kernel_rfl) ?_)
    all_goals rw [HW.out]
    all_goals obtain ⟨c0, c1, c2, c3⟩ := HC.out false (vv.extract 0 M)
    all_goals exact bodyPost_ret (v := .agg #[.int .i64 (1 + (IntKind.u64.wrap vw).tmod 9), .int .i64 0, .bool false, .string (vv.extract 0 M)]) (by simp [results, Tryz.results45, go_sem, c0, c1, c2, c3]) rfl ⟨rfl, (((Fr.alloc none_ _ _).trans (Fr.alloc none_ _ _)).trans (Fr.alloc none_ _ _))⟩
/-! ### many -/
def mSum : List VerV → Nat
  | [] => 0
  | x :: r => 200 + min 5000 x.val.size + mSum r
theorem mSum_append (a b : List VerV) : mSum (a ++ b) = mSum a + mSum b := by
  induction a with
  | nil => simp [mSum]
  | cons x r ih => simp only [List.cons_append, mSum, ih]; omega
theorem mSum_length (l : List VerV) : 200 * l.length ≤ mSum l := by
  induction l with
  | nil => simp [mSum]
  | cons x r ih => simp only [List.length_cons, mSum]; omega
theorem mSum_take_le (l : List VerV) (k : Nat) : mSum (l.take k) ≤ mSum l := by
  have := mSum_append (l.take k) (l.drop k)
  rw [List.take_append_drop] at this; omega
def isMany (l : List VerV) : Bool := decide (20000 ≤ mSum l)
/-- A version that came in. -/
structure VerV.In (v : VerV) : Prop where
  wr : v.wr < 9223372036854775808
  sz : v.val.size ≤ 140737488351232
structure VersIn (w : World) (a : Option Addr) (l : List VerV) : Prop where
  ok : ∀ x ∈ l, x.In
  len : l.length ≤ 140737488351232
  at_ : LsAt w a 4 verL l
theorem VersIn.kept {F : Nat → Prop} {w w' : World} {a : Option Addr} {l : List VerV} (h : VersIn w a l) (f : Fr F w w') (hn : ∀ k, blk a k → ¬ F k) : VersIn w' a l := ⟨h.ok, h.len, h.at_.kept f hn⟩
set_option maxHeartbeats 4000000 in
theorem many_any (w : World) (a : Option Addr) (cap : Nat) (l : List VerV) (h : VersIn w a l) :
    Calls Tryz.prog 9 #[.slice a l.length cap] w fun e w' => e = .returned (.bool (isMany l)) ∧ w = w' := by
  have hlen := h.len
  have Hl := Lib.hid hlen
  clear hlen
  go_enter Tryz.func9, Tryz.ntmps9
  go_wp2
  go_loop [3, 4] (fun n i => ∃ k S : Nat, Hid (k ≤ l.length) ∧ i = .int .i64 k ∧ n = .int .i64 S ∧ Hid (S = mSum (l.take k))) (fun _ i => l.length - (intOf i).toNat)
  case atStart => exact ⟨0, 0, Nat.zero_le _, rfl, rfl, by show 0 = _; simp [mSum]⟩
  case round =>
    obtain ⟨k, S, hk, rfl, rfl, hS⟩ := hrel
    by_cases hlt : k < l.length
    · by_cases hs : S < 20000
      · obtain ⟨x, hx⟩ : ∃ x, l[k]? = some x := ⟨l[k], List.getElem?_eq_getElem hlt⟩
        have hx1 := (h.ok x (List.mem_of_getElem? hx)).sz
        obtain ⟨b, o, rfl, hb, hc⟩ := h.at_.get hx
        have hc3 : w.cell? ⟨b, o + k * 4 + 3, none⟩ = some (.string x.val) := hc k x hx 3 _ rfl
        have hk2 : k ≤ 140737488351232 := by have := Hl.out; omega
        have Hx := Lib.hid hx
        obtain ⟨M, hM⟩ : ∃ M, M = min 5000 x.val.size := ⟨_, rfl⟩
        have hMl : M ≤ 5000 := by omega
        have HM := Lib.hid hM
        clear hx hc hM
        have w1 : IntKind.i64.wrap ((S : Int) + 200) = (S : Int) + 200 := IntWalk.i64_in _ (by omega)
        have w2 : IntKind.i64.wrap ((S : Int) + 200 + (M : Int)) = (S : Int) + 200 + (M : Int) := IntWalk.i64_in _ (by omega)
        have w3 : IntKind.i64.wrap ((k : Int) + 1) = (k : Int) + 1 := IntWalk.i64_in _ (by omega)
        go_wp2_with ((with_reducible refine at_slot 23 ?_); refine wpMin rfl _ _ _ rfl .i64 .i64 5000 x.val.size M HM.out (by kernel_rfl) (by kernel_rfl) ?_)
        go_round
        case rel =>
          refine ⟨k + 1, S + 200 + M, hlt, by go_num, by go_num, ?_⟩
          show S + 200 + M = mSum (l.take (k + 1))
          rw [take_more Hx.out, mSum_append, ← hS.out, HM.out]
          simp only [mSum]; omega
        case measure => simp [intOf]; omega
      · have hL : isMany l = true := by
          have h1 := mSum_take_le l k
          rw [← hS.out] at h1
          unfold isMany; exact decide_eq_true (by omega)
        have HL := Lib.hid hL
        clear hL
        go_wp2
        go_ret
        rw [HL.out]
        exact ⟨rfl, rfl⟩
    · have hL : isMany l = decide ((20000 : Int) ≤ (S : Int)) := by
        unfold isMany; rw [hS.out, List.take_of_length_le (by omega), decide_eq_decide]; omega
      have HL := Lib.hid hL
      clear hL
      go_wp2
      go_ret
      rw [HL.out]
      exact ⟨rfl, rfl⟩
theorem isMany_no {l : List VerV} (h : isMany l = false) : l.length ≤ 100 := by
  unfold isMany at h
  have h := of_decide_eq_false h
  have := mSum_length l
  omega
end Go.Proofs.YtckkccnebjacdaaGreat
