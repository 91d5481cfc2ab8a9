/-
  Package chain: may: whether a version may be.
  Package chain: Read.
-/
import Derived.Test.YteefcfndlggajaaMgCnUsed
import Derived.Deep.QuietTactic
import Derived.BigQuiet
import Derived.Laws.IdiomStrings
import Derived.StillTailTactics
namespace Go.Proofs.Yteefcfndlggajaa
open Go.RowKit
set_option linter.unusedVariables false
set_option linter.unusedSimpArgs false
set_option maxRecDepth 100000

/-- A version as a caller hands it in. -/
structure VerV where
  wr : Int
  ts : Int
  tomb : Bool
  val : ByteArray
def VerV.cells (v : VerV) : Array Value := #[.int .i64 v.wr, .int .i64 v.ts, .bool v.tomb, .string v.val]
structure VerV.Ok (vl : Nat) (v : VerV) : Prop where
  wr : 1 ≤ v.wr
  ts0 : 0 ≤ v.ts
  ts1 : v.ts ≤ 1048576
  val : v.val.size ≤ vl
  tomb : v.tomb = true → v.val.toList = []
noncomputable def VerV.may (vl : Nat) (v : VerV) : Bool := @decide (v.Ok vl) (Classical.propDecidable _)
theorem VerV.may_no {vl : Nat} {v : VerV} (h : ¬ v.Ok vl) : v.may vl = false := @decide_eq_false _ (Classical.propDecidable _) h
theorem VerV.may_yes {vl : Nat} {v : VerV} (h : v.Ok vl) : v.may vl = true := @decide_eq_true _ (Classical.propDecidable _) h
theorem VerV.may_iff {vl : Nat} {v : VerV} : v.may vl = true ↔ v.Ok vl := @decide_eq_true_iff _ (Classical.propDecidable _)

set_option maxHeartbeats 4000000 in
theorem Chain_may {w : World} {x : Nat} (vl : Nat) (v : VerV) (hvl : vl ≤ 256) (hc : w.cell? ⟨x, 6, none⟩ = some (.int .i64 (vl : Int))) (hs : v.val.size ≤ maxLen) :
    Calls Try.prog 39 #[.pointer (some ⟨x, 0, none⟩), .agg v.cells] w fun e w' => e = .returned (.bool (v.may vl)) ∧ Fr none_ w w' := by
  have HNO := Lib.hid (fun h => VerV.may_no (vl := vl) (v := v) h)
  have HYES := Lib.hid (fun h => VerV.may_yes (vl := vl) (v := v) h)
  have hc1 := (Fr.alloc none_ w (.cells v.cells 32)).keep hc
  have fB := Lib.hid (Fr.alloc none_ w (.cells v.cells 32))
  obtain ⟨m, hm⟩ : ∃ m, m = v.may vl := ⟨_, rfl⟩
  rw [← hm] at HNO HYES ⊢
  obtain ⟨ok, hok⟩ : ∃ ok : Prop, ok = v.Ok vl := ⟨_, rfl⟩
  have HOK := Lib.hid (show (ok → 1 ≤ v.wr ∧ 0 ≤ v.ts ∧ v.ts ≤ 1048576 ∧ v.val.size ≤ vl ∧ (v.tomb = true → v.val.toList = [])) ∧ (1 ≤ v.wr → 0 ≤ v.ts → v.ts ≤ 1048576 → v.val.size ≤ vl → (v.tomb = true → v.val.toList = []) → ok) by
    rw [hok]; exact ⟨fun h => ⟨h.1, h.2, h.3, h.4, h.5⟩, fun a b c d e => ⟨a, b, c, d, e⟩⟩)
  rw [← hok] at HNO HYES
  unfold VerV.cells at hc1 fB ⊢
  clear hc hm hok
  obtain ⟨vw, vt, vtomb, vv⟩ := v
  simp only at HOK hc1 hs fB ⊢
  unfold maxLen at hs
  have he := Fr.drewN
  by_cases l1 : vw < 1
  · have hr := Lib.hid (HNO.out (fun q => by have := (HOK.out.1 q).1; omega))
    have hd : decide (1 ≤ vw) = false := by simpa using l1
    clear HNO HYES HOK
    go_enter Try.func39, Try.ntmps39
    go_wp2_with fail
    go_quiet (fail)
    go_wp2_with fail
    go_ret
    exact ⟨by rw [hr.out]; rfl, fB.out.trans (Fr.drewN none_ _ _)⟩
  have hd1 : decide (1 ≤ vw) = true := by simp; omega
  by_cases l2 : vt < 0
  · have hr := Lib.hid (HNO.out (fun q => by have := (HOK.out.1 q).2.1; omega))
    have hd : decide (0 ≤ vt) = false := by simpa using l2
    clear HNO HYES HOK
    go_enter Try.func39, Try.ntmps39
    go_wp2_with fail
    go_quiet (fail)
    go_wp2_with fail
    go_ret
    exact ⟨by rw [hr.out]; rfl, fB.out.trans (Fr.drewN none_ _ _)⟩
  have hd2 : decide (0 ≤ vt) = true := by simp; omega
  by_cases l3 : 1048576 < vt
  · have hr := Lib.hid (HNO.out (fun q => by have := (HOK.out.1 q).2.2.1; omega))
    have hd : decide (vt ≤ 1048576) = false := by simpa using l3
    clear HNO HYES HOK
    go_enter Try.func39, Try.ntmps39
    go_wp2_with fail
    go_quiet (fail)
    go_wp2_with fail
    go_ret
    exact ⟨by rw [hr.out]; rfl, fB.out.trans (Fr.drewN none_ _ _)⟩
  have hd3 : decide (vt ≤ 1048576) = true := by simp; omega
  by_cases l4 : vl < vv.size
  · have hr := Lib.hid (HNO.out (fun q => by have := (HOK.out.1 q).2.2.2.1; omega))
    have hd : decide (vv.size ≤ vl) = false := by simpa using l4
    clear HNO HYES HOK
    go_enter Try.func39, Try.ntmps39
    go_wp2_with fail
    go_quiet (fail)
    go_wp2_with fail
    go_ret
    exact ⟨by rw [hr.out]; rfl, fB.out.trans (Fr.drewN none_ _ _)⟩
  have hd4 : decide (vv.size ≤ vl) = true := by simp; omega
  cases vtomb with
  | false =>
    have hr := Lib.hid (HYES.out (HOK.out.2 (by omega) (by omega) (by omega) (by omega) (fun q => by cases q)))
    clear HNO HYES HOK
    go_enter Try.func39, Try.ntmps39
    go_wp2_with fail
    go_quiet (fail)
    go_wp2_with fail
    go_ret
    exact ⟨by rw [hr.out]; rfl, fB.out.trans (Fr.drewN none_ _ _)⟩
  | true =>
    by_cases l5 : vv.toList = []
    · have hr := Lib.hid (HYES.out (HOK.out.2 (by omega) (by omega) (by omega) (by omega) (fun q => l5)))
      have hd5 : vv.toList.isEmpty = true := by rw [l5]; rfl
      clear HNO HYES HOK
      go_enter Try.func39, Try.ntmps39
      go_wp2_with fail
      go_quiet (fail)
      go_wp2_with fail
      go_ret
      exact ⟨by rw [hr.out]; first | rfl | simp [l5] | simp [hd5], fB.out.trans (Fr.drewN none_ _ _)⟩
    · have hr := Lib.hid (HNO.out (fun q => l5 ((HOK.out.1 q).2.2.2.2 rfl)))
      have hd5 : vv.toList.isEmpty = false := by simpa using l5
      clear HNO HYES HOK
      go_enter Try.func39, Try.ntmps39
      go_wp2_with fail
      go_quiet (fail)
      go_wp2_with fail
      go_ret
      exact ⟨by rw [hr.out]; first | rfl | simp [l5] | simp [hd5], fB.out.trans (Fr.drewN none_ _ _)⟩
end Go.Proofs.Yteefcfndlggajaa
namespace Go.Proofs.Yteefcfndlggajaa
open Go.RowKit
set_option linter.unusedVariables false
set_option linter.unusedSimpArgs false
set_option maxRecDepth 100000

section arms
variable {P : Program} {w : World} {ops : Array Oper} {rest : List Oper} {o : Oper} {a : Act} {Q : Exit → Act → World → Prop}
/-- []byte(s). -/
theorem wpBytesOf (hg : Region.wanted o (yielded ops a.tmps) = true) (x : Operand) (src dst e : TypeId) (hop : o.op = Op.convert src dst x) (hs : P.underlying src = some .string) (hd : P.underlying dst = some (.slice e)) (he : P.underlying e = some (.int .u8))
    (s : ByteArray) (hx : a.eval x = .string s) (hsz : s.size ≤ 1000000)
    (hK : ∀ cap w', s.size ≤ cap → cap ≤ 9223372036854775807 → (∀ (j : Nat) (b : UInt8), s.data.toList[j]? = some b → w'.cell? ⟨w.heap.size, j, none⟩ = some (byteV b)) → Fr none_ w w' → wpList P ops Q rest (a.put o.dst (.slice (some ⟨w.heap.size, 0, none⟩) s.size cap)) w') : wpList P ops Q (o :: rest) a w := by
  refine wpList_go hg fun K' hK' => ?_
  have hr := run_bytes_of_string (P := P) w src dst e s hs hd he
  have hml : s.size ≤ maxLen := by unfold maxLen; omega
  have h1 := grownCap_ge w s.size 0 e
  have h2 := grownCap_le_maxLen w s.size 0 e hml
  obtain ⟨C, hC⟩ : ∃ C, C = grownCap w s.size 0 e := ⟨_, rfl⟩
  rw [← hC] at hr h1 h2
  unfold Oper.wp
  simp [execOp, hop, hx, hr, Result.andThen]
  refine hK' _ _ (hK C _ h1 (by unfold maxLen at h2; omega) ?_ ((Fr.refl _ _).drew_r.alloc_r _))
  intro j b hj
  have hlt : j < s.data.size := by
    have := (List.getElem?_eq_some_iff.1 hj).1
    simpa using this
  have hb : (w.drew.alloc (.cells (bytesRow s C) e ((bytesRow s C).size, (bytesRow s C).size + 1))).heap[w.heap.size]? = some (.cells (bytesRow s C) e ((bytesRow s C).size, (bytesRow s C).size + 1)) := by
    show (w.heap.push _)[w.heap.size]? = _
    simp
  unfold World.cell?
  rw [hb]
  simp only [bytesRow]
  rw [Array.getElem?_append_left (by simpa using hlt)]
  rw [Array.getElem?_map]
  have : s.data[j]? = some b := by simpa using hj
  rw [this]; rfl
end arms
/-- A version that a slot of vl bytes' room can have. -/
structure NV.Ok (vl : Nat) (n : NV) : Prop where
  wr : n.wr < 9223372036854775808
  ts : n.ts < 9223372036854775808
  nx : n.nx < 18446744073709551616
  val : n.val.size ≤ vl
def NV.cells (n : NV) : Array Value := #[.int .i64 (n.wr : Int), .int .i64 (n.ts : Int), .bool n.tomb, .string n.val, .int .u64 (n.nx : Int)]
def nodeZero : Array Value := #[.int .i64 0, .int .i64 0, .bool false, .string ⟨#[]⟩, .int .u64 0]

/-- What stands in a slot, byte by byte. -/
theorem NV.at_piece (l p : List UInt8) (k m : Nat) (h : (l.drop k).take m = p) (i : Nat) (b : UInt8) (hb : p[i]? = some b) : l[k + i]? = some b := by
  rw [← h, List.getElem?_take] at hb
  split at hb
  · rw [List.getElem?_drop] at hb; exact hb
  · cases hb
theorem extract_val (n : NV) (pad : List UInt8) : (strOf (n.enc ++ pad)).extract 27 (27 + n.val.size) = n.val := by
  apply ByteArray.ext
  apply Array.ext'
  have h := (NV.pieces n pad).2.2.2.2.2
  rw [ByteArray.data_extract, Array.toList_extract]
  simp only [List.extract_eq_take_drop]
  show (List.take (27 + n.val.size - 27) (List.drop 27 (strOf (n.enc ++ pad)).data.toList)) = _
  rw [Nat.add_sub_cancel_left]
  exact h
set_option maxHeartbeats 4000000 in
theorem Chain_Read_no {w : World} {x a N : Nat} {F : Nat → Prop} {c : CfgV} {s : AS} (h : ChAt w x a F c s) (hu : Upto N s) {hd : Nat} (hh : hd < 18446744073709551616) (hf : aFind s hd = none) :
    Calls Try.prog 12 #[.pointer (some ⟨x, 0, none⟩), .int .u64 (hd : Int)] w fun e w' => e = .returned (.tuple #[.agg nodeZero, .bool false]) ∧ Fr none_ w w' := by
  have HC := Lib.hid (fun w' (f : Fr none_ w w') => (h.kept0 f).arena)
  have e : aRead s hd = ([], 5) := by unfold aRead; rw [hf]
  have GR := Lib.hid (fun w' (f : Fr none_ w w') => ar_read_lit (h.kept0 f).ar hu hh (d := (hd : Int)) (q := 5) rfl (by rw [e]; rfl) ⟨#[]⟩ (by rw [e]; rfl))
  have fA := Fr.alloc none_ w (.cells nodeZero 36)
  unfold nodeZero at fA ⊢
  have c8 := HC.out _ fA
  have GRA := Lib.hid (GR.out _ fA)
  have FA := Lib.hid fA
  clear h hu hf e fA
  go_enter Try.func12, Try.ntmps12
  go_wp2_with fail
  refine GRA.out.mono ?_
  rintro e w1 ⟨rfl, f1⟩
  have HF := Lib.hid f1
  have R := (Row.new w nodeZero 36).kept f1 (fun e => e)
  have HR := Lib.hid R
  clear R f1
  have fin : ∀ w2, Row w2 w.heap.size nodeZero 36 → w2.cell? ⟨w.heap.size, 0, none⟩ = some (.int .i64 0) ∧ w2.cell? ⟨w.heap.size, 1, none⟩ = some (.int .i64 0) ∧ w2.cell? ⟨w.heap.size, 2, none⟩ = some (.bool false) ∧ w2.cell? ⟨w.heap.size, 3, none⟩ = some (.string ⟨#[]⟩) ∧ w2.cell? ⟨w.heap.size, 4, none⟩ = some (.int .u64 0) := fun w2 R => ⟨R.cell 0, R.cell 1, R.cell 2, R.cell 3, R.cell 4⟩
  have FIN := Lib.hid fin
  clear fin
  go_wp2_with ((with_reducible refine at_storeOf 36 ?_); refine wpStoreRow rfl _ _ _ rfl HR.out rfl rfl (by kernel_rfl) rfl (by simp [nodeZero, Value.oneCell']) ?_; intro w2 R2 f2; obtain ⟨c0, c1, c2, c3, c4⟩ := FIN.out _ R2; have F2 := Lib.hid f2; clear f2 R2)
  refine bodyPost_ret (v := .tuple #[.agg nodeZero, .bool false]) (by simp [results, Try.results12, go_sem, c0, c1, c2, c3, c4, nodeZero]) rfl ⟨rfl, ?_⟩
  exact (FA.out.trans HF.out).step F2.out (fun i hi e => by unfold one at e; omega)
set_option maxHeartbeats 4000000 in
theorem Chain_Read_yes {w : World} {x a N vl : Nat} {F : Nat → Prop} {c : CfgV} {s : AS} (h : ChAt w x a F c s) (hu : Upto N s) {hd : Nat} (hh : hd < 18446744073709551616) (n : NV) (hn : n.Ok vl) (hvl : vl ≤ 256) (pad : List UInt8) (hp : pad.length ≤ 256) (hf : aFind s hd = some (n.enc ++ pad)) :
    Calls Try.prog 12 #[.pointer (some ⟨x, 0, none⟩), .int .u64 (hd : Int)] w fun e w' => e = .returned (.tuple #[.agg n.cells, .bool true]) ∧ Fr none_ w w' := by
  have HC := Lib.hid (fun w' (f : Fr none_ w w') => (h.kept0 f).arena)
  have e : aRead s hd = (n.enc ++ pad, 0) := by unfold aRead; rw [hf]
  have GR := Lib.hid (fun w' (f : Fr none_ w w') => ar_read_lit (h.kept0 f).ar hu hh (d := (hd : Int)) (q := 0) rfl (by rw [e]; rfl) (strOf (n.enc ++ pad)) (by rw [e]))
  have fA := Fr.alloc none_ w (.cells nodeZero 36)
  have RA := Row.new w nodeZero 36
  have HRA := Lib.hid RA
  have c8 := HC.out _ fA
  have GRA := Lib.hid (GR.out _ fA)
  have FA := Lib.hid fA
  unfold nodeZero at c8
  -- the bytes
  obtain ⟨p1, p2, p3, p4, p5, p6⟩ := NV.pieces n pad
  have hL : (n.enc ++ pad).length = 27 + n.val.size + pad.length := by rw [List.length_append, n.enc_length]
  obtain ⟨S, hS⟩ : ∃ S, S = strOf (n.enc ++ pad) := ⟨_, rfl⟩
  have hSs : S.size = 27 + n.val.size + pad.length := by rw [hS, strOf_size, hL]
  have hSd : S.data.toList = n.enc ++ pad := by rw [hS]; rfl
  have hext : S.extract 27 (27 + n.val.size) = n.val := by rw [hS]; exact extract_val n pad
  rw [← hS] at GRA GR
  have hval := hn.val
  have q1 := Lib.hid (fun (i : Nat) (b : UInt8) (hb : (be 8 n.wr)[i]? = some b) => NV.at_piece (n.enc ++ pad) (be 8 n.wr) 0 8 (by rw [List.drop_zero]; exact p1) i b hb)
  have q2 := Lib.hid (fun (i : Nat) (b : UInt8) (hb : (be 8 n.ts)[i]? = some b) => NV.at_piece (n.enc ++ pad) (be 8 n.ts) 8 8 p2 i b hb)
  have q3 := Lib.hid (fun (i : Nat) (b : UInt8) (hb : (be 8 n.nx)[i]? = some b) => NV.at_piece (n.enc ++ pad) (be 8 n.nx) 16 8 p3 i b hb)
  have q5 := Lib.hid (fun (i : Nat) (b : UInt8) (hb : (be 2 n.val.size)[i]? = some b) => NV.at_piece (n.enc ++ pad) (be 2 n.val.size) 25 2 p5 i b hb)
  have q4 := Lib.hid p4
  obtain ⟨sz, hsz⟩ : ∃ sz, sz = S.size := ⟨_, rfl⟩
  have HSZ := Lib.hid hsz
  have HSS := Lib.hid hSs
  have HSD := Lib.hid hSd
  have HEX := Lib.hid hext
  have b27 : sz ≤ 1000000 ∧ 27 ≤ sz ∧ 27 + n.val.size ≤ sz := by omega
  have NOK := Lib.hid hn
  have HVB := Lib.hid (show n.val.size ≤ 256 by omega)
  clear h hu hf e fA RA p1 p2 p3 p4 p5 p6 hL hS hSs hSd hext hn hval hsz GR HC hp
  go_enter Try.func12, Try.ntmps12
  go_wp2_with fail
  refine GRA.out.mono ?_
  rintro e w1 ⟨rfl, f1⟩
  have F1 := Lib.hid (FA.out.trans f1)
  have R1 := Lib.hid (HRA.out.kept f1 (fun e => e))
  clear f1
  go_wp2_with ((with_reducible refine at_slot 33 ?_); refine wpBytesOf rfl _ _ _ 5 rfl Try.underlying9 Try.underlying80 Try.underlying5 S rfl (by have := HSZ.out; omega) ?_; intro cap w2 hcap hcap2 hcells f2)
  have F2 := Lib.hid (F1.out.trans f2)
  have R2 := Lib.hid (R1.out.kept f2 (fun e => e))
  generalize w1.heap.size = g at hcells ⊢
  have hn := NOK.out
  have hcell : ∀ (i : Nat) (b : UInt8), (n.enc ++ pad)[i]? = some b → w2.cell? ⟨g, i, none⟩ = some (byteV b) := fun i b e => hcells i b (by rw [HSD.out]; exact e)
  have e0 : beN (be 8 n.wr) = n.wr := beN_be 8 _ (Nat.lt_trans hn.wr (by decide))
  have e1 : beN (be 8 n.ts) = n.ts := beN_be 8 _ (Nat.lt_trans hn.ts (by decide))
  have e2 : beN (be 8 n.nx) = n.nx := beN_be 8 _ (Nat.lt_of_lt_of_le hn.nx (by decide))
  have hs := HSZ.out
  rw [hs] at b27
  have G1 := get64_cells (w := w2) (g := g) 0 S.size cap 0 (by omega) hcap hcap2 (be 8 n.wr) (be_length 8 _) (fun i b hb => by rw [show 0 + 0 + i = 0 + i by omega]; exact hcell _ b (q1.out i b hb))
  have G2 := get64_cells (w := w2) (g := g) 0 S.size cap 8 (by omega) hcap hcap2 (be 8 n.ts) (be_length 8 _) (fun i b hb => by rw [show 0 + 8 + i = 8 + i by omega]; exact hcell _ b (q2.out i b hb))
  have G3 := get64_cells (w := w2) (g := g) 0 S.size cap 16 (by omega) hcap hcap2 (be 8 n.nx) (be_length 8 _) (fun i b hb => by rw [show 0 + 16 + i = 16 + i by omega]; exact hcell _ b (q3.out i b hb))
  rw [e0] at G1
  rw [e1] at G2
  rw [e2] at G3
  have hv := HVB.out
  have m0 : (be 2 n.val.size)[0]? = some (UInt8.ofNat (n.val.size / 256)) := by have := be_get 2 n.val.size 0 (by omega); simpa using this
  have m1 : (be 2 n.val.size)[1]? = some (UInt8.ofNat n.val.size) := by have := be_get 2 n.val.size 1 (by omega); simpa using this
  have v0 : byteV (UInt8.ofNat (n.val.size / 256)) = .int .u8 ((n.val.size / 256 : Nat) : Int) := by unfold byteV; rw [UInt8.toNat_ofNat']; congr 2; omega
  have v1 : byteV (UInt8.ofNat n.val.size) = .int .u8 ((n.val.size % 256 : Nat) : Int) := by unfold byteV; rw [UInt8.toNat_ofNat']
  have G4 := get16 w2 g 0 S.size cap 25 ((n.val.size / 256 : Nat) : Int) ((n.val.size % 256 : Nat) : Int) (by omega) (by omega) hcap hcap2 ((hcell 25 _ (q5.out 0 _ m0)).trans (by rw [v0])) ((hcell 26 _ (q5.out 1 _ m1)).trans (by rw [v1])) (by omega) (by omega) (by omega) (by omega)
  rw [show ((n.val.size / 256 : Nat) : Int) * 256 + ((n.val.size % 256 : Nat) : Int) = (n.val.size : Int) by omega] at G4
  have c24 := hcell 24 _ q4.out
  have wi1 : IntKind.i64.wrap (n.wr : Int) = (n.wr : Int) := IntWalk.i64_in _ (by have := hn.wr; omega)
  have wi2 : IntKind.i64.wrap (n.ts : Int) = (n.ts : Int) := IntWalk.i64_in _ (by have := hn.ts; omega)
  have wi3 : IntKind.i64.wrap (n.val.size : Int) = (n.val.size : Int) := IntWalk.i64_in _ (by omega)
  have HG1 := Lib.hid G1
  have HG2 := Lib.hid G2
  have HG3 := Lib.hid G3
  have HG4 := Lib.hid G4
  clear G1 G2 G3 G4 m0 m1 v0 v1 hs hcell hcells e0 e1 e2 hn f2 hv R1 F1 q1 q2 q3 q4 q5
  refine HG1.out.mono ?_
  rintro e w3 ⟨rfl, rfl⟩
  go_wp2_with fail
  refine HG2.out.mono ?_
  rintro e w3 ⟨rfl, rfl⟩
  go_wp2_with fail
  refine HG3.out.mono ?_
  rintro e w3 ⟨rfl, rfl⟩
  go_wp2_with fail
  refine HG4.out.mono ?_
  rintro e w3 ⟨rfl, rfl⟩
  go_wp2_with fail
  have fin : ∀ w3, Row w3 w.heap.size n.cells 36 → w3.cell? ⟨w.heap.size, 0, none⟩ = some (.int .i64 (n.wr : Int)) ∧ w3.cell? ⟨w.heap.size, 1, none⟩ = some (.int .i64 (n.ts : Int)) ∧ w3.cell? ⟨w.heap.size, 2, none⟩ = some (.bool n.tomb) ∧ w3.cell? ⟨w.heap.size, 3, none⟩ = some (.string n.val) ∧ w3.cell? ⟨w.heap.size, 4, none⟩ = some (.int .u64 (n.nx : Int)) := fun w2 R => ⟨R.cell 0, R.cell 1, R.cell 2, R.cell 3, R.cell 4⟩
  have FIN := Lib.hid fin
  have HVE := Lib.hid (show n.cells = #[.int .i64 (n.wr : Int), .int .i64 (n.ts : Int), .bool n.tomb, .string n.val, .int .u64 (n.nx : Int)] from rfl)
  have h27 : 27 + n.val.size ≤ S.size := by have := HSS.out; omega
  have h24 : (24 : Int) < (S.size : Int) := by omega
  have s1 : 0 ≤ 27 + (n.val.size : Int) := by omega
  have s2 : 27 + (n.val.size : Int) ≤ (S.size : Int) := by omega
  have s3 : (27 : Int) ≤ 27 + (n.val.size : Int) := by omega
  have ex : S.extract 27 (27 + (n.val.size : Int)).toNat = n.val := by rw [show (27 + (n.val.size : Int)).toNat = 27 + n.val.size by omega]; exact HEX.out
  have wi4 : IntKind.i64.wrap (27 + (n.val.size : Int)) = 27 + (n.val.size : Int) := IntWalk.i64_in _ (by omega)
  clear fin HG1 HG2 HG3 HG4 GRA HRA c8 h27 b27
  cases hT : n.tomb with
  | true =>
    rw [hT] at c24
    have c24' : w2.cell? ⟨g, 24, none⟩ = some (.int .u8 1) := c24
    have HT := Lib.hid hT
    clear c24 hT
    go_still_tail 16, (by kernel_rfl)
    have HR := Lib.hid (show Row w2.drew w.heap.size nodeZero 36 from R2.out)
    clear s1 s2 s3 ex wi1 wi2 wi3 wi4 h24 c24'
    go_wp2_with ((with_reducible refine at_storeOf 36 ?_); refine wpStoreRow (cs' := n.cells) rfl _ _ _ rfl HR.out rfl (by rw [HVE.out, HT.out]; rfl) (by kernel_rfl) rfl (by rw [HVE.out]; simp [Value.oneCell']) ?_; intro w3 R3 f3; obtain ⟨c0, c1, c2, c3, c4⟩ := FIN.out _ R3; have F3 := Lib.hid f3; clear f3 R3)
    refine bodyPost_ret (v := .tuple #[.agg n.cells, .bool true]) (by simp [results, Try.results12, go_sem, c0, c1, c2, c3, c4, HVE.out]) rfl ⟨rfl, ?_⟩
    exact (F2.out.trans (Fr.drew none_ w2)).step F3.out (fun i hi e => by unfold one at e; omega)
  | false =>
    rw [hT] at c24
    have c24' : w2.cell? ⟨g, 24, none⟩ = some (.int .u8 0) := c24
    have HT := Lib.hid hT
    clear c24 hT
    go_still_tail 16, (by kernel_rfl)
    have HR := Lib.hid (show Row w2.drew w.heap.size nodeZero 36 from R2.out)
    clear s1 s2 s3 ex wi1 wi2 wi3 wi4 h24 c24'
    go_wp2_with ((with_reducible refine at_storeOf 36 ?_); refine wpStoreRow (cs' := n.cells) rfl _ _ _ rfl HR.out rfl (by rw [HVE.out, HT.out]; rfl) (by kernel_rfl) rfl (by rw [HVE.out]; simp [Value.oneCell']) ?_; intro w3 R3 f3; obtain ⟨c0, c1, c2, c3, c4⟩ := FIN.out _ R3; have F3 := Lib.hid f3; clear f3 R3)
    refine bodyPost_ret (v := .tuple #[.agg n.cells, .bool true]) (by simp [results, Try.results12, go_sem, c0, c1, c2, c3, c4, HVE.out]) rfl ⟨rfl, ?_⟩
    exact (F2.out.trans (Fr.drew none_ w2)).step F3.out (fun i hi e => by unfold one at e; omega)
end Go.Proofs.Yteefcfndlggajaa
