/-
  Package chain: turn: a version is made another one: by Change, Stamp, Cut.
-/
import Derived.Test.YteefcfndlggajaaCnRead
import Derived.Deep.RegionHeld3
namespace Go.Proofs.Yteefcfndlggajaa
open Go.RowKit
set_option linter.unusedVariables false
set_option linter.unusedSimpArgs false
set_option maxRecDepth 100000

/-- What a slot of vl bytes' room holds that has a version. -/
def NV.slot (vl : Nat) (n : NV) : List UInt8 := n.enc ++ zeros (vl - n.val.size)
theorem NV.pad_le {vl : Nat} (hvl : vl ≤ 256) (n : NV) : (zeros (vl - n.val.size)).length ≤ 256 := by unfold zeros; rw [List.length_replicate]; omega
theorem enc_fits {vl : Nat} {n : NV} (hn : n.Ok vl) : (strOf n.enc).size ≤ 27 + vl := by rw [strOf_size, n.enc_length]; have := hn.val; omega
theorem enc_slot {vl : Nat} {n : NV} (hn : n.Ok vl) : newBytes (27 + vl) (strOf n.enc) = n.slot vl := by
  unfold newBytes NV.slot
  rw [strOf_size, n.enc_length]
  have : 27 + vl - (27 + n.val.size) = vl - n.val.size := by omega
  rw [this]; rfl
def VerV.nv (v : VerV) (nx : Nat) : NV := { wr := v.wr.toNat, ts := v.ts.toNat, nx := nx, tomb := v.tomb, val := v.val }
theorem VerV.nv_ok {vl : Nat} {v : VerV} (h : v.Ok vl) (hw : v.wr < 9223372036854775808) {nx : Nat} (hx : nx < 18446744073709551616) : (v.nv nx).Ok vl := by
  have := h.wr; have := h.ts0; have := h.ts1
  exact ⟨by unfold VerV.nv; simp only; omega, by unfold VerV.nv; simp only; omega, hx, h.val⟩
theorem VerV.nv_cells {vl : Nat} {v : VerV} (h : v.Ok vl) (nx : Nat) : (v.nv nx).cells = #[.int .i64 v.wr, .int .i64 v.ts, .bool v.tomb, .string v.val, .int .u64 (nx : Int)] := by
  have h1 := h.wr; have h2 := h.ts0
  have e1 : ((v.wr.toNat : Nat) : Int) = v.wr := by omega
  have e2 : ((v.ts.toNat : Nat) : Int) = v.ts := by omega
  show #[Value.int .i64 ((v.wr.toNat : Nat) : Int), .int .i64 ((v.ts.toNat : Nat) : Int), .bool v.tomb, .string v.val, .int .u64 (nx : Int)] = _
  rw [e1, e2]

/-! ### what is handed to turn -/
theorem Change_how (w : World) (g b : Nat) (n : NV) (v : VerV) {vl : Nat} (hv : v.Ok vl) (hg : Row w g n.cells 36) (hb : ∀ i, i < 4 → w.cell? ⟨b, i, none⟩ = v.cells[i]?) (hne : b ≠ g) :
    Calls Try.prog 41 #[.pointer (some ⟨g, 0, none⟩), .pointer (some ⟨b, 0, none⟩)] w fun e w' => e = .returned (.tuple #[]) ∧ Row w' g (v.nv n.nx).cells 36 ∧ Fr (one g) w w' := by
  have b0 : w.cell? ⟨b, 0, none⟩ = some (.int .i64 v.wr) := hb 0 (by omega)
  have b1 : w.cell? ⟨b, 1, none⟩ = some (.int .i64 v.ts) := hb 1 (by omega)
  have b2 : w.cell? ⟨b, 2, none⟩ = some (.bool v.tomb) := hb 2 (by omega)
  have b3 : w.cell? ⟨b, 3, none⟩ = some (.string v.val) := hb 3 (by omega)
  have g0 : w.cell? ⟨g, 0, none⟩ = some (.int .i64 (n.wr : Int)) := hg.cell 0
  have g1 : w.cell? ⟨g, 1, none⟩ = some (.int .i64 (n.ts : Int)) := hg.cell 1
  have g2 : w.cell? ⟨g, 2, none⟩ = some (.bool n.tomb) := hg.cell 2
  have g3 : w.cell? ⟨g, 3, none⟩ = some (.string n.val) := hg.cell 3
  have r0 := hg.free 0
  have r1 := hg.free 1
  have r2 := hg.free 2
  have r3 := hg.free 3
  have HG := Lib.hid hg
  have HV := Lib.hid hv
  clear hg hv hb hne
  go_enter Try.func41, Try.ntmps41
  go_wp2_with fail
  first | go_end0 | refine bodyPost_ret (results_none rfl _ _ _) rfl ?_
  refine ⟨rfl, ?_, ?_⟩
  · have q := (((HG.out.set 0 (.int .i64 v.wr)).set 1 (.int .i64 v.ts)).set 2 (.bool v.tomb)).set 3 (.string v.val)
    rw [VerV.nv_cells HV.out]
    exact q
  · exact (((Fr.setCell (one g) w ⟨g, 0, none⟩ _ (fun _ => rfl)).setCell_r ⟨g, 1, none⟩ _ (fun _ => rfl)).setCell_r ⟨g, 2, none⟩ _ (fun _ => rfl)).setCell_r ⟨g, 3, none⟩ _ (fun _ => rfl)
theorem Stamp_how (w : World) (g b : Nat) (n : NV) (ts : Nat) (hg : Row w g n.cells 36) (hb : w.cell? ⟨b, 0, none⟩ = some (.int .i64 (ts : Int))) (hne : b ≠ g) :
    Calls Try.prog 42 #[.pointer (some ⟨g, 0, none⟩), .pointer (some ⟨b, 0, none⟩)] w fun e w' => e = .returned (.tuple #[]) ∧ Row w' g ({ n with ts := ts } : NV).cells 36 ∧ Fr (one g) w w' := by
  have g1 : w.cell? ⟨g, 1, none⟩ = some (.int .i64 (n.ts : Int)) := hg.cell 1
  have r1 := hg.free 1
  have HG := Lib.hid hg
  clear hg hne
  go_enter Try.func42, Try.ntmps42
  go_wp2_with fail
  first | go_end0 | refine bodyPost_ret (results_none rfl _ _ _) rfl ?_
  exact ⟨rfl, HG.out.set 1 (.int .i64 (ts : Int)), Fr.setCell (one g) w ⟨g, 1, none⟩ _ (fun _ => rfl)⟩
theorem Cut_how (w : World) (g : Nat) (n : NV) (hg : Row w g n.cells 36) :
    Calls Try.prog 43 #[.pointer (some ⟨g, 0, none⟩)] w fun e w' => e = .returned (.tuple #[]) ∧ Row w' g ({ n with nx := 0 } : NV).cells 36 ∧ Fr (one g) w w' := by
  have g4 : w.cell? ⟨g, 4, none⟩ = some (.int .u64 (n.nx : Int)) := hg.cell 4
  have r4 := hg.free 4
  have HG := Lib.hid hg
  clear hg
  go_enter Try.func43, Try.ntmps43
  go_wp2_with fail
  first | go_end0 | refine bodyPost_ret (results_none rfl _ _ _) rfl ?_
  exact ⟨rfl, HG.out.set 4 (.int .u64 0), Fr.setCell (one g) w ⟨g, 4, none⟩ _ (fun _ => rfl)⟩

/-- The cells of a version's box. -/
theorem node_cells {w : World} {g : Nat} {n : NV} (h : Row w g n.cells 36) : w.cell? ⟨g, 0, none⟩ = some (.int .i64 (n.wr : Int)) ∧ w.cell? ⟨g, 1, none⟩ = some (.int .i64 (n.ts : Int)) ∧ w.cell? ⟨g, 2, none⟩ = some (.bool n.tomb) ∧ w.cell? ⟨g, 3, none⟩ = some (.string n.val) ∧ w.cell? ⟨g, 4, none⟩ = some (.int .u64 (n.nx : Int)) :=
  ⟨h.cell 0, h.cell 1, h.cell 2, h.cell 3, h.cell 4⟩
section
variable {w : World} {x a N vl : Nat} {F : Nat → Prop} {c : CfgV} {s : AS}
theorem ch_write (h : ChAt w x a F c s) (hu : Upto N s) (hsl : s.slot = 27 + vl) {hd : Nat} (hh : hd < 18446744073709551616) (hf : (aFind s hd).isSome = true) (n : NV) (hn : n.Ok vl) :
    Calls Try.prog 46 #[.pointer (some ⟨a, 0, none⟩), .int .u64 (hd : Int), .string (strOf n.enc)] w fun e w' => e = .returned (.int .i64 0) ∧ ChAt w' x a F c (aWrite s hd (strOf n.enc)).2 ∧ Fr F w w' := by
  have e : ((aWrite s hd (strOf n.enc)).1 : Int) = 0 := by
    unfold aWrite
    rw [if_pos hf, if_pos (by rw [hsl]; exact enc_fits hn)]; rfl
  refine (ar_write_lit h.ar hu hh (strOf n.enc) rfl e).mono ?_
  rintro e w1 ⟨he, h1, f1⟩
  exact ⟨he, h.turn h1 f1 (Grow.refl _ _), f1⟩
set_option maxHeartbeats 4000000 in
theorem turn_Change (h : ChAt w x a F c s) (hu : Upto N s) (hvl : vl ≤ 256) (hsl : s.slot = 27 + vl) {hd : Nat} (hh : hd < 18446744073709551616) (n : NV) (hn : n.Ok vl) (hf : aFind s hd = some (n.slot vl)) (v : VerV) (b : Nat) (hb : ∀ i, i < 4 → w.cell? ⟨b, i, none⟩ = v.cells[i]?) (hbl : b < w.heap.size) (hv : v.Ok vl) (hvw : v.wr < 9223372036854775808) :
    Calls Try.prog 40 #[.pointer (some ⟨x, 0, none⟩), .int .u64 (hd : Int), .func (.func 41) #[] #[.pointer (some ⟨b, 0, none⟩)]] w fun e w' => e = .returned (.int .i64 0) ∧ ChAt w' x a F c (aWrite s hd (strOf (v.nv n.nx).enc)).2 ∧ Fr F w w' := by
  have hn' : (v.nv n.nx).Ok vl := VerV.nv_ok hv hvw hn.nx
  have HOW := Lib.hid (fun w' g (f : Fr none_ w w') (hg : Row w' g n.cells 36) (hne : b ≠ g) => Change_how w' g b n v hv hg (fun i hi => (f.cell (p := ⟨b, i, none⟩) hbl (fun e => e)).trans (hb i hi)) hne)
  obtain ⟨n', hn'e⟩ : ∃ n', n' = v.nv n.nx := ⟨_, rfl⟩
  rw [← hn'e] at hn' HOW ⊢
  have HRD := Lib.hid (Chain_Read_yes h hu hh n hn hvl (zeros (vl - n.val.size)) (n.pad_le hvl) hf)
  have HWR := Lib.hid (fun w' (f : Fr none_ w w') => ch_write (h.kept0 f) hu hsl hh (by rw [hf]; rfl) n' hn')
  have HBY := Lib.hid (fun w' => Chain_bytes w' (.pointer (some ⟨x, 0, none⟩)) n' hn'.wr hn'.ts hn'.nx (by have := hn'.val; omega))
  have HC := Lib.hid (fun w' (f : Fr none_ w w') => (h.kept0 f).arena)
  have HNF := Lib.hid (show ∀ k, w.heap.size ≤ k → ¬ F k from fun k hk e => absurd (h.ar.lt k e) (by omega))
  generalize (aWrite s hd (strOf n'.enc)).2 = s' at HWR ⊢
  have HBL := Lib.hid hbl
  clear h hu hf hn hn' hn'e hb hbl hv hvw
  go_enter Try.func40, Try.ntmps40
  go_wp2_with fail
  refine HRD.out.mono ?_
  rintro e w1 ⟨rfl, f1⟩
  obtain ⟨g, hg⟩ : ∃ g, g = w1.heap.size := ⟨_, rfl⟩
  have FA := Lib.hid (f1.trans (Fr.alloc none_ w1 (.cells nodeZero 36)))
  have HGS := Lib.hid (show w.heap.size ≤ g by rw [hg]; exact f1.size)
  have RA := Lib.hid (show Row (w1.alloc (.cells nodeZero 36)) g nodeZero 36 by rw [hg]; exact Row.new w1 _ _)
  have HVE := Lib.hid (show n.cells = #[.int .i64 (n.wr : Int), .int .i64 (n.ts : Int), .bool n.tomb, .string n.val, .int .u64 (n.nx : Int)] from rfl)
  have HG := Lib.hid hg.symm
  clear f1 hg
  go_wp2_with ((with_reducible refine at_storeOf 36 ?_); rw [HG.out]; refine wpStoreRow (cs' := n.cells) rfl _ _ _ rfl RA.out rfl (by rw [HVE.out]; rfl) (by kernel_rfl) rfl (by rw [HVE.out]; simp [Value.oneCell']) ?_; intro w2 R2 f2; have F2 := Lib.hid f2; have HR2 := Lib.hid R2; clear f2 R2)
  have F12 := Lib.hid (FA.out.step F2.out (fun i hi e => by have := HGS.out; unfold one at e; omega))
  refine (HOW.out _ g F12.out HR2.out (fun e => by have := HGS.out; have := HBL.out; omega)).mono ?_
  rintro e w3 ⟨rfl, R3, f3⟩
  have F3 := Lib.hid (F12.out.step f3 (fun i hi e => by have := HGS.out; unfold one at e; omega))
  obtain ⟨c0, c1, c2, c3, c4⟩ := node_cells R3
  have c8 := HC.out _ F3.out
  have HNG := Lib.hid (HNF.out g HGS.out)
  have fS : Fr F w3 w3 := Fr.refl _ _
  clear R3 f3
  go_wp2_with fail
  go_region_held3 (fun w' => Fr F w3 w' ∧ w'.cell? ⟨x, 8, none⟩ = some (.pointer (some ⟨a, 0, none⟩)) ∧ w'.cell? ⟨g, 0, none⟩ = some (.int .i64 (n'.wr : Int)) ∧ w'.cell? ⟨g, 1, none⟩ = some (.int .i64 (n'.ts : Int)) ∧ w'.cell? ⟨g, 2, none⟩ = some (.bool n'.tomb) ∧ w'.cell? ⟨g, 3, none⟩ = some (.string n'.val) ∧ w'.cell? ⟨g, 4, none⟩ = some (.int .u64 (n'.nx : Int)))
    (first | (go_split_ands; refine ⟨?_, ?_, ?_, ?_, ?_, ?_, ?_⟩; exact Fr.trans (by assumption) f6; exact hA.arena; all_goals exact Fr.keepF f6 HNG.out (by assumption)) | (go_split_ands; refine ⟨?_, ?_, ?_, ?_, ?_, ?_, ?_⟩; exact Fr.trans (by assumption) f5.none; all_goals exact Fr.keep f5 (by assumption)) | (go_split_ands; refine ⟨?_, ?_, ?_, ?_, ?_, ?_, ?_⟩; exact Fr.trans (by assumption) (Fr.drew _ _); all_goals assumption) | go_keep)
    (first
      | (go_at_call 47; refine (HBY.out _).mono ?_; rintro e w5 ⟨rfl, f5⟩)
      | (go_at_call 46; refine (HWR.out _ ((F3.out.trans (Fr.drew none_ w3)).trans f5)).mono ?_; rintro e w6 ⟨rfl, hA, f6⟩))
  rename_i hk
  have hF := hk.1
  clear hk
  go_wp2
  go_ret
  exact ⟨rfl, hA, F3.out.none.trans hF⟩
set_option maxHeartbeats 4000000 in
theorem turn_Stamp (h : ChAt w x a F c s) (hu : Upto N s) (hvl : vl ≤ 256) (hsl : s.slot = 27 + vl) {hd : Nat} (hh : hd < 18446744073709551616) (n : NV) (hn : n.Ok vl) (hf : aFind s hd = some (n.slot vl)) (ts : Nat) (b : Nat) (hb : w.cell? ⟨b, 0, none⟩ = some (.int .i64 (ts : Int))) (hbl : b < w.heap.size) (hts : ts ≤ 1048576) :
    Calls Try.prog 40 #[.pointer (some ⟨x, 0, none⟩), .int .u64 (hd : Int), .func (.func 42) #[] #[.pointer (some ⟨b, 0, none⟩)]] w fun e w' => e = .returned (.int .i64 0) ∧ ChAt w' x a F c (aWrite s hd (strOf (({ n with ts := ts } : NV)).enc)).2 ∧ Fr F w w' := by
  have hn' : ({ n with ts := ts } : NV).Ok vl := ⟨hn.wr, (by show ts < _; omega), hn.nx, hn.val⟩
  have HOW := Lib.hid (fun w' g (f : Fr none_ w w') (hg : Row w' g n.cells 36) (hne : b ≠ g) => Stamp_how w' g b n ts hg ((f.cell (p := ⟨b, 0, none⟩) hbl (fun e => e)).trans hb) hne)
  obtain ⟨n', hn'e⟩ : ∃ n', n' = ({ n with ts := ts } : NV) := ⟨_, rfl⟩
  rw [← hn'e] at hn' HOW ⊢
  have HRD := Lib.hid (Chain_Read_yes h hu hh n hn hvl (zeros (vl - n.val.size)) (n.pad_le hvl) hf)
  have HWR := Lib.hid (fun w' (f : Fr none_ w w') => ch_write (h.kept0 f) hu hsl hh (by rw [hf]; rfl) n' hn')
  have HBY := Lib.hid (fun w' => Chain_bytes w' (.pointer (some ⟨x, 0, none⟩)) n' hn'.wr hn'.ts hn'.nx (by have := hn'.val; omega))
  have HC := Lib.hid (fun w' (f : Fr none_ w w') => (h.kept0 f).arena)
  have HNF := Lib.hid (show ∀ k, w.heap.size ≤ k → ¬ F k from fun k hk e => absurd (h.ar.lt k e) (by omega))
  generalize (aWrite s hd (strOf n'.enc)).2 = s' at HWR ⊢
  have HBL := Lib.hid hbl
  clear h hu hf hn hn' hn'e hb hbl
  go_enter Try.func40, Try.ntmps40
  go_wp2_with fail
  refine HRD.out.mono ?_
  rintro e w1 ⟨rfl, f1⟩
  obtain ⟨g, hg⟩ : ∃ g, g = w1.heap.size := ⟨_, rfl⟩
  have FA := Lib.hid (f1.trans (Fr.alloc none_ w1 (.cells nodeZero 36)))
  have HGS := Lib.hid (show w.heap.size ≤ g by rw [hg]; exact f1.size)
  have RA := Lib.hid (show Row (w1.alloc (.cells nodeZero 36)) g nodeZero 36 by rw [hg]; exact Row.new w1 _ _)
  have HVE := Lib.hid (show n.cells = #[.int .i64 (n.wr : Int), .int .i64 (n.ts : Int), .bool n.tomb, .string n.val, .int .u64 (n.nx : Int)] from rfl)
  have HG := Lib.hid hg.symm
  clear f1 hg
  go_wp2_with ((with_reducible refine at_storeOf 36 ?_); rw [HG.out]; refine wpStoreRow (cs' := n.cells) rfl _ _ _ rfl RA.out rfl (by rw [HVE.out]; rfl) (by kernel_rfl) rfl (by rw [HVE.out]; simp [Value.oneCell']) ?_; intro w2 R2 f2; have F2 := Lib.hid f2; have HR2 := Lib.hid R2; clear f2 R2)
  have F12 := Lib.hid (FA.out.step F2.out (fun i hi e => by have := HGS.out; unfold one at e; omega))
  refine (HOW.out _ g F12.out HR2.out (fun e => by have := HGS.out; have := HBL.out; omega)).mono ?_
  rintro e w3 ⟨rfl, R3, f3⟩
  have F3 := Lib.hid (F12.out.step f3 (fun i hi e => by have := HGS.out; unfold one at e; omega))
  obtain ⟨c0, c1, c2, c3, c4⟩ := node_cells R3
  have c8 := HC.out _ F3.out
  have HNG := Lib.hid (HNF.out g HGS.out)
  have fS : Fr F w3 w3 := Fr.refl _ _
  clear R3 f3
  go_wp2_with fail
  go_region_held3 (fun w' => Fr F w3 w' ∧ w'.cell? ⟨x, 8, none⟩ = some (.pointer (some ⟨a, 0, none⟩)) ∧ w'.cell? ⟨g, 0, none⟩ = some (.int .i64 (n'.wr : Int)) ∧ w'.cell? ⟨g, 1, none⟩ = some (.int .i64 (n'.ts : Int)) ∧ w'.cell? ⟨g, 2, none⟩ = some (.bool n'.tomb) ∧ w'.cell? ⟨g, 3, none⟩ = some (.string n'.val) ∧ w'.cell? ⟨g, 4, none⟩ = some (.int .u64 (n'.nx : Int)))
    (first | (go_split_ands; refine ⟨?_, ?_, ?_, ?_, ?_, ?_, ?_⟩; exact Fr.trans (by assumption) f6; exact hA.arena; all_goals exact Fr.keepF f6 HNG.out (by assumption)) | (go_split_ands; refine ⟨?_, ?_, ?_, ?_, ?_, ?_, ?_⟩; exact Fr.trans (by assumption) f5.none; all_goals exact Fr.keep f5 (by assumption)) | (go_split_ands; refine ⟨?_, ?_, ?_, ?_, ?_, ?_, ?_⟩; exact Fr.trans (by assumption) (Fr.drew _ _); all_goals assumption) | go_keep)
    (first
      | (go_at_call 47; refine (HBY.out _).mono ?_; rintro e w5 ⟨rfl, f5⟩)
      | (go_at_call 46; refine (HWR.out _ ((F3.out.trans (Fr.drew none_ w3)).trans f5)).mono ?_; rintro e w6 ⟨rfl, hA, f6⟩))
  rename_i hk
  have hF := hk.1
  clear hk
  go_wp2
  go_ret
  exact ⟨rfl, hA, F3.out.none.trans hF⟩
set_option maxHeartbeats 4000000 in
theorem turn_Cut (h : ChAt w x a F c s) (hu : Upto N s) (hvl : vl ≤ 256) (hsl : s.slot = 27 + vl) {hd : Nat} (hh : hd < 18446744073709551616) (n : NV) (hn : n.Ok vl) (hf : aFind s hd = some (n.slot vl))  :
    Calls Try.prog 40 #[.pointer (some ⟨x, 0, none⟩), .int .u64 (hd : Int), .func (.func 43) #[] #[]] w fun e w' => e = .returned (.int .i64 0) ∧ ChAt w' x a F c (aWrite s hd (strOf (({ n with nx := 0 } : NV)).enc)).2 ∧ Fr F w w' := by
  have hn' : ({ n with nx := 0 } : NV).Ok vl := ⟨hn.wr, hn.ts, (by show 0 < _; omega), hn.val⟩
  have HOW := Lib.hid (fun w' g (f : Fr none_ w w') (hg : Row w' g n.cells 36) (hne : True) => Cut_how w' g n hg)
  obtain ⟨n', hn'e⟩ : ∃ n', n' = ({ n with nx := 0 } : NV) := ⟨_, rfl⟩
  rw [← hn'e] at hn' HOW ⊢
  have HRD := Lib.hid (Chain_Read_yes h hu hh n hn hvl (zeros (vl - n.val.size)) (n.pad_le hvl) hf)
  have HWR := Lib.hid (fun w' (f : Fr none_ w w') => ch_write (h.kept0 f) hu hsl hh (by rw [hf]; rfl) n' hn')
  have HBY := Lib.hid (fun w' => Chain_bytes w' (.pointer (some ⟨x, 0, none⟩)) n' hn'.wr hn'.ts hn'.nx (by have := hn'.val; omega))
  have HC := Lib.hid (fun w' (f : Fr none_ w w') => (h.kept0 f).arena)
  have HNF := Lib.hid (show ∀ k, w.heap.size ≤ k → ¬ F k from fun k hk e => absurd (h.ar.lt k e) (by omega))
  generalize (aWrite s hd (strOf n'.enc)).2 = s' at HWR ⊢
  clear h hu hf hn hn' hn'e
  go_enter Try.func40, Try.ntmps40
  go_wp2_with fail
  refine HRD.out.mono ?_
  rintro e w1 ⟨rfl, f1⟩
  obtain ⟨g, hg⟩ : ∃ g, g = w1.heap.size := ⟨_, rfl⟩
  have FA := Lib.hid (f1.trans (Fr.alloc none_ w1 (.cells nodeZero 36)))
  have HGS := Lib.hid (show w.heap.size ≤ g by rw [hg]; exact f1.size)
  have RA := Lib.hid (show Row (w1.alloc (.cells nodeZero 36)) g nodeZero 36 by rw [hg]; exact Row.new w1 _ _)
  have HVE := Lib.hid (show n.cells = #[.int .i64 (n.wr : Int), .int .i64 (n.ts : Int), .bool n.tomb, .string n.val, .int .u64 (n.nx : Int)] from rfl)
  have HG := Lib.hid hg.symm
  clear f1 hg
  go_wp2_with ((with_reducible refine at_storeOf 36 ?_); rw [HG.out]; refine wpStoreRow (cs' := n.cells) rfl _ _ _ rfl RA.out rfl (by rw [HVE.out]; rfl) (by kernel_rfl) rfl (by rw [HVE.out]; simp [Value.oneCell']) ?_; intro w2 R2 f2; have F2 := Lib.hid f2; have HR2 := Lib.hid R2; clear f2 R2)
  have F12 := Lib.hid (FA.out.step F2.out (fun i hi e => by have := HGS.out; unfold one at e; omega))
  refine (HOW.out _ g F12.out HR2.out trivial).mono ?_
  rintro e w3 ⟨rfl, R3, f3⟩
  have F3 := Lib.hid (F12.out.step f3 (fun i hi e => by have := HGS.out; unfold one at e; omega))
  obtain ⟨c0, c1, c2, c3, c4⟩ := node_cells R3
  have c8 := HC.out _ F3.out
  have HNG := Lib.hid (HNF.out g HGS.out)
  have fS : Fr F w3 w3 := Fr.refl _ _
  clear R3 f3
  go_wp2_with fail
  go_region_held3 (fun w' => Fr F w3 w' ∧ w'.cell? ⟨x, 8, none⟩ = some (.pointer (some ⟨a, 0, none⟩)) ∧ w'.cell? ⟨g, 0, none⟩ = some (.int .i64 (n'.wr : Int)) ∧ w'.cell? ⟨g, 1, none⟩ = some (.int .i64 (n'.ts : Int)) ∧ w'.cell? ⟨g, 2, none⟩ = some (.bool n'.tomb) ∧ w'.cell? ⟨g, 3, none⟩ = some (.string n'.val) ∧ w'.cell? ⟨g, 4, none⟩ = some (.int .u64 (n'.nx : Int)))
    (first | (go_split_ands; refine ⟨?_, ?_, ?_, ?_, ?_, ?_, ?_⟩; exact Fr.trans (by assumption) f6; exact hA.arena; all_goals exact Fr.keepF f6 HNG.out (by assumption)) | (go_split_ands; refine ⟨?_, ?_, ?_, ?_, ?_, ?_, ?_⟩; exact Fr.trans (by assumption) f5.none; all_goals exact Fr.keep f5 (by assumption)) | (go_split_ands; refine ⟨?_, ?_, ?_, ?_, ?_, ?_, ?_⟩; exact Fr.trans (by assumption) (Fr.drew _ _); all_goals assumption) | go_keep)
    (first
      | (go_at_call 47; refine (HBY.out _).mono ?_; rintro e w5 ⟨rfl, f5⟩)
      | (go_at_call 46; refine (HWR.out _ ((F3.out.trans (Fr.drew none_ w3)).trans f5)).mono ?_; rintro e w6 ⟨rfl, hA, f6⟩))
  rename_i hk
  have hF := hk.1
  clear hk
  go_wp2
  go_ret
  exact ⟨rfl, hA, F3.out.none.trans hF⟩
set_option maxHeartbeats 4000000 in
theorem turn_none (h : ChAt w x a F c s) (hu : Upto N s) {hd : Nat} (hh : hd < 18446744073709551616) (hf : aFind s hd = none) (fv : Value) :
    Calls Try.prog 40 #[.pointer (some ⟨x, 0, none⟩), .int .u64 (hd : Int), fv] w fun e w' => e = .returned (.int .i64 5) ∧ Fr none_ w w' := by
  have HRD := Lib.hid (Chain_Read_no h hu hh hf)
  clear h hu hf
  go_enter Try.func40, Try.ntmps40
  go_wp2_with fail
  refine HRD.out.mono ?_
  rintro e w1 ⟨rfl, f1⟩
  obtain ⟨g, hg⟩ : ∃ g, g = w1.heap.size := ⟨_, rfl⟩
  have FA := Lib.hid (f1.trans (Fr.alloc none_ w1 (.cells nodeZero 36)))
  have HGS := Lib.hid (show w.heap.size ≤ g by rw [hg]; exact f1.size)
  have RA := Lib.hid (show Row (w1.alloc (.cells nodeZero 36)) g nodeZero 36 by rw [hg]; exact Row.new w1 _ _)
  have HG := Lib.hid hg.symm
  clear f1 hg
  go_wp2_with ((with_reducible refine at_storeOf 36 ?_); rw [HG.out]; refine wpStoreRow (cs' := nodeZero) rfl _ _ _ rfl RA.out rfl rfl (by kernel_rfl) rfl (by simp [nodeZero, Value.oneCell']) ?_; intro w2 R2 f2; have F2 := Lib.hid f2; clear f2 R2)
  go_ret
  exact ⟨rfl, FA.out.step F2.out (fun i hi e => by have := HGS.out; unfold one at e; omega)⟩
end
end Go.Proofs.Yteefcfndlggajaa
