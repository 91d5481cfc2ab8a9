/-
  Package chain: Copy; the methods on nobody's engine.
-/
import Derived.Test.YteefcfndlggajaaCnOps
import Derived.Test.YteefcfndlggajaaArenaCopy
namespace Go.Proofs.Yteefcfndlggajaa
open Go.RowKit
set_option linter.unusedVariables false
set_option linter.unusedSimpArgs false
set_option maxRecDepth 100000

theorem ar_copy {w : World} {F : Nat → Prop} {x : Nat} {s : AS} {N : Nat} (h : Ar F w x s) (hu : Upto N s) :
    Calls Try.prog 44 #[.pointer (some ⟨x, 0, none⟩)] w fun e w' => ∃ G y, e = .returned (.pointer (some ⟨y, 0, none⟩)) ∧ Ar G w' y s ∧ Fr none_ w w' ∧ ∀ k, G k → w.heap.size ≤ k := by
  obtain ⟨m, pa, cap, ps, h, rfl⟩ := h
  refine (Arena_Copy h hu.wf.len).mono ?_
  rintro e w1 ⟨x', m', pa', cap', ps', he, h1, h2, h3⟩
  exact ⟨_, x', he, ⟨m', pa', cap', ps', h1, rfl⟩, h2, h3⟩
section
variable {w : World} {x a N vl : Nat} {F G : Nat → Prop} {c : CfgV} {s : AS} {t : CS}
set_option maxHeartbeats 4000000 in
theorem Chain_Copy (h : ChAt w x a F c s) (hu : Upto N s) :
    Calls Try.prog 21 #[.pointer (some ⟨x, 0, none⟩)] w fun e w' => ∃ y b F', e = .returned (.pointer (some ⟨y, 0, none⟩)) ∧ ChAt w' y b F' c s ∧ Fr none_ w w' ∧ w.heap.size ≤ y ∧ ∀ k, F' k → w.heap.size ≤ k := by
  have GC := Lib.hid (fun w' (f : Fr none_ w w') => ar_copy (h.kept0 f).ar hu)
  have HR := Lib.hid h.row
  unfold chainCells at HR
  obtain ⟨y0, y1, y2, y3, y4, y5, y6, y7⟩ := c
  simp only at HR
  have c0 : w.cell? ⟨x, 0, none⟩ = some (.int .i64 y0) := HR.out.cell 0
  have c1 : w.cell? ⟨x, 1, none⟩ = some (.int .i64 y1) := HR.out.cell 1
  have c2 : w.cell? ⟨x, 2, none⟩ = some (.int .i64 y2) := HR.out.cell 2
  have c3 : w.cell? ⟨x, 3, none⟩ = some (.int .i64 y3) := HR.out.cell 3
  have c4 : w.cell? ⟨x, 4, none⟩ = some (.int .i64 y4) := HR.out.cell 4
  have c5 : w.cell? ⟨x, 5, none⟩ = some (.int .i64 y5) := HR.out.cell 5
  have c6 : w.cell? ⟨x, 6, none⟩ = some (.int .i64 y6) := HR.out.cell 6
  have c7 : w.cell? ⟨x, 7, none⟩ = some (.int .i64 y7) := HR.out.cell 7
  have c8 : w.cell? ⟨x, 8, none⟩ = some (.pointer (some ⟨a, 0, none⟩)) := HR.out.cell 8
  have fS : Fr none_ w w := Fr.refl _ _
  clear h hu
  go_enter Try.func21, Try.ntmps21
  go_wp2_with fail
  go_region_held3 (fun w' => Fr none_ w w' ∧ w'.cell? ⟨x, 0, none⟩ = some (.int .i64 y0) ∧ w'.cell? ⟨x, 1, none⟩ = some (.int .i64 y1) ∧ w'.cell? ⟨x, 2, none⟩ = some (.int .i64 y2) ∧ w'.cell? ⟨x, 3, none⟩ = some (.int .i64 y3) ∧ w'.cell? ⟨x, 4, none⟩ = some (.int .i64 y4) ∧ w'.cell? ⟨x, 5, none⟩ = some (.int .i64 y5) ∧ w'.cell? ⟨x, 6, none⟩ = some (.int .i64 y6) ∧ w'.cell? ⟨x, 7, none⟩ = some (.int .i64 y7) ∧ w'.cell? ⟨x, 8, none⟩ = some (.pointer (some ⟨a, 0, none⟩)))
    (first | (go_split_ands; refine ⟨?_, ?_, ?_, ?_, ?_, ?_, ?_, ?_, ?_, ?_⟩; exact Fr.trans (by assumption) f5; all_goals exact Fr.keep f5 (by assumption)) | (go_split_ands; refine ⟨?_, ?_, ?_, ?_, ?_, ?_, ?_, ?_, ?_, ?_⟩; exact Fr.trans (by assumption) (Fr.drew _ _); all_goals assumption) | (go_split_ands; refine ⟨?_, ?_, ?_, ?_, ?_, ?_, ?_, ?_, ?_, ?_⟩; exact Fr.trans (by assumption) (Fr.alloc _ _ _); all_goals exact Fr.keep (Fr.alloc none_ _ _) (by assumption)) | go_keep)
    (first | (go_at_call 44; refine (GC.out _ (Fr.drew none_ w)).mono ?_; rintro e w5 ⟨F', b, rfl, hb, f5, hF⟩; have HB := Lib.hid hb; have HF := Lib.hid hF; clear hb hF))
  rename_i hh
  have f6 := hh.1
  clear hh
  have fd := f5
  clear f5 c0 c1 c2 c3 c4 c5 c6 c7 c8 fS
  have HX := Lib.hid (And.intro f6 fd)
  clear f6 fd
  go_wp2_with fail
  go_ret
  obtain ⟨f6, fd⟩ := HX.out
  have fa := Fr.alloc none_ w5 (.cells #[.int .i64 y0, .int .i64 y1, .int .i64 y2, .int .i64 y3, .int .i64 y4, .int .i64 y5, .int .i64 y6, .int .i64 y7, .pointer (some ⟨b, 0, none⟩)] 78)
  exact ⟨_, b, F', rfl, ⟨Row.new w5 _ _, HB.out.kept0 fa, fun e => Nat.lt_irrefl _ (HB.out.lt _ e)⟩, f6, ((Fr.drew none_ w).trans fd).size, HF.out⟩
theorem cn_copy (h : Cn G w x c vl N t) : Calls Try.prog 21 #[.pointer (some ⟨x, 0, none⟩)] w fun e w' => ∃ y G', e = .returned (.pointer (some ⟨y, 0, none⟩)) ∧ Cn G' w' y c vl N t ∧ Fr none_ w w' ∧ ∀ k, G' k → w.heap.size ≤ k := by
  obtain ⟨a, F, h, rfl⟩ := h
  refine (Chain_Copy h.at_ h.is_.up).mono ?_
  rintro e w1 ⟨y, b, F', he, h1, f1, hy, hF⟩
  exact ⟨y, _, he, ⟨b, F', ⟨h1, h.is_, h.lim, h.cfg⟩, rfl⟩, f1, fun k hk => by
    rcases hk with rfl | q
    · exact hy
    · exact hF k q⟩
end

/-! ### nobody's engine -/
theorem nil_read (w : World) (hd : Int) : Calls Try.prog 12 #[.pointer none, .int .u64 hd] w fun e w' => e = .returned (.tuple #[.agg nodeZero, .bool false]) ∧ Fr none_ w w' := by
  have RA := Lib.hid (Row.new w nodeZero 36)
  have FA := Lib.hid (Fr.alloc none_ w (.cells nodeZero 36))
  have fin : ∀ w2, Row w2 w.heap.size nodeZero 36 → w2.cell? ⟨w.heap.size, 0, none⟩ = some (.int .i64 0) ∧ w2.cell? ⟨w.heap.size, 1, none⟩ = some (.int .i64 0) ∧ w2.cell? ⟨w.heap.size, 2, none⟩ = some (.bool false) ∧ w2.cell? ⟨w.heap.size, 3, none⟩ = some (.string ⟨#[]⟩) ∧ w2.cell? ⟨w.heap.size, 4, none⟩ = some (.int .u64 0) := fun w2 R => ⟨R.cell 0, R.cell 1, R.cell 2, R.cell 3, R.cell 4⟩
  have FIN := Lib.hid fin
  clear fin
  go_enter Try.func12, Try.ntmps12
  go_wp2_with ((with_reducible refine at_storeOf 36 ?_); refine wpStoreRow rfl _ _ _ rfl RA.out rfl rfl (by kernel_rfl) rfl (by simp [nodeZero, Value.oneCell']) ?_; intro w2 R2 f2; obtain ⟨c0, c1, c2, c3, c4⟩ := FIN.out _ R2; have F2 := Lib.hid f2; clear f2 R2)
  refine bodyPost_ret (v := .tuple #[.agg nodeZero, .bool false]) (by simp [results, Try.results12, go_sem, c0, c1, c2, c3, c4, nodeZero]) rfl ⟨rfl, ?_⟩
  exact FA.out.step F2.out (fun i hi e => by unfold one at e; omega)
theorem nil_make (w : World) (v : VerV) (nx : Int) : Calls Try.prog 22 #[.pointer none, .agg v.cells, .int .u64 nx] w fun e w' => e = .returned (.tuple #[.int .u64 0, .int .i64 2]) ∧ Fr none_ w w' := by
  have FB := Lib.hid (Fr.alloc none_ w (.cells v.cells 32))
  unfold VerV.cells at FB ⊢
  go_enter Try.func22, Try.ntmps22
  go_wp2_with fail
  go_ret2
  exact ⟨rfl, FB.out⟩
theorem nil_turn (w : World) (hd : Int) (fv : Value) : Calls Try.prog 40 #[.pointer none, .int .u64 hd, fv] w fun e w' => e = .returned (.int .i64 2) ∧ Fr none_ w w' := by
  have HRD := Lib.hid (nil_read w hd)
  go_enter Try.func40, Try.ntmps40
  go_wp2_with fail
  refine HRD.out.mono ?_
  rintro e w1 ⟨rfl, f1⟩
  obtain ⟨g, hg⟩ : ∃ g, g = w1.heap.size := ⟨_, rfl⟩
  have FA := Lib.hid (f1.trans (Fr.alloc none_ w1 (.cells nodeZero 36)))
  have HGS := Lib.hid (show w.heap.size ≤ g by rw [hg]; exact f1.size)
  have RA := Lib.hid (show Row (w1.alloc (.cells nodeZero 36)) g nodeZero 36 by rw [hg]; exact Row.new w1 _ _)
  have HG := Lib.hid hg.symm
  clear f1 hg
  go_wp2_with ((with_reducible refine at_storeOf 36 ?_); rw [HG.out]; refine wpStoreRow (cs' := nodeZero) rfl _ _ _ rfl RA.out rfl rfl (by kernel_rfl) rfl (by simp [nodeZero, Value.oneCell']) ?_; intro w2 R2 f2; have F2 := Lib.hid f2; clear f2 R2)
  go_ret
  exact ⟨rfl, FA.out.step F2.out (fun i hi e => by have := HGS.out; unfold one at e; omega)⟩
theorem nil_change (w : World) (v : VerV) (hd : Int) : Calls Try.prog 18 #[.pointer none, .int .u64 hd, .agg v.cells] w fun e w' => e = .returned (.int .i64 2) ∧ Fr none_ w w' := by
  have HT := Lib.hid (fun w' fv => nil_turn w' hd fv)
  have FB := Lib.hid (Fr.alloc none_ w (.cells v.cells 32))
  unfold VerV.cells at FB ⊢
  go_enter Try.func18, Try.ntmps18
  go_wp2_with fail
  refine (HT.out _ _).mono ?_
  rintro e w2 ⟨rfl, f2⟩
  have F2 := Lib.hid f2
  clear f2
  go_wp2_with fail
  go_ret
  exact ⟨rfl, FB.out.trans F2.out⟩
theorem nil_stamp (w : World) (ts : Int) (hd : Int) : Calls Try.prog 19 #[.pointer none, .int .u64 hd, .int .i64 ts] w fun e w' => e = .returned (.int .i64 2) ∧ Fr none_ w w' := by
  have HT := Lib.hid (fun w' fv => nil_turn w' hd fv)
  have FB := Lib.hid (Fr.alloc none_ w (.cells #[.int .i64 ts] 3))
  go_enter Try.func19, Try.ntmps19
  go_wp2_with fail
  refine (HT.out _ _).mono ?_
  rintro e w2 ⟨rfl, f2⟩
  have F2 := Lib.hid f2
  clear f2
  go_wp2_with fail
  go_ret
  exact ⟨rfl, FB.out.trans F2.out⟩
theorem nil_cut (w : World) (hd : Int) : Calls Try.prog 20 #[.pointer none, .int .u64 hd] w fun e w' => e = .returned (.int .i64 2) ∧ Fr none_ w w' := by
  have HT := Lib.hid (fun w' fv => nil_turn w' hd fv)
  go_enter Try.func20, Try.ntmps20
  go_wp2_with fail
  refine (HT.out _ _).mono ?_
  rintro e w2 ⟨rfl, f2⟩
  have F2 := Lib.hid f2
  clear f2
  go_wp2_with fail
  go_ret
  exact ⟨rfl, F2.out⟩
theorem nil_free (w : World) (hd : Int) : Calls Try.prog 17 #[.pointer none, .int .u64 hd] w fun e w' => e = .returned (.int .i64 2) ∧ w = w' := by
  go_enter Try.func17, Try.ntmps17
  go_wp2_with fail
  go_ret
  exact ⟨rfl, rfl⟩
theorem nil_used (w : World) : Calls Try.prog 16 #[.pointer none] w fun e w' => e = .returned (.int .i64 0) ∧ w = w' := by
  go_enter Try.func16, Try.ntmps16
  go_wp2_with fail
  go_ret
  exact ⟨rfl, rfl⟩
theorem nil_copy (w : World) : Calls Try.prog 21 #[.pointer none] w fun e w' => e = .returned (.pointer none) ∧ w = w' := by
  go_enter Try.func21, Try.ntmps21
  go_wp2_with fail
  go_ret
  exact ⟨rfl, rfl⟩
end Go.Proofs.Yteefcfndlggajaa
