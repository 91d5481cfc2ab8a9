/-
  Package undo's statements: works, the examples.
-/
import Derived.Test.YtckkccnebjacdaaGreatUnLaw
import Derived.Test.YtckkccnebjacdaaGreatMgUnBag
import Derived.Deep.RegionHeld3
import Derived.Deep.DeepCutAuto
namespace Go.Proofs.YtckkccnebjacdaaGreat
open Go.RowKit
set_option linter.unusedVariables false
set_option linter.unusedSimpArgs false
set_option maxRecDepth 100000

def wkU (x N : Nat) (t : US) : List Thing := [tUn x cfgSmall 4 N t]
section
variable {W w : World} {x r s : Nat} {t1 t2 t3 t4 : US}
theorem wk_new (f : Fr none_ W w) : Calls Tryz.prog 10 #[.agg #[.int .i64 1, .int .i64 1, .int .i64 1, .int .i64 2, .int .i64 9, .int .i64 1, .int .i64 4, .int .i64 3]] w fun e w' => ∃ x, e = .returned (.tuple #[.pointer (some ⟨x, 0, none⟩), .int .i64 0]) ∧ Bag W (wkU x 0 (US.new 4)) w' :=
  bu_new (vl := 4) ((Bag.start W).keep0 f) cfgSmall cfgSmall_may rfl (by omega)
theorem wk_make (E : ExAll r s t1 t2 t3 t4) (h : Bag W (wkU x 0 (US.new 4)) w) : Calls Tryz.prog 23 #[.pointer (some ⟨x, 0, none⟩), .agg #[.int .i64 1, .int .i64 0, .bool false, .string ⟨#[97, 98, 99, 100]⟩], .int .u64 0] w fun e w' => e = .returned (.tuple #[.int .u64 (r : Int), .int .i64 0]) ∧ Bag W (wkU x 1 t1) w' :=
  bu_mk (i := 0) h rfl (by unfold big; omega) exA (by decide) (by decide) (show (0 : Nat) < 18446744073709551616 by omega) E.p1
theorem wk_save (E : ExAll r s t1 t2 t3 t4) (h : Bag W (wkU x 1 t1) w) : Calls Tryz.prog 24 #[.pointer (some ⟨x, 0, none⟩), .agg #[.int .i64 1, .int .i64 0, .bool false, .string ⟨#[97, 98, 99, 100]⟩], .int .u64 0, .agg #[.int .i64 2, .int .i64 0, .bool false, .string ⟨#[97, 98, 88, 100]⟩]] w fun e w' => e = .returned (.tuple #[.int .u64 (s : Int), .int .i64 0]) ∧ Bag W (wkU x 2 t2) w' :=
  bu_save (i := 0) h rfl (by unfold big; omega) exA exB (by decide) (by decide) (by decide) (by decide) (show (0 : Nat) < 18446744073709551616 by omega) E.p2
theorem wk_change (E : ExAll r s t1 t2 t3 t4) (h : Bag W (wkU x 2 t2) w) : Calls Tryz.prog 17 #[.pointer (some ⟨x, 0, none⟩), .int .u64 (r : Int), .agg #[.int .i64 2, .int .i64 0, .bool false, .string ⟨#[97, 98, 88, 100]⟩], .int .u64 (s : Int)] w fun e w' => e = .returned (.int .i64 0) ∧ Bag W (wkU x 2 t3) w' :=
  bu_change (i := 0) h rfl exB (by decide) (by decide) E.rl E.sl E.p3
theorem wk_list3 (E : ExAll r s t1 t2 t3 t4) (h : Bag W (wkU x 2 t3) w) : Calls Tryz.prog 13 #[.pointer (some ⟨x, 0, none⟩), .int .u64 (r : Int)] w fun e w' => ∃ a cap, e = .returned (.slice a 2 cap) ∧ LsAt w' a 4 verL [exB, exA] ∧ Fr none_ w w' :=
  bu_list (i := 0) h rfl (by omega) E.rl _ E.l3 2 rfl
theorem wk_list4 (E : ExAll r s t1 t2 t3 t4) {Ts : List Thing} (h : Bag W (wkU x 2 t4 ++ Ts) w) : Calls Tryz.prog 13 #[.pointer (some ⟨x, 0, none⟩), .int .u64 (r : Int)] w fun e w' => ∃ a cap, e = .returned (.slice a 1 cap) ∧ LsAt w' a 4 verL [exB] ∧ Fr none_ w w' :=
  bu_list (i := 0) h rfl (by omega) E.rl _ E.l4 1 rfl
theorem wk_segment (E : ExAll r s t1 t2 t3 t4) (h : Bag W (wkU x 2 t3) w) : Calls Tryz.prog 26 #[.pointer (some ⟨x, 0, none⟩), .int .i64 2] w fun e w' => ∃ a cap, e = .returned (.slice a 1 cap) ∧ LsAt w' a 1 hvC [s] ∧ Fr none_ w w' :=
  bu_segment (i := 0) h rfl (by omega) 2 _ E.g3 1 rfl
theorem wk_record (E : ExAll r s t1 t2 t3 t4) (h : Bag W (wkU x 2 t3) w) : Calls Tryz.prog 16 #[.pointer (some ⟨x, 0, none⟩), .int .u64 (s : Int), .agg #[.int .i64 2, .int .i64 0, .bool false, .string ⟨#[97, 98, 88, 100]⟩]] w fun e w' => e = .returned (.tuple #[.agg #[.int .i64 1, .int .i64 0, .bool false, .string ⟨#[97, 98, 99, 100]⟩], .int .u64 0, .bool true]) ∧ Fr none_ w w' :=
  bu_record (i := 0) h rfl E.sl exB (by decide) _ E.rc
theorem wk_record2 (E : ExAll r s t1 t2 t3 t4) {Ts : List Thing} (h : Bag W (wkU x 2 t3 ++ Ts) w) : Calls Tryz.prog 16 #[.pointer (some ⟨x, 0, none⟩), .int .u64 (s : Int), .agg #[.int .i64 2, .int .i64 0, .bool false, .string ⟨#[97]⟩]] w fun e w' => e = .returned (.tuple #[.agg #[.int .i64 0, .int .i64 0, .bool false, .string ⟨#[]⟩], .int .u64 0, .bool false]) ∧ Fr none_ w w' :=
  bu_record (i := 0) h rfl E.sl ⟨2, 0, false, ⟨#[97]⟩⟩ (by decide) _ E.rn
theorem wk_pop (E : ExAll r s t1 t2 t3 t4) {Ts : List Thing} (h : Bag W (wkU x 2 t3 ++ Ts) w) : Calls Tryz.prog 27 #[.pointer (some ⟨x, 0, none⟩), .int .i64 2] w fun e w' => e = .returned (.tuple #[.int .u64 (s : Int), .bool true]) ∧ Bag W (wkU x 2 t4 ++ Ts) w' :=
  bu_pop (i := 0) h rfl (by unfold big; omega) (by omega) 2 E.p4
theorem wk_used (E : ExAll r s t1 t2 t3 t4) {Ts : List Thing} (h : Bag W (wkU x 2 t4 ++ Ts) w) : Calls Tryz.prog 14 #[.pointer (some ⟨x, 0, none⟩)] w fun e w' => e = .returned (.int .i64 1) ∧ w = w' :=
  bu_used (i := 0) h rfl (by rw [E.u4]; rfl)
theorem ls_built (w : World) (l : List VerV) : LsAt (w.alloc (.cells (l.flatMap verL).toArray 40)) (some ⟨w.heap.size, 0, none⟩) 4 verL l := by
  refine Or.inr ⟨_, _, rfl, by simp, fun i y hy j v hv => ?_⟩
  rw [Nat.zero_add, (Row.new w _ 40).cell]
  simpa using flat_cells verL 4 (fun _ => rfl) l i y hy j v hv
theorem ls_builtH (w : World) (l : List Nat) : LsAt (w.alloc (.cells (l.flatMap hvC).toArray 32)) (some ⟨w.heap.size, 0, none⟩) 1 hvC l := by
  refine Or.inr ⟨_, _, rfl, by simp, fun i y hy j v hv => ?_⟩
  rw [Nat.zero_add, (Row.new w _ 32).cell]
  simpa using flat_cells hvC 1 (fun _ => rfl) l i y hy j v hv
theorem Same_same {w : World} {a b : Option Addr} {ca cb : Nat} {l : List VerV} (n : Nat) (hn : l.length = n) (hl : LsAt w a 4 verL l) (hm : LsAt w b 4 verL l) (hb : n ≤ 1000000) :
    Calls Tryz.prog 12 #[.slice a n ca, .slice b n cb] w fun e w' => e = .returned (.bool true) ∧ Fr none_ w w' := by
  subst hn
  have := Same_any (ca := ca) (cb := cb) hl hm hb hb
  rw [sameV_yes rfl] at this
  refine this.mono ?_
  rintro e w1 ⟨he, n, rfl⟩
  exact ⟨he, Fr.drewN none_ _ _⟩
theorem Handles_same {w : World} {a b : Option Addr} {ca cb : Nat} {l : List Nat} (n : Nat) (hn : l.length = n) (hl : LsAt w a 1 hvC l) (hm : LsAt w b 1 hvC l) (hb : n ≤ 1000000) :
    Calls Tryz.prog 28 #[.slice a n ca, .slice b n cb] w fun e w' => e = .returned (.bool true) ∧ Fr none_ w w' := by
  subst hn
  have := Handles_any (ca := ca) (cb := cb) hl hm hb hb
  rw [sameV_yes rfl] at this
  refine this.mono ?_
  rintro e w1 ⟨he, n, rfl⟩
  exact ⟨he, Fr.drewN none_ _ _⟩
theorem wk_keep {b : Nat} {w w' : World} (f : Fr none_ w w') (h : w.cell? ⟨b, 0, none⟩ = some (.int .i64 1) ∧ w.cell? ⟨b, 1, none⟩ = some (.int .i64 0) ∧ w.cell? ⟨b, 2, none⟩ = some (.bool false) ∧ w.cell? ⟨b, 3, none⟩ = some (.string ⟨#[97, 98, 99, 100]⟩)) : w'.cell? ⟨b, 0, none⟩ = some (.int .i64 1) ∧ w'.cell? ⟨b, 1, none⟩ = some (.int .i64 0) ∧ w'.cell? ⟨b, 2, none⟩ = some (.bool false) ∧ w'.cell? ⟨b, 3, none⟩ = some (.string ⟨#[97, 98, 99, 100]⟩) :=
  ⟨f.keep h.1, f.keep h.2.1, f.keep h.2.2.1, f.keep h.2.2.2⟩
set_option maxHeartbeats 8000000 in
theorem works_any (W : World) : Calls Tryz.prog 8 #[] W fun e w' => e = .returned (.bool true) ∧ Fr none_ W w' := by
  obtain ⟨r, s, t1, t2, t3, t4, hE⟩ := ex_all
  have E := Lib.hid hE
  clear hE
  go_enter Tryz.func8, Tryz.ntmps8
  go_wp2_with fail
  refine (small_any _).mono ?_
  rintro e w1 ⟨rfl, f1⟩
  have F1 := Lib.hid f1
  clear f1
  go_wp2_with fail
  refine (wk_new F1.out).mono ?_
  rintro e w2 ⟨x, rfl, h⟩
  have H2 := Lib.hid h
  clear h
  go_wp2_with fail
  refine (val_any _ _ _).mono ?_
  rintro e w3 ⟨rfl, f⟩
  have H3 := Lib.hid (H2.out.keep0 f)
  clear f
  go_wp2_with fail
  refine (wk_make E.out H3.out).mono ?_
  rintro e w4 ⟨rfl, h⟩
  have H4 := Lib.hid h
  clear h
  go_wp2_with fail
  refine (val_any _ _ _).mono ?_
  rintro e w5 ⟨rfl, f⟩
  have H5 := Lib.hid (H4.out.keep0 f)
  clear f
  go_wp2_with fail
  refine (val_any _ _ _).mono ?_
  rintro e w6 ⟨rfl, f⟩
  have H6 := Lib.hid (H5.out.keep0 f)
  clear f
  go_wp2_with fail
  refine (wk_save E.out H6.out).mono ?_
  rintro e w7 ⟨rfl, h⟩
  have H7 := Lib.hid h
  clear h
  go_wp2_with fail
  refine (val_any _ _ _).mono ?_
  rintro e w8 ⟨rfl, f⟩
  have H8 := Lib.hid (H7.out.keep0 f)
  clear f
  go_wp2_with fail
  refine (wk_change E.out H8.out).mono ?_
  rintro e w9 ⟨rfl, h⟩
  have H9 := Lib.hid h
  clear h
  go_wp2_with fail
  refine (wk_list3 E.out H9.out).mono ?_
  rintro e w10 ⟨a10, cap10, rfl, l10, f⟩
  have H10 := Lib.hid (H9.out.keep0 f)
  have L10 := Lib.hid l10
  clear f l10
  go_wp2_with fail
  refine (val_any _ _ _).mono ?_
  rintro e w11 ⟨rfl, f⟩
  have H11 := Lib.hid (H10.out.keep0 f)
  have L11 := Lib.hid (L10.out.kept0 f)
  clear f
  go_wp2_with fail
  refine (val_any _ _ _).mono ?_
  rintro e w12 ⟨rfl, f⟩
  have H12 := Lib.hid ((H11.out.keep0 f).keep0 (Fr.alloc none_ _ (.cells ([exB, exA].flatMap verL).toArray 40)))
  have L12 := Lib.hid ((L11.out.kept0 f).kept0 (Fr.alloc none_ _ (.cells ([exB, exA].flatMap verL).toArray 40)))
  clear f
  go_wp2_with fail
  refine (Same_same (l := [exB, exA]) 2 rfl L12.out (ls_built _ [exB, exA]) (by omega)).mono ?_
  rintro e w13 ⟨rfl, f⟩
  have H13 := Lib.hid (H12.out.keep0 f)
  clear f
  go_wp2_with fail
  refine (wk_segment E.out H13.out).mono ?_
  rintro e w14 ⟨a14, cap14, rfl, l14, f⟩
  have H14 := Lib.hid ((H13.out.keep0 f).keep0 (Fr.alloc none_ _ (.cells ([s].flatMap hvC).toArray 32)))
  have L14 := Lib.hid (l14.kept0 (Fr.alloc none_ _ (.cells ([s].flatMap hvC).toArray 32)))
  clear f l14
  go_wp2_with fail
  refine (Handles_same (l := [s]) 1 rfl L14.out (ls_builtH _ [s]) (by omega)).mono ?_
  rintro e w15 ⟨rfl, f⟩
  have H15 := Lib.hid (H14.out.keep0 f)
  clear f
  go_wp2_with fail
  refine (val_any _ _ _).mono ?_
  rintro e w16 ⟨rfl, f⟩
  have H16 := Lib.hid (H15.out.keep0 f)
  clear f
  go_wp2_with fail
  refine (wk_record E.out H16.out).mono ?_
  rintro e w17 ⟨rfl, f⟩
  have H17 := Lib.hid ((H16.out.keep0 f).addRow exA.cells 40)
  unfold exA VerV.cells at H17
  clear f
  go_wp2_with fail
  refine (val_any _ _ _).mono ?_
  rintro e w18 ⟨rfl, f⟩
  have H18 := Lib.hid (H17.out.keep0 f)
  clear f
  go_wp2_with fail
  refine (wk_record2 E.out H18.out).mono ?_
  rintro e w19 ⟨rfl, f⟩
  have H19 := Lib.hid ((H18.out.keep0 f).keep0 (Fr.alloc none_ _ (.cells #[.int .i64 0, .int .i64 0, .bool false, .string ⟨#[]⟩] 40)))
  clear f
  go_wp2_with fail
  refine (wk_pop E.out H19.out).mono ?_
  rintro e w20 ⟨rfl, h⟩
  obtain ⟨c0, c1, c2, c3⟩ : w20.cell? ⟨w17.heap.size, 0, none⟩ = some (.int .i64 1) ∧ w20.cell? ⟨w17.heap.size, 1, none⟩ = some (.int .i64 0) ∧ w20.cell? ⟨w17.heap.size, 2, none⟩ = some (.bool false) ∧ w20.cell? ⟨w17.heap.size, 3, none⟩ = some (.string ⟨#[97, 98, 99, 100]⟩) := verOf_row (v := exA) (h.row (i := 1) rfl)
  have H20 := Lib.hid h
  clear h
  go_upto_region 11 with fail
  go_region_held3 (fun w' => w'.cell? ⟨w17.heap.size, 0, none⟩ = some (.int .i64 1) ∧ w'.cell? ⟨w17.heap.size, 1, none⟩ = some (.int .i64 0) ∧ w'.cell? ⟨w17.heap.size, 2, none⟩ = some (.bool false) ∧ w'.cell? ⟨w17.heap.size, 3, none⟩ = some (.string ⟨#[97, 98, 99, 100]⟩))
    (first | (go_split_ands; exact wk_keep (by first | exact f24 | exact f23 | exact f22 | exact f21 | exact Fr.drew _ _ | exact Fr.alloc _ _ _) ⟨‹_›, ‹_›, ‹_›, ‹_›⟩) | go_keep)
    (first
      | (go_at_call_of 29 (Value.int .i64 1); refine (val_any _ _ _).mono ?_; rintro e w21 ⟨rfl, f21⟩)
      | (go_at_call 13; (with_reducible refine (wk_list4 E.out ((H20.out.keep0 (Fr.drew _ _)).keep0 f21)).mono ?_); rintro e w22 ⟨a22, cap22, rfl, l22, f22⟩)
      | (go_at_call_of 29 (Value.int .i64 2); refine (val_any _ _ _).mono ?_; rintro e w23 ⟨rfl, f23⟩)
      | (go_at_call 12; refine (Same_same (l := [exB]) 1 rfl ((l22.kept0 f23).kept0 (Fr.alloc none_ _ (.cells ([exB].flatMap verL).toArray 40))) (ls_built _ [exB]) (by omega)).mono ?_; rintro e w24 ⟨rfl, f24⟩)
      | (go_at_call 14; refine (wk_used E.out ((((((H20.out.keep0 (Fr.drew _ _)).keep0 f21).keep0 f22).keep0 f23).keep0 (Fr.alloc none_ _ (.cells ([exB].flatMap verL).toArray 40))).keep0 f24)).mono ?_; rintro e w25 ⟨rfl, rfl⟩))
  all_goals (go_wp2_with fail; go_ret)
  all_goals exact ⟨rfl, ((((((H20.out.keep0 (Fr.drew _ _)).keep0 f21).keep0 f22).keep0 f23).keep0 (Fr.alloc none_ _ (.cells ([exB].flatMap verL).toArray 40))).keep0 f24).fr⟩
end
end Go.Proofs.YtckkccnebjacdaaGreat
