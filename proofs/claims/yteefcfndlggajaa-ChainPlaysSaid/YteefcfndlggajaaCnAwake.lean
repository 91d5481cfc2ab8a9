/-
  Package chain's statements: awake, the examples.
-/
import Derived.Test.YteefcfndlggajaaCnAwP
import Derived.Deep.RegionHeld3
import Derived.Deep.DeepCutAuto
namespace Go.Proofs.Yteefcfndlggajaa
open Go.RowKit
set_option linter.unusedVariables false
set_option linter.unusedSimpArgs false
set_option maxRecDepth 100000

section
variable {W w : World} {x h k : Nat} {t1 t2 t3 t4 t5 : CS} {K : List Held}
theorem aw_new (W : World) {w : World} (f : Fr none_ W w) : Calls Try.prog 24 #[.agg #[.int .i64 2, .int .i64 2, .int .i64 3, .int .i64 3, .int .i64 9, .int .i64 4, .int .i64 3, .int .i64 3]] w fun e w' => ∃ x, e = .returned (.tuple #[.pointer (some ⟨x, 0, none⟩), .int .i64 0]) ∧ CE W x cfgSome 3 0 (CS.new 3) [] w' :=
  ce_new (lim := 3) W cfgSome cfgSome_may rfl (by omega) f (fun r hr => by simp at hr)
theorem aw_make1 (E : ExAll h k t1 t2 t3 t4 t5) (hc : CE W x cfgSome 3 0 (CS.new 3) K w) : Calls Try.prog 22 #[.pointer (some ⟨x, 0, none⟩), .agg #[.int .i64 1, .int .i64 0, .bool false, .string ⟨#[97]⟩], .int .u64 0] w fun e w' => e = .returned (.tuple #[.int .u64 (h : Int), .int .i64 0]) ∧ CE W x cfgSome 3 1 t1 K w' := by
  have := ce_put hc (by unfold big; omega) exOne (by decide) (by decide) (nx := 0) (by omega) (q := (h : Int)) (p := 0) (by rw [E.p1]) (by rw [E.p1]; rfl)
  rw [E.p1] at this
  exact this
theorem aw_make2 (E : ExAll h k t1 t2 t3 t4 t5) (hc : CE W x cfgSome 3 1 t1 K w) : Calls Try.prog 22 #[.pointer (some ⟨x, 0, none⟩), .agg #[.int .i64 2, .int .i64 0, .bool true, .string ⟨#[]⟩], .int .u64 (h : Int)] w fun e w' => e = .returned (.tuple #[.int .u64 (k : Int), .int .i64 0]) ∧ CE W x cfgSome 3 2 t2 K w' := by
  have := ce_put hc (by unfold big; omega) exTwo (by decide) (by decide) (nx := h) E.hl (q := (k : Int)) (p := 0) (by rw [E.p2]) (by rw [E.p2]; rfl)
  rw [E.p2] at this
  exact this
theorem aw_make3 (E : ExAll h k t1 t2 t3 t4 t5) (hc : CE W x cfgSome 3 2 t3 K w) : Calls Try.prog 22 #[.pointer (some ⟨x, 0, none⟩), .agg #[.int .i64 1, .int .i64 0, .bool false, .string ⟨#[97, 98, 99, 100]⟩], .int .u64 0] w fun e w' => e = .returned (.tuple #[.int .u64 0, .int .i64 1]) ∧ CE W x cfgSome 3 3 t3 K w' := by
  have := ce_put hc (by unfold big; omega) exBad (by decide) (by decide) (nx := 0) (by omega) (q := 0) (p := 1) (by rw [E.b3]; rfl) (by rw [E.b3]; rfl)
  rw [E.b3] at this
  exact this
theorem aw_list2 (E : ExAll h k t1 t2 t3 t4 t5) (hc : CE W x cfgSome 3 2 t2 K w) : Calls Try.prog 14 #[.pointer (some ⟨x, 0, none⟩), .int .u64 (k : Int)] w fun e w' => ∃ a cap, e = .returned (.slice a 2 cap) ∧ LsAt w' a 4 VerV.list [exTwo, exOne] ∧ Fr none_ w w' :=
  ce_list hc (by unfold big; omega) E.kl (by rw [E.u2]; omega) _ E.l2
theorem aw_list3 (E : ExAll h k t1 t2 t3 t4 t5) (hc : CE W x cfgSome 3 3 t3 K w) : Calls Try.prog 14 #[.pointer (some ⟨x, 0, none⟩), .int .u64 (h : Int)] w fun e w' => ∃ a cap, e = .returned (.slice a 1 cap) ∧ LsAt w' a 4 VerV.list [exOne7] ∧ Fr none_ w w' :=
  ce_list hc (by unfold big; omega) E.hl (by rw [E.u3]; omega) _ E.l3
theorem aw_list4 (E : ExAll h k t1 t2 t3 t4 t5) (hc : CE W x cfgSome 3 3 t4 K w) : Calls Try.prog 14 #[.pointer (some ⟨x, 0, none⟩), .int .u64 (k : Int)] w fun e w' => ∃ a cap, e = .returned (.slice a 1 cap) ∧ LsAt w' a 4 VerV.list [exTwo] ∧ Fr none_ w w' :=
  ce_list hc (by unfold big; omega) E.kl (by rw [E.u4]; omega) _ E.l4
theorem aw_stamp (E : ExAll h k t1 t2 t3 t4 t5) (hc : CE W x cfgSome 3 2 t2 K w) : Calls Try.prog 19 #[.pointer (some ⟨x, 0, none⟩), .int .u64 (h : Int), .int .i64 7] w fun e w' => e = .returned (.int .i64 0) ∧ CE W x cfgSome 3 2 t3 K w' := by
  have := ce_stamp hc 7 E.hl (q := 0) (by rw [E.p3]; rfl)
  rw [E.p3] at this
  exact this
theorem aw_cut (E : ExAll h k t1 t2 t3 t4 t5) (hc : CE W x cfgSome 3 3 t3 K w) : Calls Try.prog 20 #[.pointer (some ⟨x, 0, none⟩), .int .u64 (k : Int)] w fun e w' => e = .returned (.int .i64 0) ∧ CE W x cfgSome 3 3 t4 K w' := by
  have := ce_cut hc E.kl (q := 0) (by rw [E.p4]; rfl)
  rw [E.p4] at this
  exact this
theorem aw_free (E : ExAll h k t1 t2 t3 t4 t5) (hc : CE W x cfgSome 3 3 t4 K w) : Calls Try.prog 17 #[.pointer (some ⟨x, 0, none⟩), .int .u64 (h : Int)] w fun e w' => e = .returned (.int .i64 0) ∧ CE W x cfgSome 3 3 t5 K w' := by
  have := ce_free hc (by unfold big; omega) E.hl (q := 0) (by rw [E.p5]; rfl)
  rw [E.p5] at this
  exact this
theorem aw_read (E : ExAll h k t1 t2 t3 t4 t5) (hc : CE W x cfgSome 3 3 t5 K w) : Calls Try.prog 12 #[.pointer (some ⟨x, 0, none⟩), .int .u64 (h : Int)] w fun e w' => e = .returned (.tuple #[.agg #[.int .i64 0, .int .i64 0, .bool false, .string ⟨#[]⟩, .int .u64 0], .bool false]) ∧ CE W x cfgSome 3 3 t5 K w' :=
  ce_read hc E.hl .none E.n5
theorem aw_used (E : ExAll h k t1 t2 t3 t4 t5) (hc : CE W x cfgSome 3 3 t5 K w) : Calls Try.prog 16 #[.pointer (some ⟨x, 0, none⟩)] w fun e w' => e = .returned (.int .i64 1) ∧ w = w' :=
  ce_used hc (by rw [E.u5]; rfl)
theorem ls_built (w : World) (l : List VerV) : LsAt (w.alloc (.cells (l.flatMap VerV.list).toArray 32)) (some ⟨w.heap.size, 0, none⟩) 4 VerV.list l := by
  refine Or.inr ⟨_, _, rfl, by simp, fun i y hy j v hv => ?_⟩
  rw [Nat.zero_add, (Row.new w _ 32).cell]
  simpa using flat_cells VerV.list 4 (fun _ => rfl) l i y hy j v hv
theorem Lists_same {w : World} {a b : Option Addr} {ca cb : Nat} {l : List VerV} (n : Nat) (hn : l.length = n) (hl : LsAt w a 4 VerV.list l) (hm : LsAt w b 4 VerV.list l) (hb : n ≤ 1000000) :
    Calls Try.prog 13 #[.slice a n ca, .slice b n cb] w fun e w' => e = .returned (.bool true) ∧ Fr none_ w w' := by
  subst hn
  have := Lists_any (ca := ca) (cb := cb) hl hm hb hb
  rw [sameV_yes rfl] at this
  refine this.mono ?_
  rintro e w1 ⟨he, n, rfl⟩
  exact ⟨he, Fr.drewN none_ _ _⟩
def awK (b : Nat) (ts : Int) : List Held := [⟨b, #[.int .i64 1, .int .i64 ts, .bool false, .string ⟨#[97]⟩], 32⟩, ⟨b + 1, #[.int .i64 2, .int .i64 0, .bool true, .string ⟨#[]⟩], 32⟩]
def awCells (b : Nat) (ts : Int) (w : World) : Prop := w.cell? ⟨b, 0, none⟩ = some (.int .i64 1) ∧ w.cell? ⟨b, 1, none⟩ = some (.int .i64 ts) ∧ w.cell? ⟨b, 2, none⟩ = some (.bool false) ∧ w.cell? ⟨b, 3, none⟩ = some (.string ⟨#[97]⟩) ∧
  w.cell? ⟨b + 1, 0, none⟩ = some (.int .i64 2) ∧ w.cell? ⟨b + 1, 1, none⟩ = some (.int .i64 0) ∧ w.cell? ⟨b + 1, 2, none⟩ = some (.bool true) ∧ w.cell? ⟨b + 1, 3, none⟩ = some (.string ⟨#[]⟩)
theorem aw_cells {N : Nat} {t : CS} {b : Nat} {ts : Int} (h : CE W x cfgSome 3 N t (awK b ts) w) : awCells b ts w := by
  have r1 := h.row (r := ⟨b, #[.int .i64 1, .int .i64 ts, .bool false, .string ⟨#[97]⟩], 32⟩) (by unfold awK; simp)
  have r2 := h.row (r := ⟨b + 1, #[.int .i64 2, .int .i64 0, .bool true, .string ⟨#[]⟩], 32⟩) (by unfold awK; simp)
  exact ⟨r1.cell 0, r1.cell 1, r1.cell 2, r1.cell 3, r2.cell 0, r2.cell 1, r2.cell 2, r2.cell 3⟩
theorem awCells.keep {b : Nat} {ts : Int} {w w' : World} (h : awCells b ts w) (f : Fr none_ w w') : awCells b ts w' := by
  obtain ⟨h0, h1, h2, h3, h4, h5, h6, h7⟩ := h
  exact ⟨f.keep h0, f.keep h1, f.keep h2, f.keep h3, f.keep h4, f.keep h5, f.keep h6, f.keep h7⟩
set_option maxHeartbeats 8000000 in
theorem awake_any (W : World) : Calls Try.prog 10 #[] W fun e w' => e = .returned (.bool true) ∧ Fr none_ W w' := by
  obtain ⟨h, k, t1, t2, t3, t4, t5, hE⟩ := ex_all
  have E := Lib.hid hE
  clear hE
  go_enter Try.func10, Try.ntmps10
  go_wp2_with fail
  refine (some_any _).mono ?_
  rintro e w1 ⟨rfl, f1⟩
  have F1 := Lib.hid f1
  clear f1
  go_wp2_with fail
  refine (aw_new W F1.out).mono ?_
  rintro e w2 ⟨x, rfl, h0⟩
  obtain ⟨w3, hw3⟩ : ∃ w3, w3 = (w2.alloc (.cells #[.int .i64 1, .int .i64 0, .bool false, .string ⟨#[97]⟩] 32)).alloc (.cells #[.int .i64 2, .int .i64 0, .bool true, .string ⟨#[]⟩] 32) := ⟨_, rfl⟩
  obtain ⟨b, hb⟩ : ∃ b, b = w2.heap.size := ⟨_, rfl⟩
  have HK := Lib.hid (show CE W x cfgSome 3 0 (CS.new 3) (awK b 0) w3 by
    have q := (h0.alloc #[.int .i64 1, .int .i64 0, .bool false, .string ⟨#[97]⟩] 32).alloc #[.int .i64 2, .int .i64 0, .bool true, .string ⟨#[]⟩] 32
    rw [World.size_alloc, ← hb, ← hw3] at q
    exact q.less (by unfold awK; simp))
  have HWB := Lib.hid (show W.heap.size ≤ b by rw [hb]; exact h0.fr.size)
  have HW3 := Lib.hid hw3
  have HB := Lib.hid hb
  clear h0 hw3 hb
  go_wp2_with fail
  rw [← HW3.out, ← HB.out]
  refine (aw_make1 E.out HK.out).mono ?_
  rintro e w4 ⟨rfl, h4⟩
  have H4 := Lib.hid h4
  obtain ⟨c0, c1, c2, c3, c4, c5, c6, c7⟩ := aw_cells h4
  clear h4
  go_wp2_with fail
  refine (aw_make2 E.out H4.out).mono ?_
  rintro e w5 ⟨rfl, h5⟩
  have H5 := Lib.hid h5
  clear c0 c1 c2 c3 c4 c5 c6 c7
  obtain ⟨c0, c1, c2, c3, c4, c5, c6, c7⟩ := aw_cells h5
  clear h5
  go_upto_region 8 with fail
  go_cut [56] (fun v wx => v = .bool false ∧ CE W x cfgSome 3 2 t3 (awK b 0) wx)
  case first =>
    go_region_held3 (fun w' => w'.cell? ⟨b, 0, none⟩ = some (.int .i64 1) ∧ w'.cell? ⟨b, 1, none⟩ = some (.int .i64 0) ∧ w'.cell? ⟨b, 2, none⟩ = some (.bool false) ∧ w'.cell? ⟨b, 3, none⟩ = some (.string ⟨#[97]⟩) ∧ w'.cell? ⟨b + 1, 0, none⟩ = some (.int .i64 2) ∧ w'.cell? ⟨b + 1, 1, none⟩ = some (.int .i64 0) ∧ w'.cell? ⟨b + 1, 2, none⟩ = some (.bool true) ∧ w'.cell? ⟨b + 1, 3, none⟩ = some (.string ⟨#[]⟩))
      (first | exact aw_cells h9 | (go_split_ands; exact awCells.keep ⟨‹_›, ‹_›, ‹_›, ‹_›, ‹_›, ‹_›, ‹_›, ‹_›⟩ (by first | exact f8 | exact f7 | exact Fr.drew _ _ | exact Fr.alloc _ _ _)) | go_keep)
      (first
        | (go_at_call 14; refine (aw_list2 E.out (H5.out.keep0 (by first | exact Fr.drew _ _ | exact (Fr.drew _ _).alloc_r _ | exact (Fr.alloc _ _ _).drew_r))).mono ?_; rintro e w7 ⟨a7, cap7, rfl, l7, f7⟩)
        | (go_at_call 13; refine (Lists_same (l := [exTwo, exOne]) 2 rfl (by first | exact l7 | exact l7.kept0 (Fr.alloc _ _ _)) (by first | exact ls_built _ [exTwo, exOne] | exact (ls_built _ [exTwo, exOne]).kept0 f7 | exact ((ls_built _ [exTwo, exOne]).kept0 (Fr.drew none_ _)).kept0 f7) (by omega)).mono ?_; rintro e w8 ⟨rfl, f8⟩)
        | (go_at_call 19; refine (aw_stamp E.out (H5.out.keep0 (by first | exact ((Fr.drew _ _).trans f7).trans ((Fr.alloc _ _ _).trans f8) | exact (((Fr.drew _ _).alloc_r _).trans f7).trans f8 | exact (((Fr.alloc _ _ _).drew_r).trans f7).trans f8))).mono ?_; rintro e w9 ⟨rfl, h9⟩))
    all_goals (go_wp2_with fail; go_meet; exact ⟨rfl, h9⟩)
  case rest =>
    obtain ⟨rfl, h9⟩ := hcut
    have r1 := h9.row (r := ⟨b, #[.int .i64 1, .int .i64 0, .bool false, .string ⟨#[97]⟩], 32⟩) (by unfold awK; simp)
    have z1 := r1.cell 1
    have z2 := r1.free 1
    have H10 := Lib.hid (show CE W x cfgSome 3 2 t3 (awK b 7) (wc.setCell ⟨b, 1, none⟩ (.int .i64 7)) from h9.set HWB.out (fun r hr => by simp at hr; subst hr; simp) 1 (.int .i64 7))
    clear c0 c1 c2 c3 c4 c5 c6 c7 r1 h9
    go_wp2_with fail
    refine (aw_make3 E.out H10.out).mono ?_
    rintro e w11 ⟨rfl, h11⟩
    have H11 := Lib.hid h11
    obtain ⟨c0, c1, c2, c3, c4, c5, c6, c7⟩ := aw_cells h11
    clear h11
    go_upto_region 12 with fail
    go_cut [95] (fun v wx => v = .bool false ∧ CE W x cfgSome 3 3 t5 (awK b 7) wx)
    case first =>
      go_region_held3 (fun w' => w'.cell? ⟨b, 0, none⟩ = some (.int .i64 1) ∧ w'.cell? ⟨b, 1, none⟩ = some (.int .i64 7) ∧ w'.cell? ⟨b, 2, none⟩ = some (.bool false) ∧ w'.cell? ⟨b, 3, none⟩ = some (.string ⟨#[97]⟩) ∧ w'.cell? ⟨b + 1, 0, none⟩ = some (.int .i64 2) ∧ w'.cell? ⟨b + 1, 1, none⟩ = some (.int .i64 0) ∧ w'.cell? ⟨b + 1, 2, none⟩ = some (.bool true) ∧ w'.cell? ⟨b + 1, 3, none⟩ = some (.string ⟨#[]⟩))
        (first | exact aw_cells h19 | exact aw_cells h14 | (go_split_ands; exact awCells.keep ⟨‹_›, ‹_›, ‹_›, ‹_›, ‹_›, ‹_›, ‹_›, ‹_›⟩ (by first | exact f18 | exact f17 | exact f13 | exact f12 | exact Fr.drew _ _ | exact Fr.alloc _ _ _)) | go_keep)
        (first
          | (go_at_call_of 20 (Value.pointer (some ⟨x, 0, none⟩)); refine (aw_cut E.out (H11.out.keep0 (by first | exact ((Fr.drew _ _).trans f12).trans ((Fr.alloc _ _ _).trans f13) | exact (((Fr.alloc _ _ _).drew_r).trans f12).trans f13))).mono ?_; rintro e w14 ⟨rfl, h14⟩)
          | (go_at_call 17; refine (aw_free E.out (h14.keep0 (by first | exact f17.trans ((Fr.alloc _ _ _).trans f18) | exact ((Fr.alloc _ _ _).trans f17).trans f18))).mono ?_; rintro e w19 ⟨rfl, h19⟩)
          | (go_at_call 14; (with_reducible refine (aw_list3 E.out (H11.out.keep0 (by first | exact Fr.drew _ _ | exact (Fr.alloc _ _ _).drew_r))).mono ?_); rintro e w12 ⟨a12, cap12, rfl, l12, f12⟩)
          | (go_at_call 14; (with_reducible refine (aw_list4 E.out (h14.keep0 (by first | exact Fr.refl _ _ | exact Fr.alloc _ _ _))).mono ?_); rintro e w17 ⟨a17, cap17, rfl, l17, f17⟩)
          | (go_at_call 13; refine (Lists_same (l := [exTwo]) 1 rfl (by first | exact l17 | exact l17.kept0 (Fr.alloc _ _ _)) (by first | exact ls_built _ [exTwo] | exact (ls_built _ [exTwo]).kept0 f17) (by omega)).mono ?_; rintro e w18 ⟨rfl, f18⟩)
          | (go_at_call 13; refine (Lists_same (l := [exOne7]) 1 rfl (by first | exact l12 | exact l12.kept0 (Fr.alloc _ _ _)) (by first | exact ls_built _ [exOne7] | exact ((ls_built _ [exOne7]).kept0 (Fr.drew none_ _)).kept0 f12) (by omega)).mono ?_; rintro e w13 ⟨rfl, f13⟩))
      all_goals (go_wp2_with fail; go_meet; exact ⟨rfl, h19⟩)
    case rest =>
      obtain ⟨rfl, h19⟩ := hcut
      have H19 := Lib.hid h19
      clear c0 c1 c2 c3 c4 c5 c6 c7 h19
      go_wp2_with fail
      refine (aw_read E.out H19.out).mono ?_
      rintro e w20 ⟨rfl, h20⟩
      have H20 := Lib.hid (h20.keep0 (Fr.alloc none_ _ (.cells #[.int .i64 0, .int .i64 0, .bool false, .string ⟨#[]⟩, .int .u64 0] 36)))
      clear h20
      go_wp2_with fail
      refine (aw_used E.out H20.out).mono ?_
      rintro e w21 ⟨rfl, rfl⟩
      go_wp2_with fail
      go_ret
      exact ⟨rfl, H20.out.fr⟩
end
end Go.Proofs.Yteefcfndlggajaa
