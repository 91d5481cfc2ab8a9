/-
  Package view: Of, as the program computes it.
-/
import Derived.Test.YtnnomeichppkpaaVw2
namespace Go.Proofs.Ytnnomeichppkpaa
open Go.RowKit Go.Sort
set_option linter.unusedVariables false
set_option linter.unusedSimpArgs false
set_option maxRecDepth 100000

theorem vw_int_info : (Try.prog.info? 3).map (fun i => (i.zero, i.size, i.bytes)) = some (some (.int .i64 0), 1, 8) := by kernel_rfl
set_option maxHeartbeats 2000000 in
theorem Of_any (w : World) (own high : Int) (ba : Option Addr) (bc n : Nat) (l : List Int) (hl : IntsAt w ba l) (hn : n = l.length) (hb : n ≤ 1000000) :
    Calls Try.prog 8 #[.int .i64 own, .int .i64 high, .slice ba n bc] w fun e w' => ∃ a m cap', e = .returned (vwV own high a m cap') ∧ m = (vwBusy own high l).length ∧ SlAt w' a m cap' 3 1 ((vwBusy own high l).map encI) ∧ Fr none_ w w' ∧ ∀ k, blk a k → w.heap.size ≤ k := by
  have HL := Lib.hid hl
  have HN := Lib.hid hn
  clear hl hn
  go_enter Try.func8, Try.ntmps8
  go_wp2_with ((with_reducible refine at_make ?_); refine Stop.mk ?_)
  show wpList _ _ _ _ _ _
  obtain ⟨w2, hw2⟩ : ∃ w2 : World, w2 = ((w.alloc (.cells #[.int .i64 own] 3)).alloc (.cells #[.int .i64 high] 3)).alloc (.cells #[.int .i64 0, .int .i64 0, .slice none 0 0] 25) := ⟨_, rfl⟩
  have r1 : Row w2 w.heap.size #[.int .i64 own] 3 := by rw [hw2]; exact ((Row.new _ _ _).alloc _).alloc _
  have r2 : Row w2 (w.heap.size + 1) #[.int .i64 high] 3 := by
    rw [hw2]
    have := Row.new (w.alloc (.cells #[.int .i64 own] 3)) #[.int .i64 high] 3
    have e : (w.alloc (.cells #[.int .i64 own] 3)).heap.size = w.heap.size + 1 := by simp
    rw [e] at this
    exact this.alloc _
  have r3 : Row w2 (w.heap.size + 2) #[.int .i64 0, .int .i64 0, .slice none 0 0] 25 := by
    rw [hw2]
    have := Row.new ((w.alloc (.cells #[.int .i64 own] 3)).alloc (.cells #[.int .i64 high] 3)) #[.int .i64 0, .int .i64 0, .slice none 0 0] 25
    have e : ((w.alloc (.cells #[.int .i64 own] 3)).alloc (.cells #[.int .i64 high] 3)).heap.size = w.heap.size + 2 := by simp
    rw [e] at this
    exact this
  have f2 : Fr none_ w w2 := by rw [hw2]; exact ((Fr.alloc _ _ _).alloc_r _).alloc_r _
  have z2 : w2.heap.size = w.heap.size + 3 := by rw [hw2]; simp
  rw [← hw2]
  have R1 := Lib.hid r1
  have R2 := Lib.hid r2
  have R3 := Lib.hid r3
  have F2 := Lib.hid f2
  have Z2 := Lib.hid z2
  clear hw2 r1 r2 r3 f2 z2
  refine wpMakeZ rfl _ _ _ 3 rfl Try.underlying22 (.int .i64 0) 8 vw_int_info rfl .i64 .i64 n rfl rfl hb (by omega) ?_
  intro w3 hs3 f3 hz3
  have S3 := Lib.hid hs3
  have F3 := Lib.hid f3
  clear hs3 f3 hz3
  go_wp2_with ((with_reducible refine at_copy ?_); refine Stop.mk ?_)
  show wpList _ _ _ _ _ _
  refine wpCopyLs encI_one rfl _ _ _ _ rfl 3 Try.underlying22 (by kernel_rfl) S3.out rfl rfl (HL.out.kept0 (F2.out.trans F3.out)) HN.out HN.out ?_
  intro w4 hs4 f4; have S4 := Lib.hid hs4; have F4 := Lib.hid ((Fr.none F3.out).trans f4); clear hs4 f4
  have hne1 : w.heap.size + 1 ≠ w2.heap.size := by have := Z2.out; omega
  have hne0 : w.heap.size ≠ w2.heap.size := by have := Z2.out; omega
  have D := Lib.hid (del_any (own := own) (high := high) S4.out HN.out hb (((R2.out.kept F4.out hne1).cell 0)) (((R1.out.kept F4.out hne0).cell 0)) hne1 hne0)
  clear hne1 hne0
  go_wp2_with fail
  refine D.out.mono ?_
  rintro e w5 ⟨rfl, hs5, f5⟩
  have hle : (vwLeft own high l).length ≤ n := by rw [HN.out]; exact List.length_filter_le _ _
  obtain ⟨l5, hl5⟩ : ∃ l5, l5 = vwLeft own high l := ⟨_, rfl⟩
  rw [← hl5] at hs5 hle ⊢
  have S5 := Lib.hid hs5
  have F5 := Lib.hid (F4.out.trans f5)
  have HL5 := Lib.hid hl5
  obtain ⟨n5, hn5⟩ : ∃ n5, n5 = l5.length := ⟨_, rfl⟩
  have so := sort_any (cap := n) (n := n5) (l := l5) (by rw [hn5]; exact hs5) hn5 (by omega)
  rw [← hn5]
  have SO := Lib.hid so
  have HN5 := Lib.hid hn5
  clear hs5 f5 hl5 hn5 so D
  go_wp2_with fail
  refine SO.out.mono ?_
  rintro e w6 ⟨rfl, hs6, f6⟩
  obtain ⟨l6, hl6⟩ : ∃ l6, l6 = l5.mergeSort (fun x y => decide (x ≤ y)) := ⟨_, rfl⟩
  rw [← hl6] at hs6
  have hn6 : n5 = l6.length := by rw [hl6, List.length_mergeSort]; exact HN5.out
  have HB : Hid (vwBusy own high l = Lib.compact l6) := by rw [hl6, HL5.out]; rfl
  have CO := Lib.hid (fun w' (hs : SlAt w' (some ⟨w2.heap.size, 0, none⟩) n5 n 3 1 (l6.map encI)) => compact_any hs hn6 (by have := HN5.out; omega))
  have S6 := Lib.hid hs6
  have F6 := Lib.hid (F5.out.trans f6)
  clear hs6 f6 hl6 hn6 SO
  obtain ⟨lb, hlb⟩ : ∃ lb, lb = Lib.compact l6 := ⟨_, rfl⟩
  rw [← hlb] at CO
  have HB' : Hid (vwBusy own high l = lb) := Lib.hid (HB.out.trans hlb.symm)
  have g0 : ¬ one w2.heap.size w.heap.size := by unfold one; have := Z2.out; omega
  have g1 : ¬ one w2.heap.size (w.heap.size + 1) := by unfold one; have := Z2.out; omega
  have g2 : ¬ one w2.heap.size (w.heap.size + 2) := by unfold one; have := Z2.out; omega
  have GZ : Hid (w.heap.size + 3 = w2.heap.size) := Z2.out.symm
  have F6' : Hid (Fr (one w2.heap.size) w2 w6) := F6.out
  have R3' := Lib.hid (R3.out.kept F6.out g2)
  have c0 : w6.cell? ⟨w.heap.size, 0, none⟩ = some (.int .i64 own) := (R1.out.kept F6.out g0).cell 0
  have c1 : w6.cell? ⟨w.heap.size + 1, 0, none⟩ = some (.int .i64 high) := (R2.out.kept F6.out g1).cell 0
  have G0 := Lib.hid g0
  have G1 := Lib.hid g1
  have G2 := Lib.hid g2
  clear HB hlb HL5 HN5 S3 F3 S4 F4 S5 F5 F6 g0 g1 g2 R1 R2 R3 hle
  have fS : Fr (two w2.heap.size (w.heap.size + 2)) w6 w6 := Fr.refl _ _
  go_wp2_with fail
  go_region_held3 (fun w' => Fr (two w2.heap.size (w.heap.size + 2)) w6 w' ∧ w'.cell? ⟨w.heap.size, 0, none⟩ = some (.int .i64 own) ∧ w'.cell? ⟨w.heap.size + 1, 0, none⟩ = some (.int .i64 high))
    (first | (go_split_ands; refine ⟨?_, ?_, ?_⟩; exact Fr.trans (by assumption) (f7.mono (fun k _ hk => Or.inl hk)); exact Fr.keepF f7 G0.out (by assumption); exact Fr.keepF f7 G1.out (by assumption)) | (go_split_ands; refine ⟨?_, ?_, ?_⟩; exact Fr.trans (by assumption) (Fr.drew _ _); all_goals assumption) | (go_split_ands; refine ⟨?_, ?_, ?_⟩; exact fr_set3 (by assumption) (Or.inr rfl); all_goals exact keep_set3 (by assumption) (by omega)) | go_keep)
    (first | (go_at_call 20; refine (CO.out _ (S6.out.kept0 (Fr.drew _ _))).mono ?_; rintro e w7 ⟨rfl, hs0, f7⟩; have hs := Lib.hid hs0; clear hs0; have R5 := Lib.hid (R3'.out.kept ((Fr.drew _ w6).trans f7) G2.out); have e0 : w7.cell? ⟨w.heap.size + 2, 0, none⟩ = some (.int .i64 0) := R5.out.cell 0; have e1 : w7.cell? ⟨w.heap.size + 2, 1, none⟩ = some (.int .i64 0) := R5.out.cell 1; have e2 : w7.cell? ⟨w.heap.size + 2, 2, none⟩ = some (.slice none 0 0) := R5.out.cell 2; have k0 : w7.frozen? ⟨w.heap.size + 2, 0, none⟩ = false := R5.out.free 0; have k1 : w7.frozen? ⟨w.heap.size + 2, 1, none⟩ = false := R5.out.free 1; have k2 : w7.frozen? ⟨w.heap.size + 2, 2, none⟩ = false := R5.out.free 2))
  have FT : Hid (Fr (one (w.heap.size + 1 + 1)) w7 (((w7.setCell ⟨w.heap.size + 1 + 1, 0, none⟩ (.int .i64 own)).setCell ⟨w.heap.size + 1 + 1, 1, none⟩ (.int .i64 high)).setCell ⟨w.heap.size + 1 + 1, 2, none⟩ (.slice (some ⟨w2.heap.size, 0, none⟩) lb.length n))) := fr_set3 (Fr.refl _ _) rfl
  have F7 := Lib.hid (F6'.out.trans ((Fr.drew _ w6).trans f7))
  clear f7
  go_wp2
  have z := GZ.out
  refine bodyPost_ret (v := vwV own high (some ⟨w2.heap.size, 0, none⟩) lb.length n) (by simp [results, Try.results8, go_sem, e0, e1, e2, vwV]) rfl ⟨_, _, _, rfl, by rw [HB'.out], ?_, ?_, fun k hk => by rw [blk_some] at hk; omega⟩
  · rw [HB'.out]
    exact hs.out.kept FT.out (fun k hk e => by rw [blk_some] at hk; unfold one at e; omega)
  · exact (F2.out.step F7.out (fun i hi e => by unfold one at e; omega)).step FT.out (fun i hi e => by unfold one at e; omega)
end Go.Proofs.Ytnnomeichppkpaa
