/-
  Package undo: Free, Segment, Pop.
  Package undo: the methods, on an engine that owns blocks ('Un'), told of its state ('US').
-/
import Derived.Test.YtckkccnebjacdaaGreatMgUnPut
import Derived.Test.YtckkccnebjacdaaGreatUnSave
namespace Go.Proofs.YtckkccnebjacdaaGreat
open Go.RowKit
set_option linter.unusedVariables false
set_option linter.unusedSimpArgs false
set_option maxRecDepth 100000
theorem kvDel_put {K V : Type} [DecidableEq K] : ∀ (l : List (K × V)) (k : K) (v : V), (l.map (·.1)).Nodup → kvDel (kvPut l k v) k = kvDel l k
  | [], k, v, _ => by simp [kvPut, kvDel]
  | p :: r, k, v, hn => by
    simp only [List.map_cons, List.nodup_cons] at hn
    have ih := kvDel_put r k v hn.2
    unfold kvPut
    by_cases h : p.1 = k
    · rw [if_pos h]
      unfold kvDel
      simp [h]
    · rw [if_neg h]
      unfold kvDel at ih ⊢
      rw [List.filter_cons, List.filter_cons, ih]
section
variable {w w' : World} {x a m N vl : Nat} {F G : Nat → Prop} {vs : List (Int × SgV)} {c : CfgV} {s : AS} {t : US}
set_option maxHeartbeats 8000000 in
theorem Undo_Free_plain (hh : UnAt w x a m F vs c s) (hu : Upto N s) (hN : N < big) {hd : Nat} (hhd : hd < 18446744073709551616)
    (HR : ∀ w1, Fr none_ w w1 → Calls Tryz.prog 50 #[.pointer (some ⟨x, 0, none⟩), .int .u64 (hd : Int), .int .u8 2] w1 fun e w' => e = .returned (.tuple #[.agg slotZero, .bool false]) ∧ Fr none_ w1 w') :
    Calls Tryz.prog 18 #[.pointer (some ⟨x, 0, none⟩), .int .u64 (hd : Int)] w fun e w' => e = .returned (.int .i64 ((aFree s hd).1 : Int)) ∧ UnAt w' x a m F vs c (aFree s hd).2 ∧ Fr F w w' := by
  have fB := Fr.alloc none_ w (.cells #[.int .u64 (hd : Int)] 32)
  have rB := Row.new w #[.int .u64 (hd : Int)] 32
  have HRR := Lib.hid (HR _ fB)
  have HAF := Lib.hid (fun w' (f : Fr none_ w w') => ar_free (hh.kept0 f).ar hu hN hhd)
  have HC := Lib.hid (fun w' (f : Fr none_ w w') => (hh.kept0 f).arena)
  have HH := Lib.hid hh
  have RB := Lib.hid rB
  have FB := Lib.hid fB
  have HNB := Lib.hid (show ¬ F w.heap.size from fun e => absurd (hh.ar.lt _ e) (Nat.lt_irrefl _))
  have b0 := rB.cell 0
  unfold slotZero at HRR
  generalize (aFree s hd).2 = s1 at HAF ⊢
  generalize (aFree s hd).1 = E at HAF ⊢
  clear hh hu HR fB rB
  go_enter Tryz.func18, Tryz.ntmps18
  go_wp2_with fail
  refine HRR.out.mono ?_
  rintro e w1 ⟨rfl, f1⟩
  have fa1 := Fr.alloc none_ w1 (.cells #[.int .u8 0, .int .u8 0, .int .u64 0, .int .u64 0, .int .u64 0, .string ⟨#[]⟩] 87)
  have F2 := Lib.hid ((FB.out.trans f1).trans fa1)
  have b0' := ((RB.out.kept f1 (fun e => e)).kept fa1 (fun e => e)).cell 0
  have c8 := HC.out _ F2.out
  obtain ⟨w3, hw3⟩ : ∃ w3, w3 = w1.alloc (.cells #[.int .u8 0, .int .u8 0, .int .u64 0, .int .u64 0, .int .u64 0, .string ⟨#[]⟩] 87) := ⟨_, rfl⟩
  clear f1 fa1 b0
  go_wp2_with fail
  rw [← hw3] at F2 b0' c8 ⊢
  clear hw3
  go_region_held3 (fun w' => w'.cell? ⟨x, 8, none⟩ = some (.pointer (some ⟨a, 0, none⟩)) ∧ w'.cell? ⟨w.heap.size, 0, none⟩ = some (.int .u64 (hd : Int)))
    (first | (go_split_ands; with_reducible refine ⟨?_, ?_⟩; exact hA.arena; all_goals exact Fr.keepF f7 HNB.out (by assumption)) | (go_split_ands; with_reducible refine ⟨?_, ?_⟩; all_goals with_reducible assumption) | go_keep)
    (first | (go_at_call 60; refine (HAF.out _ (F2.out.trans (Fr.drew none_ w3))).mono ?_; rintro e w7 ⟨rfl, hAr, f7⟩; have hA := (HH.out.kept0 (F2.out.trans (Fr.drew none_ w3))).turnA hAr f7 (Grow.refl _ _)))
  clear b0' c8
  go_wp2_with fail
  go_ret
  exact ⟨rfl, hA, (F2.out.trans (Fr.drew none_ w3)).none.trans f7⟩
theorem Undo_Segment_at (hh : UnAt w x a m F vs c s) (k : Int) (hb : (segOf vs k).length ≤ 1000000000) :
    Calls Tryz.prog 26 #[.pointer (some ⟨x, 0, none⟩), .int .i64 k] w fun e w' => ∃ a' cap', e = .returned (.slice a' (segOf vs k).length cap') ∧ SlAt w' a' (segOf vs k).length cap' 32 1 ((segOf vs k).map hvN) ∧ Fr none_ w w' ∧ ∀ b, blk a' b → w.heap.size ≤ b := by
  have hat := hh.seg.at_ k
  have lk := hh.seg.look k
  have c9 := hh.mapc
  rw [← sgGet_l] at hb ⊢
  generalize sgGet vs k = V at hat lk hb ⊢
  have HCL := Lib.hid (clone_h w V.a V.l.length V.cap V.l (hat.1.ls1 (enc := hvN) rfl) rfl hb)
  clear hat hh
  go_enter Tryz.func26, Tryz.ntmps26
  go_wp2_with fail
  refine HCL.out.mono ?_
  rintro e w1 ⟨a', cap', rfl, h1, h2, h3, _⟩
  have HX := Lib.hid (And.intro h1 (And.intro h2 h3))
  clear h1 h2 h3
  go_wp2_with fail
  go_ret
  exact ⟨a', cap', rfl, HX.out.1, HX.out.2.1, HX.out.2.2⟩
set_option maxHeartbeats 8000000 in
theorem Undo_Free_rec (hh : UnAt w x a m F vs c s) (hu : Upto N s) (hN : N < big) {hd : Nat} (hhd : hd < 18446744073709551616) (n : UV) (hsg : n.sg < 9223372036854775808) (hb : (segOf vs (n.sg : Int)).length ≤ 1000000000)
    (HR : ∀ w1, Fr none_ w w1 → Calls Tryz.prog 50 #[.pointer (some ⟨x, 0, none⟩), .int .u64 (hd : Int), .int .u8 2] w1 fun e w' => e = .returned (.tuple #[.agg n.cells, .bool true]) ∧ Fr none_ w1 w') :
    Calls Tryz.prog 18 #[.pointer (some ⟨x, 0, none⟩), .int .u64 (hd : Int)] w fun e w' => e = .returned (.int .i64 ((aFree s hd).1 : Int)) ∧ ∃ vs', UnAt w' x a m F vs' c (aFree s hd).2 ∧ (∀ k, segOf vs' k = if (n.sg : Int) = k then notH hd (segOf vs k) else segOf vs k) ∧ (∀ k, segOwn m vs' k → segOwn m vs k ∨ w.heap.size ≤ k) ∧ Fr (fun k => F k ∨ segOwn m vs k) w w' ∧ vs'.length ≤ vs.length := by
  have fB := Fr.alloc none_ w (.cells #[.int .u64 (hd : Int)] 32)
  have rB := Row.new w #[.int .u64 (hd : Int)] 32
  have HRR := Lib.hid (HR _ fB)
  have HAF := Lib.hid (fun w' vs' (h' : UnAt w' x a m F vs' c s) => ar_free h'.ar hu hN hhd)
  have HH := Lib.hid hh
  have RB := Lib.hid rB
  have FB := Lib.hid fB
  have HNB := Lib.hid (show ∀ k, F k ∨ segOwn m vs k → k < w.heap.size from fun k e => hh.lt k (Or.inr e))
  have b0 := rB.cell 0
  have wi : IntKind.i64.wrap (n.sg : Int) = (n.sg : Int) := IntWalk.i64_in _ (by omega)
  have HBL := Lib.hid hb
  unfold UV.cells byteV at HRR
  generalize (aFree s hd).2 = s1 at HAF ⊢
  generalize (aFree s hd).1 = E at HAF ⊢
  clear hh hu HR fB rB hb
  go_enter Tryz.func18, Tryz.ntmps18
  go_wp2_with fail
  refine HRR.out.mono ?_
  rintro e w1 ⟨rfl, f1⟩
  have fa1 := Fr.alloc none_ w1 (.cells #[.int .u8 (n.kind.toNat : Int), .int .u8 (n.tb.toNat : Int), .int .u64 (n.wr : Int), .int .u64 (n.nx : Int), .int .u64 (n.sg : Int), .string n.rest] 87)
  have F2 := Lib.hid ((FB.out.trans f1).trans fa1)
  have R2 := Lib.hid ((RB.out.kept f1 (fun e => e)).kept fa1 (fun e => e))
  have U2 := Lib.hid (HH.out.kept0 F2.out)
  have c9 := U2.out.mapc
  have lk := U2.out.seg.look (n.sg : Int)
  obtain ⟨d0, d1, d2, d3, d4, d5⟩ := six_cells (Row.new w1 #[.int .u8 (n.kind.toNat : Int), .int .u8 (n.tb.toNat : Int), .int .u64 (n.wr : Int), .int .u64 (n.nx : Int), .int .u64 (n.sg : Int), .string n.rest] 87)
  obtain ⟨w3, hw3⟩ : ∃ w3, w3 = w1.alloc (.cells #[.int .u8 (n.kind.toNat : Int), .int .u8 (n.tb.toNat : Int), .int .u64 (n.wr : Int), .int .u64 (n.nx : Int), .int .u64 (n.sg : Int), .string n.rest] 87) := ⟨_, rfl⟩
  rw [← hw3] at F2 R2 U2
  have hat := U2.out.seg.at_ (n.sg : Int)
  have hlb : (sgGet vs (n.sg : Int)).l.length ≤ 1000000000 := by rw [sgGet_l]; exact HBL.out
  have HCL := Lib.hid (clone_h w3 (sgGet vs (n.sg : Int)).a (sgGet vs (n.sg : Int)).l.length (sgGet vs (n.sg : Int)).cap (sgGet vs (n.sg : Int)).l (hat.1.ls1 (enc := hvN) rfl) rfl hlb)
  have HLB := Lib.hid hlb
  have HW3 := Lib.hid hw3
  clear f1 fa1 b0 hat hlb d0 d1 d2 d3 d5 hw3
  go_wp2_with fail
  rw [← HW3.out]
  refine HCL.out.mono ?_
  rintro e w4 ⟨a4, cap4, rfl, s4, f4, b4, _⟩
  have r4 := R2.out.kept f4 (fun e => e)
  obtain ⟨n', hn'⟩ : ∃ n', n' = (notH hd (sgGet vs (n.sg : Int)).l).length := ⟨_, rfl⟩
  have hq4 : ¬ blk a4 w.heap.size := fun e => by
    have := b4 _ e
    have := R2.out.lt
    omega
  have HDE := Lib.hid (delete_h w4 a4 _ cap4 _ s4 rfl HLB.out w.heap.size hd (r4.cell 0) hq4 n' hn')
  have F4 := Lib.hid (F2.out.trans f4)
  have FW3 := Lib.hid f4
  have B4 := Lib.hid b4
  have R4 := Lib.hid r4
  have U4 := Lib.hid (U2.out.kept0 f4)
  have HN' := Lib.hid hn'
  have Q4 := Lib.hid hq4
  clear s4 f4 b4 r4 hn' hq4 c9 lk d4
  go_wp2_with fail
  refine HDE.out.mono ?_
  rintro e w5 ⟨rfl, s5, f5⟩
  have HX4 := Lib.hid (show ∀ k, F k ∨ segOwn m vs k ∨ k = x ∨ k = w.heap.size → ¬ blk a4 k from fun k hk e => by
    have hb := B4.out k e
    have hz := F2.out.size
    rcases hk with hk | hk | hk | hk
    · have := HNB.out k (Or.inl hk); omega
    · have := HNB.out k (Or.inr hk); omega
    · subst hk; have := HH.out.row.lt; omega
    · subst hk; exact Q4.out e)
  have U5 := Lib.hid (U4.out.kept f5 (HX4.out x (by simp)) (fun k hk => HX4.out k (Or.inl hk)) (fun k hk => HX4.out k (Or.inr (Or.inl hk))))
  have R5 := Lib.hid (R4.out.kept f5 (HX4.out _ (by simp)))
  have c9 := U5.out.mapc
  have S5 := Lib.hid s5
  have F35 := Lib.hid f5
  obtain ⟨w6, hup, hm6, f6⟩ := run_update_at (ev := sgEv) U5.out.seg.map Tryz.underlying80 int_keyU (n.sg : Int) ⟨a4, cap4, notH hd (sgGet vs (n.sg : Int)).l⟩
  have hup2 : (Instr.mapUpdate 80 (.map (some m)) (.int .i64 (n.sg : Int)) (.slice a4 n' cap4)).run Tryz.prog w5 = .ok () w6 := by
    have e : sgEv ⟨a4, cap4, notH hd (sgGet vs (n.sg : Int)).l⟩ = .slice a4 n' cap4 := by unfold sgEv; simp only; rw [← HN'.out]
    rw [← e]; exact hup
  have M6 := Lib.hid hm6
  have F6 := Lib.hid f6
  have c9' : w6.cell? ⟨x, 9, none⟩ = some (.map (some m)) := f6.keepF (fun e => U5.out.xS (Or.inl e)) c9
  have R6 := Lib.hid (R5.out.kept f6 (fun e => by have q : w.heap.size < w.heap.size := HNB.out _ (Or.inr (Or.inl e)); omega))
  clear s5 f5 hup hm6 f6
  have F35' := Lib.hid (FW3.out.step F35.out (fun i hi e => by have := B4.out i e; omega))
  have F35' := Lib.hid (FW3.out.step F35.out (fun i hi e => by have := B4.out i e; omega))
  have F35' := Lib.hid (FW3.out.step F35.out (fun i hi e => by have := B4.out i e; omega))
  by_cases hz : n' = 0
  · have hle : notH hd (sgGet vs (n.sg : Int)).l = [] := List.eq_nil_of_length_eq_zero (by rw [← HN'.out]; exact hz)
    have HLE := Lib.hid hle
    clear hle
    subst hz
    go_wp2_with (at_delete; refine wpDelete rfl _ _ _ _ rfl 3 33 M6.out Tryz.underlying80 int_keyU (n.sg : Int) rfl rfl ?_; intro w7 hm7 f7; have M7 := Lib.hid hm7; have F67 := Lib.hid f7; clear hm7 f7; refine Stop.mk ?_)
    have hm7 := M7.out
    rw [kvDel_put _ _ _ U2.out.seg.nodup] at hm7
    obtain ⟨q1, q2, q3⟩ := U2.out.seg.del hm7 ((F35'.out.none.trans F6.out).trans F67.out)
    have F7 := Lib.hid (show Fr (segOwn m vs) w3 w7 from (F35'.out.none.trans (F6.out.trans F67.out)).mono fun k _ e => Or.inl e)
    have U7 := Lib.hid (U2.out.turnS q1 F7.out (fun b hb => Or.inl (q2 b hb)))
    have R7 := Lib.hid (R6.out.kept F67.out (fun e => by have q : w.heap.size < w.heap.size := HNB.out _ (Or.inr (Or.inl e)); omega))
    have Q7 := Lib.hid (show (∀ k, segOf (kvDel vs (n.sg : Int)) k = if (n.sg : Int) = k then notH hd (segOf vs k) else segOf vs k) ∧ ∀ k, segOwn m (kvDel vs (n.sg : Int)) k → segOwn m vs k ∨ w3.heap.size ≤ k from ⟨fun k => by
      rw [q3 k]
      by_cases e : (n.sg : Int) = k
      · rw [if_pos e, if_pos e, ← e, ← sgGet_l, HLE.out]
      · rw [if_neg e, if_neg e], fun k hk => Or.inl (q2 k hk)⟩)
    have HLV := Lib.hid (show (kvDel vs (n.sg : Int)).length ≤ vs.length from List.length_filter_le _ _)
    show wpList _ _ _ _ _ _
    clear hm7 q1 q2 q3
    have hz7 := F7.out.size
    have NB7 := Lib.hid (show ¬ F w.heap.size from fun e => by have := HNB.out _ (Or.inl e); omega)
    have b0 := R7.out.cell 0
    have c8 := U7.out.arena
    go_wp2_with fail
    clear hup2 c9 c9'
    go_region_held3 (fun w' => w'.cell? ⟨x, 8, none⟩ = some (.pointer (some ⟨a, 0, none⟩)) ∧ w'.cell? ⟨w.heap.size, 0, none⟩ = some (.int .u64 (hd : Int)))
      (first | (go_split_ands; with_reducible refine ⟨?_, ?_⟩; exact hA.arena; all_goals exact Fr.keepF f8 NB7.out (by assumption)) | (go_split_ands; with_reducible refine ⟨?_, ?_⟩; all_goals with_reducible assumption) | go_keep)
      (first | (go_at_call 60; refine (HAF.out _ _ (U7.out.kept0 (Fr.drew none_ w7))).mono ?_; rintro e w8 ⟨rfl, hAr, f8⟩; have hA := (U7.out.kept0 (Fr.drew none_ w7)).turnA hAr f8 (Grow.refl _ _)))
    clear b0 c8
    go_wp2_with fail
    go_ret
    refine ⟨rfl, _, hA, Q7.out.1, fun k hk => (Q7.out.2 k hk).imp id (fun q => Nat.le_trans F2.out.size q), (F2.out.none.trans (F7.out.mono fun k _ e => Or.inr e)).trans ((Fr.drew _ w7).trans (f8.mono fun k _ e => Or.inl e)), HLV.out⟩
  · have hne : notH hd (sgGet vs (n.sg : Int)).l ≠ [] := fun e => hz (by rw [HN'.out, e]; rfl)
    obtain ⟨q1, q2, q3⟩ := U2.out.seg.put (k := (n.sg : Int)) (v := ⟨a4, cap4, notH hd (sgGet vs (n.sg : Int)).l⟩) (w1 := w5) (w2 := w6) F35'.out.none (by simp only; rw [← HN'.out]; exact S5.out) hne (fun b hb => Or.inr (B4.out b hb)) M6.out F6.out
    obtain ⟨w7, hw7⟩ : ∃ w7, w7 = w6 := ⟨_, rfl⟩
    have F7 := Lib.hid (show Fr (segOwn m vs) w3 w7 from by rw [hw7]; exact (F35'.out.none.trans F6.out).mono fun k _ e => Or.inl e)
    have U7 := Lib.hid (show UnAt w7 x a m F _ c s from by rw [hw7]; exact U2.out.turnS q1 (by rw [← hw7]; exact F7.out) q2)
    have R7 := Lib.hid (show Row w7 _ _ _ from by rw [hw7]; exact R6.out)
    have Q7 := Lib.hid (show (∀ k, segOf (kvPut vs (n.sg : Int) ⟨a4, cap4, notH hd (sgGet vs (n.sg : Int)).l⟩) k = if (n.sg : Int) = k then notH hd (segOf vs k) else segOf vs k) ∧ ∀ k, segOwn m (kvPut vs (n.sg : Int) ⟨a4, cap4, notH hd (sgGet vs (n.sg : Int)).l⟩) k → segOwn m vs k ∨ w3.heap.size ≤ k from ⟨fun k => by
      rw [q3 k]
      by_cases e : (n.sg : Int) = k
      · rw [if_pos e, if_pos e, ← e, ← sgGet_l]
      · rw [if_neg e, if_neg e], q2⟩)
    have hzp : 0 < n' := by omega
    have hzi : ¬ (n' : Int) = 0 := by omega
    have HLV := Lib.hid (show (kvPut vs (n.sg : Int) ⟨a4, cap4, notH hd (sgGet vs (n.sg : Int)).l⟩).length ≤ vs.length from by
      rw [kvPut_length]
      have hs : (kvGet vs (n.sg : Int)).isSome = true := by
        cases e : kvGet vs (n.sg : Int) with
        | some _ => rfl
        | none => exfalso; apply hne; unfold sgGet; rw [e]; rfl
      rw [if_pos hs]; exact Nat.le_refl _)
    clear hne q1 q2 q3
    subst hw7
    have hz7 := F7.out.size
    have NB7 := Lib.hid (show ¬ F w.heap.size from fun e => by have := HNB.out _ (Or.inl e); omega)
    have b0 := R7.out.cell 0
    have c8 := U7.out.arena
    go_wp2_with fail
    clear hup2 c9 c9'
    go_region_held3 (fun w' => w'.cell? ⟨x, 8, none⟩ = some (.pointer (some ⟨a, 0, none⟩)) ∧ w'.cell? ⟨w.heap.size, 0, none⟩ = some (.int .u64 (hd : Int)))
      (first | (go_split_ands; with_reducible refine ⟨?_, ?_⟩; exact hA.arena; all_goals exact Fr.keepF f8 NB7.out (by assumption)) | (go_split_ands; with_reducible refine ⟨?_, ?_⟩; all_goals with_reducible assumption) | go_keep)
      (first | (go_at_call 60; refine (HAF.out _ _ (U7.out.kept0 (Fr.drew none_ w7))).mono ?_; rintro e w8 ⟨rfl, hAr, f8⟩; have hA := (U7.out.kept0 (Fr.drew none_ w7)).turnA hAr f8 (Grow.refl _ _)))
    clear b0 c8
    go_wp2_with fail
    go_ret
    refine ⟨rfl, _, hA, Q7.out.1, fun k hk => (Q7.out.2 k hk).imp id (fun q => Nat.le_trans F2.out.size q), (F2.out.none.trans (F7.out.mono fun k _ e => Or.inr e)).trans ((Fr.drew _ w7).trans (f8.mono fun k _ e => Or.inl e)), HLV.out⟩
set_option maxHeartbeats 4000000 in
theorem Undo_Pop_no (k : Int) (HS : Calls Tryz.prog 26 #[.pointer (some ⟨x, 0, none⟩), .int .i64 k] w fun e w' => ∃ a' cap', e = .returned (.slice a' 0 cap') ∧ Fr none_ w w') :
    Calls Tryz.prog 27 #[.pointer (some ⟨x, 0, none⟩), .int .i64 k] w fun e w' => e = .returned (.tuple #[.int .u64 0, .bool false]) ∧ Fr none_ w w' := by
  have H := Lib.hid HS
  clear HS
  go_enter Tryz.func27, Tryz.ntmps27
  go_wp2_with fail
  refine H.out.mono ?_
  rintro e w1 ⟨a', cap', rfl, f1⟩
  have F1 := Lib.hid f1
  clear f1
  go_wp2_with fail
  go_ret2
  exact ⟨rfl, F1.out⟩
set_option maxHeartbeats 4000000 in
theorem Undo_Pop_yes (k : Int) (hd n : Nat) (rest : List Nat) (hn : n = rest.length + 1) (hnb : n ≤ 1000000000) (HS : Calls Tryz.prog 26 #[.pointer (some ⟨x, 0, none⟩), .int .i64 k] w fun e w' => ∃ a' cap', e = .returned (.slice a' n cap') ∧ SlAt w' a' n cap' 32 1 ((hd :: rest).map hvN) ∧ Fr none_ w w' ∧ ∀ b, blk a' b → w.heap.size ≤ b) (R : World → Prop) (G : Nat → Prop) (hG : ∀ b, G b → b < w.heap.size)
    (HF : ∀ w1, Fr none_ w w1 → Calls Tryz.prog 18 #[.pointer (some ⟨x, 0, none⟩), .int .u64 (hd : Int)] w1 fun e w' => (∃ q : Int, e = .returned (.int .i64 q)) ∧ R w' ∧ Fr G w1 w') :
    Calls Tryz.prog 27 #[.pointer (some ⟨x, 0, none⟩), .int .i64 k] w fun e w' => e = .returned (.tuple #[.int .u64 (hd : Int), .bool true]) ∧ R w' := by
  have H := Lib.hid HS
  have HFF := Lib.hid HF
  have HN := Lib.hid hn
  have HGG := Lib.hid hG
  have hn0 : ¬ (n : Int) = 0 := by omega
  have hn1 : (0 : Int) < (n : Int) := by omega
  have hnp : 0 < n := by omega
  clear HS HF hn hG
  go_enter Tryz.func27, Tryz.ntmps27
  go_wp2_with fail
  refine H.out.mono ?_
  rintro e w1 ⟨a', cap', rfl, s1, f1, hb⟩
  obtain ⟨g, rfl⟩ := s1.isAddr hnp
  have k0 : w1.cell? ⟨g, 0, none⟩ = some (.int .u64 (hd : Int)) := s1.cell (i := 0) (v := hvN hd) rfl
  have hgG : ¬ G g := fun e => by have := HGG.out g e; have := hb g ((blk_some _ _ _).2 rfl); omega
  have P1 := Lib.hid (HFF.out w1 f1)
  clear s1 f1 hb
  go_wp2_with fail
  refine P1.out.mono ?_
  rintro e w2 ⟨⟨q, rfl⟩, hr, f2⟩
  have k2 : w2.cell? ⟨g, 0, none⟩ = some (.int .u64 (hd : Int)) := f2.keepF hgG k0
  have HR := Lib.hid hr
  clear hr f2 k0
  go_wp2_with fail
  go_ret2
  exact ⟨rfl, HR.out⟩
end
end Go.Proofs.YtckkccnebjacdaaGreat
namespace Go.Proofs.YtckkccnebjacdaaGreat
open Go.RowKit
set_option linter.unusedVariables false
set_option linter.unusedSimpArgs false
set_option maxRecDepth 100000

def US.mkr (t : US) (vl : Nat) (v : VerV) (nx : Nat) : Nat × Nat × US := if v.umay vl then t.make (v.uv false nx) else (0, 1, t)
def US.change (t : US) (vl : Nat) (hd : Nat) (v : VerV) (nx : Nat) : Nat × US := if v.umay vl then t.turn hd (v.uv false nx) else (1, t)
def US.save (t : US) (vl : Nat) (u : VerV) (nx : Nat) (v : VerV) : Nat × Nat × US := if u.umay vl && v.umay vl then t.make (saveUV u nx v) else (0, 1, t)
theorem uv_ok {vl : Nat} {v : VerV} (h : v.umay vl = true) (hw : v.wr < 9223372036854775808) {nx : Nat} (hx : nx < 18446744073709551616) : (v.uv false nx).Ok vl := by
  have h1 := VerV.umay_iff.1 h
  exact ⟨by unfold VerV.uv; simp only; omega, hx, by unfold VerV.uv; simp, by unfold VerV.uv; simp only; exact h1.2.1, fun _ => rfl⟩
theorem save_ok {vl : Nat} {u v : VerV} (hu : u.umay vl = true) (hv : v.umay vl = true) (hw : u.wr < 9223372036854775808) (hw2 : v.wr < 9223372036854775808) {nx : Nat} (hx : nx < 18446744073709551616) : (saveUV u nx v).Ok vl ∧ 1 ≤ (saveUV u nx v).sg := by
  have h1 := VerV.umay_iff.1 hu
  have h2 := VerV.umay_iff.1 hv
  refine ⟨⟨by unfold saveUV; simp only; omega, hx, by unfold saveUV; simp only; omega, ?_, fun e => by cases e⟩, by unfold saveUV; simp only; omega⟩
  show (strOf _).size ≤ vl + 4
  rw [strOf_size]
  have := dMake_enc_length v.val.data.toList u.val.data.toList
  have hl : u.val.data.toList.length = u.val.size := rfl
  omega

/-- At x there is an engine of state t, that owns the blocks G. -/
structure UnIn (w : World) (x a m : Nat) (F : Nat → Prop) (vs : List (Int × SgV)) (c : CfgV) (vl N : Nat) (t : US) : Prop where
  at_ : UnAt w x a m F vs c t.s
  is_ : t.Is vl N
  lim : vl ≤ 256
  cfg : c.valLen = vl
  seg : ∀ k, segOf vs k = t.seg k
  keys : vs.length ≤ N
def Un (G : Nat → Prop) (w : World) (x : Nat) (c : CfgV) (vl N : Nat) (t : US) : Prop := ∃ a m F vs, UnIn w x a m F vs c vl N t ∧ G = fun k => k = x ∨ F k ∨ segOwn m vs k
section
variable {w w' : World} {G : Nat → Prop} {x N vl : Nat} {c : CfgV} {t : US}
theorem Un.is_ (h : Un G w x c vl N t) : t.Is vl N := by obtain ⟨a, m, F, vs, h, _⟩ := h; exact h.is_
theorem Un.vl_le (h : Un G w x c vl N t) : vl ≤ 256 := by obtain ⟨a, m, F, vs, h, _⟩ := h; exact h.lim
theorem Un.lt (h : Un G w x c vl N t) : ∀ k, G k → k < w.heap.size := by
  obtain ⟨a, m, F, vs, h, rfl⟩ := h
  exact h.at_.lt
theorem Un.own (h : Un G w x c vl N t) : G x := by obtain ⟨a, m, F, vs, h, rfl⟩ := h; exact Or.inl rfl
theorem Un.kept {H : Nat → Prop} (h : Un G w x c vl N t) (f : Fr H w w') (hn : ∀ k, G k → ¬ H k) : Un G w' x c vl N t := by
  obtain ⟨a, m, F, vs, h, rfl⟩ := h
  exact ⟨a, m, F, vs, ⟨h.at_.kept f (hn x (Or.inl rfl)) (fun k e => hn k (Or.inr (Or.inl e))) (fun k e => hn k (Or.inr (Or.inr e))), h.is_, h.lim, h.cfg, h.seg, h.keys⟩, rfl⟩
theorem Un.kept0 (h : Un G w x c vl N t) (f : Fr none_ w w') : Un G w' x c vl N t := h.kept f (fun _ _ e => e)
theorem Un.more {M : Nat} (h : Un G w x c vl N t) (hm : N ≤ M) : Un G w x c vl M t := by
  obtain ⟨a, m, F, vs, h, e⟩ := h
  exact ⟨a, m, F, vs, ⟨h.at_, h.is_.more hm, h.lim, h.cfg, h.seg, Nat.le_trans h.keys hm⟩, e⟩
theorem un_used (h : Un G w x c vl N t) : Calls Tryz.prog 14 #[.pointer (some ⟨x, 0, none⟩)] w fun e w' => e = .returned (.int .i64 (t.s.used : Int)) ∧ w = w' := by
  obtain ⟨a, m, F, vs, h, _⟩ := h
  exact Undo_Used h.at_
/-- What read hands back. -/
theorem un_read (h : Un G w x c vl N t) {hd : Nat} (hh : hd < 18446744073709551616) (kind : UInt8) :
    (∃ n, t.f hd = some n ∧ n.kind = kind ∧ n.Ok vl ∧ ∀ w1, Fr none_ w w1 → Calls Tryz.prog 50 #[.pointer (some ⟨x, 0, none⟩), .int .u64 (hd : Int), byteV kind] w1 fun e w' => e = .returned (.tuple #[.agg n.cells, .bool true]) ∧ Fr none_ w1 w') ∨
    ((∀ n, t.f hd = some n → n.kind ≠ kind) ∧ ∀ w1, Fr none_ w w1 → Calls Tryz.prog 50 #[.pointer (some ⟨x, 0, none⟩), .int .u64 (hd : Int), byteV kind] w1 fun e w' => e = .returned (.tuple #[.agg slotZero, .bool false]) ∧ Fr none_ w1 w') := by
  obtain ⟨a, m, F, vs, h, _⟩ := h
  have hf := h.is_.find hd hh
  by_cases hk : ∃ n, t.f hd = some n ∧ n.kind = kind
  · left
    obtain ⟨n, hn, rfl⟩ := hk
    rw [hn] at hf
    exact ⟨n, hn, rfl, h.is_.ok _ _ hn, fun w1 f => Undo_read_yes (h.at_.kept0 f).arena (h.at_.kept0 f).ar h.is_.up hh n (h.is_.ok _ _ hn) h.lim (zeros (32 + vl - (n.at_ + 2 + n.rest.size))) (by unfold zeros; rw [List.length_replicate]; have := h.lim; omega) hf⟩
  · right
    refine ⟨fun n hn e => hk ⟨n, hn, e⟩, fun w1 f => Undo_read_no (h.at_.kept0 f).arena (h.at_.kept0 f).ar h.is_.up hh kind (fun l hl => ?_)⟩
    rw [hf] at hl
    cases e : t.f hd with
    | none => rw [e] at hl; cases hl
    | some n =>
      rw [e] at hl
      have hl : n.slot vl = l := by simpa using hl
      have hl2 := UV.slot_length (h.is_.ok _ _ e)
      refine ⟨n.kind, (n.slot vl).tail, ?_, fun q => hk ⟨n, e, q⟩, by rw [← hl, hl2]; have := h.lim; omega⟩
      rw [← hl]; rfl
def ovCells : Option (OV × Nat) → Array Value
  | some (v, _) => v.cells
  | none => verZero
def ovNx : Option (OV × Nat) → Nat
  | some (_, n) => n
  | none => 0
theorem rcd_of {n : UV} : n.kind = 2 ↔ n.rcd = true := by unfold UV.kind; cases n.rcd <;> simp
theorem rcd_not {n : UV} : n.kind = 1 ↔ n.rcd = false := by unfold UV.kind; cases n.rcd <;> simp
theorem un_row (h : Un G w x c vl N t) {hd : Nat} (hh : hd < 18446744073709551616) : Calls Tryz.prog 15 #[.pointer (some ⟨x, 0, none⟩), .int .u64 (hd : Int)] w fun e w' => e = .returned (.tuple #[.agg (ovCells (t.row hd)), .int .u64 (ovNx (t.row hd) : Int), .bool (t.row hd).isSome]) ∧ Fr none_ w w' := by
  rcases un_read h hh 1 with ⟨n, hn, hk, hok, hr⟩ | ⟨hn, hr⟩
  · have e : t.row hd = some (n.ov, n.nx) := by unfold US.row; rw [hn]; simp only [rcd_not.1 hk]; rfl
    rw [e]
    exact Undo_Row_yes n (rcd_not.1 hk) hok.wr hr
  · have e : t.row hd = none := by
      unfold US.row
      cases q : t.f hd with
      | none => rfl
      | some n =>
        have := hn n q
        simp only
        cases r : n.rcd with
        | true => rfl
        | false => exact absurd (rcd_not.2 r) this
    rw [e]
    exact Undo_Row_no hr
theorem un_record (h : Un G w x c vl N t) {hd : Nat} (hh : hd < 18446744073709551616) (v : VerV) (hv : v.val.size ≤ 140737488351232) : Calls Tryz.prog 16 #[.pointer (some ⟨x, 0, none⟩), .int .u64 (hd : Int), .agg v.cells] w fun e w' => e = .returned (.tuple #[.agg (ovCells (t.record hd v.val.data.toList)), .int .u64 (ovNx (t.record hd v.val.data.toList) : Int), .bool (t.record hd v.val.data.toList).isSome]) ∧ Fr none_ w w' := by
  rcases un_read h hh 2 with ⟨n, hn, hk, hok, hr⟩ | ⟨hn, hr⟩
  · have e : t.record hd v.val.data.toList = (match dApply v.val.data.toList n.rest.data.toList with
      | some u => some (⟨n.wr, n.tomb, strOf u⟩, n.nx)
      | none => none) := by unfold US.record; rw [hn]; simp only [rcd_of.1 hk]; rfl
    rw [e]
    refine (Undo_Record_yes v hv n hok.wr (by have := hok.fits; have := h.vl_le; omega) hr).mono ?_
    rintro e w1 ⟨he, f⟩
    refine ⟨?_, f⟩
    rw [he]
    cases dApply v.val.data.toList n.rest.data.toList <;> rfl
  · have e : t.record hd v.val.data.toList = none := by
      unfold US.record
      cases q : t.f hd with
      | none => rfl
      | some n =>
        have := hn n q
        simp only
        cases r : n.rcd with
        | true => exact absurd (rcd_of.2 r) this
        | false => rfl
    rw [e]
    exact Undo_Record_no v hr
theorem grow_own {x m : Nat} {F F' : Nat → Prop} {vs : List (Int × SgV)} (g : Grow F F' w) : Grow (fun k => k = x ∨ F k ∨ segOwn m vs k) (fun k => k = x ∨ F' k ∨ segOwn m vs k) w := fun k hk => by
  rcases hk with e | e | e
  · exact Or.inl (Or.inl e)
  · rcases g k e with q | q
    · exact Or.inl (Or.inr (Or.inl q))
    · exact Or.inr q
  · exact Or.inl (Or.inr (Or.inr e))
theorem un_mk (h : Un G w x c vl N t) (hN : N < big) (v : VerV) (hs : v.val.size ≤ 140737488351232) (hvw : v.wr < 9223372036854775808) {nx : Nat} (hnx : nx < 18446744073709551616) :
    Calls Tryz.prog 23 #[.pointer (some ⟨x, 0, none⟩), .agg v.cells, .int .u64 (nx : Int)] w fun e w' => e = .returned (.tuple #[.int .u64 ((t.mkr vl v nx).1 : Int), .int .i64 ((t.mkr vl v nx).2.1 : Int)]) ∧ ∃ G', Un G' w' x c vl (N + 1) (t.mkr vl v nx).2.2 ∧ Fr G w w' ∧ Grow G G' w := by
  obtain ⟨a, m, F, vs, h, rfl⟩ := h
  have hvl := h.at_.vlen
  rw [h.cfg] at hvl
  unfold US.mkr
  cases hm : v.umay vl with
  | false =>
    simp only [Bool.false_eq_true, if_false]
    refine (Undo_Make_bad hvl h.lim v hs hm (nx : Int)).mono ?_
    rintro e w1 ⟨he, f1⟩
    exact ⟨he, _, ⟨a, m, F, vs, ⟨h.at_.kept0 f1, h.is_.more (by omega), h.lim, h.cfg, h.seg, Nat.le_succ_of_le h.keys⟩, rfl⟩, f1.none, Grow.refl _ _⟩
  | true =>
    simp only [if_true]
    have hok := uv_ok hm hvw hnx
    rcases h.is_.make hN hok (fun e => by cases e) with ⟨e0, e1, r⟩ | ⟨e0, e1, e2, e3, e4, e5, i1, _⟩
    · have em : (t.make (v.uv false nx)) = ((aAlloc t.s).1, 0, ⟨(aWrite (aAlloc t.s).2.2 (aAlloc t.s).1 (strOf (v.uv false nx).enc)).2, updU t.f (aAlloc t.s).1 (some (v.uv false nx)), t.more (v.uv false nx) (aAlloc t.s).1⟩) := by unfold US.make; rw [if_pos e1]
      rw [em] at r ⊢
      refine Undo_Make_ok hvl h.lim v hs hm hvw _ _ _ (fun w1 f1 => ?_)
      · refine (Undo_put_ok (h.at_.kept0 f1) h.is_.up hN h.is_.slot e1 _ hok h.lim).mono ?_
        rintro e w2 ⟨he, F', h2, f2, g2⟩
        have g3 : Grow F F' w := fun k hk => (g2 k hk).imp id (fun q => Nat.le_trans f1.size q)
        exact ⟨he, _, ⟨a, m, F', vs, ⟨h2, r.is_, h.lim, h.cfg, fun k => h.seg k, Nat.le_succ_of_le h.keys⟩, rfl⟩, f1.none.trans (f2.mono fun k _ e => Or.inr (Or.inl e)), grow_own g3⟩
    · rw [e0, e3, e5]
      have i2 := i1
      rw [e5] at i2
      refine Undo_Make_ok hvl h.lim v hs hm hvw _ _ _ (fun w1 f1 => ?_)
      · refine (Undo_put_full (h.at_.kept0 f1) h.is_.up hN e2 e1 _).mono ?_
        rintro e w2 ⟨he, F', h2, f2, g2⟩
        have g3 : Grow F F' w := fun k hk => (g2 k hk).imp id (fun q => Nat.le_trans f1.size q)
        exact ⟨he, _, ⟨a, m, F', vs, ⟨h2, i2, h.lim, h.cfg, fun k => h.seg k, Nat.le_succ_of_le h.keys⟩, rfl⟩, f1.none.trans (f2.mono fun k _ e => Or.inr (Or.inl e)), grow_own g3⟩
theorem un_save (h : Un G w x c vl N t) (hN : N < big) (u v : VerV) (hs : u.val.size ≤ 140737488351232) (hs2 : v.val.size ≤ 140737488351232) (huw : u.wr < 9223372036854775808) (hvw : v.wr < 9223372036854775808) {nx : Nat} (hnx : nx < 18446744073709551616) :
    Calls Tryz.prog 24 #[.pointer (some ⟨x, 0, none⟩), .agg u.cells, .int .u64 (nx : Int), .agg v.cells] w fun e w' => e = .returned (.tuple #[.int .u64 ((t.save vl u nx v).1 : Int), .int .i64 ((t.save vl u nx v).2.1 : Int)]) ∧ ∃ G', Un G' w' x c vl (N + 1) (t.save vl u nx v).2.2 ∧ Fr G w w' ∧ Grow G G' w := by
  obtain ⟨a, m, F, vs, h, rfl⟩ := h
  have hvl := h.at_.vlen
  rw [h.cfg] at hvl
  unfold US.save
  cases hm : (u.umay vl && v.umay vl) with
  | false =>
    simp only [Bool.false_eq_true, if_false]
    refine (Undo_Save_bad hvl h.lim u v hs hs2 hm (nx : Int)).mono ?_
    rintro e w1 ⟨he, f1⟩
    exact ⟨he, _, ⟨a, m, F, vs, ⟨h.at_.kept0 f1, h.is_.more (by omega), h.lim, h.cfg, h.seg, Nat.le_succ_of_le h.keys⟩, rfl⟩, f1.none, Grow.refl _ _⟩
  | true =>
    simp only [if_true]
    rw [Bool.and_eq_true] at hm
    obtain ⟨hok, hsg⟩ := save_ok hm.1 hm.2 huw hvw hnx
    rcases h.is_.make hN hok (fun _ => hsg) with ⟨e0, e1, r⟩ | ⟨e0, e1, e2, e3, e4, e5, i1, _⟩
    · have em : (t.make (saveUV u nx v)) = ((aAlloc t.s).1, 0, ⟨(aWrite (aAlloc t.s).2.2 (aAlloc t.s).1 (strOf (saveUV u nx v).enc)).2, updU t.f (aAlloc t.s).1 (some (saveUV u nx v)), t.more (saveUV u nx v) (aAlloc t.s).1⟩) := by unfold US.make; rw [if_pos e1]
      rw [em] at r ⊢
      refine (Undo_Save_ok (F := F) hvl h.lim u v hm.1 hm.2 huw hvw (aAlloc t.s).1 (fun k hk => h.at_.lt k (Or.inr hk)) (fun k => by rw [h.seg k]; have := h.is_.segl k; unfold big at hN; omega) (fun w1 f1 => Undo_put_ok (h.at_.kept0 f1) h.is_.up hN h.is_.slot e1 _ hok h.lim)).mono ?_
      rintro e w2 ⟨he, F', vs', h2, hsegs, hg, f2, hl⟩
      refine ⟨he, _, ⟨a, m, F', vs', ⟨h2, r.is_, h.lim, h.cfg, fun k => ?_, by have := h.keys; omega⟩, rfl⟩, f2.mono fun k _ e => Or.inr e, fun k hk => ?_⟩
      · rw [hsegs k]
        have esg : ((saveUV u nx v).sg : Int) = v.wr := by have := (VerV.umay_iff.1 hm.2).1; show ((v.wr.toNat : Nat) : Int) = _; omega
        show _ = t.more (saveUV u nx v) (aAlloc t.s).1 k
        unfold US.more
        have hr : (saveUV u nx v).rcd = true := rfl
        rw [hr, if_pos rfl, esg]
        unfold updU
        by_cases e : v.wr = k
        · subst e; rw [if_pos rfl, if_pos rfl, h.seg]
        · rw [if_neg e, if_neg (fun q => e q.symm), h.seg]
      · rcases hg k hk with q | q | q | q
        · exact Or.inl (Or.inl q)
        · exact Or.inl (Or.inr (Or.inl q))
        · exact Or.inl (Or.inr (Or.inr q))
        · exact Or.inr q
    · rw [e0, e3, e5]
      have i2 := i1
      rw [e5] at i2
      refine (Undo_Save_full (F := F) (vs := vs) hvl h.lim u v hm.1 hm.2 huw hvw (fun w1 f1 => Undo_put_full (h.at_.kept0 f1) h.is_.up hN e2 e1 _)).mono ?_
      rintro e w2 ⟨he, F', h2, f2, g2⟩
      exact ⟨he, _, ⟨a, m, F', vs, ⟨h2, i2, h.lim, h.cfg, fun k => h.seg k, Nat.le_succ_of_le h.keys⟩, rfl⟩, f2.mono fun k _ e => Or.inr (Or.inl e), grow_own g2⟩
theorem un_change (h : Un G w x c vl N t) (v : VerV) (hs : v.val.size ≤ 140737488351232) (hvw : v.wr < 9223372036854775808) {hd nx : Nat} (hh : hd < 18446744073709551616) (hnx : nx < 18446744073709551616) :
    Calls Tryz.prog 17 #[.pointer (some ⟨x, 0, none⟩), .int .u64 (hd : Int), .agg v.cells, .int .u64 (nx : Int)] w fun e w' => e = .returned (.int .i64 ((t.change vl hd v nx).1 : Int)) ∧ Un G w' x c vl N (t.change vl hd v nx).2 ∧ Fr G w w' := by
  have hrd := un_read h hh 1
  obtain ⟨a, m, F, vs, h, rfl⟩ := h
  have hvl := h.at_.vlen
  rw [h.cfg] at hvl
  unfold US.change
  cases hm : v.umay vl with
  | false =>
    simp only [Bool.false_eq_true, if_false]
    refine (Undo_Change_bad hvl h.lim v hs hm (hd : Int) (nx : Int)).mono ?_
    rintro e w1 ⟨he, f1⟩
    exact ⟨he, ⟨a, m, F, vs, ⟨h.at_.kept0 f1, h.is_, h.lim, h.cfg, h.seg, h.keys⟩, rfl⟩, f1.none⟩
  | true =>
    simp only [if_true]
    rcases hrd with ⟨n, hn, hk, hok, hr⟩ | ⟨hn, hr⟩
    · have e : t.turn hd (v.uv false nx) = (0, t.set hd (v.uv false nx)) := by unfold US.turn; rw [hn]; simp only [rcd_not.1 hk]; rfl
      rw [e]
      have hfs : (aFind t.s hd).isSome = true := by rw [h.is_.find hd hh, hn]; rfl
      have hi := (h.is_.set hn hh (uv_ok hm hvw hnx) (by rw [rcd_not.1 hk]; rfl) (by rw [hok.row0 (rcd_not.1 hk)]; rfl)).1
      refine (Undo_Change_ok h.at_ h.is_.up h.is_.slot h.lim h.cfg v hs hm hvw hh hnx hfs n hr).mono ?_
      rintro e w1 ⟨he, h1, f1⟩
      exact ⟨he, ⟨a, m, F, vs, ⟨h1, hi, h.lim, h.cfg, h.seg, h.keys⟩, rfl⟩, f1.mono fun k _ e => Or.inr (Or.inl e)⟩
    · have e : t.turn hd (v.uv false nx) = (5, t) := by
        unfold US.turn
        cases q : t.f hd with
        | none => rfl
        | some n =>
          have := hn n q
          simp only
          cases r : n.rcd with
          | true => rfl
          | false => exact absurd (rcd_not.2 r) this
      rw [e]
      refine (Undo_Change_no hvl h.lim v hs hm (hd : Int) (nx : Int) hr).mono ?_
      rintro e w1 ⟨he, f1⟩
      exact ⟨he, ⟨a, m, F, vs, ⟨h.at_.kept0 f1, h.is_, h.lim, h.cfg, h.seg, h.keys⟩, rfl⟩, f1.none⟩
theorem un_cut (h : Un G w x c vl N t) {hd : Nat} (hh : hd < 18446744073709551616) :
    Calls Tryz.prog 30 #[.pointer (some ⟨x, 0, none⟩), .int .u64 (hd : Int)] w fun e w' => e = .returned (.int .i64 ((t.cut hd).1 : Int)) ∧ Un G w' x c vl N (t.cut hd).2 ∧ Fr G w w' := by
  have hrd := un_read h hh 2
  obtain ⟨a, m, F, vs, h, rfl⟩ := h
  rcases hrd with ⟨n, hn, hk, hok, hr⟩ | ⟨hn, hr⟩
  · have e : t.cut hd = (0, t.set hd n.cutn) := by unfold US.cut UV.cutn; rw [hn]; simp only [rcd_of.1 hk, if_true]
    rw [e]
    have hfs : (aFind t.s hd).isSome = true := by rw [h.is_.find hd hh, hn]; rfl
    have hi := (h.is_.set hn hh (n := n.cutn) ⟨hok.wr, by show 0 < _; omega, hok.sg, hok.rest, hok.row0⟩ rfl rfl).1
    refine (Undo_Cut_ok h.at_ h.is_.up h.is_.slot h.lim hh hfs n hok hr).mono ?_
    rintro e w1 ⟨he, h1, f1⟩
    exact ⟨he, ⟨a, m, F, vs, ⟨h1, hi, h.lim, h.cfg, h.seg, h.keys⟩, rfl⟩, f1.mono fun k _ e => Or.inr (Or.inl e)⟩
  · have e : t.cut hd = (5, t) := by
      unfold US.cut
      cases q : t.f hd with
      | none => rfl
      | some n =>
        have := hn n q
        simp only
        cases r : n.rcd with
        | true => exact absurd (rcd_of.2 r) this
        | false => rfl
    rw [e]
    refine (Undo_Cut_no (hd : Int) hr).mono ?_
    rintro e w1 ⟨he, f1⟩
    exact ⟨he, ⟨a, m, F, vs, ⟨h.at_.kept0 f1, h.is_, h.lim, h.cfg, h.seg, h.keys⟩, rfl⟩, f1.none⟩
theorem un_free (h : Un G w x c vl N t) (hN : N < big) (hN9 : N ≤ 1000000000) {hd : Nat} (hh : hd < 18446744073709551616) :
    Calls Tryz.prog 18 #[.pointer (some ⟨x, 0, none⟩), .int .u64 (hd : Int)] w fun e w' => e = .returned (.int .i64 ((t.free hd).1 : Int)) ∧ (∃ G', Un G' w' x c vl N (t.free hd).2 ∧ Grow G G' w) ∧ Fr G w w' := by
  have hrd := un_read h hh 2
  obtain ⟨a, m, F, vs, h, rfl⟩ := h
  obtain ⟨i1, i2, i3, i4⟩ := h.is_.free hh
  rcases hrd with ⟨n, hn, hk, hok, hr⟩ | ⟨hn, hr⟩
  · refine (Undo_Free_rec h.at_ h.is_.up hN hh n hok.sg (by rw [h.seg]; have := h.is_.segl (n.sg : Int); omega) hr).mono ?_
    rintro e w1 ⟨he, vs', h1, hs, hg, f1, hl⟩
    refine ⟨by rw [i3]; exact he, ⟨_, ⟨a, m, F, vs', ⟨by rw [i4]; exact h1, i1, h.lim, h.cfg, fun k => ?_, by have := h.keys; omega⟩, rfl⟩, fun k hk => ?_⟩, f1.mono fun k _ e => Or.inr e⟩
    · rw [hs k]
      have e : (t.free hd).2.seg = t.less n hd := by unfold US.free; rw [hn]
      rw [e]
      unfold US.less notH
      rw [rcd_of.1 hk, if_pos rfl]
      unfold updU
      by_cases e : (n.sg : Int) = k
      · subst e; rw [if_pos rfl, if_pos rfl, h.seg]
      · rw [if_neg e, if_neg (fun q => e q.symm), h.seg]
    · rcases hk with q | q | q
      · exact Or.inl (Or.inl q)
      · exact Or.inl (Or.inr (Or.inl q))
      · rcases hg k q with q | q
        · exact Or.inl (Or.inr (Or.inr q))
        · exact Or.inr q
  · refine (Undo_Free_plain h.at_ h.is_.up hN hh hr).mono ?_
    rintro e w1 ⟨he, h1, f1⟩
    refine ⟨by rw [i3]; exact he, ⟨_, ⟨a, m, F, vs, ⟨by rw [i4]; exact h1, i1, h.lim, h.cfg, fun k => ?_, h.keys⟩, rfl⟩, Grow.refl _ _⟩, f1.mono fun k _ e => Or.inr (Or.inl e)⟩
    rw [h.seg k]
    unfold US.free
    cases q : t.f hd with
    | none => rfl
    | some n =>
      have := hn n q
      show _ = t.less n hd k
      unfold US.less
      cases r : n.rcd with
      | true => exact absurd (rcd_of.2 r) this
      | false => rfl
theorem un_segment (h : Un G w x c vl N t) (hN9 : N ≤ 1000000000) (k : Int) :
    Calls Tryz.prog 26 #[.pointer (some ⟨x, 0, none⟩), .int .i64 k] w fun e w' => ∃ a' cap', e = .returned (.slice a' (t.seg k).length cap') ∧ SlAt w' a' (t.seg k).length cap' 32 1 ((t.seg k).map hvN) ∧ Fr none_ w w' ∧ ∀ b, blk a' b → w.heap.size ≤ b := by
  obtain ⟨a, m, F, vs, h, rfl⟩ := h
  have := Undo_Segment_at h.at_ k (by rw [h.seg]; have := h.is_.segl k; omega)
  rw [h.seg] at this
  exact this
def popH : Option Nat → Nat
  | some h => h
  | none => 0
theorem un_pop (h : Un G w x c vl N t) (hN : N < big) (hN9 : N ≤ 1000000000) (k : Int) :
    Calls Tryz.prog 27 #[.pointer (some ⟨x, 0, none⟩), .int .i64 k] w fun e w' => e = .returned (.tuple #[.int .u64 (popH (t.pop k).1 : Int), .bool (t.pop k).1.isSome]) ∧ (∃ G', Un G' w' x c vl N (t.pop k).2 ∧ Grow G G' w) ∧ Fr G w w' := by
  have hsg := un_segment h hN9 k
  have hsegh := h.is_.segh k
  have hsl := h.is_.segl k
  unfold US.pop
  cases e : t.seg k with
  | nil =>
    rw [e] at hsg
    refine (Undo_Pop_no k (hsg.mono fun e w' q => by obtain ⟨a', cap', he, _, f, _⟩ := q; exact ⟨a', cap', he, f⟩)).mono ?_
    rintro e w1 ⟨he, f1⟩
    exact ⟨he, ⟨G, h.kept0 f1, Grow.refl _ _⟩, f1.none⟩
  | cons hd r =>
    rw [e] at hsg hsegh hsl
    simp only [List.length_cons] at hsl
    refine (Undo_Pop_yes k hd (r.length + 1) r rfl (by omega) hsg (fun w' => (∃ G', Un G' w' x c vl N (t.free hd).2 ∧ Grow G G' w) ∧ Fr G w w') G h.lt (fun w1 f1 => ?_)).mono ?_
    · refine (un_free (h.kept0 f1) hN hN9 (hsegh hd (by simp))).mono ?_
      rintro e w2 ⟨he, ⟨G', h2, g2⟩, f2⟩
      exact ⟨⟨_, he⟩, ⟨⟨G', h2, fun k hk => (g2 k hk).imp id (fun q => Nat.le_trans f1.size q)⟩, f1.none.trans f2⟩, f2⟩
    · rintro e w2 ⟨he, q⟩
      exact ⟨he, q⟩
end
end Go.Proofs.YtckkccnebjacdaaGreat
