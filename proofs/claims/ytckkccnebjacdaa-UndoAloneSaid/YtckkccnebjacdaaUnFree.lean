/-
  Package undo: Free, Segment, Pop.
-/
import Derived.Test.YtckkccnebjacdaaUnTurn
namespace Go.Proofs.Ytckkccnebjacdaa
open Go.RowKit
set_option linter.unusedVariables false
set_option linter.unusedSimpArgs false
set_option maxRecDepth 100000
theorem kvDel_put {K V : Type} [DecidableEq K] : ∀ (l : List (K × V)) (k : K) (v : V), (l.map (·.1)).Nodup → kvDel (kvPut l k v) k = kvDel l k
  | [], k, v, _ => by simp [kvPut, kvDel]
  | p :: r, k, v, hn => by
    simp only [List.map_cons, List.nodup_cons] at hn
    have ih := kvDel_put r k v hn.2
    unfold kvPut
    by_cases h : p.1 = k
    · rw [if_pos h]
      unfold kvDel
      simp [h]
    · rw [if_neg h]
      unfold kvDel at ih ⊢
      rw [List.filter_cons, List.filter_cons, ih]
section
variable {w w' : World} {x a m N vl : Nat} {F G : Nat → Prop} {vs : List (Int × SgV)} {c : CfgV} {s : AS} {t : US}
set_option maxHeartbeats 8000000 in
theorem Undo_Free_plain (hh : UnAt w x a m F vs c s) (hu : Upto N s) (hN : N < big) {hd : Nat} (hhd : hd < 18446744073709551616)
    (HR : ∀ w1, Fr none_ w w1 → Calls Try.prog 27 #[.pointer (some ⟨x, 0, none⟩), .int .u64 (hd : Int), .int .u8 2] w1 fun e w' => e = .returned (.tuple #[.agg slotZero, .bool false]) ∧ Fr none_ w1 w') :
    Calls Try.prog 13 #[.pointer (some ⟨x, 0, none⟩), .int .u64 (hd : Int)] w fun e w' => e = .returned (.int .i64 ((aFree s hd).1 : Int)) ∧ UnAt w' x a m F vs c (aFree s hd).2 ∧ Fr F w w' := by
  have fB := Fr.alloc none_ w (.cells #[.int .u64 (hd : Int)] 32)
  have rB := Row.new w #[.int .u64 (hd : Int)] 32
  have HRR := Lib.hid (HR _ fB)
  have HAF := Lib.hid (fun w' (f : Fr none_ w w') => ar_free (hh.kept0 f).ar hu hN hhd)
  have HC := Lib.hid (fun w' (f : Fr none_ w w') => (hh.kept0 f).arena)
  have HH := Lib.hid hh
  have RB := Lib.hid rB
  have FB := Lib.hid fB
  have HNB := Lib.hid (show ¬ F w.heap.size from fun e => absurd (hh.ar.lt _ e) (Nat.lt_irrefl _))
  have b0 := rB.cell 0
  unfold slotZero at HRR
  generalize (aFree s hd).2 = s1 at HAF ⊢
  generalize (aFree s hd).1 = E at HAF ⊢
  clear hh hu HR fB rB
  go_enter Try.func13, Try.ntmps13
  go_wp2_with fail
  refine HRR.out.mono ?_
  rintro e w1 ⟨rfl, f1⟩
  have fa1 := Fr.alloc none_ w1 (.cells #[.int .u8 0, .int .u8 0, .int .u64 0, .int .u64 0, .int .u64 0, .string ⟨#[]⟩] 70)
  have F2 := Lib.hid ((FB.out.trans f1).trans fa1)
  have b0' := ((RB.out.kept f1 (fun e => e)).kept fa1 (fun e => e)).cell 0
  have c8 := HC.out _ F2.out
  obtain ⟨w3, hw3⟩ : ∃ w3, w3 = w1.alloc (.cells #[.int .u8 0, .int .u8 0, .int .u64 0, .int .u64 0, .int .u64 0, .string ⟨#[]⟩] 70) := ⟨_, rfl⟩
  clear f1 fa1 b0
  go_wp2_with fail
  rw [← hw3] at F2 b0' c8 ⊢
  clear hw3
  go_region_held3 (fun w' => w'.cell? ⟨x, 8, none⟩ = some (.pointer (some ⟨a, 0, none⟩)) ∧ w'.cell? ⟨w.heap.size, 0, none⟩ = some (.int .u64 (hd : Int)))
    (first | (go_split_ands; with_reducible refine ⟨?_, ?_⟩; exact hA.arena; all_goals exact Fr.keepF f7 HNB.out (by assumption)) | (go_split_ands; with_reducible refine ⟨?_, ?_⟩; all_goals with_reducible assumption) | go_keep)
    (first | (go_at_call 35; refine (HAF.out _ (F2.out.trans (Fr.drew none_ w3))).mono ?_; rintro e w7 ⟨rfl, hAr, f7⟩; have hA := (HH.out.kept0 (F2.out.trans (Fr.drew none_ w3))).turnA hAr f7 (Grow.refl _ _)))
  clear b0' c8
  go_wp2_with fail
  go_ret
  exact ⟨rfl, hA, (F2.out.trans (Fr.drew none_ w3)).none.trans f7⟩
theorem Undo_Segment_at (hh : UnAt w x a m F vs c s) (k : Int) (hb : (segOf vs k).length ≤ 1000000000) :
    Calls Try.prog 23 #[.pointer (some ⟨x, 0, none⟩), .int .i64 k] w fun e w' => ∃ a' cap', e = .returned (.slice a' (segOf vs k).length cap') ∧ SlAt w' a' (segOf vs k).length cap' 32 1 ((segOf vs k).map hvN) ∧ Fr none_ w w' ∧ ∀ b, blk a' b → w.heap.size ≤ b := by
  have hat := hh.seg.at_ k
  have lk := hh.seg.look k
  have c9 := hh.mapc
  rw [← sgGet_l] at hb ⊢
  generalize sgGet vs k = V at hat lk hb ⊢
  have HCL := Lib.hid (clone_h w V.a V.l.length V.cap V.l (hat.1.ls1 (enc := hvN) rfl) rfl hb)
  clear hat hh
  go_enter Try.func23, Try.ntmps23
  go_wp2_with fail
  refine HCL.out.mono ?_
  rintro e w1 ⟨a', cap', rfl, h1, h2, h3, _⟩
  have HX := Lib.hid (And.intro h1 (And.intro h2 h3))
  clear h1 h2 h3
  go_wp2_with fail
  go_ret
  exact ⟨a', cap', rfl, HX.out.1, HX.out.2.1, HX.out.2.2⟩
set_option maxHeartbeats 8000000 in
theorem Undo_Free_rec (hh : UnAt w x a m F vs c s) (hu : Upto N s) (hN : N < big) {hd : Nat} (hhd : hd < 18446744073709551616) (n : UV) (hsg : n.sg < 9223372036854775808) (hb : (segOf vs (n.sg : Int)).length ≤ 1000000000)
    (HR : ∀ w1, Fr none_ w w1 → Calls Try.prog 27 #[.pointer (some ⟨x, 0, none⟩), .int .u64 (hd : Int), .int .u8 2] w1 fun e w' => e = .returned (.tuple #[.agg n.cells, .bool true]) ∧ Fr none_ w1 w') :
    Calls Try.prog 13 #[.pointer (some ⟨x, 0, none⟩), .int .u64 (hd : Int)] w fun e w' => e = .returned (.int .i64 ((aFree s hd).1 : Int)) ∧ ∃ vs', UnAt w' x a m F vs' c (aFree s hd).2 ∧ (∀ k, segOf vs' k = if (n.sg : Int) = k then notH hd (segOf vs k) else segOf vs k) ∧ (∀ k, segOwn m vs' k → segOwn m vs k ∨ w.heap.size ≤ k) ∧ Fr (fun k => F k ∨ segOwn m vs k) w w' ∧ vs'.length ≤ vs.length := by
  have fB := Fr.alloc none_ w (.cells #[.int .u64 (hd : Int)] 32)
  have rB := Row.new w #[.int .u64 (hd : Int)] 32
  have HRR := Lib.hid (HR _ fB)
  have HAF := Lib.hid (fun w' vs' (h' : UnAt w' x a m F vs' c s) => ar_free h'.ar hu hN hhd)
  have HH := Lib.hid hh
  have RB := Lib.hid rB
  have FB := Lib.hid fB
  have HNB := Lib.hid (show ∀ k, F k ∨ segOwn m vs k → k < w.heap.size from fun k e => hh.lt k (Or.inr e))
  have b0 := rB.cell 0
  have wi : IntKind.i64.wrap (n.sg : Int) = (n.sg : Int) := IntWalk.i64_in _ (by omega)
  have HBL := Lib.hid hb
  unfold UV.cells byteV at HRR
  generalize (aFree s hd).2 = s1 at HAF ⊢
  generalize (aFree s hd).1 = E at HAF ⊢
  clear hh hu HR fB rB hb
  go_enter Try.func13, Try.ntmps13
  go_wp2_with fail
  refine HRR.out.mono ?_
  rintro e w1 ⟨rfl, f1⟩
  have fa1 := Fr.alloc none_ w1 (.cells #[.int .u8 (n.kind.toNat : Int), .int .u8 (n.tb.toNat : Int), .int .u64 (n.wr : Int), .int .u64 (n.nx : Int), .int .u64 (n.sg : Int), .string n.rest] 70)
  have F2 := Lib.hid ((FB.out.trans f1).trans fa1)
  have R2 := Lib.hid ((RB.out.kept f1 (fun e => e)).kept fa1 (fun e => e))
  have U2 := Lib.hid (HH.out.kept0 F2.out)
  have c9 := U2.out.mapc
  have lk := U2.out.seg.look (n.sg : Int)
  obtain ⟨d0, d1, d2, d3, d4, d5⟩ := six_cells (Row.new w1 #[.int .u8 (n.kind.toNat : Int), .int .u8 (n.tb.toNat : Int), .int .u64 (n.wr : Int), .int .u64 (n.nx : Int), .int .u64 (n.sg : Int), .string n.rest] 70)
  obtain ⟨w3, hw3⟩ : ∃ w3, w3 = w1.alloc (.cells #[.int .u8 (n.kind.toNat : Int), .int .u8 (n.tb.toNat : Int), .int .u64 (n.wr : Int), .int .u64 (n.nx : Int), .int .u64 (n.sg : Int), .string n.rest] 70) := ⟨_, rfl⟩
  rw [← hw3] at F2 R2 U2
  have hat := U2.out.seg.at_ (n.sg : Int)
  have hlb : (sgGet vs (n.sg : Int)).l.length ≤ 1000000000 := by rw [sgGet_l]; exact HBL.out
  have HCL := Lib.hid (clone_h w3 (sgGet vs (n.sg : Int)).a (sgGet vs (n.sg : Int)).l.length (sgGet vs (n.sg : Int)).cap (sgGet vs (n.sg : Int)).l (hat.1.ls1 (enc := hvN) rfl) rfl hlb)
  have HLB := Lib.hid hlb
  have HW3 := Lib.hid hw3
  clear f1 fa1 b0 hat hlb d0 d1 d2 d3 d5 hw3
  go_wp2_with fail
  rw [← HW3.out]
  refine HCL.out.mono ?_
  rintro e w4 ⟨a4, cap4, rfl, s4, f4, b4, _⟩
  have r4 := R2.out.kept f4 (fun e => e)
  obtain ⟨n', hn'⟩ : ∃ n', n' = (notH hd (sgGet vs (n.sg : Int)).l).length := ⟨_, rfl⟩
  have hq4 : ¬ blk a4 w.heap.size := fun e => by
    have := b4 _ e
    have := R2.out.lt
    omega
  have HDE := Lib.hid (delete_h w4 a4 _ cap4 _ s4 rfl HLB.out w.heap.size hd (r4.cell 0) hq4 n' hn')
  have F4 := Lib.hid (F2.out.trans f4)
  have FW3 := Lib.hid f4
  have B4 := Lib.hid b4
  have R4 := Lib.hid r4
  have U4 := Lib.hid (U2.out.kept0 f4)
  have HN' := Lib.hid hn'
  have Q4 := Lib.hid hq4
  clear s4 f4 b4 r4 hn' hq4 c9 lk d4
  go_wp2_with fail
  refine HDE.out.mono ?_
  rintro e w5 ⟨rfl, s5, f5⟩
  have HX4 := Lib.hid (show ∀ k, F k ∨ segOwn m vs k ∨ k = x ∨ k = w.heap.size → ¬ blk a4 k from fun k hk e => by
    have hb := B4.out k e
    have hz := F2.out.size
    rcases hk with hk | hk | hk | hk
    · have := HNB.out k (Or.inl hk); omega
    · have := HNB.out k (Or.inr hk); omega
    · subst hk; have := HH.out.row.lt; omega
    · subst hk; exact Q4.out e)
  have U5 := Lib.hid (U4.out.kept f5 (HX4.out x (by simp)) (fun k hk => HX4.out k (Or.inl hk)) (fun k hk => HX4.out k (Or.inr (Or.inl hk))))
  have R5 := Lib.hid (R4.out.kept f5 (HX4.out _ (by simp)))
  have c9 := U5.out.mapc
  have S5 := Lib.hid s5
  have F35 := Lib.hid f5
  obtain ⟨w6, hup, hm6, f6⟩ := run_update_at (ev := sgEv) U5.out.seg.map Try.underlying66 int_keyU (n.sg : Int) ⟨a4, cap4, notH hd (sgGet vs (n.sg : Int)).l⟩
  have hup2 : (Instr.mapUpdate 66 (.map (some m)) (.int .i64 (n.sg : Int)) (.slice a4 n' cap4)).run Try.prog w5 = .ok () w6 := by
    have e : sgEv ⟨a4, cap4, notH hd (sgGet vs (n.sg : Int)).l⟩ = .slice a4 n' cap4 := by unfold sgEv; simp only; rw [← HN'.out]
    rw [← e]; exact hup
  have M6 := Lib.hid hm6
  have F6 := Lib.hid f6
  have c9' : w6.cell? ⟨x, 9, none⟩ = some (.map (some m)) := f6.keepF (fun e => U5.out.xS (Or.inl e)) c9
  have R6 := Lib.hid (R5.out.kept f6 (fun e => by have q : w.heap.size < w.heap.size := HNB.out _ (Or.inr (Or.inl e)); omega))
  clear s5 f5 hup hm6 f6
  have F35' := Lib.hid (FW3.out.step F35.out (fun i hi e => by have := B4.out i e; omega))
  have F35' := Lib.hid (FW3.out.step F35.out (fun i hi e => by have := B4.out i e; omega))
  have F35' := Lib.hid (FW3.out.step F35.out (fun i hi e => by have := B4.out i e; omega))
  by_cases hz : n' = 0
  · have hle : notH hd (sgGet vs (n.sg : Int)).l = [] := List.eq_nil_of_length_eq_zero (by rw [← HN'.out]; exact hz)
    have HLE := Lib.hid hle
    clear hle
    subst hz
    go_wp2_with (at_delete; refine wpDelete rfl _ _ _ _ rfl 3 33 M6.out Try.underlying66 int_keyU (n.sg : Int) rfl rfl ?_; intro w7 hm7 f7; have M7 := Lib.hid hm7; have F67 := Lib.hid f7; clear hm7 f7; refine Stop.mk ?_)
    have hm7 := M7.out
    rw [kvDel_put _ _ _ U2.out.seg.nodup] at hm7
    obtain ⟨q1, q2, q3⟩ := U2.out.seg.del hm7 ((F35'.out.none.trans F6.out).trans F67.out)
    have F7 := Lib.hid (show Fr (segOwn m vs) w3 w7 from (F35'.out.none.trans (F6.out.trans F67.out)).mono fun k _ e => Or.inl e)
    have U7 := Lib.hid (U2.out.turnS q1 F7.out (fun b hb => Or.inl (q2 b hb)))
    have R7 := Lib.hid (R6.out.kept F67.out (fun e => by have q : w.heap.size < w.heap.size := HNB.out _ (Or.inr (Or.inl e)); omega))
    have Q7 := Lib.hid (show (∀ k, segOf (kvDel vs (n.sg : Int)) k = if (n.sg : Int) = k then notH hd (segOf vs k) else segOf vs k) ∧ ∀ k, segOwn m (kvDel vs (n.sg : Int)) k → segOwn m vs k ∨ w3.heap.size ≤ k from ⟨fun k => by
      rw [q3 k]
      by_cases e : (n.sg : Int) = k
      · rw [if_pos e, if_pos e, ← e, ← sgGet_l, HLE.out]
      · rw [if_neg e, if_neg e], fun k hk => Or.inl (q2 k hk)⟩)
    have HLV := Lib.hid (show (kvDel vs (n.sg : Int)).length ≤ vs.length from List.length_filter_le _ _)
    show wpList _ _ _ _ _ _
    clear hm7 q1 q2 q3
    have hz7 := F7.out.size
    have NB7 := Lib.hid (show ¬ F w.heap.size from fun e => by have := HNB.out _ (Or.inl e); omega)
    have b0 := R7.out.cell 0
    have c8 := U7.out.arena
    go_wp2_with fail
    clear hup2 c9 c9'
    go_region_held3 (fun w' => w'.cell? ⟨x, 8, none⟩ = some (.pointer (some ⟨a, 0, none⟩)) ∧ w'.cell? ⟨w.heap.size, 0, none⟩ = some (.int .u64 (hd : Int)))
      (first | (go_split_ands; with_reducible refine ⟨?_, ?_⟩; exact hA.arena; all_goals exact Fr.keepF f8 NB7.out (by assumption)) | (go_split_ands; with_reducible refine ⟨?_, ?_⟩; all_goals with_reducible assumption) | go_keep)
      (first | (go_at_call 35; refine (HAF.out _ _ (U7.out.kept0 (Fr.drew none_ w7))).mono ?_; rintro e w8 ⟨rfl, hAr, f8⟩; have hA := (U7.out.kept0 (Fr.drew none_ w7)).turnA hAr f8 (Grow.refl _ _)))
    clear b0 c8
    go_wp2_with fail
    go_ret
    refine ⟨rfl, _, hA, Q7.out.1, fun k hk => (Q7.out.2 k hk).imp id (fun q => Nat.le_trans F2.out.size q), (F2.out.none.trans (F7.out.mono fun k _ e => Or.inr e)).trans ((Fr.drew _ w7).trans (f8.mono fun k _ e => Or.inl e)), HLV.out⟩
  · have hne : notH hd (sgGet vs (n.sg : Int)).l ≠ [] := fun e => hz (by rw [HN'.out, e]; rfl)
    obtain ⟨q1, q2, q3⟩ := U2.out.seg.put (k := (n.sg : Int)) (v := ⟨a4, cap4, notH hd (sgGet vs (n.sg : Int)).l⟩) (w1 := w5) (w2 := w6) F35'.out.none (by simp only; rw [← HN'.out]; exact S5.out) hne (fun b hb => Or.inr (B4.out b hb)) M6.out F6.out
    obtain ⟨w7, hw7⟩ : ∃ w7, w7 = w6 := ⟨_, rfl⟩
    have F7 := Lib.hid (show Fr (segOwn m vs) w3 w7 from by rw [hw7]; exact (F35'.out.none.trans F6.out).mono fun k _ e => Or.inl e)
    have U7 := Lib.hid (show UnAt w7 x a m F _ c s from by rw [hw7]; exact U2.out.turnS q1 (by rw [← hw7]; exact F7.out) q2)
    have R7 := Lib.hid (show Row w7 _ _ _ from by rw [hw7]; exact R6.out)
    have Q7 := Lib.hid (show (∀ k, segOf (kvPut vs (n.sg : Int) ⟨a4, cap4, notH hd (sgGet vs (n.sg : Int)).l⟩) k = if (n.sg : Int) = k then notH hd (segOf vs k) else segOf vs k) ∧ ∀ k, segOwn m (kvPut vs (n.sg : Int) ⟨a4, cap4, notH hd (sgGet vs (n.sg : Int)).l⟩) k → segOwn m vs k ∨ w3.heap.size ≤ k from ⟨fun k => by
      rw [q3 k]
      by_cases e : (n.sg : Int) = k
      · rw [if_pos e, if_pos e, ← e, ← sgGet_l]
      · rw [if_neg e, if_neg e], q2⟩)
    have hzp : 0 < n' := by omega
    have hzi : ¬ (n' : Int) = 0 := by omega
    have HLV := Lib.hid (show (kvPut vs (n.sg : Int) ⟨a4, cap4, notH hd (sgGet vs (n.sg : Int)).l⟩).length ≤ vs.length from by
      rw [kvPut_length]
      have hs : (kvGet vs (n.sg : Int)).isSome = true := by
        cases e : kvGet vs (n.sg : Int) with
        | some _ => rfl
        | none => exfalso; apply hne; unfold sgGet; rw [e]; rfl
      rw [if_pos hs]; exact Nat.le_refl _)
    clear hne q1 q2 q3
    subst hw7
    have hz7 := F7.out.size
    have NB7 := Lib.hid (show ¬ F w.heap.size from fun e => by have := HNB.out _ (Or.inl e); omega)
    have b0 := R7.out.cell 0
    have c8 := U7.out.arena
    go_wp2_with fail
    clear hup2 c9 c9'
    go_region_held3 (fun w' => w'.cell? ⟨x, 8, none⟩ = some (.pointer (some ⟨a, 0, none⟩)) ∧ w'.cell? ⟨w.heap.size, 0, none⟩ = some (.int .u64 (hd : Int)))
      (first | (go_split_ands; with_reducible refine ⟨?_, ?_⟩; exact hA.arena; all_goals exact Fr.keepF f8 NB7.out (by assumption)) | (go_split_ands; with_reducible refine ⟨?_, ?_⟩; all_goals with_reducible assumption) | go_keep)
      (first | (go_at_call 35; refine (HAF.out _ _ (U7.out.kept0 (Fr.drew none_ w7))).mono ?_; rintro e w8 ⟨rfl, hAr, f8⟩; have hA := (U7.out.kept0 (Fr.drew none_ w7)).turnA hAr f8 (Grow.refl _ _)))
    clear b0 c8
    go_wp2_with fail
    go_ret
    refine ⟨rfl, _, hA, Q7.out.1, fun k hk => (Q7.out.2 k hk).imp id (fun q => Nat.le_trans F2.out.size q), (F2.out.none.trans (F7.out.mono fun k _ e => Or.inr e)).trans ((Fr.drew _ w7).trans (f8.mono fun k _ e => Or.inl e)), HLV.out⟩
set_option maxHeartbeats 4000000 in
theorem Undo_Pop_no (k : Int) (HS : Calls Try.prog 23 #[.pointer (some ⟨x, 0, none⟩), .int .i64 k] w fun e w' => ∃ a' cap', e = .returned (.slice a' 0 cap') ∧ Fr none_ w w') :
    Calls Try.prog 24 #[.pointer (some ⟨x, 0, none⟩), .int .i64 k] w fun e w' => e = .returned (.tuple #[.int .u64 0, .bool false]) ∧ Fr none_ w w' := by
  have H := Lib.hid HS
  clear HS
  go_enter Try.func24, Try.ntmps24
  go_wp2_with fail
  refine H.out.mono ?_
  rintro e w1 ⟨a', cap', rfl, f1⟩
  have F1 := Lib.hid f1
  clear f1
  go_wp2_with fail
  go_ret2
  exact ⟨rfl, F1.out⟩
set_option maxHeartbeats 4000000 in
theorem Undo_Pop_yes (k : Int) (hd n : Nat) (rest : List Nat) (hn : n = rest.length + 1) (hnb : n ≤ 1000000000) (HS : Calls Try.prog 23 #[.pointer (some ⟨x, 0, none⟩), .int .i64 k] w fun e w' => ∃ a' cap', e = .returned (.slice a' n cap') ∧ SlAt w' a' n cap' 32 1 ((hd :: rest).map hvN) ∧ Fr none_ w w' ∧ ∀ b, blk a' b → w.heap.size ≤ b) (R : World → Prop) (G : Nat → Prop) (hG : ∀ b, G b → b < w.heap.size)
    (HF : ∀ w1, Fr none_ w w1 → Calls Try.prog 13 #[.pointer (some ⟨x, 0, none⟩), .int .u64 (hd : Int)] w1 fun e w' => (∃ q : Int, e = .returned (.int .i64 q)) ∧ R w' ∧ Fr G w1 w') :
    Calls Try.prog 24 #[.pointer (some ⟨x, 0, none⟩), .int .i64 k] w fun e w' => e = .returned (.tuple #[.int .u64 (hd : Int), .bool true]) ∧ R w' := by
  have H := Lib.hid HS
  have HFF := Lib.hid HF
  have HN := Lib.hid hn
  have HGG := Lib.hid hG
  have hn0 : ¬ (n : Int) = 0 := by omega
  have hn1 : (0 : Int) < (n : Int) := by omega
  have hnp : 0 < n := by omega
  clear HS HF hn hG
  go_enter Try.func24, Try.ntmps24
  go_wp2_with fail
  refine H.out.mono ?_
  rintro e w1 ⟨a', cap', rfl, s1, f1, hb⟩
  obtain ⟨g, rfl⟩ := s1.isAddr hnp
  have k0 : w1.cell? ⟨g, 0, none⟩ = some (.int .u64 (hd : Int)) := s1.cell (i := 0) (v := hvN hd) rfl
  have hgG : ¬ G g := fun e => by have := HGG.out g e; have := hb g ((blk_some _ _ _).2 rfl); omega
  have P1 := Lib.hid (HFF.out w1 f1)
  clear s1 f1 hb
  go_wp2_with fail
  refine P1.out.mono ?_
  rintro e w2 ⟨⟨q, rfl⟩, hr, f2⟩
  have k2 : w2.cell? ⟨g, 0, none⟩ = some (.int .u64 (hd : Int)) := f2.keepF hgG k0
  have HR := Lib.hid hr
  clear hr f2 k0
  go_wp2_with fail
  go_ret2
  exact ⟨rfl, HR.out⟩
end
end Go.Proofs.Ytckkccnebjacdaa
