/-
  PagePlays: a step by the page and by the reference's: the same comes of both.
-/
import Derived.Test.YtdbnopfpopeefaaRp8
namespace Go.Proofs.Ytdbnopfpopeefaa
open Go.RowKit
set_option linter.unusedVariables false
set_option linter.unusedSimpArgs false
set_option maxRecDepth 100000

section
variable {w w' : World} {p m x : Nat} {Z : Nat → Prop} {s : PS}
theorem alloc_isZ (h : PageIs w p m s) {A E : Int} (hA : ((allocR s).1 : Int) = A) (hE : ((allocR s).2.1 : Int) = E) : Calls Try.prog 14 #[.pointer (some ⟨p, 0, none⟩)] w fun e w' => e = .returned (.tuple #[.int .u16 A, .int .i64 E]) ∧ PageIs w' p m (allocR s).2.2 ∧ Fr (two p m) w w' := by
  subst hA; subst hE; exact alloc_any h
theorem free_isZ (h : PageIs w p m s) (off : Nat) {E : Int} (hE : ((freeR s off).1 : Int) = E) : Calls Try.prog 15 #[.pointer (some ⟨p, 0, none⟩), .int .u16 (off : Int)] w fun e w' => e = .returned (.int .i64 E) ∧ PageIs w' p m (freeR s off).2 ∧ Fr (two p m) w w' := by
  subst hE; exact free_any h off
theorem write_isZ (h : PageIs w p m s) (off : Nat) (b : ByteArray) {E : Int} (hE : ((writeR s off b).1 : Int) = E) : Calls Try.prog 16 #[.pointer (some ⟨p, 0, none⟩), .int .u16 (off : Int), .string b] w fun e w' => e = .returned (.int .i64 E) ∧ PageIs w' p m (writeR s off b).2 ∧ Fr (two p m) w w' := by
  subst hE; exact write_any h off b
theorem read_isZ (h : PageIs w p m s) (off : Nat) {T : ByteArray} {E : Int} (hT : strOf (readR s off).1 = T) (hE : ((readR s off).2 : Int) = E) : Calls Try.prog 12 #[.pointer (some ⟨p, 0, none⟩), .int .u16 (off : Int)] w fun e w' => e = .returned (.tuple #[.string T, .int .i64 E]) ∧ Fr none_ w w' := by
  subst hT; subst hE; exact read_any h off
set_option maxHeartbeats 8000000 in
theorem do_both (h : PX w p m x Z s) (hw : s.WF) (y : StepV) (hy : y.Ok) :
    Calls Try.prog 26 #[.agg #[.int .u8 y.kind, .int .u16 y.slot, .int .u16 y.off, .string y.s], .pointer (some ⟨p, 0, none⟩), .pointer (some ⟨x, 0, none⟩), .int .i64 (s.slot : Int)] w fun e w' => e = .returned (.bool true) ∧ PX w' p m x Z (doR s.slot y s) ∧ Fr (TF p m Z) w w' := by
  obtain ⟨Z', hZ'⟩ : ∃ Z' : Nat → Prop, Z' = fun k => Z k ∨ k = w.heap.size := ⟨_, rfl⟩
  have hZB : Z' w.heap.size := by rw [hZ']; exact Or.inr rfl
  have hZw : ∀ k, Z k → Z' k := fun k hk => by rw [hZ']; exact Or.inl hk
  have hTF : ∀ k, TF p m Z' k → TF p m Z k := fun k e => by
    rcases e with e | e
    · exact Or.inl e
    · exact Or.inr (fun q => e (hZw k q))
  have fB := Fr.alloc none_ w (.cells #[.int .u8 (y.kind : Int), .int .u16 (y.slot : Int), .int .u16 (y.off : Int), .string y.s] 25)
  have hq1 : PXt (w.alloc (.cells #[.int .u8 (y.kind : Int), .int .u16 (y.slot : Int), .int .u16 (y.off : Int), .string y.s] 25)) p m x Z' s s := by
    have q := h.t.skip fB
    refine ⟨q.page, (h.ref.more (Y := Z') (fun k hk => ?_)).kept0 fB, hZw p h.zp, hZw m h.zm, fun k hk => ?_⟩
    · rw [hZ'] at hk
      rcases hk with e | e
      · exact Or.inl e
      · right; omega
    · rw [hZ'] at hk
      have : (w.alloc (.cells #[.int .u8 (y.kind : Int), .int .u16 (y.slot : Int), .int .u16 (y.off : Int), .string y.s] 25)).heap.size = w.heap.size + 1 := by simp
      rcases hk with e | e
      · have := h.lt k e; omega
      · omega
  have hpB : p ≠ w.heap.size ∧ m ≠ w.heap.size := by have := h.lt p h.zp; have := h.lt m h.zm; omega
  have hend : ∀ w', PXt w' p m x Z' (doR s.slot y s) (doR s.slot y s) → Fr (TF p m Z') w w' → PX w' p m x Z (doR s.slot y s) ∧ Fr (TF p m Z) w w' := fun w' q f => ⟨⟨q.page, q.ref.weak hZw, h.zp, h.zm, fun k hk => q.lt k (hZw k hk)⟩, f.mono fun k _ e => hTF k e⟩
  have HE := Lib.hid hend
  have hO := y.offset_lt s.slot
  have GO := Lib.hid (fun w1 => off_any w1 y hy s.slot hw.hi (.int .u8 (y.kind : Int)) (.string y.s))
  obtain ⟨O, hOe⟩ : ∃ O, O = y.offset s.slot := ⟨_, rfl⟩
  rw [← hOe] at hO GO
  unfold v16 at GO
  have HTFB := Lib.hid (show ¬ TF p m Z' w.heap.size from fun e => by
    rcases e with e | e
    · rcases e with e | e
      · exact hpB.1 e.symm
      · exact hpB.2 e.symm
    · exact e hZB)
  have FB := Lib.hid fB
  have hcS : (w.alloc (.cells #[.int .u8 (y.kind : Int), .int .u16 (y.slot : Int), .int .u16 (y.off : Int), .string y.s] 25)).cell? ⟨w.heap.size, 3, none⟩ = some (.string y.s) := by simp
  have hcK : (w.alloc (.cells #[.int .u8 (y.kind : Int), .int .u16 (y.slot : Int), .int .u16 (y.off : Int), .string y.s] 25)).cell? ⟨w.heap.size, 0, none⟩ = some (.int .u8 (y.kind : Int)) := by simp
  clear fB hend hZ' hTF hZB hZw hpB h
  by_cases k0 : y.kind = 0
  · have hd : doR s.slot y s = (allocR s).2.2 := by unfold doR; rw [if_pos k0]
    rw [hd] at HE ⊢
    obtain ⟨A, hA⟩ : ∃ A : Int, ((allocR s).1 : Int) = A := ⟨_, rfl⟩
    obtain ⟨E, hE⟩ : ∃ E : Int, ((allocR s).2.1 : Int) = E := ⟨_, rfl⟩
    have GP := Lib.hid (fun wq sx (h : PXt wq p m x Z' s sx) => (show Calls Try.prog 14 #[.pointer (some ⟨p, 0, none⟩)] wq fun e w' => e = .returned (.tuple #[.int .u16 A, .int .i64 E]) ∧ PXt w' p m x Z' (allocR s).2.2 sx ∧ Fr (TF p m Z') wq w' from (alloc_isZ h.page hA hE).mono fun e w' q => ⟨q.1, h.turnP q.2.1 q.2.2, q.2.2.mono fun k _ e => Or.inl e⟩))
    have GX := Lib.hid (fun wq sp (h : PXt wq p m x Z' sp s) => (show Calls Try.prog 36 #[.pointer (some ⟨x, 0, none⟩)] wq fun e w' => e = .returned (.tuple #[.int .u16 A, .int .i64 E]) ∧ PXt w' p m x Z' sp (allocR s).2.2 ∧ Fr (TF p m Z') wq w' from (rx_alloc h.ref hw h.lt hA hE).mono fun e w' q => ⟨q.1, h.turnX q.2.1 q.2.2, q.2.2.mono fun k _ e => Or.inr e⟩))
    generalize (allocR s).2.2 = s1 at GP GX HE ⊢
    have b0 : ((y.kind : Int) == 0) = true := by rw [beq_iff_eq]; omega
    have hAA : (A == A) = true := beq_self_eq_true _
    have hEE : (E == E) = true := beq_self_eq_true _
    clear hA hE hd k0 hOe hcS
    go_enter Try.func26, Try.ntmps26
    go_wp2_with fail
    refine (GO.out _).mono ?_
    rintro e w2 ⟨rfl, f2⟩
    have hq2 := hq1.skip f2
    have ck := Fr.keep f2 hcK
    clear hcK hq1
    go_wp2_with fail
    refine (GP.out _ _ hq2).mono ?_
    rintro e w3 ⟨rfl, hq3, f3⟩
    go_wp2_with fail
    refine (GX.out _ _ hq3).mono ?_
    rintro e w4 ⟨rfl, hq4, f4⟩
    go_wp2_with fail
    go_ret
    exact ⟨rfl, HE.out _ hq4 (((FB.out.trans f2).none.trans f3).trans f4)⟩
  by_cases k1 : y.kind = 1
  · have hd : doR s.slot y s = (freeR s O).2 := by unfold doR; rw [if_neg k0, if_pos k1, hOe]
    rw [hd] at HE ⊢
    obtain ⟨E, hE⟩ : ∃ E : Int, ((freeR s O).1 : Int) = E := ⟨_, rfl⟩
    have GP := Lib.hid (fun wq sx (h : PXt wq p m x Z' s sx) => (show Calls Try.prog 15 #[.pointer (some ⟨p, 0, none⟩), .int .u16 (O : Int)] wq fun e w' => e = .returned (.int .i64 E) ∧ PXt w' p m x Z' (freeR s O).2 sx ∧ Fr (TF p m Z') wq w' from (free_isZ h.page O hE).mono fun e w' q => ⟨q.1, h.turnP q.2.1 q.2.2, q.2.2.mono fun k _ e => Or.inl e⟩))
    have GX := Lib.hid (fun wq sp (h : PXt wq p m x Z' sp s) => (show Calls Try.prog 37 #[.pointer (some ⟨x, 0, none⟩), .int .u16 (O : Int)] wq fun e w' => e = .returned (.int .i64 E) ∧ PXt w' p m x Z' sp (freeR s O).2 ∧ Fr (TF p m Z') wq w' from (rx_free h.ref hw h.lt O hO hE).mono fun e w' q => ⟨q.1, h.turnX q.2.1 q.2.2, q.2.2.mono fun k _ e => Or.inr e⟩))
    generalize (freeR s O).2 = s1 at GP GX HE ⊢
    have b0 : ((y.kind : Int) == 0) = false := beq_eq_false_iff_ne.2 (by omega)
    have b1 : ((y.kind : Int) == 1) = true := by rw [beq_iff_eq]; omega
    have hEE : (E == E) = true := beq_self_eq_true _
    clear hE hd k0 k1 hOe hcS
    go_enter Try.func26, Try.ntmps26
    go_wp2_with fail
    refine (GO.out _).mono ?_
    rintro e w2 ⟨rfl, f2⟩
    have hq2 := hq1.skip f2
    have ck := Fr.keep f2 hcK
    clear hcK hq1
    go_wp2_with fail
    refine (GP.out _ _ hq2).mono ?_
    rintro e w3 ⟨rfl, hq3, f3⟩
    go_wp2_with fail
    refine (GX.out _ _ hq3).mono ?_
    rintro e w4 ⟨rfl, hq4, f4⟩
    go_wp2_with fail
    go_ret
    exact ⟨rfl, HE.out _ hq4 (((FB.out.trans f2).none.trans f3).trans f4)⟩
  by_cases k2 : y.kind = 2
  · have hd : doR s.slot y s = (writeR s O y.s).2 := by unfold doR; rw [if_neg k0, if_neg k1, if_pos k2, hOe]
    rw [hd] at HE ⊢
    obtain ⟨E, hE⟩ : ∃ E : Int, ((writeR s O y.s).1 : Int) = E := ⟨_, rfl⟩
    have GP := Lib.hid (fun wq sx (h : PXt wq p m x Z' s sx) => (show Calls Try.prog 16 #[.pointer (some ⟨p, 0, none⟩), .int .u16 (O : Int), .string y.s] wq fun e w' => e = .returned (.int .i64 E) ∧ PXt w' p m x Z' (writeR s O y.s).2 sx ∧ Fr (TF p m Z') wq w' from (write_isZ h.page O y.s hE).mono fun e w' q => ⟨q.1, h.turnP q.2.1 q.2.2, q.2.2.mono fun k _ e => Or.inl e⟩))
    have GX := Lib.hid (fun wq sp (h : PXt wq p m x Z' sp s) => (show Calls Try.prog 38 #[.pointer (some ⟨x, 0, none⟩), .int .u16 (O : Int), .string y.s] wq fun e w' => e = .returned (.int .i64 E) ∧ PXt w' p m x Z' sp (writeR s O y.s).2 ∧ Fr (TF p m Z') wq w' from (rx_write h.ref hw h.lt O hO y.s hE).mono fun e w' q => ⟨q.1, h.turnX q.2.1 q.2.2, q.2.2.mono fun k _ e => Or.inr e⟩))
    generalize (writeR s O y.s).2 = s1 at GP GX HE ⊢
    have b0 : ((y.kind : Int) == 0) = false := beq_eq_false_iff_ne.2 (by omega)
    have b1 : ((y.kind : Int) == 1) = false := beq_eq_false_iff_ne.2 (by omega)
    have b2 : ((y.kind : Int) == 2) = true := by rw [beq_iff_eq]; omega
    have hEE : (E == E) = true := beq_self_eq_true _
    clear hE hd k0 k1 k2 hOe
    go_enter Try.func26, Try.ntmps26
    go_wp2_with fail
    refine (GO.out _).mono ?_
    rintro e w2 ⟨rfl, f2⟩
    have hq2 := hq1.skip f2
    have ck := Fr.keep f2 hcK
    have cs := Fr.keep f2 hcS
    clear hcK hq1 hcS
    go_wp2_with fail
    go_region_held3 (fun w' => Fr (TF p m Z') w2 w' ∧ w'.cell? ⟨w.heap.size, 3, none⟩ = some (.string y.s))
      (first | (go_split_ands; refine ⟨?_, ?_⟩; exact Fr.trans (by assumption) f7; exact Fr.keepF f7 HTFB.out (by assumption)) | (go_split_ands; refine ⟨?_, ?_⟩; exact Fr.trans (by assumption) f6; exact Fr.keepF f6 HTFB.out (by assumption)) | (exact ⟨Fr.drew _ _, cs⟩))
      (first | (go_at_call 16; refine (GP.out _ _ hq7).mono ?_; rintro e w6 ⟨rfl, hq6, f6⟩) | (go_at_call 16; refine (GP.out _ _ (hq2.skip (Fr.drew _ _))).mono ?_; rintro e w6 ⟨rfl, hq6, f6⟩) | (go_at_call 38; refine (GX.out _ _ hq6).mono ?_; rintro e w7 ⟨rfl, hq7, f7⟩) | (go_at_call 38; refine (GX.out _ _ (hq2.skip (Fr.drew _ _))).mono ?_; rintro e w7 ⟨rfl, hq7, f7⟩))
    all_goals
      rename_i hh
      obtain ⟨hF, _⟩ := hh
      go_wp2_with fail
      go_ret
      first | exact ⟨rfl, HE.out _ hq7 ((FB.out.trans f2).none.trans hF)⟩ | exact ⟨rfl, HE.out _ hq6 ((FB.out.trans f2).none.trans hF)⟩
  · have hd : doR s.slot y s = s := by unfold doR; rw [if_neg k0, if_neg k1, if_neg k2]
    rw [hd] at HE ⊢
    obtain ⟨T, hT⟩ : ∃ T, strOf (readR s O).1 = T := ⟨_, rfl⟩
    obtain ⟨E, hE⟩ : ∃ E : Int, ((readR s O).2 : Int) = E := ⟨_, rfl⟩
    have GP := Lib.hid (fun wq (h : PXt wq p m x Z' s s) => read_isZ h.page O hT hE)
    have GX := Lib.hid (fun wq (h : PXt wq p m x Z' s s) => r0_read h.ref.r0 hw O hO hT hE)
    have b0 : ((y.kind : Int) == 0) = false := beq_eq_false_iff_ne.2 (by omega)
    have b1 : ((y.kind : Int) == 1) = false := beq_eq_false_iff_ne.2 (by omega)
    have b2 : ((y.kind : Int) == 2) = false := beq_eq_false_iff_ne.2 (by omega)
    have hEE : (E == E) = true := beq_self_eq_true _
    clear hE hT hd k0 k1 k2 hOe hcS
    go_enter Try.func26, Try.ntmps26
    go_wp2_with fail
    refine (GO.out _).mono ?_
    rintro e w2 ⟨rfl, f2⟩
    have hq2 := hq1.skip f2
    have ck := Fr.keep f2 hcK
    clear hcK hq1
    go_wp2_with fail
    refine (GP.out _ hq2).mono ?_
    rintro e w3 ⟨rfl, f3⟩
    have hq3 := hq2.skip f3
    go_wp2_with fail
    refine (GX.out _ hq3).mono ?_
    rintro e w4 ⟨rfl, rfl⟩
    go_wp2_with ((with_reducible refine at_slot 79 ?_); refine wpEqlStr rfl _ _ _ _ rfl T T rfl rfl ?_)
    go_ret
    exact ⟨rfl, HE.out _ hq3 ((FB.out.trans f2).trans f3).none⟩
end
end Go.Proofs.Ytdbnopfpopeefaa
