/-
  Package chain's statements: a step: what it names ('handle'), what it does ('do'); 'long'; steps that came in.
  Package chain's statements: a step's doing ('do').
  Package chain's statements: steps, as they came in; 'long'.
  Package chain's statements: a run of steps (of states alone); a step in a bag.
-/
import Derived.Test.YteefcfndlggajaaCnBuild
import Derived.Test.YteefcfndlggajaaCnArgs
import Derived.Deep.RegionHeld3
import Derived.Deep.DeepCutAuto
import Derived.Test.YteefcfndlggajaaCnAwake
import Derived.Test.YteefcfndlggajaaAppendS
namespace Go.Proofs.Yteefcfndlggajaa
open Go.ChangeShapes Go.WideShapes Go.ChangeAt Go.RowKit Go.Deep Go.Joins
set_option linter.unusedVariables false
set_option linter.unusedSimpArgs false
set_option maxRecDepth 100000

structure StepC where
  kind : Nat
  h : Int
  nx : Int
  any : Nat
  v : VerV
  ts : Int
def StepC.list (s : StepC) : List Value := [.int .u8 (s.kind : Int), .int .i64 s.h, .int .i64 s.nx, .int .u64 (s.any : Int), .int .i64 s.v.wr, .int .i64 s.v.ts, .bool s.v.tomb, .string s.v.val, .int .i64 s.ts]
structure StepC.In (s : StepC) : Prop where
  kind : s.kind < 256
  h : s.h < 9223372036854775808
  nx : s.nx < 9223372036854775808
  any : s.any < 18446744073709551616
  v : s.v.In
def StepC.named (s : StepC) (n : Int) (told : List Nat) : Nat := if n < 0 then s.any else if n = 0 ∨ told.length = 0 then 0 else (told[(n - 1).toNat % told.length]?).getD 0
noncomputable def StepC.does (s : StepC) (lim : Nat) (told : List Nat) (t : CS) : Nat × Nat × CS :=
  if s.kind = 0 then t.put lim s.v (s.named s.nx told)
  else if s.kind = 1 then (0, (t.change lim (s.named s.h told) s.v).1, (t.change lim (s.named s.h told) s.v).2)
  else if s.kind = 2 then (0, (t.stamp (s.named s.h told) s.ts).1, (t.stamp (s.named s.h told) s.ts).2)
  else if s.kind = 3 then (0, (t.cut (s.named s.h told)).1, (t.cut (s.named s.h told)).2)
  else (0, (t.free (s.named s.h told)).1, (t.free (s.named s.h told)).2)
def allLt (told : List Nat) : Prop := ∀ y ∈ told, y < 18446744073709551616
theorem StepC.named_lt {s : StepC} (hs : s.In) (n : Int) {told : List Nat} (ht : allLt told) : s.named n told < 18446744073709551616 := by
  unfold StepC.named
  split
  · exact hs.any
  · split
    · omega
    · cases e : told[(n - 1).toNat % told.length]? with
      | none => show (0 : Nat) < _; omega
      | some y => exact ht y (List.mem_of_getElem? e)
set_option maxHeartbeats 4000000 in
theorem handle_any (w : World) (s : StepC) (n : Int) (hn : n < 9223372036854775808) (a : Option Addr) (cap : Nat) (told : List Nat) (hsl : SlAt w a told.length cap 34 1 (told.map hvU)) (hlen : told.length ≤ 1000000) :
    Calls Try.prog 53 #[.agg s.list.toArray, .int .i64 n, .slice a told.length cap] w fun e w' => e = .returned (.int .u64 (s.named n told : Int)) ∧ Fr none_ w w' := by
  have FB := Lib.hid (Fr.alloc none_ w (.cells s.list.toArray 64))
  unfold StepC.list at FB ⊢
  by_cases h1 : n < 0
  · have HE := Lib.hid (show s.named n told = s.any by unfold StepC.named; rw [if_pos h1])
    clear hsl
    go_enter Try.func53, Try.ntmps53
    go_wp2_with fail
    go_ret
    exact ⟨by rw [HE.out]; rfl, FB.out⟩
  by_cases h2 : n = 0
  · subst h2
    have HE := Lib.hid (show s.named 0 told = 0 by unfold StepC.named; rw [if_neg (by omega), if_pos (Or.inl rfl)])
    clear hsl
    go_enter Try.func53, Try.ntmps53
    go_wp2_with fail
    go_ret
    exact ⟨by rw [HE.out]; rfl, FB.out⟩
  obtain ⟨m, hm⟩ : ∃ m : Nat, n = (m : Int) + 1 := ⟨(n - 1).toNat, by omega⟩
  have hne : (((m : Int) + 1) == 0) = false := beq_eq_false_iff_ne.2 (by omega)
  subst hm
  by_cases h3 : told.length = 0
  · have HE := Lib.hid (show s.named ((m : Int) + 1) told = 0 by unfold StepC.named; rw [if_neg (by omega), if_pos (Or.inr h3)])
    have h3' : ((told.length : Int) == 0) = true := by rw [h3]; rfl
    clear hsl h3
    go_enter Try.func53, Try.ntmps53
    go_wp2_with fail
    go_ret
    exact ⟨by rw [HE.out]; rfl, FB.out⟩
  · obtain ⟨g, rfl⟩ := hsl.isAddr (by omega)
    have hlt : m % told.length < told.length := Nat.mod_lt _ (by omega)
    have hy := List.getElem?_eq_getElem hlt
    generalize told[m % told.length]'hlt = y at hy
    have HE := Lib.hid (show s.named ((m : Int) + 1) told = y by
      unfold StepC.named
      rw [if_neg (by omega), if_neg (by omega), show ((m : Int) + 1 - 1).toNat = m by omega, hy]; rfl)
    have h3' : ((told.length : Int) == 0) = false := beq_eq_false_iff_ne.2 (by omega)
    have s0 : (w.alloc (.cells s.list.toArray 64)).cell? ⟨g, m % told.length, none⟩ = some (.int .u64 (y : Int)) := (hsl.kept0 (Fr.alloc none_ w _)).cell (i := m % told.length) (v := hvU y) (by rw [List.getElem?_map, hy]; rfl)
    unfold StepC.list at s0
    have hpos : (0 : Int) < (told.length : Int) := by omega
    have wm : IntKind.i64.wrap ((m : Int) + 1 - 1) = (m : Int) := by rw [show (m : Int) + 1 - 1 = (m : Int) by omega]; exact IntWalk.i64_in _ (by omega)
    clear hsl hy h3
    go_enter Try.func53, Try.ntmps53
    go_wp2_with fail
    go_ret
    exact ⟨by rw [HE.out]; rfl, FB.out⟩
end Go.Proofs.Yteefcfndlggajaa
namespace Go.Proofs.Yteefcfndlggajaa
open Go.ChangeShapes Go.WideShapes Go.ChangeAt Go.RowKit Go.Deep Go.Joins
set_option linter.unusedVariables false
set_option linter.unusedSimpArgs false
set_option maxRecDepth 100000

theorem StepC.does0 {s : StepC} (h : s.kind = 0) (lim : Nat) (told : List Nat) (t : CS) : s.does lim told t = t.put lim s.v (s.named s.nx told) := by unfold StepC.does; rw [if_pos h]
theorem StepC.does1 {s : StepC} (h : s.kind = 1) (lim : Nat) (told : List Nat) (t : CS) : s.does lim told t = (0, (t.change lim (s.named s.h told) s.v).1, (t.change lim (s.named s.h told) s.v).2) := by unfold StepC.does; rw [if_neg (by omega), if_pos h]
theorem StepC.does2 {s : StepC} (h : s.kind = 2) (lim : Nat) (told : List Nat) (t : CS) : s.does lim told t = (0, (t.stamp (s.named s.h told) s.ts).1, (t.stamp (s.named s.h told) s.ts).2) := by unfold StepC.does; rw [if_neg (by omega), if_neg (by omega), if_pos h]
theorem StepC.does3 {s : StepC} (h : s.kind = 3) (lim : Nat) (told : List Nat) (t : CS) : s.does lim told t = (0, (t.cut (s.named s.h told)).1, (t.cut (s.named s.h told)).2) := by unfold StepC.does; rw [if_neg (by omega), if_neg (by omega), if_neg (by omega), if_pos h]
theorem StepC.does4 {s : StepC} (h : 4 ≤ s.kind) (lim : Nat) (told : List Nat) (t : CS) : s.does lim told t = (0, (t.free (s.named s.h told)).1, (t.free (s.named s.h told)).2) := by unfold StepC.does; rw [if_neg (by omega), if_neg (by omega), if_neg (by omega), if_neg (by omega)]
def DoPost (F : Nat → Prop) (w : World) (x : Nat) (c : CfgV) (lim N : Nat) (r : Nat × Nat × CS) (e : Ending) (w' : World) : Prop :=
  e = .returned (.tuple #[.int .u64 (r.1 : Int), .int .i64 (r.2.1 : Int)]) ∧ ∃ F', Cn F' w' x c lim (N + 1) r.2.2 ∧ Fr F w w' ∧ Grow F F' w
set_option maxHeartbeats 8000000 in
theorem do_any {F : Nat → Prop} {w : World} {x : Nat} {c : CfgV} {lim N : Nat} {t : CS} (h : Cn F w x c lim N t) (hN : N < big) (s : StepC) (hs : s.In) (hsz : s.v.val.size ≤ maxLen) (a : Option Addr) (cap : Nat) (told : List Nat) (hsl : SlAt w a told.length cap 34 1 (told.map hvU)) (hlen : told.length ≤ 1000000) (ht : allLt told) :
    Calls Try.prog 28 #[.agg s.list.toArray, .pointer (some ⟨x, 0, none⟩), .slice a told.length cap] w (DoPost F w x c lim N (s.does lim told t)) := by
  have FB := Lib.hid (Fr.alloc none_ w (.cells s.list.toArray 64))
  have HNB := Lib.hid (show ¬ F w.heap.size from fun e => absurd (h.lt _ e) (Nat.lt_irrefl _))
  have HC := Lib.hid (fun w' (f : Fr none_ w w') => h.kept0 f)
  have HH := Lib.hid (fun w' (f : Fr none_ w w') n hn => handle_any w' s n hn a cap told (hsl.kept0 f) hlen)
  have HB := Lib.hid (fun w' (f : Fr none_ (w.alloc (.cells s.list.toArray 64)) w') (i : Nat) (u : Value) (hu : s.list[i]? = some u) => show w'.cell? ⟨w.heap.size, i, none⟩ = some u from
    (((Row.new w s.list.toArray 64).kept f (fun e => e)).cell i).trans (by simpa using hu))
  have HIN := Lib.hid hs
  have HNM := Lib.hid (fun n => s.named_lt hs n ht)
  have HSZ := Lib.hid hsz
  have HDONE := Lib.hid (fun (r : Nat × Nat × CS) w1 w' (f : Fr none_ w w1) (F' : Nat → Prop) (h1 : Cn F' w' x c lim (N + 1) r.2.2) (f2 : Fr F w1 w') (g : Grow F F' w1) => show DoPost F w x c lim N r (.returned (.tuple #[.int .u64 (r.1 : Int), .int .i64 (r.2.1 : Int)])) w' from
    ⟨rfl, F', h1, f.none.trans f2, fun k hk => (g k hk).imp id (fun q => Nat.le_trans f.size q)⟩)
  have HS := Lib.hid hN
  obtain ⟨r, hr⟩ : ∃ r, r = s.does lim told t := ⟨_, rfl⟩
  rw [← hr]
  have hh1 := HH.out _ FB.out s.h hs.h
  have b0 := HB.out _ (Fr.refl none_ _) 0 _ rfl
  have b1 := HB.out _ (Fr.refl none_ _) 1 _ rfl
  have b2 := HB.out _ (Fr.refl none_ _) 2 _ rfl
  have b3 := HB.out _ (Fr.refl none_ _) 3 _ rfl
  have b4 := HB.out _ (Fr.refl none_ _) 4 _ rfl
  have b5 := HB.out _ (Fr.refl none_ _) 5 _ rfl
  have b6 := HB.out _ (Fr.refl none_ _) 6 _ rfl
  have b7 := HB.out _ (Fr.refl none_ _) 7 _ rfl
  have b8 := HB.out _ (Fr.refl none_ _) 8 _ rfl
  clear h hs hsz hsl hlen ht hN
  unfold StepC.list at hh1 FB HB HH b0 b1 b2 b3 b4 b5 b6 b7 b8 ⊢
  have HH1 := Lib.hid hh1
  clear hh1
  go_enter Try.func28, Try.ntmps28
  go_wp2_with fail
  refine HH1.out.mono ?_
  rintro e w1 ⟨rfl, f1⟩
  have F01 := Lib.hid f1
  have F1 := Lib.hid (FB.out.trans f1)
  clear f1 b0 b1 b2 b3 b4 b5 b6 b7 b8
  have b0 := HB.out _ F01.out 0 _ rfl
  have b1 := HB.out _ F01.out 1 _ rfl
  have b2 := HB.out _ F01.out 2 _ rfl
  have b3 := HB.out _ F01.out 3 _ rfl
  have b4 := HB.out _ F01.out 4 _ rfl
  have b5 := HB.out _ F01.out 5 _ rfl
  have b6 := HB.out _ F01.out 6 _ rfl
  have b7 := HB.out _ F01.out 7 _ rfl
  have b8 := HB.out _ F01.out 8 _ rfl
  rcases (show s.kind = 0 ∨ s.kind = 1 ∨ s.kind = 2 ∨ s.kind = 3 ∨ 4 ≤ s.kind by omega) with hk | hk | hk | hk | hk
  · have HR := Lib.hid (show r = t.put lim s.v (s.named s.nx told) from hr.trans (StepC.does0 hk lim told t))
    have hk0 : ((s.kind : Int) == 0) = true := by rw [hk]; rfl
    have HP := Lib.hid (fun w' (f : Fr none_ w w') => cn_put (HC.out w' f) HS.out s.v HSZ.out HIN.out.v.wr (HNM.out s.nx))
    unfold VerV.cells at HP
    have HPP := Lib.hid (fun w' (f : Fr none_ w1 w') => HP.out w' (F1.out.trans f))
    have HH2 := Lib.hid (fun w' (f : Fr none_ w1 w') => HH.out w' (F1.out.trans f) s.nx HIN.out.nx)
    have fS : Fr F w1 w1 := Fr.refl _ _
    rw [← HR.out] at HPP
    clear hk hr HP
    go_upto_region 4 with fail
    go_region_held3 (fun w' => Fr F w1 w' ∧ w'.cell? ⟨w.heap.size, 0, none⟩ = some (.int .u8 (s.kind : Int)) ∧ w'.cell? ⟨w.heap.size, 1, none⟩ = some (.int .i64 s.h) ∧ w'.cell? ⟨w.heap.size, 2, none⟩ = some (.int .i64 s.nx) ∧ w'.cell? ⟨w.heap.size, 3, none⟩ = some (.int .u64 (s.any : Int)) ∧ w'.cell? ⟨w.heap.size, 4, none⟩ = some (.int .i64 s.v.wr) ∧ w'.cell? ⟨w.heap.size, 5, none⟩ = some (.int .i64 s.v.ts) ∧ w'.cell? ⟨w.heap.size, 6, none⟩ = some (.bool s.v.tomb) ∧ w'.cell? ⟨w.heap.size, 7, none⟩ = some (.string s.v.val) ∧ w'.cell? ⟨w.heap.size, 8, none⟩ = some (.int .i64 s.ts))
      (first | (go_split_ands; refine ⟨?_, ?_, ?_, ?_, ?_, ?_, ?_, ?_, ?_, ?_⟩; exact Fr.trans (by assumption) f6; all_goals exact Fr.keepF f6 HNB.out (by assumption)) | (go_split_ands; refine ⟨?_, ?_, ?_, ?_, ?_, ?_, ?_, ?_, ?_, ?_⟩; exact Fr.trans (by assumption) f5.none; all_goals exact Fr.keep f5 (by assumption)) | (go_split_ands; refine ⟨?_, ?_, ?_, ?_, ?_, ?_, ?_, ?_, ?_, ?_⟩; exact Fr.trans (by assumption) (Fr.drew _ _); all_goals assumption) | go_keep)
      (first
        | (go_at_call 53; refine (HH2.out _ (Fr.drew none_ w1)).mono ?_; rintro e w5 ⟨rfl, f5⟩)
        | (go_at_call 22; refine (HPP.out _ ((Fr.drew none_ w1).trans f5)).mono ?_; rintro e w6 ⟨rfl, F', hA, f6, g6⟩))
    rename_i hk
    have hF := hk.1
    clear hk
    go_wp2_with fail
    go_ret2
    exact HDONE.out r w1 _ F1.out F' hA hF (fun k hk => (g6 k hk).imp id (fun q => Nat.le_trans ((Fr.drew none_ w1).trans f5).size q))
  · have HR := Lib.hid (hr.trans (StepC.does1 hk lim told t))
    have hk1 : (s.kind : Int) = 1 := by rw [hk]; rfl
    have HP := Lib.hid (fun w' (f : Fr none_ w w') => cn_change (HC.out w' f) s.v HSZ.out HIN.out.v.wr (HNM.out s.h))
    unfold VerV.cells at HP
    rw [hk1] at b0
    clear hk hr hk1
    go_wp2_with fail
    refine (HP.out _ F1.out).mono ?_
    rintro e w2 ⟨rfl, h2, f2⟩
    have H2 := Lib.hid (And.intro h2 f2)
    clear h2 f2
    go_wp2_with fail
    go_ret2
    have := HDONE.out r w1 w2 F1.out F (by rw [HR.out]; exact H2.out.1.more (Nat.le_succ _)) H2.out.2 (Grow.refl _ _)
    rw [HR.out] at this ⊢
    exact this
  · have HR := Lib.hid (hr.trans (StepC.does2 hk lim told t))
    have hk1 : (s.kind : Int) = 2 := by rw [hk]; rfl
    have HP := Lib.hid (fun w' (f : Fr none_ w w') => cn_stamp (HC.out w' f) s.ts (HNM.out s.h))
    rw [hk1] at b0
    clear hk hr hk1
    go_wp2_with fail
    refine (HP.out _ F1.out).mono ?_
    rintro e w2 ⟨rfl, h2, f2⟩
    have H2 := Lib.hid (And.intro h2 f2)
    clear h2 f2
    go_wp2_with fail
    go_ret2
    have := HDONE.out r w1 w2 F1.out F (by rw [HR.out]; exact H2.out.1.more (Nat.le_succ _)) H2.out.2 (Grow.refl _ _)
    rw [HR.out] at this ⊢
    exact this
  · have HR := Lib.hid (hr.trans (StepC.does3 hk lim told t))
    have hk1 : (s.kind : Int) = 3 := by rw [hk]; rfl
    have HP := Lib.hid (fun w' (f : Fr none_ w w') => cn_cut (HC.out w' f) (HNM.out s.h))
    rw [hk1] at b0
    clear hk hr hk1
    go_wp2_with fail
    refine (HP.out _ F1.out).mono ?_
    rintro e w2 ⟨rfl, h2, f2⟩
    have H2 := Lib.hid (And.intro h2 f2)
    clear h2 f2
    go_wp2_with fail
    go_ret2
    have := HDONE.out r w1 w2 F1.out F (by rw [HR.out]; exact H2.out.1.more (Nat.le_succ _)) H2.out.2 (Grow.refl _ _)
    rw [HR.out] at this ⊢
    exact this
  · have HR := Lib.hid (hr.trans (StepC.does4 hk lim told t))
    have k0 : ((s.kind : Int) == 0) = false := beq_eq_false_iff_ne.2 (by omega)
    have k1 : ((s.kind : Int) == 1) = false := beq_eq_false_iff_ne.2 (by omega)
    have k2 : ((s.kind : Int) == 2) = false := beq_eq_false_iff_ne.2 (by omega)
    have k3 : ((s.kind : Int) == 3) = false := beq_eq_false_iff_ne.2 (by omega)
    have HP := Lib.hid (fun w' (f : Fr none_ w w') => cn_free (HC.out w' f) HS.out (HNM.out s.h))
    clear hk hr
    go_wp2_with fail
    refine (HP.out _ F1.out).mono ?_
    rintro e w2 ⟨rfl, h2, f2⟩
    have H2 := Lib.hid (And.intro h2 f2)
    clear h2 f2
    go_wp2_with fail
    go_ret2
    have := HDONE.out r w1 w2 F1.out F (by rw [HR.out]; exact H2.out.1.more (Nat.le_succ _)) H2.out.2 (Grow.refl _ _)
    rw [HR.out] at this ⊢
    exact this
end Go.Proofs.Yteefcfndlggajaa
namespace Go.Proofs.Yteefcfndlggajaa
open Go.ChangeShapes Go.WideShapes Go.ChangeAt Go.RowKit Go.Deep Go.Joins
set_option linter.unusedVariables false
set_option linter.unusedSimpArgs false
set_option maxRecDepth 100000

structure StepsIn (w : World) (a : Option Addr) (l : List StepC) : Prop where
  ok : ∀ x ∈ l, x.In
  len : l.length ≤ 140737488351232
  at_ : LsAt w a 9 StepC.list l
theorem StepsIn.kept {F : Nat → Prop} {w w' : World} {a : Option Addr} {l : List StepC} (h : StepsIn w a l) (f : Fr F w w') (hn : ∀ k, blk a k → ¬ F k) : StepsIn w' a l := ⟨h.ok, h.len, h.at_.kept f hn⟩
theorem opens_step : Opens Try.prog 64 [5, 3, 3, 33, 3, 3, 4, 9, 3] := by
  refine opens_struct Try.underlying64 [[5], [3], [3], [33], [3, 3, 4, 9], [3]] rfl (by kernel_rfl) ?_
  intro i f ls h1 h2
  have hi : i < 6 := (List.getElem?_eq_some_iff.1 h2).1
  rcases (show i = 0 ∨ i = 1 ∨ i = 2 ∨ i = 3 ∨ i = 5 ∨ i = 4 by omega) with rfl | rfl | rfl | rfl | rfl | rfl
  case inr.inr.inr.inr.inr =>
    obtain rfl : _ = f := by simpa using h1
    obtain rfl : _ = ls := by simpa using h2
    exact ⟨opens_ver, rfl, by kernel_rfl⟩
  all_goals
    (obtain rfl : _ = f := by simpa using h1
     obtain rfl : _ = ls := by simpa using h2
     exact ⟨opens_plain (by kernel_rfl), rfl, by kernel_rfl⟩)
theorem nat_u8 {n : Int} (h : (Lit.int .u8 n).wf = true) : ∃ k : Nat, k < 256 ∧ n = k := by
  unfold Lit.wf at h
  simp only [Bool.and_eq_true, decide_eq_true_eq] at h
  have h1 : (0 : Int) ≤ n := h.1
  have h2 : n ≤ (255 : Int) := h.2
  exact ⟨n.toNat, by omega, by omega⟩
theorem nat_u64 {n : Int} (h : (Lit.int .u64 n).wf = true) : ∃ k : Nat, k < 18446744073709551616 ∧ n = k := by
  unfold Lit.wf at h
  simp only [Bool.and_eq_true, decide_eq_true_eq] at h
  have h1 : (0 : Int) ≤ n := h.1
  have h2 : n ≤ (18446744073709551615 : Int) := h.2
  exact ⟨n.toNat, by omega, by omega⟩
theorem open_steps {H : Type} {enc : TypeId × Value → H} {w : World} {base : Nat} {spare : Nat → Bool} {held : Bool} {a : Option Addr} {len cap : Nat} {d : DataW H} {ps : List MemPlace}
    (h : DataW.Trod enc Try.prog w base spare held 57 (.slice a len cap) d ps) (hw : ∀ x ∈ d.weights Try.prog 57, x ≤ reachBytes) : ∃ l : List StepC, l.length = len ∧ StepsIn w a l := by
  obtain ⟨hs, hlen⟩ := open_leaves Try.underlying57 opens_step (by kernel_rfl) (of_decide_eq_true (by kernel_rfl)) h hw
  obtain ⟨l, hl, hp, hat⟩ := ls_of (α := StepC) (cells := StepC.list) (p := StepC.In) (sz := 9) (fun _ => rfl) (by omega) hs.none (fun ad ha i hi => by
    obtain ⟨u0, h0, p0⟩ := hs.cells ad ha i hi 0 5 rfl
    obtain ⟨u1, h1, p1⟩ := hs.cells ad ha i hi 1 3 rfl
    obtain ⟨u2, h2, p2⟩ := hs.cells ad ha i hi 2 3 rfl
    obtain ⟨u3, h3, p3⟩ := hs.cells ad ha i hi 3 33 rfl
    obtain ⟨u4, h4, p4⟩ := hs.cells ad ha i hi 4 3 rfl
    obtain ⟨u5, h5, p5⟩ := hs.cells ad ha i hi 5 3 rfl
    obtain ⟨u6, h6, p6⟩ := hs.cells ad ha i hi 6 4 rfl
    obtain ⟨u7, h7, p7⟩ := hs.cells ad ha i hi 7 9 rfl
    obtain ⟨u8, h8, p8⟩ := hs.cells ad ha i hi 8 3 rfl
    obtain ⟨n0, rfl, w0⟩ := p0.int .u8 Try.underlying5
    obtain ⟨n1, rfl, w1⟩ := p1.int .i64 Try.underlying3
    obtain ⟨n2, rfl, w2⟩ := p2.int .i64 Try.underlying3
    obtain ⟨n3, rfl, w3⟩ := p3.int .u64 Try.underlying33
    obtain ⟨n4, rfl, w4⟩ := p4.int .i64 Try.underlying3
    obtain ⟨n5, rfl, w5⟩ := p5.int .i64 Try.underlying3
    obtain ⟨b, rfl⟩ := p6.bool Try.underlying4
    obtain ⟨s, rfl, hs3⟩ := p7.str Try.underlying9
    obtain ⟨n8, rfl, w8⟩ := p8.int .i64 Try.underlying3
    obtain ⟨k0, e0, rfl⟩ := nat_u8 w0
    obtain ⟨k3, e3, rfl⟩ := nat_u64 w3
    refine ⟨⟨k0, n1, n2, k3, ⟨n4, n5, b, s⟩, n8⟩, ⟨e0, (wf_i64 w1).2, (wf_i64 w2).2, e3, ⟨(wf_i64 w4).2, by rw [reach_is] at hs3; exact hs3⟩⟩, fun j v hv => ?_⟩
    have hj : j < 9 := (List.getElem?_eq_some_iff.1 hv).1
    rcases (show j = 0 ∨ j = 1 ∨ j = 2 ∨ j = 3 ∨ j = 4 ∨ j = 5 ∨ j = 6 ∨ j = 7 ∨ j = 8 by omega) with rfl | rfl | rfl | rfl | rfl | rfl | rfl | rfl | rfl
    · cases hv; exact h0
    · cases hv; exact h1
    · cases hv; exact h2
    · cases hv; exact h3
    · cases hv; exact h4
    · cases hv; exact h5
    · cases hv; exact h6
    · cases hv; exact h7
    · cases hv; exact h8)
  exact ⟨l, hl, ⟨hp, by rw [hl]; rw [reach_is] at hlen; exact hlen, hat⟩⟩

def sSum : List StepC → Nat
  | [] => 0
  | x :: r => 60 + x.v.val.size + sSum r
theorem sSum_append (a b : List StepC) : sSum (a ++ b) = sSum a + sSum b := by
  induction a with
  | nil => simp [sSum]
  | cons x r ih => simp only [List.cons_append, sSum, ih]; omega
theorem sSum_length (l : List StepC) : 60 * l.length ≤ sSum l := by
  induction l with
  | nil => simp [sSum]
  | cons x r ih => simp only [List.length_cons, sSum]; omega
theorem sSum_mem {l : List StepC} {x : StepC} (h : x ∈ l) : x.v.val.size ≤ sSum l := by
  induction l with
  | nil => simp at h
  | cons y r ih =>
    simp only [sSum]
    rcases List.mem_cons.1 h with rfl | h
    · omega
    · have := ih h; omega
theorem sSum_take_le (l : List StepC) (k : Nat) : sSum (l.take k) ≤ sSum l := by
  have := sSum_append (l.take k) (l.drop k)
  rw [List.take_append_drop] at this; omega
def isLongS (l : List StepC) : Bool := decide (20000 ≤ sSum l)
theorem isLongS_no {l : List StepC} (h : isLongS l = false) : l.length ≤ 400 ∧ ∀ x ∈ l, x.v.val.size ≤ 20000 := by
  unfold isLongS at h
  have h := of_decide_eq_false h
  have := sSum_length l
  exact ⟨by omega, fun x hx => by have := sSum_mem hx; omega⟩
set_option maxHeartbeats 1000000 in
theorem long_any (w : World) (a : Option Addr) (cap : Nat) (l : List StepC) (h : StepsIn w a l) :
    Calls Try.prog 25 #[.slice a l.length cap] w fun e w' => e = .returned (.bool (isLongS l)) ∧ w = w' := by
  have hlen := h.len
  have Hl := Lib.hid hlen
  clear hlen
  go_enter Try.func25, Try.ntmps25
  go_wp2
  go_loop [3, 4] (fun n i => ∃ k S : Nat, Hid (k ≤ l.length) ∧ i = .int .i64 k ∧ n = .int .i64 S ∧ Hid (S = sSum (l.take k))) (fun _ i => l.length - (intOf i).toNat)
  case atStart => exact ⟨0, 0, Nat.zero_le _, rfl, rfl, by show 0 = _; simp [sSum]⟩
  case round =>
    obtain ⟨k, S, hk, rfl, rfl, hS⟩ := hrel
    by_cases hlt : k < l.length
    · by_cases hs : S < 20000
      · obtain ⟨x, hx⟩ : ∃ x, l[k]? = some x := ⟨l[k], List.getElem?_eq_getElem hlt⟩
        have hx1 := (h.ok x (List.mem_of_getElem? hx)).v.sz
        obtain ⟨b, o, rfl, hb, hc⟩ := h.at_.get hx
        have hc3 : w.cell? ⟨b, o + k * 9 + 7, none⟩ = some (.string x.v.val) := hc k x hx 7 _ rfl
        have hk2 : k ≤ 140737488351232 := by have := Hl.out; omega
        have Hx := Lib.hid hx
        clear hx hc
        have w1 : IntKind.i64.wrap ((S : Int) + 60) = (S : Int) + 60 := IntWalk.i64_in _ (by omega)
        have w2 : IntKind.i64.wrap ((S : Int) + 60 + (x.v.val.size : Int)) = (S : Int) + 60 + (x.v.val.size : Int) := IntWalk.i64_in _ (by omega)
        have w3 : IntKind.i64.wrap ((k : Int) + 1) = (k : Int) + 1 := IntWalk.i64_in _ (by omega)
        go_wp2
        go_round
        case rel =>
          refine ⟨k + 1, S + 60 + x.v.val.size, hlt, by go_num, by go_num, ?_⟩
          show S + 60 + x.v.val.size = sSum (l.take (k + 1))
          rw [take_more Hx.out, sSum_append, ← hS.out]
          simp only [sSum]; omega
        case measure => simp [intOf]; omega
      · have hL : isLongS l = true := by
          have h1 := sSum_take_le l k
          rw [← hS.out] at h1
          unfold isLongS; exact decide_eq_true (by omega)
        have HL := Lib.hid hL
        clear hL
        go_wp2
        go_ret
        rw [HL.out]
        exact ⟨rfl, rfl⟩
    · have hL : isLongS l = decide ((20000 : Int) ≤ (S : Int)) := by
        unfold isLongS; rw [hS.out, List.take_of_length_le (by omega), decide_eq_decide]; omega
      have HL := Lib.hid hL
      clear hL
      go_wp2
      go_ret
      rw [HL.out]
      exact ⟨rfl, rfl⟩
end Go.Proofs.Yteefcfndlggajaa
namespace Go.Proofs.Yteefcfndlggajaa
open Go.RowKit
set_option linter.unusedVariables false
set_option linter.unusedSimpArgs false
set_option maxRecDepth 100000

noncomputable def stepRun (lim : Nat) (p : List Nat × CS) (s : StepC) : List Nat × CS := (if (s.does lim p.1 p.2).1 = 0 then p.1 else p.1 ++ [(s.does lim p.1 p.2).1], (s.does lim p.1 p.2).2.2)
noncomputable def stRun (lim : Nat) (l : List StepC) (p : List Nat × CS) : List Nat × CS := l.foldl (stepRun lim) p
theorem stRun_more {lim : Nat} {l : List StepC} {i : Nat} {s : StepC} (h : l[i]? = some s) (p : List Nat × CS) : stRun lim (l.take (i + 1)) p = stepRun lim (stRun lim (l.take i) p) s := by
  rw [take_more h]; unfold stRun; rw [List.foldl_append]; rfl
noncomputable def errRun (lim : Nat) : List StepC → (List Nat × CS) → List Nat
  | [], _ => []
  | s :: r, p => (s.does lim p.1 p.2).2.1 :: errRun lim r (stepRun lim p s)
theorem errRun_length (lim : Nat) : ∀ (l : List StepC) (p : List Nat × CS), (errRun lim l p).length = l.length
  | [], _ => rfl
  | s :: r, p => by unfold errRun; rw [List.length_cons, List.length_cons, errRun_length]
theorem errRun_append (lim : Nat) (s : StepC) : ∀ (l : List StepC) (p : List Nat × CS), errRun lim (l ++ [s]) p = errRun lim l p ++ [(s.does lim (stRun lim l p).1 (stRun lim l p).2).2.1]
  | [], _ => rfl
  | x :: r, p => by
    show _ :: errRun lim (r ++ [s]) _ = _ :: (errRun lim r _ ++ _)
    rw [errRun_append lim s r]; rfl
theorem errRun_more {lim : Nat} {l : List StepC} {i : Nat} {s : StepC} (h : l[i]? = some s) (p : List Nat × CS) : errRun lim (l.take (i + 1)) p = errRun lim (l.take i) p ++ [(s.does lim (stRun lim (l.take i) p).1 (stRun lim (l.take i) p).2).2.1] := by
  rw [take_more h, errRun_append]
theorem errRun_get (lim : Nat) : ∀ (l : List StepC) (i : Nat) (s : StepC) (p : List Nat × CS), l[i]? = some s → (errRun lim l p)[i]? = some (s.does lim (stRun lim (l.take i) p).1 (stRun lim (l.take i) p).2).2.1
  | [], _, _, _, h => by simp at h
  | x :: r, 0, s, p, h => by
    obtain rfl : x = s := by simpa using h
    rfl
  | x :: r, i + 1, s, p, h => by
    have := errRun_get lim r i s (stepRun lim p x) (by simpa using h)
    unfold errRun
    rw [List.getElem?_cons_succ, this]
    rfl
theorem does_lt {lim N : Nat} {t : CS} (hi : t.Is lim N) (hN : N < big) {s : StepC} (hs : s.In) {told : List Nat} (ht : allLt told) : (s.does lim told t).1 < 18446744073709551616 := by
  have h0 : (0 : Nat) < 18446744073709551616 := by omega
  unfold StepC.does
  split
  · unfold CS.put
    split
    · rename_i hm
      rcases hi.make hN (VerV.nv_ok (VerV.may_iff.1 hm) hs.v.wr (s.named_lt hs s.nx ht)) with ⟨_, r⟩ | ⟨_, e2, _⟩
      · exact r.lt
      · rw [e2]; exact h0
    · exact h0
  · split
    · exact h0
    · split
      · exact h0
      · split <;> exact h0
theorem allLt.more {told : List Nat} (h : allLt told) {y : Nat} (hy : y < 18446744073709551616) : allLt (told ++ [y]) := fun z hz => by
  rcases List.mem_append.1 hz with q | q
  · exact h z q
  · obtain rfl : z = y := by simpa using q
    exact hy
def hvE (n : Nat) : Value := .int .i64 (n : Int)
def nodeL (o : Option NV) : List Value := (nodeOf o).toList
theorem nodeOf_is (o : Option NV) : ∃ (a b : Int) (c : Bool) (d : ByteArray) (e : Nat), nodeOf o = #[.int .i64 a, .int .i64 b, .bool c, .string d, .int .u64 (e : Int)] := by
  cases o with
  | none => exact ⟨0, 0, false, ⟨#[]⟩, 0, rfl⟩
  | some n => exact ⟨(n.wr : Int), (n.ts : Int), n.tomb, n.val, n.nx, rfl⟩
theorem nodeL_len (o : Option NV) : (nodeL o).length = 5 := by
  obtain ⟨a, b, c, d, e, h⟩ := nodeOf_is o
  unfold nodeL; rw [h]; rfl
theorem nodeInfo : (Try.prog.info? 36).map (fun i => (i.zero, i.size, i.bytes)) = some (some (.agg #[.int .i64 0, .int .i64 0, .bool false, .string ⟨#[]⟩, .int .u64 0]), 5, 48) := by kernel_rfl
theorem errInfo : (Try.prog.info? 43).map (fun i => (i.zero, i.size, i.bytes)) = some (some (.int .i64 0), 1, 8) := by kernel_rfl
section
variable {W w w' : World} {Ts : List Thing} {i j x N lim : Nat} {c : CfgV} {t : CS}
theorem bg_do (h : Bag W Ts w) (hi : Ts[i]? = some (tEng x c lim N t)) (hN : N < big) {s : StepC} (hs : s.In) (hsz : s.v.val.size ≤ maxLen) {a : Option Addr} {cap : Nat} {told : List Nat} (hj : Ts[j]? = some (tSl a told.length cap 34 1 (told.map hvU))) (hlen : told.length ≤ 1000000) (ht : allLt told) :
    Calls Try.prog 28 #[.agg s.list.toArray, .pointer (some ⟨x, 0, none⟩), .slice a told.length cap] w fun e w' => e = .returned (.tuple #[.int .u64 ((s.does lim told t).1 : Int), .int .i64 ((s.does lim told t).2.1 : Int)]) ∧ Bag W (Ts.set i (tEng x c lim (N + 1) (s.does lim told t).2.2)) w' :=
  h.call (R := fun e => e = .returned (.tuple #[.int .u64 ((s.does lim told t).1 : Int), .int .i64 ((s.does lim told t).2.1 : Int)])) hi (fun F hF => do_any hF hN s hs hsz a cap told (h.sl hj) hlen ht)
end
end Go.Proofs.Yteefcfndlggajaa
