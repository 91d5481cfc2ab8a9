/-
  The reference of layer 17: a step.
-/
import Derived.Test.YteefcfndlggajaaCnRef6
import Derived.Test.YteefcfndlggajaaCnStep
import Derived.RegionTactic
namespace Go.Proofs.Yteefcfndlggajaa
open Go.RowKit
set_option linter.unusedVariables false
set_option linter.unusedSimpArgs false
set_option maxRecDepth 100000

section
variable {W w : World} {Ts : List Thing} {i j x : Nat} {c : CfgV} {lim N : Nat} {t : CS}
theorem RcIn.app (r : RcIn Ts i j x c lim N t) (Us : List Thing) : RcIn (Ts ++ Us) i j x c lim N t := by
  obtain ⟨k, ar, la, lc, L, r⟩ := r
  exact ⟨k, ar, la, lc, L, r.app Us⟩
theorem RcOut.pre {Us : List Thing} (h : RcOut W Us i j x c lim N t w) (s : Stay i j Ts Us) : RcOut W Ts i j x c lim N t w := by
  obtain ⟨Vs, h1, h2, h3⟩ := h
  exact ⟨Vs, h1, h2, s.trans h3⟩
theorem RcOut.more (h : RcOut W Ts i j x c lim N t w) {M : Nat} (h1 : N ≤ M) (h2 : M ≤ 1000000) : RcOut W Ts i j x c lim M t w := by
  obtain ⟨Vs, h3, ⟨k, ar, la, lc, L, r⟩, h5⟩ := h
  exact ⟨_, bg_refmore h3 r.ref h1 h2, ⟨k, ar, la, lc, L, r.reref rfl rfl⟩, h5.trans (Stay.set _ _ _ _)⟩
set_option maxHeartbeats 8000000 in
theorem bg_refdo (h : Bag W Ts w) (r : RcIn Ts i j x c lim N t) (hi : t.Is lim N) (hN : N < 100000) (hlim : c.valLen = lim) (hl256 : lim ≤ 256) (s : StepC) (hs : s.In) (hsz : s.v.val.size ≤ maxLen) {k0 : Nat} {a : Option Addr} {cap : Nat} {told : List Nat} (hj : Ts[k0]? = some (tSl a told.length cap 34 1 (told.map hvU))) (hlen : told.length ≤ 1000000) (ht : allLt told) :
    Calls Try.prog 29 #[.agg s.list.toArray, .pointer (some ⟨x, 0, none⟩), .slice a told.length cap] w fun e w' => e = .returned (.tuple #[.int .u64 ((s.does lim told t).1 : Int), .int .i64 ((s.does lim told t).2.1 : Int)]) ∧ RcOut W Ts i j x c lim (N + 1) (s.does lim told t).2.2 w' := by
  obtain ⟨Us, hUs⟩ : ∃ Us, Us = Ts ++ [tRow w.heap.size s.list.toArray 64] := ⟨_, rfl⟩
  have FB := Lib.hid (Fr.alloc none_ w (.cells s.list.toArray 64))
  have HBG := Lib.hid (show Bag W Us (w.alloc (.cells s.list.toArray 64)) from hUs ▸ h.addRow s.list.toArray 64)
  have HRC := Lib.hid (show RcIn Us i j x c lim N t from hUs ▸ r.app _)
  have HST := Lib.hid (show Stay i j Ts Us from hUs ▸ Stay.app i j Ts _)
  have hil : i < Ts.length ∧ j < Ts.length := by
    obtain ⟨k, ar, la, lc, L, r⟩ := r
    exact ⟨(List.getElem?_eq_some_iff.1 r.row).1, (List.getElem?_eq_some_iff.1 r.ref).1⟩
  have HU : Hid (Us[Ts.length]? = some (tRow w.heap.size s.list.toArray 64)) := Lib.hid (by rw [hUs]; simp)
  have HH := Lib.hid (fun w' (f : Fr none_ w w') n hn => handle_any w' s n hn a cap told ((h.sl hj).kept0 f) hlen)
  have HB := Lib.hid (fun w' (f : Fr none_ (w.alloc (.cells s.list.toArray 64)) w') (i : Nat) (u : Value) (hu : s.list[i]? = some u) => show w'.cell? ⟨w.heap.size, i, none⟩ = some u from
    (((Row.new w s.list.toArray 64).kept f (fun e => e)).cell i).trans (by simpa using hu))
  have HCE := Lib.hid (fun w' M (t' : CS) (ho : RcOut W Us i j x c lim M t' w') => show w'.cell? ⟨w.heap.size, 0, none⟩ = some (.int .u8 (s.kind : Int)) ∧ w'.cell? ⟨w.heap.size, 1, none⟩ = some (.int .i64 s.h) ∧ w'.cell? ⟨w.heap.size, 2, none⟩ = some (.int .i64 s.nx) ∧ w'.cell? ⟨w.heap.size, 3, none⟩ = some (.int .u64 (s.any : Int)) ∧ w'.cell? ⟨w.heap.size, 4, none⟩ = some (.int .i64 s.v.wr) ∧ w'.cell? ⟨w.heap.size, 5, none⟩ = some (.int .i64 s.v.ts) ∧ w'.cell? ⟨w.heap.size, 6, none⟩ = some (.bool s.v.tomb) ∧ w'.cell? ⟨w.heap.size, 7, none⟩ = some (.string s.v.val) ∧ w'.cell? ⟨w.heap.size, 8, none⟩ = some (.int .i64 s.ts) from by
    obtain ⟨Vs, h1, _, h3⟩ := ho
    have rw_ := h1.row (h3 _ _ (by omega) (by omega) HU.out)
    exact ⟨rw_.cell 0, rw_.cell 1, rw_.cell 2, rw_.cell 3, rw_.cell 4, rw_.cell 5, rw_.cell 6, rw_.cell 7, rw_.cell 8⟩)
  have HIN := Lib.hid hs
  have HNM := Lib.hid (fun n => s.named_lt hs n ht)
  have HSZ := Lib.hid hsz
  have HI := Lib.hid hi
  have HN := Lib.hid (And.intro hN (And.intro hlim hl256))
  obtain ⟨r, hr⟩ : ∃ r, r = s.does lim told t := ⟨_, rfl⟩
  rw [← hr]
  have hh1 := HH.out _ FB.out s.h hs.h
  have b0 := HB.out _ (Fr.refl none_ _) 0 _ rfl
  have b1 := HB.out _ (Fr.refl none_ _) 1 _ rfl
  have b2 := HB.out _ (Fr.refl none_ _) 2 _ rfl
  have b3 := HB.out _ (Fr.refl none_ _) 3 _ rfl
  have b4 := HB.out _ (Fr.refl none_ _) 4 _ rfl
  have b5 := HB.out _ (Fr.refl none_ _) 5 _ rfl
  have b6 := HB.out _ (Fr.refl none_ _) 6 _ rfl
  have b7 := HB.out _ (Fr.refl none_ _) 7 _ rfl
  have b8 := HB.out _ (Fr.refl none_ _) 8 _ rfl
  clear h hs hsz hlen ht hN hi hlim hl256 hj hUs hil
  unfold StepC.list at hh1 FB HB HH HBG b0 b1 b2 b3 b4 b5 b6 b7 b8 ⊢
  have HH1 := Lib.hid hh1
  clear hh1
  go_enter Try.func29, Try.ntmps29
  go_wp2_with fail
  refine HH1.out.mono ?_
  rintro e w1 ⟨rfl, f1⟩
  have F01 := Lib.hid f1
  have F1 := Lib.hid (FB.out.trans f1)
  have HB1 := Lib.hid (HBG.out.keep0 f1)
  clear f1 b0 b1 b2 b3 b4 b5 b6 b7 b8
  have b0 := HB.out _ F01.out 0 _ rfl
  have b1 := HB.out _ F01.out 1 _ rfl
  have b2 := HB.out _ F01.out 2 _ rfl
  have b3 := HB.out _ F01.out 3 _ rfl
  have b4 := HB.out _ F01.out 4 _ rfl
  have b5 := HB.out _ F01.out 5 _ rfl
  have b6 := HB.out _ F01.out 6 _ rfl
  have b7 := HB.out _ F01.out 7 _ rfl
  have b8 := HB.out _ F01.out 8 _ rfl
  rcases (show s.kind = 0 ∨ s.kind = 1 ∨ s.kind = 2 ∨ s.kind = 3 ∨ 4 ≤ s.kind by omega) with hk | hk | hk | hk | hk
  · have HR := Lib.hid (show r = t.put lim s.v (s.named s.nx told) from hr.trans (StepC.does0 hk lim told t))
    have hk0 : ((s.kind : Int) == 0) = true := by rw [hk]; rfl
    have HP := Lib.hid (fun w' (f : Fr none_ w1 w') => bg_rmake (HB1.out.keep0 f) HRC.out HI.out HN.out.1 HN.out.2.1 HN.out.2.2 s.v HSZ.out HIN.out.v.wr (HNM.out s.nx))
    unfold VerV.cells at HP
    have HH2 := Lib.hid (fun w' (f : Fr none_ w1 w') => HH.out w' (F1.out.trans f) s.nx HIN.out.nx)
    rw [← HR.out] at HP
    clear hk hr
    go_upto_region 4 with fail
    go_region_held3 (fun w' => w'.cell? ⟨w.heap.size, 0, none⟩ = some (.int .u8 (s.kind : Int)) ∧ w'.cell? ⟨w.heap.size, 1, none⟩ = some (.int .i64 s.h) ∧ w'.cell? ⟨w.heap.size, 2, none⟩ = some (.int .i64 s.nx) ∧ w'.cell? ⟨w.heap.size, 3, none⟩ = some (.int .u64 (s.any : Int)) ∧ w'.cell? ⟨w.heap.size, 4, none⟩ = some (.int .i64 s.v.wr) ∧ w'.cell? ⟨w.heap.size, 5, none⟩ = some (.int .i64 s.v.ts) ∧ w'.cell? ⟨w.heap.size, 6, none⟩ = some (.bool s.v.tomb) ∧ w'.cell? ⟨w.heap.size, 7, none⟩ = some (.string s.v.val) ∧ w'.cell? ⟨w.heap.size, 8, none⟩ = some (.int .i64 s.ts))
      (first | exact HCE.out _ _ _ hA | (go_split_ands; refine ⟨?_, ?_, ?_, ?_, ?_, ?_, ?_, ?_, ?_⟩; all_goals exact Fr.keep f5 (by assumption)) | (go_split_ands; refine ⟨?_, ?_, ?_, ?_, ?_, ?_, ?_, ?_, ?_⟩; all_goals assumption) | go_keep)
      (first
        | (go_at_call 53; refine (HH2.out _ (Fr.drew none_ w1)).mono ?_; rintro e w5 ⟨rfl, f5⟩)
        | (go_at_call 54; refine (HP.out _ ((Fr.drew none_ w1).trans f5)).mono ?_; rintro e w6 ⟨rfl, hA⟩))
    have HA := Lib.hid hA
    clear hA f5
    go_wp2_with fail
    go_ret2
    exact ⟨rfl, HA.out.pre HST.out⟩
  · have HR := Lib.hid (hr.trans (StepC.does1 hk lim told t))
    have hk1 : (s.kind : Int) = 1 := by rw [hk]; rfl
    have HP := Lib.hid (bg_rchange HB1.out HRC.out HI.out (Nat.le_of_lt HN.out.1) HN.out.2.1 HN.out.2.2 s.v HSZ.out (s.named s.h told))
    unfold VerV.cells at HP
    rw [hk1] at b0
    clear hk hr hk1
    go_wp2_with fail
    refine HP.out.mono ?_
    rintro e w2 ⟨rfl, h2⟩
    have H2 := Lib.hid h2
    clear h2
    go_wp2_with fail
    go_ret2
    rw [HR.out]
    exact ⟨rfl, (H2.out.more (Nat.le_succ _) (by have := HN.out.1; omega)).pre HST.out⟩
  · have HR := Lib.hid (hr.trans (StepC.does2 hk lim told t))
    have hk1 : (s.kind : Int) = 2 := by rw [hk]; rfl
    have HP := Lib.hid (bg_rstamp HB1.out HRC.out HI.out (Nat.le_of_lt HN.out.1) (s.named s.h told) s.ts)
    rw [hk1] at b0
    clear hk hr hk1
    go_wp2_with fail
    refine HP.out.mono ?_
    rintro e w2 ⟨rfl, h2⟩
    have H2 := Lib.hid h2
    clear h2
    go_wp2_with fail
    go_ret2
    rw [HR.out]
    exact ⟨rfl, (H2.out.more (Nat.le_succ _) (by have := HN.out.1; omega)).pre HST.out⟩
  · have HR := Lib.hid (hr.trans (StepC.does3 hk lim told t))
    have hk1 : (s.kind : Int) = 3 := by rw [hk]; rfl
    have HP := Lib.hid (bg_rcut HB1.out HRC.out HI.out (Nat.le_of_lt HN.out.1) (s.named s.h told))
    rw [hk1] at b0
    clear hk hr hk1
    go_wp2_with fail
    refine HP.out.mono ?_
    rintro e w2 ⟨rfl, h2⟩
    have H2 := Lib.hid h2
    clear h2
    go_wp2_with fail
    go_ret2
    rw [HR.out]
    exact ⟨rfl, (H2.out.more (Nat.le_succ _) (by have := HN.out.1; omega)).pre HST.out⟩
  · have HR := Lib.hid (hr.trans (StepC.does4 hk lim told t))
    have k0 : ((s.kind : Int) == 0) = false := beq_eq_false_iff_ne.2 (by omega)
    have k1 : ((s.kind : Int) == 1) = false := beq_eq_false_iff_ne.2 (by omega)
    have k2 : ((s.kind : Int) == 2) = false := beq_eq_false_iff_ne.2 (by omega)
    have k3 : ((s.kind : Int) == 3) = false := beq_eq_false_iff_ne.2 (by omega)
    have HP := Lib.hid (bg_rfree17 HB1.out HRC.out HI.out (Nat.le_of_lt HN.out.1) (HNM.out s.h))
    clear hk hr
    go_wp2_with fail
    refine HP.out.mono ?_
    rintro e w2 ⟨rfl, h2⟩
    have H2 := Lib.hid h2
    clear h2
    go_wp2_with fail
    go_ret2
    rw [HR.out]
    exact ⟨rfl, (H2.out.more (Nat.le_succ _) (by have := HN.out.1; omega)).pre HST.out⟩
end
end Go.Proofs.Yteefcfndlggajaa
