/-
  UndoAlone: the walk. (Printed by gen_unalone.py.)
-/
import Derived.Test.YtckkccnebjacdaaUnAloneP
import Derived.Test.YtckkccnebjacdaaUnSteps
import Derived.Test.YtckkccnebjacdaaUnEnds
import Derived.Deep.RegionHeld3
import Derived.Deep.DeepCutAuto
namespace Go.Proofs.Ytckkccnebjacdaa
open Go.RowKit
set_option linter.unusedVariables false
set_option linter.unusedSimpArgs false
set_option maxRecDepth 100000

theorem Bag.pick7 {W w : World} {A B C D E F G : Thing} (h : Bag W [A, B, C, D, E, F, G] w) : Bag W [B, C, A, G] w := by
  refine h.pick (fun i => if i = 0 then 1 else if i = 1 then 2 else if i = 2 then 0 else if i = 3 then 6 else i + 10) (fun i U hi => ?_) (fun i j hi hj e => ?_)
  · match i with
    | 0 => exact hi
    | 1 => exact hi
    | 2 => exact hi
    | 3 => exact hi
    | i + 4 => simp at hi
  · simp only [List.length_cons, List.length_nil] at hi hj
    repeat' split at e
    all_goals omega
theorem SlAt.oneH (w : World) (h : Nat) : SlAt (w.alloc (.cells #[.int .u64 (h : Int)] 32)) (some ⟨w.heap.size, 0, none⟩) 1 1 32 1 ([h].map hvN) := SlAt.one w 32 (hvN h)
theorem hvC_one (h : Nat) : ∀ u, u ∈ hvC h → u.oneCell' = true := by
  intro u hu
  simp [hvC] at hu
  subst hu; rfl
/-- What stands in memory while the steps are done. -/
def AlB (W : World) (x : Nat) (c : CfgV) (vl N : Nat) (t : US) (al : Option Addr) (nl cl : Nat) (l : List VerV) (am : Option Addr) (nm cm : Nat) (mine : List Nat) (w : World) : Prop :=
  Bag W [tUn x c vl N t, tVers al nl cl l, tHds am nm cm mine, tRow W.heap.size c.cells 23] w

theorem stack_n {W w : World} {x N vl : Nat} {c : CfgV} {t : US} {L : List Nat} {Rs : List Thing} (h : Bag W (tUn x c vl N t :: Rs) w) (hst : St vl N t L) (hvl : vl ≤ 256) (hN : N ≤ 200) (a : Option Addr) (cap : Nat) (l : List VerV) (hl : ∀ w', Fr none_ W w' → VersIn w' a l) (n : Nat) (hn : n = l.length) (hb : n ≤ 100) (hb0 : 0 < n) :
    Calls Try.prog 8 #[.pointer (some ⟨x, 0, none⟩), .slice a n cap, .int .i64 (vl : Int)] w fun e w' => ∃ (row : Nat) (v : VerV) (us : List VerV) (hs : List Nat) (top : Nat) (t' : US) (al : Option Addr) (cl : Nat) (ar : Option Addr) (cr : Nat),
      e = .returned (.tuple #[.int .u64 (row : Int), .slice ar hs.length cr, .slice al n cl, .bool true]) ∧ Stacked vl N t L n row v us hs top t' ∧ StkB W x c vl (N + n) t' al n cl (v :: us) ar hs.length cr hs Rs w' := by
  subst hn
  exact stack_any h hst hvl hN a cap l hl hb hb0
set_option maxHeartbeats 16000000 in
theorem walk_UndoAlone (W : World) (c : CfgV) (_ : c.In) (a1 : Option Addr) (cap1 : Nat) (l : List VerV) (st1 : VersIn W a1 l) (a2 : Option Addr) (cap2 : Nat) (o : List VerV) (st2 : VersIn W a2 o) (a3 : Option Addr) (cap3 : Nat) (s : List StepU) (st3 : StepsU W a3 s) :
    Calls Try.prog 4 #[.agg c.cells, .slice a1 l.length cap1, .slice a2 o.length cap2, .slice a3 s.length cap3] W fun e w' => e = .returned (.bool true) ∧ Fr none_ W w' := by
  obtain ⟨w0, hw0⟩ : ∃ w0, w0 = W.alloc (.cells c.cells 23) := ⟨_, rfl⟩
  have hb0 : Bag W [tRow W.heap.size c.cells 23] w0 := by
    have h := (Bag.start W).addRow c.cells 23
    rw [← hw0] at h
    exact h
  have HB0 := Lib.hid hb0
  have HL1 := Lib.hid (fun w' (f : Fr none_ W w') => st1.kept f (fun _ _ e => e))
  have HL2 := Lib.hid (fun w' (f : Fr none_ W w') => st2.kept f (fun _ _ e => e))
  have HL3 := Lib.hid (fun w' (f : Fr none_ W w') => st3.kept f (fun _ _ e => e))
  have HM1 := Lib.hid (fun w' (f : Fr none_ W w') => many_any w' a1 cap1 l (st1.kept f (fun _ _ e => e)))
  have HM2 := Lib.hid (fun w' (f : Fr none_ W w') => many_any w' a2 cap2 o (st2.kept f (fun _ _ e => e)))
  have HM3 := Lib.hid (fun w' (f : Fr none_ W w') => large_any w' a3 cap3 s (st3.kept f (fun _ _ e => e)))
  have HW0 := Lib.hid hw0
  have HCR := Lib.hid (show ∀ w' Ts, Bag W (tRow W.heap.size c.cells 23 :: Ts) w' → ∀ (i : Nat) (u : Value), c.cells[i]? = some u → w'.cell? ⟨W.heap.size, i, none⟩ = some u from fun w' Ts f i u hu => ((f.row (i := 0) rfl).cell i).trans hu)
  have HFIN := Lib.hid (show ∀ w1, Fr none_ W w1 → Calls Try.prog 5 #[] w1 fun e w' => e = .returned (.bool true) ∧ Fr none_ W w' from fun w1 f => (works_any w1).mono fun e w' ⟨h1, h2⟩ => ⟨h1, f.trans h2⟩)
  clear hb0
  unfold CfgV.cells at hw0 HW0 HCR ⊢
  cases hb1 : isMany l with
  | true =>
    rw [hb1] at HM1
    clear hb1
    go_enter Try.func4, Try.ntmps4
    go_wp2_with fail
    rw [← HW0.out]
    clear hw0
    refine (works_any _).mono ?_
    rintro e w1 ⟨rfl, f1⟩
    have HB1 := Lib.hid (HB0.out.keep0 f1)
    clear f1
    go_wp2_with fail
    refine (HM1.out _ HB1.out.fr).mono ?_
    rintro e w2 ⟨rfl, rfl⟩
    go_wp2_with fail
    refine (HFIN.out _ HB1.out.fr).mono ?_
    rintro e w9 ⟨rfl, f9⟩
    have F9 := Lib.hid f9
    clear f9
    go_wp2_with fail
    go_ret
    exact ⟨rfl, F9.out⟩
  | false =>
  cases hb2 : isMany o with
  | true =>
    rw [hb1] at HM1
    rw [hb2] at HM2
    clear hb1 hb2
    go_enter Try.func4, Try.ntmps4
    go_wp2_with fail
    rw [← HW0.out]
    clear hw0
    refine (works_any _).mono ?_
    rintro e w1 ⟨rfl, f1⟩
    have HB1 := Lib.hid (HB0.out.keep0 f1)
    clear f1
    go_wp2_with fail
    refine (HM1.out _ HB1.out.fr).mono ?_
    rintro e w2 ⟨rfl, rfl⟩
    go_wp2_with fail
    refine (HM2.out _ HB1.out.fr).mono ?_
    rintro e w3 ⟨rfl, rfl⟩
    go_wp2_with fail
    refine (HFIN.out _ HB1.out.fr).mono ?_
    rintro e w9 ⟨rfl, f9⟩
    have F9 := Lib.hid f9
    clear f9
    go_wp2_with fail
    go_ret
    exact ⟨rfl, F9.out⟩
  | false =>
  cases hb3 : isLarge s with
  | true =>
    rw [hb1] at HM1
    rw [hb2] at HM2
    rw [hb3] at HM3
    clear hb1 hb2 hb3
    go_enter Try.func4, Try.ntmps4
    go_wp2_with fail
    rw [← HW0.out]
    clear hw0
    refine (works_any _).mono ?_
    rintro e w1 ⟨rfl, f1⟩
    have HB1 := Lib.hid (HB0.out.keep0 f1)
    clear f1
    go_wp2_with fail
    refine (HM1.out _ HB1.out.fr).mono ?_
    rintro e w2 ⟨rfl, rfl⟩
    go_wp2_with fail
    refine (HM2.out _ HB1.out.fr).mono ?_
    rintro e w3 ⟨rfl, rfl⟩
    go_wp2_with fail
    refine (HM3.out _ HB1.out.fr).mono ?_
    rintro e w4 ⟨rfl, q4, rfl⟩
    have HB4 := Lib.hid (HB1.out.keep0 (Fr.drewN none_ _ q4))
    go_wp2_with fail
    refine (HFIN.out _ HB4.out.fr).mono ?_
    rintro e w9 ⟨rfl, f9⟩
    have F9 := Lib.hid f9
    clear f9
    go_wp2_with fail
    go_ret
    exact ⟨rfl, F9.out⟩
  | false =>
  rw [hb1] at HM1
  rw [hb2] at HM2
  rw [hb3] at HM3
  have hl1 := isMany_no hb1
  have hl2 := isMany_no hb2
  have hl3 := isLarge_no hb3
  clear hb1 hb2 hb3 st1 st2 st3
  obtain ⟨n1, hn1⟩ : ∃ n, n = l.length := ⟨_, rfl⟩
  obtain ⟨n2, hn2⟩ : ∃ n, n = o.length := ⟨_, rfl⟩
  obtain ⟨n3, hn3⟩ : ∃ n, n = s.length := ⟨_, rfl⟩
  rw [← hn1] at HM1 hl1 ⊢
  rw [← hn2] at HM2 hl2 ⊢
  rw [← hn3] at HM3 hl3 ⊢
  by_cases hz1 : n1 = 0
  · have hz : ((n1 : Int) == 0) = true := by rw [hz1]; rfl
    clear hz1 hn1 hn2 hn3
    go_enter Try.func4, Try.ntmps4
    go_wp2_with fail
    rw [← HW0.out]
    clear hw0
    refine (works_any _).mono ?_
    rintro e w1 ⟨rfl, f1⟩
    have HB1 := Lib.hid (HB0.out.keep0 f1)
    clear f1
    go_wp2_with fail
    refine (HM1.out _ HB1.out.fr).mono ?_
    rintro e w2 ⟨rfl, rfl⟩
    go_wp2_with fail
    refine (HM2.out _ HB1.out.fr).mono ?_
    rintro e w3 ⟨rfl, rfl⟩
    go_wp2_with fail
    refine (HM3.out _ HB1.out.fr).mono ?_
    rintro e w4 ⟨rfl, q4, rfl⟩
    have HB4 := Lib.hid (HB1.out.keep0 (Fr.drewN none_ _ q4))
    go_wp2_with fail
    refine (HFIN.out _ HB4.out.fr).mono ?_
    rintro e w9 ⟨rfl, f9⟩
    have F9 := Lib.hid f9
    clear f9
    go_wp2_with fail
    go_ret
    exact ⟨rfl, F9.out⟩
  by_cases hz2 : n2 = 0
  · have hz : ((n2 : Int) == 0) = true := by rw [hz2]; rfl
    have hz1b : ((n1 : Int) == 0) = false := beq_eq_false_iff_ne.2 (by omega)
    clear hz1 hz2 hn1 hn2 hn3
    go_enter Try.func4, Try.ntmps4
    go_wp2_with fail
    rw [← HW0.out]
    clear hw0
    refine (works_any _).mono ?_
    rintro e w1 ⟨rfl, f1⟩
    have HB1 := Lib.hid (HB0.out.keep0 f1)
    clear f1
    go_wp2_with fail
    refine (HM1.out _ HB1.out.fr).mono ?_
    rintro e w2 ⟨rfl, rfl⟩
    go_wp2_with fail
    refine (HM2.out _ HB1.out.fr).mono ?_
    rintro e w3 ⟨rfl, rfl⟩
    go_wp2_with fail
    refine (HM3.out _ HB1.out.fr).mono ?_
    rintro e w4 ⟨rfl, q4, rfl⟩
    have HB4 := Lib.hid (HB1.out.keep0 (Fr.drewN none_ _ q4))
    go_wp2_with fail
    refine (HFIN.out _ HB4.out.fr).mono ?_
    rintro e w9 ⟨rfl, f9⟩
    have F9 := Lib.hid f9
    clear f9
    go_wp2_with fail
    go_ret
    exact ⟨rfl, F9.out⟩
  have hp1 : 0 < n1 := Nat.pos_of_ne_zero hz1
  have hp2 : 0 < n2 := Nat.pos_of_ne_zero hz2
  have h0n : 0 + n1 ≤ 200 := by omega
  have hz1b : ((n1 : Int) == 0) = false := beq_eq_false_iff_ne.2 (by omega)
  have hz2b : ((n2 : Int) == 0) = false := beq_eq_false_iff_ne.2 (by omega)
  have HN1 := Lib.hid hn1
  have HN2 := Lib.hid hn2
  have HN3 := Lib.hid hn3
  clear hn1 hn2 hn3 hz1 hz2
  by_cases hm : c.may = true
  · obtain ⟨vl, hvl, hvl2⟩ := may_vl hm
    have HNEW := Lib.hid (fun (w' : World) (h : Bag W [tRow W.heap.size c.cells 23] w') => bu_new h c hm hvl hvl2)
    have HST := Lib.hid (St.new hvl2)
    have HS1 := Lib.hid (fun (x : Nat) (w' : World) (h : Bag W [tUn x c vl 0 (US.new vl), tRow W.heap.size c.cells 23] w') => stack_n h HST.out hvl2 (Nat.zero_le 200) a1 cap1 l HL1.out n1 HN1.out hl1 hp1)
    have HK6 := Lib.hid (show ∀ w', Row w' W.heap.size c.cells 23 → w'.cell? ⟨W.heap.size, 6, none⟩ = some (.int .i64 (vl : Int)) from fun w' r => by rw [r.cell]; show some (Value.int .i64 c.valLen) = _; rw [hvl])
    unfold CfgV.cells at HNEW
    clear hvl hm
    go_enter Try.func4, Try.ntmps4
    go_wp2_with fail
    rw [← HW0.out]
    clear hw0
    refine (works_any _).mono ?_
    rintro e w1 ⟨rfl, f1⟩
    have HB1 := Lib.hid (HB0.out.keep0 f1)
    clear f1
    go_wp2_with fail
    refine (HM1.out _ HB1.out.fr).mono ?_
    rintro e w2 ⟨rfl, rfl⟩
    go_wp2_with fail
    refine (HM2.out _ HB1.out.fr).mono ?_
    rintro e w3 ⟨rfl, rfl⟩
    go_wp2_with fail
    refine (HM3.out _ HB1.out.fr).mono ?_
    rintro e w4 ⟨rfl, q4, rfl⟩
    have HB4 := Lib.hid (HB1.out.keep0 (Fr.drewN none_ _ q4))
    have k0 := HCR.out _ _ HB4.out 0 _ rfl
    have k1 := HCR.out _ _ HB4.out 1 _ rfl
    have k2 := HCR.out _ _ HB4.out 2 _ rfl
    have k3 := HCR.out _ _ HB4.out 3 _ rfl
    have k4 := HCR.out _ _ HB4.out 4 _ rfl
    have k5 := HCR.out _ _ HB4.out 5 _ rfl
    have k6 := HCR.out _ _ HB4.out 6 _ rfl
    have k7 := HCR.out _ _ HB4.out 7 _ rfl
    go_wp2_with fail
    refine (HNEW.out _ HB4.out).mono ?_
    rintro e w5 ⟨x, rfl, h5⟩
    have H5 := Lib.hid (show Bag W [tUn x c vl 0 (US.new vl), tRow W.heap.size c.cells 23] w5 from h5.front)
    have kk6 := HK6.out _ (H5.out.row (i := 1) rfl)
    clear h5 k0 k1 k2 k3 k4 k5 k6 k7
    go_wp2_with fail
    refine (HS1.out _ _ H5.out).mono ?_
    rintro e w6 ⟨row1, v1, us1, hs1, top1, t1, al1, cl1, ar1, cr1, rfl, hsk1, hbg1⟩
    have HBG1 := Lib.hid hbg1
    have HSK1 := Lib.hid hsk1
    have HS2 := Lib.hid (stack_n hbg1 hsk1.st hvl2 h0n a2 cap2 o HL2.out n2 HN2.out hl2 hp2)
    have hr1 : row1 < 18446744073709551616 := hsk1.rowL
    have kk6 := HK6.out _ (Bag.row (i := 3) HBG1.out rfl)
    have hh1 : hs1.length ≤ 100 := by have := hsk1.len; have := hsk1.stk.chn.len; omega
    clear hbg1 hsk1
    go_wp2_with fail
    refine HS2.out.mono ?_
    rintro e w7 ⟨row2, v2, us2, hs2, top2, t2, al2, cl2, ar2, cr2, rfl, hsk2, hbg2⟩
    have HA := Lib.hid (Aside.start HSK1.out hsk2)
    have hlen2 : us2.length + 1 = n2 := hsk2.len
    have HAR := Lib.hid (((Bag.sl (i := 4) hbg2 rfl).ls1 (enc := hvN) (l := hs1.reverse) (by simp)).kept0 (Fr.alloc none_ w7 (.cells #[.int .u64 (row1 : Int)] 32)))
    have HB7 := Lib.hid (Bag.front (Bag.add (T := tHds (some ⟨w7.heap.size, 0, none⟩) 1 1 [row1]) (F := blk (some ⟨w7.heap.size, 0, none⟩)) hbg2 (Fr.alloc none_ w7 (.cells #[.int .u64 (row1 : Int)] 32)) ⟨SlAt.oneH w7 row1, rfl⟩ (fun k hk => by rw [blk_some] at hk; omega)))
    clear hsk2 hbg2 kk6
    go_wp2_with (at_builtin; refine Stop.mk ?_)
    show wpList _ _ _ _ _ _
    refine wpAppendLn rfl _ _ _ rfl 32 (.int .u64 0) 1 8 Try.underlying33 handleInfo rfl (SlAt.oneH w7 row1) HAR.out (show hs1.length = hs1.reverse.length from List.length_reverse.symm) (fun _ => rfl) hvC_one rfl rfl (by unfold maxLen; omega) (by omega) ?_
    intro am nm cm w8 hnm hsm fm hbm
    have HNM := Lib.hid (show nm = (row1 :: hs1.reverse).length by rw [hnm.out, List.length_cons, List.length_reverse]; omega)
    have HB8 := Lib.hid (show AlB W x c vl (0 + n1 + n2) t2 al2 n2 cl2 (v2 :: us2) am nm cm (row1 :: hs1.reverse) w8 from Bag.pick7 (show Bag W [tHds am nm cm (row1 :: hs1.reverse), tUn x c vl (0 + n1 + n2) t2, tVers al2 n2 cl2 (v2 :: us2), tHds ar2 hs2.length cr2 hs2.reverse, tVers al1 n1 cl1 (v1 :: us1), tHds ar1 hs1.length cr1 hs1.reverse, tRow W.heap.size c.cells 23] w8 from by
      have q := Bag.appended HB7.out (i := 0) rfl hsm fm hbm
      rw [show hs1.reverse.flatMap (fun x => [hvN x]) = hs1.reverse.map hvN from hv_flat _] at q
      exact q))
    have HNB := Lib.hid (show nm ≤ 101 by rw [HNM.out, List.length_cons, List.length_reverse]; omega)
    clear hnm hsm fm hbm
    clear hr1 hh1
    go_wp2_with fail
    go_loopw [19, 20] (fun ms iv wr => ∃ (k N nm cm : Nat) (t : US) (mine : List Nat) (am : Option Addr), Hid (k ≤ n3) ∧ iv = .int .i64 (k : Int) ∧ ms = .slice am nm cm ∧ Hid (nm = mine.length) ∧ Hid (nm ≤ 101 + k) ∧ Hid (N ≤ 200 + k) ∧ Hid (Aside vl N t row2 v2 us2 hs2 top2 mine) ∧ Hid (row1 ∈ mine) ∧ Hid (AlB W x c vl N t al2 n2 cl2 (v2 :: us2) am nm cm mine wr)) (fun _ iv _ => n3 - (intOf iv).toNat)
    case atStart => exact ⟨0, 0 + n1 + n2, nm, cm, t2, row1 :: hs1.reverse, am, Nat.zero_le _, rfl, rfl, HNM.out, HNB.out, (show 0 + n1 + n2 ≤ 200 + 0 by omega), HA.out, List.mem_cons_self, HB8.out⟩
    case round =>
    obtain ⟨k, N, nm, cm, t, mine, am, hk, rfl, rfl, hnm, hnb, hNb, hAs, hrw, hB⟩ := hrel
    clear HB8 HNM HNB HA HAR HB7 HS2 HS1 HSK1 HBG1
    by_cases hlt : k < n3
    · obtain ⟨y, hy⟩ : ∃ y, s[k]? = some y := ⟨s[k]'(by rw [← HN3.out]; exact hlt), List.getElem?_eq_getElem _⟩
      have hBf : Fr none_ W wr := Bag.fr hB.out
      obtain ⟨g3, o3, ha3, _, _⟩ := (HL3.out _ hBf).at_.get hy
      have hyin := (HL3.out _ hBf).ok y (List.mem_of_getElem? hy)
      have hvz := hyin.v.sz
      have hoz := hyin.o.sz
      have HSC := Lib.hid (show ∀ w' N' t' am' nm' cm' mine', AlB W x c vl N' t' al2 n2 cl2 (v2 :: us2) am' nm' cm' mine' w' → (w'.cell? ⟨g3, o3 + k * 12, none⟩ = some (.int .u8 (y.kind : Int)) ∧ w'.cell? ⟨g3, o3 + k * 12 + 1, none⟩ = some (.int .i64 y.v.wr) ∧ w'.cell? ⟨g3, o3 + k * 12 + 2, none⟩ = some (.int .i64 y.v.ts) ∧ w'.cell? ⟨g3, o3 + k * 12 + 3, none⟩ = some (.bool y.v.tomb) ∧ w'.cell? ⟨g3, o3 + k * 12 + 4, none⟩ = some (.string y.v.val) ∧ w'.cell? ⟨g3, o3 + k * 12 + 5, none⟩ = some (.int .i64 y.o.wr) ∧ w'.cell? ⟨g3, o3 + k * 12 + 6, none⟩ = some (.int .i64 y.o.ts) ∧ w'.cell? ⟨g3, o3 + k * 12 + 7, none⟩ = some (.bool y.o.tomb) ∧ w'.cell? ⟨g3, o3 + k * 12 + 8, none⟩ = some (.string y.o.val) ∧ w'.cell? ⟨g3, o3 + k * 12 + 9, none⟩ = some (.int .i64 y.n) ∧ w'.cell? ⟨W.heap.size, 6, none⟩ = some (.int .i64 (vl : Int))) from fun w' N' t' am' nm' cm' mine' h => by
        have f : Fr none_ W w' := Bag.fr h
        obtain ⟨g4, o4, ha4, _, hc⟩ := (HL3.out _ f).at_.get hy
        rw [ha3] at ha4; cases ha4
        exact ⟨hc k y hy 0 _ rfl, hc k y hy 1 _ rfl, hc k y hy 2 _ rfl, hc k y hy 3 _ rfl, hc k y hy 4 _ rfl, hc k y hy 5 _ rfl, hc k y hy 6 _ rfl, hc k y hy 7 _ rfl, hc k y hy 8 _ rfl, hc k y hy 9 _ rfl, HK6.out _ (Bag.row (i := 3) h rfl)⟩)
      subst ha3
      obtain ⟨e0, e1, e2, e3, e4, e5, e6, e7, e8, e9, e10⟩ := HSC.out _ _ _ _ _ _ _ hB.out
      obtain ⟨A, hA⟩ : ∃ A : Nat, A = (y.n % 18446744073709551616).toNat := ⟨_, rfl⟩
      have hAw : IntKind.u64.wrap y.n = (A : Int) := by rw [IntKind.wrap_u64]; omega
      have hAb : A < 18446744073709551616 := by omega
      have hnp : 0 < nm := by rw [hnm.out]; exact List.length_pos_iff.2 hAs.out.pos
      have hnpi : (0 : Int) < (nm : Int) := by omega
      have hnb2 : nm ≤ 300 := by have := hnb.out; omega
      have hmod : A % nm < nm := Nat.mod_lt _ hnp
      obtain ⟨hd, hhd⟩ : ∃ hd, mine[A % nm]? = some hd := ⟨_, List.getElem?_eq_getElem (by rw [← hnm.out]; exact hmod)⟩
      have HMEM := Lib.hid (List.mem_of_getElem? hhd)
      have hdl : hd < 18446744073709551616 := hAs.out.lt hd HMEM.out
      have hsm := Bag.sl (i := 2) hB.out rfl
      obtain ⟨gm, rfl⟩ := hsm.isAddr (by omega)
      have s0 : wr.cell? ⟨gm, A % nm, none⟩ = some (.int .u64 (hd : Int)) := hsm.cell (i := A % nm) (v := hvN hd) (by rw [List.getElem?_map, hhd]; rfl)
      have hkb : y.kind < 256 := hyin.kind
      have HF1 := Lib.hid (fun w' => fit_any w' y.v hvz vl hvl2)
      have HF2 := Lib.hid (fun w' => fit_any w' y.o hoz vl hvl2)
      have HFV := Lib.hid (y.v.fitted_fit vl)
      have HFO := Lib.hid (y.o.fitted_fit vl)
      obtain ⟨fv, hfv⟩ : ∃ fv, fv = y.v.fitted vl := ⟨_, rfl⟩
      obtain ⟨fo, hfo⟩ : ∃ fo, fo = y.o.fitted vl := ⟨_, rfl⟩
      rw [← hfv] at HF1 HFV
      rw [← hfo] at HF2 HFO
      unfold VerV.cells at HF1 HF2
      have hNb2 : N ≤ 400 := by have := hNb.out; omega
      have hfvs : fv.val.size ≤ 256 := by have := (VerV.umay_iff.1 HFV.out.may).2.1; omega
      have hfos : fo.val.size ≤ 256 := by have := (VerV.umay_iff.1 HFO.out.may).2.1; omega
      have HLIST := Lib.hid (fun w' N' t' (hN' : N' ≤ 1000) am' nm' cm' mine' (hA' : Aside vl N' t' row2 v2 us2 hs2 top2 mine') (h : AlB W x c vl N' t' al2 n2 cl2 (v2 :: us2) am' nm' cm' mine' w') => bu_list h (i := 0) rfl (by omega) hA'.row_lt _ (hA'.list hvl2) n2 (show (v2 :: us2).length = n2 from hlen2))
      have HLS := Lib.hid (fun w' N' t' am' nm' cm' mine' (h : AlB W x c vl N' t' al2 n2 cl2 (v2 :: us2) am' nm' cm' mine' w') => (Bag.sl (i := 1) h rfl).ls (cells := verL) (sz := 4) (fun _ => rfl) (show n2 = (v2 :: us2).length from hlen2.symm))
      have HSAME := Lib.hid (fun (w' : World) (b1 b2 : Option Addr) (c1 c2 : Nat) (h1 : LsAt w' b1 4 verL (v2 :: us2)) (h2 : LsAt w' b2 4 verL (v2 :: us2)) => Same_same (ca := c1) (cb := c2) n2 (show (v2 :: us2).length = n2 from hlen2) h1 h2 (by omega))
      clear hy hBf hyin hA hhd hsm hfv hfo
      go_upto_region 14 with fail
      go_cut [21] (fun hv wx => hv = .int .u64 (hd : Int) ∧ wx = wr)
      case first =>
        go_wp2_with fail
        go_meet
        exact ⟨rfl, rfl⟩
      case rest =>
      obtain ⟨rfl, hwc⟩ := hcut
      have hwc := hwc.symm
      subst hwc
      clear hAw hAb s0 hmod
      have hr1 : row1 < 18446744073709551616 := hAs.out.lt row1 hrw.out
      by_cases k1 : y.kind = 1
      · rw [k1] at e0
        obtain ⟨q, t', eq, hA'⟩ := hAs.out.change HFV.out hrw.out HMEM.out
        have HCH := Lib.hid (fun w' (f : Fr none_ wr w') => bu_change (Bag.keep0 hB.out f) (i := 0) rfl fv (by omega) HFV.out.wr hr1 hdl eq)
        have HA' := Lib.hid hA'
        unfold VerV.cells at HCH
        clear eq hA' k1
        go_wp2_with fail
        go_region_held3 (fun w' => (w'.cell? ⟨g3, o3 + k * 12 + 1, none⟩ = some (.int .i64 y.v.wr) ∧ w'.cell? ⟨g3, o3 + k * 12 + 2, none⟩ = some (.int .i64 y.v.ts) ∧ w'.cell? ⟨g3, o3 + k * 12 + 3, none⟩ = some (.bool y.v.tomb) ∧ w'.cell? ⟨g3, o3 + k * 12 + 4, none⟩ = some (.string y.v.val) ∧ w'.cell? ⟨g3, o3 + k * 12 + 5, none⟩ = some (.int .i64 y.o.wr) ∧ w'.cell? ⟨g3, o3 + k * 12 + 6, none⟩ = some (.int .i64 y.o.ts) ∧ w'.cell? ⟨g3, o3 + k * 12 + 7, none⟩ = some (.bool y.o.tomb) ∧ w'.cell? ⟨g3, o3 + k * 12 + 8, none⟩ = some (.string y.o.val) ∧ w'.cell? ⟨g3, o3 + k * 12 + 9, none⟩ = some (.int .i64 y.n) ∧ w'.cell? ⟨W.heap.size, 6, none⟩ = some (.int .i64 (vl : Int))))
          (first | exact (HSC.out _ _ _ _ _ _ _ (show AlB W x c vl N t' al2 n2 cl2 (v2 :: us2) (some ⟨gm, 0, none⟩) nm cm mine _ from h6)).2 | exact (HSC.out _ _ _ _ _ _ _ (show AlB W x c vl N t al2 n2 cl2 (v2 :: us2) (some ⟨gm, 0, none⟩) nm cm mine _ from Bag.keep0 (Bag.keep0 hB.out (Fr.drew none_ _)) f5)).2 | exact (HSC.out _ _ _ _ _ _ _ (show AlB W x c vl N t al2 n2 cl2 (v2 :: us2) (some ⟨gm, 0, none⟩) nm cm mine _ from Bag.keep0 hB.out (Fr.drew none_ _))).2 | go_keep)
          (first
            | (go_at_call 17; refine (HF1.out _).mono ?_; rintro e w5 ⟨rfl, f5⟩)
            | (go_at_call 16; refine (HCH.out _ ((Fr.drew none_ _).trans f5)).mono ?_; rintro e w6 ⟨rfl, h6⟩))
        have HB6 := Lib.hid (show AlB W x c vl N t' al2 n2 cl2 (v2 :: us2) (some ⟨gm, 0, none⟩) nm cm mine w6 from h6)
        clear h6 f5 e0 e1 e2 e3 e4 e5 e6 e7 e8 e9 e10
        go_wp2_with fail
        refine (HLIST.out _ _ _ (by omega) _ _ _ _ HA'.out HB6.out).mono ?_
        rintro e w7 ⟨b7, c7, rfl, l7, f7⟩
        have HB7 := Lib.hid (show AlB W x c vl N t' al2 n2 cl2 (v2 :: us2) (some ⟨gm, 0, none⟩) nm cm mine w7 from Bag.keep0 HB6.out f7)
        have L7 := Lib.hid l7
        clear f7 l7
        go_wp2_with fail
        refine (HSAME.out _ _ _ _ _ L7.out (HLS.out _ _ _ _ _ _ _ HB7.out)).mono ?_
        rintro e w8 ⟨rfl, f8⟩
        have HB8 := Lib.hid (show AlB W x c vl N t' al2 n2 cl2 (v2 :: us2) (some ⟨gm, 0, none⟩) nm cm mine w8 from Bag.keep0 HB7.out f8)
        clear f8
        go_wp2_with fail
        go_roundw
        case rel => exact ⟨k + 1, N, nm, cm, t', mine, _, hlt, by go_num, rfl, hnm.out, Nat.le_succ_of_le hnb.out, Nat.le_succ_of_le hNb.out, HA'.out, hrw.out, HB8.out⟩
        case measure => simp [intOf]; omega
      have k1b : ((y.kind : Int) == 1) = false := beq_eq_false_iff_ne.2 (by omega)
      by_cases k4 : y.kind = 4
      · rw [k4] at e0
        obtain ⟨q, t', eq, hA'⟩ := hAs.out.cut HMEM.out
        have HCU := Lib.hid (bu_cut hB.out (i := 0) rfl hdl eq)
        have HA' := Lib.hid hA'
        clear eq hA' k1 k4 k1b
        go_wp2_with fail
        refine HCU.out.mono ?_
        rintro e w6 ⟨rfl, h6⟩
        have HB6 := Lib.hid (show AlB W x c vl N t' al2 n2 cl2 (v2 :: us2) (some ⟨gm, 0, none⟩) nm cm mine w6 from h6)
        clear h6 e0 e1 e2 e3 e4 e5 e6 e7 e8 e9 e10
        go_wp2_with fail
        refine (HLIST.out _ _ _ (by omega) _ _ _ _ HA'.out HB6.out).mono ?_
        rintro e w7 ⟨b7, c7, rfl, l7, f7⟩
        have HB7 := Lib.hid (show AlB W x c vl N t' al2 n2 cl2 (v2 :: us2) (some ⟨gm, 0, none⟩) nm cm mine w7 from Bag.keep0 HB6.out f7)
        have L7 := Lib.hid l7
        clear f7 l7
        go_wp2_with fail
        refine (HSAME.out _ _ _ _ _ L7.out (HLS.out _ _ _ _ _ _ _ HB7.out)).mono ?_
        rintro e w8 ⟨rfl, f8⟩
        have HB8 := Lib.hid (show AlB W x c vl N t' al2 n2 cl2 (v2 :: us2) (some ⟨gm, 0, none⟩) nm cm mine w8 from Bag.keep0 HB7.out f8)
        clear f8
        go_wp2_with fail
        go_roundw
        case rel => exact ⟨k + 1, N, nm, cm, t', mine, _, hlt, by go_num, rfl, hnm.out, Nat.le_succ_of_le hnb.out, Nat.le_succ_of_le hNb.out, HA'.out, hrw.out, HB8.out⟩
        case measure => simp [intOf]; omega
      have k4b : ((y.kind : Int) == 4) = false := beq_eq_false_iff_ne.2 (by omega)
      by_cases k5 : y.kind = 5
      · rw [k5] at e0
        obtain ⟨q, t', eq, hA'⟩ := hAs.out.free HMEM.out
        have HFR := Lib.hid (bu_free hB.out (i := 0) rfl (by unfold big; omega) (by omega) hdl eq)
        have HA' := Lib.hid hA'
        clear eq hA' k1 k4 k1b k4b k5
        go_wp2_with fail
        refine HFR.out.mono ?_
        rintro e w6 ⟨rfl, h6⟩
        have HB6 := Lib.hid (show AlB W x c vl N t' al2 n2 cl2 (v2 :: us2) (some ⟨gm, 0, none⟩) nm cm mine w6 from h6)
        clear h6 e0 e1 e2 e3 e4 e5 e6 e7 e8 e9 e10
        go_wp2_with fail
        refine (HLIST.out _ _ _ (by omega) _ _ _ _ HA'.out HB6.out).mono ?_
        rintro e w7 ⟨b7, c7, rfl, l7, f7⟩
        have HB7 := Lib.hid (show AlB W x c vl N t' al2 n2 cl2 (v2 :: us2) (some ⟨gm, 0, none⟩) nm cm mine w7 from Bag.keep0 HB6.out f7)
        have L7 := Lib.hid l7
        clear f7 l7
        go_wp2_with fail
        refine (HSAME.out _ _ _ _ _ L7.out (HLS.out _ _ _ _ _ _ _ HB7.out)).mono ?_
        rintro e w8 ⟨rfl, f8⟩
        have HB8 := Lib.hid (show AlB W x c vl N t' al2 n2 cl2 (v2 :: us2) (some ⟨gm, 0, none⟩) nm cm mine w8 from Bag.keep0 HB7.out f8)
        clear f8
        go_wp2_with fail
        go_roundw
        case rel => exact ⟨k + 1, N, nm, cm, t', mine, _, hlt, by go_num, rfl, hnm.out, Nat.le_succ_of_le hnb.out, Nat.le_succ_of_le hNb.out, HA'.out, hrw.out, HB8.out⟩
        case measure => simp [intOf]; omega
      have k5b : ((y.kind : Int) == 5) = false := beq_eq_false_iff_ne.2 (by omega)
      obtain ⟨hg, t', eq, hA'⟩ := hAs.out.save (by omega) HFV.out HFO.out HMEM.out
      have HRE := Lib.hid (bu_record hB.out (i := 0) rfl hdl y.o hoz _ rfl)
      have HSV := Lib.hid (fun w' (h : AlB W x c vl N t al2 n2 cl2 (v2 :: us2) (some ⟨gm, 0, none⟩) nm cm mine w') => bu_save h (i := 0) rfl (by unfold big; omega) fv fo (by omega) (by omega) HFV.out.wr HFO.out.wr hdl eq)
      have HA' := Lib.hid hA'
      have hgl : hg < 18446744073709551616 := hA'.lt hg (by simp)
      unfold VerV.cells at HRE HSV
      clear eq hA' k1 k4 k5
      go_wp2_with fail
      refine HRE.out.mono ?_
      rintro e w5 ⟨rfl, f5⟩
      have HB5 := Lib.hid (show AlB W x c vl N t al2 n2 cl2 (v2 :: us2) (some ⟨gm, 0, none⟩) nm cm mine w5 from Bag.keep0 hB.out f5)
      clear f5 e0 e1 e2 e3 e4 e5 e6 e7 e8 e9 e10
      obtain ⟨e1, e2, e3, e4, e5, e6, e7, e8, e9, e10⟩ := (HSC.out _ _ _ _ _ _ _ HB5.out).2
      go_wp2_with fail
      go_region_held3 (fun w' => (w'.cell? ⟨g3, o3 + k * 12 + 1, none⟩ = some (.int .i64 y.v.wr) ∧ w'.cell? ⟨g3, o3 + k * 12 + 2, none⟩ = some (.int .i64 y.v.ts) ∧ w'.cell? ⟨g3, o3 + k * 12 + 3, none⟩ = some (.bool y.v.tomb) ∧ w'.cell? ⟨g3, o3 + k * 12 + 4, none⟩ = some (.string y.v.val) ∧ w'.cell? ⟨g3, o3 + k * 12 + 5, none⟩ = some (.int .i64 y.o.wr) ∧ w'.cell? ⟨g3, o3 + k * 12 + 6, none⟩ = some (.int .i64 y.o.ts) ∧ w'.cell? ⟨g3, o3 + k * 12 + 7, none⟩ = some (.bool y.o.tomb) ∧ w'.cell? ⟨g3, o3 + k * 12 + 8, none⟩ = some (.string y.o.val) ∧ w'.cell? ⟨g3, o3 + k * 12 + 9, none⟩ = some (.int .i64 y.n) ∧ w'.cell? ⟨W.heap.size, 6, none⟩ = some (.int .i64 (vl : Int))))
          (first | exact (HSC.out _ _ _ _ _ _ _ (show AlB W x c vl (N + 1) t' al2 n2 cl2 (v2 :: us2) (some ⟨gm, 0, none⟩) nm cm mine _ from h8)).2 | exact (HSC.out _ _ _ _ _ _ _ (show AlB W x c vl N t al2 n2 cl2 (v2 :: us2) (some ⟨gm, 0, none⟩) nm cm mine _ from Bag.keep0 (Bag.keep0 (Bag.keep0 HB5.out (Fr.drew none_ _)) f6) f7)).2 | exact (HSC.out _ _ _ _ _ _ _ (show AlB W x c vl N t al2 n2 cl2 (v2 :: us2) (some ⟨gm, 0, none⟩) nm cm mine _ from Bag.keep0 (Bag.keep0 (Bag.keep0 HB5.out (Fr.drew none_ _)) f7) f6)).2 | exact (HSC.out _ _ _ _ _ _ _ (show AlB W x c vl N t al2 n2 cl2 (v2 :: us2) (some ⟨gm, 0, none⟩) nm cm mine _ from Bag.keep0 (Bag.keep0 HB5.out (Fr.drew none_ _)) f6)).2 | exact (HSC.out _ _ _ _ _ _ _ (show AlB W x c vl N t al2 n2 cl2 (v2 :: us2) (some ⟨gm, 0, none⟩) nm cm mine _ from Bag.keep0 (Bag.keep0 HB5.out (Fr.drew none_ _)) f7)).2 | exact (HSC.out _ _ _ _ _ _ _ (show AlB W x c vl N t al2 n2 cl2 (v2 :: us2) (some ⟨gm, 0, none⟩) nm cm mine _ from Bag.keep0 HB5.out (Fr.drew none_ _))).2 | go_keep)
          (first
            | (go_at_call 17; with_reducible refine (HF1.out _).mono ?_; rintro e w6 ⟨rfl, f6⟩)
            | (go_at_call 17; with_reducible refine (HF2.out _).mono ?_; rintro e w7 ⟨rfl, f7⟩)
            | (go_at_call 14; refine (HSV.out _ (show AlB W x c vl N t al2 n2 cl2 (v2 :: us2) (some ⟨gm, 0, none⟩) nm cm mine _ from by first | exact Bag.keep0 (Bag.keep0 (Bag.keep0 HB5.out (Fr.drew none_ _)) f6) f7 | exact Bag.keep0 (Bag.keep0 (Bag.keep0 HB5.out (Fr.drew none_ _)) f7) f6)).mono ?_; rintro e w8 ⟨rfl, h8⟩))
      all_goals (
        have HB8 := Lib.hid (show AlB W x c vl (N + 1) t' al2 n2 cl2 (v2 :: us2) (some ⟨gm, 0, none⟩) nm cm mine w8 from h8)
        clear h8 f6 f7 e1 e2 e3 e4 e5 e6 e7 e8 e9 e10
        have HSA := Lib.hid ((Bag.sl (i := 2) HB8.out rfl).kept0 (Fr.alloc none_ w8 (.cells [hvN hg].toArray 32)))
        have RA := Lib.hid (new_cells w8 [hvN hg] 32)
        have HVE := Lib.hid (show [hvN hg].toArray = #[.int .u64 (hg : Int)] from rfl)
        go_wp2_with (at_builtin; refine Stop.mk ?_)
        show wpList _ _ _ _ _ _
        rw [← HVE.out]
        refine wpAppend rfl _ _ _ rfl 32 (.int .u64 0) 1 8 Try.underlying33 handleInfo rfl HSA.out rfl ⟨w8.heap.size, 0, none⟩ 1 1 [hvN hg] rfl rfl RA.out (by intro u hu; simp at hu; subst hu; rfl) (by omega) (by unfold maxLen; omega) (by omega) ?_
        intro am' cm' w9 hs9 f9 hb9
        have HB9 := Lib.hid (show AlB W x c vl (N + 1) t' al2 n2 cl2 (v2 :: us2) am' (nm + 1) cm' (mine ++ [hg]) w9 from by
          have q := Bag.appendedNew HB8.out (i := 2) rfl hs9 f9 hb9
          unfold AlB tHds
          rw [List.map_append]
          exact q)
        clear hs9 f9 hb9
        go_wp2_with fail
        refine (HLIST.out _ _ _ (by omega) _ _ _ _ HA'.out HB9.out).mono ?_
        rintro e w10 ⟨b7, c7, rfl, l7, f7⟩
        have HB10 := Lib.hid (show AlB W x c vl (N + 1) t' al2 n2 cl2 (v2 :: us2) am' (nm + 1) cm' (mine ++ [hg]) w10 from Bag.keep0 HB9.out f7)
        have L7 := Lib.hid l7
        clear f7 l7
        go_wp2_with fail
        refine (HSAME.out _ _ _ _ _ L7.out (HLS.out _ _ _ _ _ _ _ HB10.out)).mono ?_
        rintro e w11 ⟨rfl, f8⟩
        have HB11 := Lib.hid (show AlB W x c vl (N + 1) t' al2 n2 cl2 (v2 :: us2) am' (nm + 1) cm' (mine ++ [hg]) w11 from Bag.keep0 HB10.out f8)
        clear f8
        go_wp2_with fail
        go_roundw
        case rel => exact ⟨k + 1, N + 1, nm + 1, cm', t', mine ++ [hg], am', hlt, by go_num, rfl, (show nm + 1 = (mine ++ [hg]).length by rw [List.length_append, ← hnm.out]; rfl), Nat.succ_le_succ hnb.out, Nat.succ_le_succ hNb.out, HA'.out, List.mem_append_left _ hrw.out, HB11.out⟩
        case measure => simp [intOf]; omega)
    · go_wp2_with fail
      go_ret
      exact ⟨rfl, Bag.fr hB.out⟩
  · have hm' : c.may = false := by simpa using hm
    have HNEW := Lib.hid (fun w' => Undo_New_no w' c hm')
    unfold CfgV.cells at HNEW
    clear hm hm'

    go_enter Try.func4, Try.ntmps4
    go_wp2_with fail
    rw [← HW0.out]
    clear hw0
    refine (works_any _).mono ?_
    rintro e w1 ⟨rfl, f1⟩
    have HB1 := Lib.hid (HB0.out.keep0 f1)
    clear f1
    go_wp2_with fail
    refine (HM1.out _ HB1.out.fr).mono ?_
    rintro e w2 ⟨rfl, rfl⟩
    go_wp2_with fail
    refine (HM2.out _ HB1.out.fr).mono ?_
    rintro e w3 ⟨rfl, rfl⟩
    go_wp2_with fail
    refine (HM3.out _ HB1.out.fr).mono ?_
    rintro e w4 ⟨rfl, q4, rfl⟩
    have HB4 := Lib.hid (HB1.out.keep0 (Fr.drewN none_ _ q4))
    have k0 := HCR.out _ _ HB4.out 0 _ rfl
    have k1 := HCR.out _ _ HB4.out 1 _ rfl
    have k2 := HCR.out _ _ HB4.out 2 _ rfl
    have k3 := HCR.out _ _ HB4.out 3 _ rfl
    have k4 := HCR.out _ _ HB4.out 4 _ rfl
    have k5 := HCR.out _ _ HB4.out 5 _ rfl
    have k6 := HCR.out _ _ HB4.out 6 _ rfl
    have k7 := HCR.out _ _ HB4.out 7 _ rfl
    go_wp2_with fail
    refine (HNEW.out _).mono ?_
    rintro e w5 ⟨rfl, f5⟩
    have HB5 := Lib.hid (HB4.out.keep0 f5)
    clear f5 k0 k1 k2 k3 k4 k5 k6 k7
    go_wp2_with fail
    go_ret
    exact ⟨rfl, HB5.out.fr⟩
end Go.Proofs.Ytckkccnebjacdaa
