/-
  UndoCopies: the walk. (Printed by gen_uncopies.py.)
-/
import Derived.Test.YtckkccnebjacdaaGreatUnCopy
import Derived.Test.YtckkccnebjacdaaGreatMgUnArgs
import Derived.Test.YtckkccnebjacdaaGreatUnSteps
import Derived.Test.YtckkccnebjacdaaGreatUnSegP
import Derived.Test.YtckkccnebjacdaaGreatMgUnSorted
import Derived.Test.YtckkccnebjacdaaGreatUnAloneP
import Derived.Deep.RegionHeld3
import Derived.Deep.DeepCutAuto
namespace Go.Proofs.YtckkccnebjacdaaGreat
open Go.RowKit
set_option linter.unusedVariables false
set_option linter.unusedSimpArgs false
set_option maxRecDepth 100000

/-- What stands in memory while the copy is turned. -/
def CpB (W : World) (d M : Nat) (td : US) (x : Nat) (c : CfgV) (vl N : Nat) (t : US) (al : Option Addr) (nl cl : Nat) (l : List VerV) (am : Option Addr) (nm cm : Nat) (mine : List Nat) (w : World) : Prop :=
  Bag W [tUn d c vl M td, tUn x c vl N t, tVers al nl cl l, tHds am nm cm mine, tRow W.heap.size c.cells 23] w
theorem Bag.pickC {W w : World} {A B C D E F : Thing} (h : Bag W [A, B, C, D, E, F] w) : Bag W [F, B, C, A, E] w := by
  refine h.pick (fun i => if i = 0 then 5 else if i = 1 then 1 else if i = 2 then 2 else if i = 3 then 0 else if i = 4 then 4 else i + 10) (fun i U hi => ?_) (fun i j hi hj e => ?_)
  · match i with
    | 0 => exact hi
    | 1 => exact hi
    | 2 => exact hi
    | 3 => exact hi
    | 4 => exact hi
    | i + 5 => simp at hi
  · simp only [List.length_cons, List.length_nil] at hi hj
    repeat' split at e
    all_goals omega
theorem SlAt.oneH (w : World) (h : Nat) : SlAt (w.alloc (.cells #[.int .u64 (h : Int)] 32)) (some ⟨w.heap.size, 0, none⟩) 1 1 32 1 ([h].map hvN) := SlAt.one w 32 (hvN h)
theorem hvC_one (h : Nat) : ∀ u, u ∈ hvC h → u.oneCell' = true := by
  intro u hu
  simp [hvC] at hu
  subst hu; rfl
theorem sum_take_le : ∀ (l : List Nat) (k : Nat), (l.take k).sum ≤ l.sum
  | [], k => by simp
  | a :: l, 0 => by simp
  | a :: l, k + 1 => by
    rw [List.take_succ_cons, List.sum_cons, List.sum_cons]
    have := sum_take_le l k
    omega
theorem sum_take_more {l : List Nat} {k n : Nat} (h : l[k]? = some n) : (l.take (k + 1)).sum = (l.take k).sum + n := by
  rw [List.take_add_one, h]; simp
theorem St.pop_any {vl N : Nat} {t : US} {L : List Nat} (h : St vl N t L) (k : Int) : ∃ q t' L', t.pop k = (q, t') ∧ St vl N t' L' := by
  unfold US.pop
  cases e : t.seg k with
  | nil => exact ⟨none, t, L, rfl, h⟩
  | cons a l => exact ⟨some a, (t.free a).2, _, rfl, h.free (h.is_.segh k a (by rw [e]; simp))⟩

set_option maxHeartbeats 16000000 in
theorem walk_UndoCopies (W : World) (c : CfgV) (_ : c.In) (a1 : Option Addr) (cap1 : Nat) (l : List VerV) (st1 : VersIn W a1 l) (a3 : Option Addr) (cap3 : Nat) (s : List StepU) (st3 : StepsU W a3 s) :
    Calls Tryz.prog 7 #[.agg c.cells, .slice a1 l.length cap1, .slice a3 s.length cap3] W fun e w' => e = .returned (.bool true) ∧ Fr none_ W w' := by
  obtain ⟨w0, hw0⟩ : ∃ w0, w0 = W.alloc (.cells c.cells 23) := ⟨_, rfl⟩
  have hb0 : Bag W [tRow W.heap.size c.cells 23] w0 := by
    have h := (Bag.start W).addRow c.cells 23
    rw [← hw0] at h
    exact h
  have HB0 := Lib.hid hb0
  have HL1 := Lib.hid (fun w' (f : Fr none_ W w') => st1.kept f (fun _ _ e => e))
  have HL3 := Lib.hid (fun w' (f : Fr none_ W w') => st3.kept f (fun _ _ e => e))
  have HM1 := Lib.hid (fun w' (f : Fr none_ W w') => many_any w' a1 cap1 l (st1.kept f (fun _ _ e => e)))
  have HM3 := Lib.hid (fun w' (f : Fr none_ W w') => large_any w' a3 cap3 s (st3.kept f (fun _ _ e => e)))
  have HW0 := Lib.hid hw0
  have HCR := Lib.hid (show ∀ w' Ts, Bag W (tRow W.heap.size c.cells 23 :: Ts) w' → ∀ (i : Nat) (u : Value), c.cells[i]? = some u → w'.cell? ⟨W.heap.size, i, none⟩ = some u from fun w' Ts f i u hu => ((f.row (i := 0) rfl).cell i).trans hu)
  have HFIN := Lib.hid (show ∀ w1, Fr none_ W w1 → Calls Tryz.prog 8 #[] w1 fun e w' => e = .returned (.bool true) ∧ Fr none_ W w' from fun w1 f => (works_any w1).mono fun e w' ⟨h1, h2⟩ => ⟨h1, f.trans h2⟩)
  clear hb0
  unfold CfgV.cells at hw0 HW0 HCR ⊢
  cases hb1 : isMany l with
  | true =>
    rw [hb1] at HM1
    clear hb1
    go_enter Tryz.func7, Tryz.ntmps7
    go_wp2_with fail
    rw [← HW0.out]
    clear hw0
    refine (works_any _).mono ?_
    rintro e w1 ⟨rfl, f1⟩
    have HB1 := Lib.hid (HB0.out.keep0 f1)
    clear f1
    go_wp2_with fail
    refine (HM1.out _ HB1.out.fr).mono ?_
    rintro e w2 ⟨rfl, rfl⟩
    go_wp2_with fail
    refine (HFIN.out _ HB1.out.fr).mono ?_
    rintro e w9 ⟨rfl, f9⟩
    have F9 := Lib.hid f9
    clear f9
    go_wp2_with fail
    go_ret
    exact ⟨rfl, F9.out⟩
  | false =>
  cases hb3 : isLarge s with
  | true =>
    rw [hb1] at HM1
    rw [hb3] at HM3
    clear hb1 hb3
    go_enter Tryz.func7, Tryz.ntmps7
    go_wp2_with fail
    rw [← HW0.out]
    clear hw0
    refine (works_any _).mono ?_
    rintro e w1 ⟨rfl, f1⟩
    have HB1 := Lib.hid (HB0.out.keep0 f1)
    clear f1
    go_wp2_with fail
    refine (HM1.out _ HB1.out.fr).mono ?_
    rintro e w2 ⟨rfl, rfl⟩
    go_wp2_with fail
    refine (HM3.out _ HB1.out.fr).mono ?_
    rintro e w4 ⟨rfl, q4, rfl⟩
    have HB4 := Lib.hid (HB1.out.keep0 (Fr.drewN none_ _ q4))
    go_wp2_with fail
    refine (HFIN.out _ HB4.out.fr).mono ?_
    rintro e w9 ⟨rfl, f9⟩
    have F9 := Lib.hid f9
    clear f9
    go_wp2_with fail
    go_ret
    exact ⟨rfl, F9.out⟩
  | false =>
  rw [hb1] at HM1
  rw [hb3] at HM3
  have hl1 := isMany_no hb1
  have hl3 := isLarge_no hb3
  clear hb1 hb3 st1 st3
  obtain ⟨n1, hn1⟩ : ∃ n, n = l.length := ⟨_, rfl⟩
  obtain ⟨n3, hn3⟩ : ∃ n, n = s.length := ⟨_, rfl⟩
  rw [← hn1] at HM1 hl1 ⊢
  rw [← hn3] at HM3 hl3 ⊢
  have HN1 := Lib.hid hn1
  have HN3 := Lib.hid hn3
  clear hn1 hn3
  by_cases hz1 : n1 = 0
  · have hz : ((n1 : Int) == 0) = true := by rw [hz1]; rfl
    clear hz1
    go_enter Tryz.func7, Tryz.ntmps7
    go_wp2_with fail
    rw [← HW0.out]
    clear hw0
    refine (works_any _).mono ?_
    rintro e w1 ⟨rfl, f1⟩
    have HB1 := Lib.hid (HB0.out.keep0 f1)
    clear f1
    go_wp2_with fail
    refine (HM1.out _ HB1.out.fr).mono ?_
    rintro e w2 ⟨rfl, rfl⟩
    go_wp2_with fail
    refine (HM3.out _ HB1.out.fr).mono ?_
    rintro e w4 ⟨rfl, q4, rfl⟩
    have HB4 := Lib.hid (HB1.out.keep0 (Fr.drewN none_ _ q4))
    go_wp2_with fail
    refine (HFIN.out _ HB4.out.fr).mono ?_
    rintro e w9 ⟨rfl, f9⟩
    have F9 := Lib.hid f9
    clear f9
    go_wp2_with fail
    go_ret
    exact ⟨rfl, F9.out⟩
  have hp1 : 0 < n1 := Nat.pos_of_ne_zero hz1
  have h0n : 0 + n1 ≤ 200 := by omega
  have hz1b : ((n1 : Int) == 0) = false := beq_eq_false_iff_ne.2 (by omega)
  clear hz1
  by_cases hm : c.may = true
  · obtain ⟨vl, hvl, hvl2⟩ := may_vl hm
    have HNEW := Lib.hid (fun (w' : World) (h : Bag W [tRow W.heap.size c.cells 23] w') => bu_new h c hm hvl hvl2)
    have HST := Lib.hid (St.new hvl2)
    have HS1 := Lib.hid (fun (x : Nat) (w' : World) (h : Bag W [tUn x c vl 0 (US.new vl), tRow W.heap.size c.cells 23] w') => stack_n h HST.out hvl2 (Nat.zero_le 200) a1 cap1 l HL1.out n1 HN1.out hl1 hp1)
    have HK6 := Lib.hid (show ∀ w', Row w' W.heap.size c.cells 23 → w'.cell? ⟨W.heap.size, 6, none⟩ = some (.int .i64 (vl : Int)) from fun w' r => by rw [r.cell]; show some (Value.int .i64 c.valLen) = _; rw [hvl])
    unfold CfgV.cells at HNEW
    clear hvl hm
    go_enter Tryz.func7, Tryz.ntmps7
    go_wp2_with fail
    rw [← HW0.out]
    clear hw0
    refine (works_any _).mono ?_
    rintro e w1 ⟨rfl, f1⟩
    have HB1 := Lib.hid (HB0.out.keep0 f1)
    clear f1
    go_wp2_with fail
    refine (HM1.out _ HB1.out.fr).mono ?_
    rintro e w2 ⟨rfl, rfl⟩
    go_wp2_with fail
    refine (HM3.out _ HB1.out.fr).mono ?_
    rintro e w4 ⟨rfl, q4, rfl⟩
    have HB4 := Lib.hid (HB1.out.keep0 (Fr.drewN none_ _ q4))
    have k0 := HCR.out _ _ HB4.out 0 _ rfl
    have k1 := HCR.out _ _ HB4.out 1 _ rfl
    have k2 := HCR.out _ _ HB4.out 2 _ rfl
    have k3 := HCR.out _ _ HB4.out 3 _ rfl
    have k4 := HCR.out _ _ HB4.out 4 _ rfl
    have k5 := HCR.out _ _ HB4.out 5 _ rfl
    have k6 := HCR.out _ _ HB4.out 6 _ rfl
    have k7 := HCR.out _ _ HB4.out 7 _ rfl
    go_wp2_with fail
    refine (HNEW.out _ HB4.out).mono ?_
    rintro e w5 ⟨x, rfl, h5⟩
    have H5 := Lib.hid (show Bag W [tUn x c vl 0 (US.new vl), tRow W.heap.size c.cells 23] w5 from h5.front)
    have kk6 := HK6.out _ (H5.out.row (i := 1) rfl)
    clear h5 k0 k1 k2 k3 k4 k5 k6 k7
    go_wp2_with fail
    refine (HS1.out _ _ H5.out).mono ?_
    rintro e w6 ⟨row1, v1, us1, hs1, top1, t, al, cl, ar1, cr1, rfl, hsk1, hbg1⟩
    have HSK := Lib.hid hsk1
    have HBG := Lib.hid hbg1
    have HCO := Lib.hid (bu_copy hbg1 (i := 0) rfl (by omega))
    have hr1 : row1 < 18446744073709551616 := hsk1.rowL
    have hlen1 : us1.length + 1 = n1 := hsk1.len
    have hh1 : hs1.length ≤ 100 := by have := hsk1.len; have := hsk1.stk.chn.len; omega
    clear hbg1 hsk1 kk6
    go_wp2_with fail
    refine HCO.out.mono ?_
    rintro e w7 ⟨d, rfl, h7⟩
    have HAR := Lib.hid (((Bag.sl (i := 2) h7 rfl).ls1 (enc := hvN) (l := hs1.reverse) (by simp)).kept0 (Fr.alloc none_ w7 (.cells #[.int .u64 (row1 : Int)] 32)))
    have HB7 := Lib.hid (Bag.front (Bag.add (T := tHds (some ⟨w7.heap.size, 0, none⟩) 1 1 [row1]) (F := blk (some ⟨w7.heap.size, 0, none⟩)) h7 (Fr.alloc none_ w7 (.cells #[.int .u64 (row1 : Int)] 32)) ⟨SlAt.oneH w7 row1, rfl⟩ (fun k hk => by rw [blk_some] at hk; omega)))
    clear h7
    go_wp2_with (at_builtin; refine Stop.mk ?_)
    show wpList _ _ _ _ _ _
    refine wpAppendLn rfl _ _ _ rfl 32 (.int .u64 0) 1 8 Tryz.underlying33 handleInfo rfl (SlAt.oneH w7 row1) HAR.out (show hs1.length = hs1.reverse.length from List.length_reverse.symm) (fun _ => rfl) hvC_one rfl rfl (by unfold maxLen; omega) (by omega) ?_
    intro am nm cm w8 hnm hsm fm hbm
    obtain ⟨mine, hmine⟩ : ∃ mine, mine = row1 :: hs1.reverse := ⟨_, rfl⟩
    have HNM := Lib.hid (show nm = mine.length by rw [hmine, hnm.out, List.length_cons, List.length_reverse]; omega)
    have hnmp : 0 < nm := by rw [hnm.out]; omega
    have hnmb : nm ≤ 101 := by rw [hnm.out]; omega
    have hb8 : CpB W d (0 + n1) t x c vl (0 + n1) t al n1 cl (v1 :: us1) am nm cm mine w8 := Bag.pickC (show Bag W [tHds am nm cm mine, tUn x c vl (0 + n1) t, tVers al n1 cl (v1 :: us1), tHds ar1 hs1.length cr1 hs1.reverse, tRow W.heap.size c.cells 23, tUn d c vl (0 + n1) t] w8 from by
      have q := Bag.appended HB7.out (i := 0) rfl hsm fm hbm
      rw [show hs1.reverse.flatMap (fun x => [hvN x]) = hs1.reverse.map hvN from hv_flat _] at q
      rw [hmine]
      exact q)
    obtain ⟨gm, rfl⟩ := (Bag.sl (i := 3) hb8 rfl).isAddr (by omega)
    have HB8 := Lib.hid hb8
    have HLT := Lib.hid (show ∀ y ∈ mine, y < 18446744073709551616 from fun y hy => by
      rw [hmine] at hy
      rcases List.mem_cons.1 hy with q | q
      · rw [q]; exact hr1
      · exact (HSK.out.st.live.pos y (by simp [List.mem_reverse.1 q])).2)
    have HRC := Lib.hid (show us1.length = hs1.length from HSK.out.stk.chn.len)
    clear hnm hsm fm hbm hb8 hmine
    go_wp2_with fail
    go_loopw [15] (fun iv wr => ∃ (k M : Nat) (td : US) (L : List Nat), Hid (k ≤ n3) ∧ iv = .int .i64 (k : Int) ∧ Hid (M ≤ 200 + k) ∧ Hid (St vl M td L) ∧ Hid (CpB W d M td x c vl (0 + n1) t al n1 cl (v1 :: us1) (some ⟨gm, 0, none⟩) nm cm mine wr)) (fun iv _ => n3 - (intOf iv).toNat)
    case atStart => exact ⟨0, 0 + n1, t, hs1 ++ [row1], Nat.zero_le _, rfl, h0n, HSK.out.st, HB8.out⟩
    case round =>
    obtain ⟨k, M, td, L, hk, rfl, hMb, hSt, hB⟩ := hrel
    clear HB8 HAR HB7 HS1 HBG
    by_cases hlt : k < n3
    · obtain ⟨y, hy⟩ : ∃ y, s[k]? = some y := ⟨s[k]'(by rw [← HN3.out]; exact hlt), List.getElem?_eq_getElem _⟩
      have hBf : Fr none_ W wr := Bag.fr hB.out
      obtain ⟨g3, o3, ha3, _, _⟩ := (HL3.out _ hBf).at_.get hy
      have hyin := (HL3.out _ hBf).ok y (List.mem_of_getElem? hy)
      have hvz := hyin.v.sz
      have hoz := hyin.o.sz
      have HSC := Lib.hid (show ∀ w' M' td', CpB W d M' td' x c vl (0 + n1) t al n1 cl (v1 :: us1) (some ⟨gm, 0, none⟩) nm cm mine w' → (w'.cell? ⟨g3, o3 + k * 12, none⟩ = some (.int .u8 (y.kind : Int)) ∧ w'.cell? ⟨g3, o3 + k * 12 + 1, none⟩ = some (.int .i64 y.v.wr) ∧ w'.cell? ⟨g3, o3 + k * 12 + 2, none⟩ = some (.int .i64 y.v.ts) ∧ w'.cell? ⟨g3, o3 + k * 12 + 3, none⟩ = some (.bool y.v.tomb) ∧ w'.cell? ⟨g3, o3 + k * 12 + 4, none⟩ = some (.string y.v.val) ∧ w'.cell? ⟨g3, o3 + k * 12 + 5, none⟩ = some (.int .i64 y.o.wr) ∧ w'.cell? ⟨g3, o3 + k * 12 + 6, none⟩ = some (.int .i64 y.o.ts) ∧ w'.cell? ⟨g3, o3 + k * 12 + 7, none⟩ = some (.bool y.o.tomb) ∧ w'.cell? ⟨g3, o3 + k * 12 + 8, none⟩ = some (.string y.o.val) ∧ w'.cell? ⟨g3, o3 + k * 12 + 9, none⟩ = some (.int .i64 y.n) ∧ w'.cell? ⟨W.heap.size, 6, none⟩ = some (.int .i64 (vl : Int))) from fun w' M' td' h => by
        have f : Fr none_ W w' := Bag.fr h
        obtain ⟨g4, o4, ha4, _, hc⟩ := (HL3.out _ f).at_.get hy
        rw [ha3] at ha4; cases ha4
        exact ⟨hc k y hy 0 _ rfl, hc k y hy 1 _ rfl, hc k y hy 2 _ rfl, hc k y hy 3 _ rfl, hc k y hy 4 _ rfl, hc k y hy 5 _ rfl, hc k y hy 6 _ rfl, hc k y hy 7 _ rfl, hc k y hy 8 _ rfl, hc k y hy 9 _ rfl, HK6.out _ (Bag.row (i := 4) h rfl)⟩)
      subst ha3
      obtain ⟨e0, e1, e2, e3, e4, e5, e6, e7, e8, e9, e10⟩ := HSC.out _ _ _ hB.out
      obtain ⟨A, hA⟩ : ∃ A : Nat, A = (y.n % 18446744073709551616).toNat := ⟨_, rfl⟩
      have hAw : IntKind.u64.wrap y.n = (A : Int) := by rw [IntKind.wrap_u64]; omega
      have hAb : A < 18446744073709551616 := by omega
      have hnpi : (0 : Int) < (nm : Int) := by omega
      have hmod : A % nm < nm := Nat.mod_lt _ hnmp
      obtain ⟨hd, hhd⟩ : ∃ hd, mine[A % nm]? = some hd := ⟨_, List.getElem?_eq_getElem (by rw [← HNM.out]; exact hmod)⟩
      have hdl : hd < 18446744073709551616 := HLT.out hd (List.mem_of_getElem? hhd)
      have s0 : wr.cell? ⟨gm, A % nm, none⟩ = some (.int .u64 (hd : Int)) := (Bag.sl (i := 3) hB.out rfl).cell (i := A % nm) (v := hvN hd) (by rw [List.getElem?_map, hhd]; rfl)
      have hkb : y.kind < 256 := hyin.kind
      have HF1 := Lib.hid (fun w' => fit_any w' y.v hvz vl hvl2)
      have HF2 := Lib.hid (fun w' => fit_any w' y.o hoz vl hvl2)
      have HFV := Lib.hid (y.v.fitted_fit vl)
      have HFO := Lib.hid (y.o.fitted_fit vl)
      obtain ⟨fv, hfv⟩ : ∃ fv, fv = y.v.fitted vl := ⟨_, rfl⟩
      obtain ⟨fo, hfo⟩ : ∃ fo, fo = y.o.fitted vl := ⟨_, rfl⟩
      rw [← hfv] at HF1 HFV
      rw [← hfo] at HF2 HFO
      unfold VerV.cells at HF1 HF2
      have hMb2 : M ≤ 400 := by have := hMb.out; omega
      have hfvs : fv.val.size ≤ 256 := by have := (VerV.umay_iff.1 HFV.out.may).2.1; omega
      have hfos : fo.val.size ≤ 256 := by have := (VerV.umay_iff.1 HFO.out.may).2.1; omega
      have hA9 : A % 9 < 9 := Nat.mod_lt _ (by omega)
      clear hy hBf hyin hA hhd hfv hfo
      go_upto_region 14 with fail
      go_cut [16] (fun hv wx => hv = .int .u64 (hd : Int) ∧ wx = wr)
      case first =>
        go_wp2_with fail
        go_meet
        exact ⟨rfl, rfl⟩
      case rest =>
      obtain ⟨rfl, hwc⟩ := hcut
      have hwc := hwc.symm
      subst hwc
      clear s0 hmod
      by_cases k1 : y.kind = 1
      · rw [k1] at e0
        clear hAw
        obtain ⟨q, t', eq, hS', _⟩ := hSt.out.change_any HFV.out hdl (nx := 0) (by omega)
        have HCH := Lib.hid (fun w' (f : Fr none_ wr w') => bu_change (Bag.keep0 hB.out f) (i := 0) rfl fv (by omega) HFV.out.wr hdl (nx := 0) (by omega) eq)
        have HS' := Lib.hid hS'
        unfold VerV.cells at HCH
        clear eq hS' k1
        go_wp2_with fail
        go_region_held3 (fun w' => (w'.cell? ⟨g3, o3 + k * 12 + 1, none⟩ = some (.int .i64 y.v.wr) ∧ w'.cell? ⟨g3, o3 + k * 12 + 2, none⟩ = some (.int .i64 y.v.ts) ∧ w'.cell? ⟨g3, o3 + k * 12 + 3, none⟩ = some (.bool y.v.tomb) ∧ w'.cell? ⟨g3, o3 + k * 12 + 4, none⟩ = some (.string y.v.val) ∧ w'.cell? ⟨g3, o3 + k * 12 + 5, none⟩ = some (.int .i64 y.o.wr) ∧ w'.cell? ⟨g3, o3 + k * 12 + 6, none⟩ = some (.int .i64 y.o.ts) ∧ w'.cell? ⟨g3, o3 + k * 12 + 7, none⟩ = some (.bool y.o.tomb) ∧ w'.cell? ⟨g3, o3 + k * 12 + 8, none⟩ = some (.string y.o.val) ∧ w'.cell? ⟨g3, o3 + k * 12 + 9, none⟩ = some (.int .i64 y.n) ∧ w'.cell? ⟨W.heap.size, 6, none⟩ = some (.int .i64 (vl : Int))))
          (first | exact (HSC.out _ _ _ (show CpB W d M t' x c vl (0 + n1) t al n1 cl (v1 :: us1) (some ⟨gm, 0, none⟩) nm cm mine _ from h6)).2 | exact (HSC.out _ _ _ (show CpB W d M td x c vl (0 + n1) t al n1 cl (v1 :: us1) (some ⟨gm, 0, none⟩) nm cm mine _ from Bag.keep0 (Bag.keep0 hB.out (Fr.drew none_ _)) f5)).2 | exact (HSC.out _ _ _ (show CpB W d M td x c vl (0 + n1) t al n1 cl (v1 :: us1) (some ⟨gm, 0, none⟩) nm cm mine _ from Bag.keep0 hB.out (Fr.drew none_ _))).2 | go_keep)
          (first
            | (go_at_call 45; refine (HF1.out _).mono ?_; rintro e w5 ⟨rfl, f5⟩)
            | (go_at_call 17; refine (HCH.out _ ((Fr.drew none_ _).trans f5)).mono ?_; rintro e w6 ⟨rfl, h6⟩))
        have HB6 := Lib.hid (show CpB W d M t' x c vl (0 + n1) t al n1 cl (v1 :: us1) (some ⟨gm, 0, none⟩) nm cm mine w6 from h6)
        clear h6 f5 e0 e1 e2 e3 e4 e5 e6 e7 e8 e9 e10
        go_wp2_with fail
        go_roundw
        case rel => exact ⟨k + 1, M, t', L, hlt, by go_num, Nat.le_succ_of_le hMb.out, HS'.out, HB6.out⟩
        case measure => simp [intOf]; omega
      have k1b : ((y.kind : Int) == 1) = false := beq_eq_false_iff_ne.2 (by omega)
      by_cases k4 : y.kind = 4
      · rw [k4] at e0
        clear hAw
        obtain ⟨q, t', eq, hS', _⟩ := hSt.out.cut_any hdl
        have HCU := Lib.hid (bu_cut hB.out (i := 0) rfl hdl eq)
        have HS' := Lib.hid hS'
        clear eq hS' k1 k4 k1b
        go_wp2_with fail
        refine HCU.out.mono ?_
        rintro e w6 ⟨rfl, h6⟩
        have HB6 := Lib.hid (show CpB W d M t' x c vl (0 + n1) t al n1 cl (v1 :: us1) (some ⟨gm, 0, none⟩) nm cm mine w6 from h6)
        clear h6 e0 e1 e2 e3 e4 e5 e6 e7 e8 e9 e10
        go_wp2_with fail
        go_roundw
        case rel => exact ⟨k + 1, M, t', L, hlt, by go_num, Nat.le_succ_of_le hMb.out, HS'.out, HB6.out⟩
        case measure => simp [intOf]; omega
      have k4b : ((y.kind : Int) == 4) = false := beq_eq_false_iff_ne.2 (by omega)
      by_cases k5 : y.kind = 5
      · rw [k5] at e0
        clear hAw
        obtain ⟨q, t', eq, hS', _⟩ := hSt.out.free_any hdl
        have HFR := Lib.hid (bu_free hB.out (i := 0) rfl (by unfold big; omega) (by omega) hdl eq)
        have HS' := Lib.hid hS'
        clear eq hS' k1 k4 k1b k4b k5
        go_wp2_with fail
        refine HFR.out.mono ?_
        rintro e w6 ⟨rfl, h6⟩
        have HB6 := Lib.hid (show CpB W d M t' x c vl (0 + n1) t al n1 cl (v1 :: us1) (some ⟨gm, 0, none⟩) nm cm mine w6 from h6)
        clear h6 e0 e1 e2 e3 e4 e5 e6 e7 e8 e9 e10
        go_wp2_with fail
        go_roundw
        case rel => exact ⟨k + 1, M, t', _, hlt, by go_num, Nat.le_succ_of_le hMb.out, HS'.out, HB6.out⟩
        case measure => simp [intOf]; omega
      have k5b : ((y.kind : Int) == 5) = false := beq_eq_false_iff_ne.2 (by omega)
      by_cases k6 : y.kind = 6
      · rw [k6] at e0
        obtain ⟨q, t', L', eq, hS'⟩ := hSt.out.pop_any (1 + (A : Int) % 9)
        have HPO := Lib.hid (bu_pop hB.out (i := 0) rfl (by unfold big; omega) (by omega) (1 + (A : Int) % 9) eq)
        have HS' := Lib.hid hS'
        clear eq hS' k1 k4 k1b k4b k5 k5b k6 hA9
        go_wp2_with fail
        refine HPO.out.mono ?_
        rintro e w6 ⟨rfl, h6⟩
        have HB6 := Lib.hid (show CpB W d M t' x c vl (0 + n1) t al n1 cl (v1 :: us1) (some ⟨gm, 0, none⟩) nm cm mine w6 from h6)
        clear h6 e0 e1 e2 e3 e4 e5 e6 e7 e8 e9 e10
        go_wp2_with fail
        go_roundw
        case rel => exact ⟨k + 1, M, t', L', hlt, by go_num, Nat.le_succ_of_le hMb.out, HS'.out, HB6.out⟩
        case measure => simp [intOf]; omega
      have k6b : ((y.kind : Int) == 6) = false := beq_eq_false_iff_ne.2 (by omega)
      clear hAw
      obtain ⟨hg, t', eq, m', hS'⟩ := hSt.out.save (by omega) HFV.out HFO.out (nx := 0) (by omega)
      have HSV := Lib.hid (fun w' (h : CpB W d M td x c vl (0 + n1) t al n1 cl (v1 :: us1) (some ⟨gm, 0, none⟩) nm cm mine w') => bu_save h (i := 0) rfl (by unfold big; omega) fv fo (by omega) (by omega) HFV.out.wr HFO.out.wr (nx := 0) (by omega) eq)
      have HS' := Lib.hid hS'
      unfold VerV.cells at HSV
      clear eq hS' m' k1 k4 k5 k6
      go_wp2_with fail
      go_region_held3 (fun w' => (w'.cell? ⟨g3, o3 + k * 12 + 1, none⟩ = some (.int .i64 y.v.wr) ∧ w'.cell? ⟨g3, o3 + k * 12 + 2, none⟩ = some (.int .i64 y.v.ts) ∧ w'.cell? ⟨g3, o3 + k * 12 + 3, none⟩ = some (.bool y.v.tomb) ∧ w'.cell? ⟨g3, o3 + k * 12 + 4, none⟩ = some (.string y.v.val) ∧ w'.cell? ⟨g3, o3 + k * 12 + 5, none⟩ = some (.int .i64 y.o.wr) ∧ w'.cell? ⟨g3, o3 + k * 12 + 6, none⟩ = some (.int .i64 y.o.ts) ∧ w'.cell? ⟨g3, o3 + k * 12 + 7, none⟩ = some (.bool y.o.tomb) ∧ w'.cell? ⟨g3, o3 + k * 12 + 8, none⟩ = some (.string y.o.val) ∧ w'.cell? ⟨g3, o3 + k * 12 + 9, none⟩ = some (.int .i64 y.n) ∧ w'.cell? ⟨W.heap.size, 6, none⟩ = some (.int .i64 (vl : Int))))
          (first | exact (HSC.out _ _ _ (show CpB W d (M + 1) t' x c vl (0 + n1) t al n1 cl (v1 :: us1) (some ⟨gm, 0, none⟩) nm cm mine _ from h8)).2 | exact (HSC.out _ _ _ (show CpB W d M td x c vl (0 + n1) t al n1 cl (v1 :: us1) (some ⟨gm, 0, none⟩) nm cm mine _ from Bag.keep0 (Bag.keep0 (Bag.keep0 hB.out (Fr.drew none_ _)) f6) f7)).2 | exact (HSC.out _ _ _ (show CpB W d M td x c vl (0 + n1) t al n1 cl (v1 :: us1) (some ⟨gm, 0, none⟩) nm cm mine _ from Bag.keep0 (Bag.keep0 (Bag.keep0 hB.out (Fr.drew none_ _)) f7) f6)).2 | exact (HSC.out _ _ _ (show CpB W d M td x c vl (0 + n1) t al n1 cl (v1 :: us1) (some ⟨gm, 0, none⟩) nm cm mine _ from Bag.keep0 (Bag.keep0 hB.out (Fr.drew none_ _)) f6)).2 | exact (HSC.out _ _ _ (show CpB W d M td x c vl (0 + n1) t al n1 cl (v1 :: us1) (some ⟨gm, 0, none⟩) nm cm mine _ from Bag.keep0 (Bag.keep0 hB.out (Fr.drew none_ _)) f7)).2 | exact (HSC.out _ _ _ (show CpB W d M td x c vl (0 + n1) t al n1 cl (v1 :: us1) (some ⟨gm, 0, none⟩) nm cm mine _ from Bag.keep0 hB.out (Fr.drew none_ _))).2 | go_keep)
          (first
            | (go_at_call 45; with_reducible refine (HF1.out _).mono ?_; rintro e w6 ⟨rfl, f6⟩)
            | (go_at_call 45; with_reducible refine (HF2.out _).mono ?_; rintro e w7 ⟨rfl, f7⟩)
            | (go_at_call 24; refine (HSV.out _ (show CpB W d M td x c vl (0 + n1) t al n1 cl (v1 :: us1) (some ⟨gm, 0, none⟩) nm cm mine _ from by first | exact Bag.keep0 (Bag.keep0 (Bag.keep0 hB.out (Fr.drew none_ _)) f6) f7 | exact Bag.keep0 (Bag.keep0 (Bag.keep0 hB.out (Fr.drew none_ _)) f7) f6)).mono ?_; rintro e w8 ⟨rfl, h8⟩))
      all_goals (
        have HB9 := Lib.hid (show CpB W d (M + 1) t' x c vl (0 + n1) t al n1 cl (v1 :: us1) (some ⟨gm, 0, none⟩) nm cm mine w8 from h8)
        clear h8 f6 f7 e0 e1 e2 e3 e4 e5 e6 e7 e8 e9 e10
        go_wp2_with fail
        go_roundw
        case rel => exact ⟨k + 1, M + 1, t', _, hlt, by go_num, Nat.succ_le_succ hMb.out, HS'.out, HB9.out⟩
        case measure => simp [intOf]; omega)
    · clear hSt
      have HSG := Lib.hid (bu_segments hB.out (i := 1) rfl (by omega))
      have hlt2 : ¬ (k : Int) < (n3 : Int) := by omega
      go_wp2_with fail
      refine HSG.out.mono ?_
      rintro e w10 ⟨ag, ng, cg, ks, rfl, hng, hsg, hks, f10⟩
      have HB10 := Lib.hid (show CpB W d M td x c vl (0 + n1) t al n1 cl (v1 :: us1) (some ⟨gm, 0, none⟩) nm cm mine w10 from Bag.keep0 hB.out f10)
      have HSL := Lib.hid hsg
      have HKS := Lib.hid (show ks.length = ng from hng.symm)
      obtain ⟨ls, hls⟩ : ∃ ls : List Nat, ls = ks.map fun k => (t.seg k).length := ⟨_, rfl⟩
      have HLS := Lib.hid hls
      have HSUM := Lib.hid (show ls.sum = hs1.length by rw [hls]; exact ((seg_sum HSK.out.st hks).trans (stk_recs HSK.out.stk)).trans HRC.out)
      have hngb : ng ≤ 9223372036854775807 := by have h1 := hsg.2.1; have h2 := hsg.2.2.1; unfold maxLen at h2; omega
      clear hsg hng hks f10 hls
      go_wp2_with fail
      go_loopw [17, 19] (fun mv iv wr => ∃ (i m : Nat), Hid (i ≤ ng) ∧ iv = .int .i64 (i : Int) ∧ mv = .int .i64 (m : Int) ∧ Hid (m = (ls.take i).sum) ∧ Hid (Fr none_ w10 wr)) (fun _ iv _ => ng - (intOf iv).toNat)
      case atStart => exact ⟨0, 0, Nat.zero_le _, rfl, rfl, (show 0 = (ls.take 0).sum from rfl), Fr.refl _ _⟩
      case round =>
      obtain ⟨i, m, hi, rfl, rfl, hm, hF⟩ := hrel
      have HB11 := Lib.hid (show CpB W d M td x c vl (0 + n1) t al n1 cl (v1 :: us1) (some ⟨gm, 0, none⟩) nm cm mine wr from Bag.keep0 HB10.out hF.out)
      clear HSG HN1
      by_cases hil : i < ng
      · obtain ⟨kk, hkk⟩ : ∃ kk, ks[i]? = some kk := ⟨ks[i]'(by rw [HKS.out]; exact hil), List.getElem?_eq_getElem _⟩
        obtain ⟨gg, rfl⟩ := HSL.out.isAddr (by omega)
        have s0 : wr.cell? ⟨gg, i, none⟩ = some (.int .i64 kk) := (HSL.out.kept0 hF.out).cell (i := i) (v := Value.int .i64 kk) (by rw [List.getElem?_map, hkk]; rfl)
        obtain ⟨ln, hln⟩ : ∃ ln, ln = (t.seg kk).length := ⟨_, rfl⟩
        have HSE := Lib.hid (bu_segment HB11.out (i := 1) rfl (by omega) kk _ rfl ln hln.symm)
        have hli : ls[i]? = some ln := by rw [HLS.out, List.getElem?_map, hkk, hln]; rfl
        have hmm := (sum_take_more hli).symm
        rw [← hm.out] at hmm
        have HMM := Lib.hid hmm
        have hmb : m + ln ≤ 100 := by have := sum_take_le ls (i + 1); have := HSUM.out; omega
        clear hkk hln hli hmm
        go_wp2_with fail
        refine HSE.out.mono ?_
        rintro e w12 ⟨aq, cq, rfl, ls2, f12⟩
        have F12 := Lib.hid (hF.out.trans f12)
        clear ls2 f12 s0
        go_wp2_with fail
        go_roundw
        case rel => exact ⟨i + 1, m + ln, hil, by go_num, by go_num, HMM.out, F12.out⟩
        case measure => simp [intOf]; omega
      · have hie : i = ng := by have := hi.out; omega
        have hme : m = hs1.length := by
          rw [hm.out, hie, ← HSUM.out]
          have : ls.length = ng := by rw [HLS.out, List.length_map, HKS.out]
          rw [← this, List.take_length]
        subst hme
        have HLI := Lib.hid (bu_list HB11.out (i := 1) rfl (by omega) hr1 _ (HSK.out.st.list hvl2 HSK.out.stk HSK.out.st.live.zero) n1 (show (v1 :: us1).length = n1 from hlen1))
        have HLV := Lib.hid (fun w' (h : CpB W d M td x c vl (0 + n1) t al n1 cl (v1 :: us1) (some ⟨gm, 0, none⟩) nm cm mine w') => (Bag.sl (i := 2) h rfl).ls (cells := verL) (sz := 4) (fun _ => rfl) (show n1 = (v1 :: us1).length from hlen1.symm))
        have HSM := Lib.hid (fun (w' : World) (b1 b2 : Option Addr) (c1 c2 : Nat) (h1 : LsAt w' b1 4 verL (v1 :: us1)) (h2 : LsAt w' b2 4 verL (v1 :: us1)) => Same_same (ca := c1) (cb := c2) n1 (show (v1 :: us1).length = n1 from hlen1) h1 h2 (by omega))
        have HUS := Lib.hid (fun w' (h : CpB W d M td x c vl (0 + n1) t al n1 cl (v1 :: us1) (some ⟨gm, 0, none⟩) nm cm mine w') => bu_used h (i := 1) rfl (q := (n1 : Int)) (by
          have e1 := HSK.out.st.live.used
          have e2 := HRC.out
          rw [e1, List.length_append, List.length_singleton]; omega))
        have hil2 : ¬ ((i : Int) < (ng : Int)) := by omega
        clear hil hie hm
        go_wp2_with fail
        refine HLI.out.mono ?_
        rintro e w12 ⟨b7, c7, rfl, l7, f7⟩
        have HB12 := Lib.hid (show CpB W d M td x c vl (0 + n1) t al n1 cl (v1 :: us1) (some ⟨gm, 0, none⟩) nm cm mine w12 from Bag.keep0 HB11.out f7)
        have L7 := Lib.hid l7
        clear f7 l7
        go_wp2_with fail
        refine (HSM.out _ _ _ _ _ L7.out (HLV.out _ HB12.out)).mono ?_
        rintro e w13 ⟨rfl, f8⟩
        have HB13 := Lib.hid (show CpB W d M td x c vl (0 + n1) t al n1 cl (v1 :: us1) (some ⟨gm, 0, none⟩) nm cm mine w13 from Bag.keep0 HB12.out f8)
        clear f8
        go_wp2_with fail
        refine (HUS.out _ HB13.out).mono ?_
        rintro e w14 ⟨rfl, rfl⟩
        go_wp2_with fail
        go_ret
        exact ⟨rfl, Bag.fr HB13.out⟩
  · have hm' : c.may = false := by simpa using hm
    have HNEW := Lib.hid (fun w' => Undo_New_no w' c hm')
    unfold CfgV.cells at HNEW
    clear hm hm'
    go_enter Tryz.func7, Tryz.ntmps7
    go_wp2_with fail
    rw [← HW0.out]
    clear hw0
    refine (works_any _).mono ?_
    rintro e w1 ⟨rfl, f1⟩
    have HB1 := Lib.hid (HB0.out.keep0 f1)
    clear f1
    go_wp2_with fail
    refine (HM1.out _ HB1.out.fr).mono ?_
    rintro e w2 ⟨rfl, rfl⟩
    go_wp2_with fail
    refine (HM3.out _ HB1.out.fr).mono ?_
    rintro e w4 ⟨rfl, q4, rfl⟩
    have HB4 := Lib.hid (HB1.out.keep0 (Fr.drewN none_ _ q4))
    have k0 := HCR.out _ _ HB4.out 0 _ rfl
    have k1 := HCR.out _ _ HB4.out 1 _ rfl
    have k2 := HCR.out _ _ HB4.out 2 _ rfl
    have k3 := HCR.out _ _ HB4.out 3 _ rfl
    have k4 := HCR.out _ _ HB4.out 4 _ rfl
    have k5 := HCR.out _ _ HB4.out 5 _ rfl
    have k6 := HCR.out _ _ HB4.out 6 _ rfl
    have k7 := HCR.out _ _ HB4.out 7 _ rfl
    go_wp2_with fail
    refine (HNEW.out _).mono ?_
    rintro e w5 ⟨rfl, f5⟩
    have HB5 := Lib.hid (HB4.out.keep0 f5)
    clear f5 k0 k1 k2 k3 k4 k5 k6 k7
    go_wp2_with fail
    go_ret
    exact ⟨rfl, HB5.out.fr⟩
end Go.Proofs.YtckkccnebjacdaaGreat
