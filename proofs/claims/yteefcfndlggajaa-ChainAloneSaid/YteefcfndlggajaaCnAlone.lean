/-
  ChainAlone: the walk.
-/
import Derived.Test.YteefcfndlggajaaCnBuild
import Derived.Test.YteefcfndlggajaaCnAwake
import Derived.Test.YteefcfndlggajaaCnArgs
import Derived.Deep.RegionHeld3
import Derived.Deep.DeepCutAuto
import Derived.Deep.CutBlock
import Derived.Deep.QuietTactic
import Derived.BigQuiet
namespace Go.Proofs.Yteefcfndlggajaa
open Go.RowKit
set_option linter.unusedVariables false
set_option linter.unusedSimpArgs false
set_option maxRecDepth 100000

noncomputable def CS.alone (lim : Nat) (t : CS) (h : Nat) (v : VerV) (ts : Int) (m : Nat) : Nat × CS := if m = 0 then t.change lim h v else if m = 1 then t.stamp h ts else t.cut h
theorem CS.alone0 (lim : Nat) (t : CS) (h : Nat) (v : VerV) (ts : Int) : t.alone lim h v ts 0 = t.change lim h v := by unfold CS.alone; rw [if_pos rfl]
theorem CS.alone1 (lim : Nat) (t : CS) (h : Nat) (v : VerV) (ts : Int) : t.alone lim h v ts 1 = t.stamp h ts := by unfold CS.alone; rw [if_neg (by decide), if_pos rfl]
theorem CS.alone2 (lim : Nat) (t : CS) (h : Nat) (v : VerV) (ts : Int) : t.alone lim h v ts 2 = t.cut h := by unfold CS.alone; rw [if_neg (by decide), if_neg (by decide)]
structure AloneR (t : CS) (h : Nat) (u : VerV) (p : Nat) (v : VerV) (ts : Int) (m : Nat) (r : Nat × CS) (cs : Array Value) : Prop where
  here : ∃ n, r.2.f h = some n ∧ n.cells = cs
  other : ∀ y, y ≠ h → r.2.f y = t.f y
  used : r.2.s.used = t.s.used
  how : (m = 0 ∧ r.1 = 0 ∧ cs = #[.int .i64 v.wr, .int .i64 v.ts, .bool v.tomb, .string v.val, .int .u64 (p : Int)]) ∨ (m = 0 ∧ r.1 = 1 ∧ cs = #[.int .i64 u.wr, .int .i64 u.ts, .bool u.tomb, .string u.val, .int .u64 (p : Int)]) ∨
    (m = 1 ∧ r.1 = 0 ∧ cs = #[.int .i64 u.wr, .int .i64 ts, .bool u.tomb, .string u.val, .int .u64 (p : Int)]) ∨ (m = 1 ∧ r.1 = 1 ∧ cs = #[.int .i64 u.wr, .int .i64 u.ts, .bool u.tomb, .string u.val, .int .u64 (p : Int)]) ∨
    (m = 2 ∧ r.1 = 0 ∧ cs = #[.int .i64 u.wr, .int .i64 u.ts, .bool u.tomb, .string u.val, .int .u64 0])
theorem alone_all {lim N : Nat} {t : CS} (hi : t.Is lim N) {h : Nat} (hh : h < 18446744073709551616) {u : VerV} (hu : u.Ok lim) {p : Nat} (hp : p < 18446744073709551616) (hf : t.f h = some (u.nv p)) (v : VerV) (hvw : v.wr < 9223372036854775808) (ts : Int) {m : Nat} (hm : m < 3) :
    ∃ cs, AloneR t h u p v ts m (t.alone lim h v ts m) cs := by
  have hsome : (t.f h).isSome = true := by rw [hf]; rfl
  have hnc := VerV.nv_cells hu p
  have hset : ∀ (g : NV → NV), (g (u.nv p)).Ok lim → (t.turn h g).1 = 0 ∧ (t.turn h g).2.f h = some (g (u.nv p)) ∧ (∀ y, y ≠ h → (t.turn h g).2.f y = t.f y) ∧ (t.turn h g).2.s.used = t.s.used := fun g hg => by
    have hs := hi.set hsome hh hg
    unfold CS.turn
    rw [hf]
    exact ⟨rfl, upd_same _ _ _, fun y hy => upd_other _ _ hy, hs.2⟩
  rcases (show m = 0 ∨ m = 1 ∨ m = 2 by omega) with rfl | rfl | rfl
  · show ∃ cs, AloneR t h u p v ts 0 (t.change lim h v) cs
    unfold CS.change
    by_cases hv : v.may lim = true
    · rw [if_pos hv]
      have hok := VerV.may_iff.1 hv
      obtain ⟨q1, q2, q3, q4⟩ := hset (fun n => v.nv n.nx) (VerV.nv_ok hok hvw hp)
      exact ⟨_, ⟨_, q2, VerV.nv_cells hok p⟩, q3, q4, Or.inl ⟨rfl, q1, rfl⟩⟩
    · rw [if_neg hv]
      exact ⟨_, ⟨_, hf, hnc⟩, fun y _ => rfl, rfl, Or.inr (Or.inl ⟨rfl, rfl, rfl⟩)⟩
  · show ∃ cs, AloneR t h u p v ts 1 (t.stamp h ts) cs
    unfold CS.stamp
    by_cases hv : 1 ≤ ts ∧ ts ≤ 1048576
    · rw [if_pos hv]
      have h1 := (hi.ok _ _ hf).wr
      have h2 : ((u.nv p).wr : Int) = u.wr := by
        show ((u.wr.toNat : Nat) : Int) = _
        have := hu.wr; omega
      have hn := VerV.nv_ok hu (by omega) hp
      obtain ⟨q1, q2, q3, q4⟩ := hset (fun n => { n with ts := ts.toNat }) ⟨hn.wr, (by show ts.toNat < _; omega), hn.nx, hn.val⟩
      refine ⟨_, ⟨_, q2, ?_⟩, q3, q4, Or.inr (Or.inr (Or.inl ⟨rfl, q1, rfl⟩))⟩
      have e1 : ((u.wr.toNat : Nat) : Int) = u.wr := by have := hu.wr; omega
      have e2 : ((ts.toNat : Nat) : Int) = ts := by omega
      show #[Value.int .i64 ((u.wr.toNat : Nat) : Int), .int .i64 ((ts.toNat : Nat) : Int), .bool u.tomb, .string u.val, .int .u64 (p : Int)] = _
      rw [e1, e2]
    · rw [if_neg hv]
      exact ⟨_, ⟨_, hf, hnc⟩, fun y _ => rfl, rfl, Or.inr (Or.inr (Or.inr (Or.inl ⟨rfl, rfl, rfl⟩)))⟩
  · show ∃ cs, AloneR t h u p v ts 2 (t.cut h) cs
    have hn := hi.ok _ _ hf
    obtain ⟨q1, q2, q3, q4⟩ := hset (fun n => { n with nx := 0 }) ⟨hn.wr, hn.ts, (by show 0 < _; omega), hn.val⟩
    refine ⟨_, ⟨_, q2, ?_⟩, q3, q4, Or.inr (Or.inr (Or.inr (Or.inr ⟨rfl, q1, rfl⟩)))⟩
    have e1 : ((u.wr.toNat : Nat) : Int) = u.wr := by have := hu.wr; omega
    have e2 : ((u.ts.toNat : Nat) : Int) = u.ts := by have := hu.ts0; omega
    show #[Value.int .i64 ((u.wr.toNat : Nat) : Int), .int .i64 ((u.ts.toNat : Nat) : Int), .bool u.tomb, .string u.val, .int .u64 0] = _
    rw [e1, e2]
theorem node_same (a b : Int) (c : Bool) (d : ByteArray) (e : Int) (w : World) : (binOp .neq 36 (.agg #[.int .i64 a, .int .i64 b, .bool c, .string d, .int .u64 e]) (.agg #[.int .i64 a, .int .i64 b, .bool c, .string d, .int .u64 e])).run Try.prog w = .ok (.bool false) w := by
  rw [run_neq_struct, run_equalIn_agg w _ _ _ _ (by kernel_rfl) (by kernel_rfl)]
  simp [Program.fieldsOf, Try.underlying36, Try.underlying32, Op.eqFields, go_sem]
set_option maxHeartbeats 16000000 in
theorem walk_ChainAlone (W : World) (c : CfgV) (_ : c.In) (a : Option Addr) (cap : Nat) (l : List VerV) (st : VersIn W a l) (which : Int) (hwh : (Lit.int .i64 which).wf = true) (v : VerV) (hv : v.In) (ts : Int) (hts : (Lit.int .i64 ts).wf = true) (what : Int) (hwt : (Lit.int .u8 what).wf = true) :
    Calls Try.prog 4 #[.agg c.cells, .slice a l.length cap, .int .i64 which, .agg v.cells, .int .i64 ts, .int .u8 what] W fun e w' => e = .returned (.bool true) ∧ Fr none_ W w' := by
  obtain ⟨w0, hw0⟩ : ∃ w0, w0 = (W.alloc (.cells c.cells 23)).alloc (.cells v.cells 32) := ⟨_, rfl⟩
  have hb0 : Bag W [tRow W.heap.size c.cells 23, tRow (W.heap.size + 1) v.cells 32] w0 := by
    have h := ((Bag.start W).addRow c.cells 23).addRow v.cells 32
    rw [World.size_alloc, ← hw0] at h
    exact h
  have HB0 := Lib.hid hb0
  have HL := Lib.hid (fun w' (f : Fr none_ W w') => st.kept f (fun _ _ e => e))
  have HLG := Lib.hid (fun w' (f : Fr none_ W w') => large_any w' a cap l (st.kept f (fun _ _ e => e)))
  have HW0 := Lib.hid hw0
  have HVS := Lib.hid hv.sz
  have HCR := Lib.hid (show ∀ w', Fr none_ w0 w' → ∀ (i : Nat) (u : Value), c.cells[i]? = some u → w'.cell? ⟨W.heap.size, i, none⟩ = some u from fun w' f i u hu => (((hb0.row (i := 0) rfl).kept f (fun e => e)).cell i).trans hu)
  have hvl : w0.cell? ⟨W.heap.size + 1, 3, none⟩ = some (.string v.val) := (hb0.row (i := 1) rfl).cell 3
  have HVI := Lib.hid hv
  clear hb0
  unfold CfgV.cells at hw0 HW0 HCR ⊢
  unfold VerV.cells at hw0 HW0 ⊢
  by_cases hend : isBigV l = true ∨ 5000 < v.val.size ∨ l.length = 0
  · have hfin : ∀ w1, Fr none_ W w1 → Calls Try.prog 10 #[] w1 fun e w' => e = .returned (.bool true) ∧ Fr none_ W w' := fun w1 f => (awake_any w1).mono fun e w' ⟨h1, h2⟩ => ⟨h1, f.trans h2⟩
    have HFIN := Lib.hid (hfin w0 HB0.out.fr)
    clear st hfin hw0 hv
    rcases hend with hend | hend | hend
    · rw [hend] at HLG
      clear hend
      go_enter Try.func4, Try.ntmps4
      go_wp2_with fail
      rw [← HW0.out]
      refine (HLG.out _ HB0.out.fr).mono ?_
      rintro e w1 ⟨rfl, rfl⟩
      go_wp2_with fail
      refine HFIN.out.mono ?_
      rintro e w2 ⟨rfl, f2⟩
      have F2 := Lib.hid f2
      clear f2
      go_wp2_with fail
      go_ret
      exact ⟨rfl, F2.out⟩
    · cases hbig : isBigV l with
      | true =>
        rw [hbig] at HLG
        clear hbig
        go_enter Try.func4, Try.ntmps4
        go_wp2_with fail
        rw [← HW0.out]
        refine (HLG.out _ HB0.out.fr).mono ?_
        rintro e w1 ⟨rfl, rfl⟩
        go_wp2_with fail
        refine HFIN.out.mono ?_
        rintro e w2 ⟨rfl, f2⟩
        have F2 := Lib.hid f2
        clear f2
        go_wp2_with fail
        go_ret
        exact ⟨rfl, F2.out⟩
      | false =>
        rw [hbig] at HLG
        have h5 : (5000 : Int) < (v.val.size : Int) := by omega
        clear hbig
        go_enter Try.func4, Try.ntmps4
        go_wp2_with fail
        rw [← HW0.out]
        refine (HLG.out _ HB0.out.fr).mono ?_
        rintro e w1 ⟨rfl, rfl⟩
        go_wp2_with fail
        refine HFIN.out.mono ?_
        rintro e w2 ⟨rfl, f2⟩
        have F2 := Lib.hid f2
        clear f2
        go_wp2_with fail
        go_ret
        exact ⟨rfl, F2.out⟩
    · obtain rfl : l = [] := List.eq_nil_of_length_eq_zero hend
      by_cases h5 : 5000 < v.val.size
      · have h5 : (5000 : Int) < (v.val.size : Int) := by omega
        rw [show isBigV [] = false from rfl] at HLG
        simp only [List.length_nil] at HLG ⊢
        clear hend
        go_enter Try.func4, Try.ntmps4
        go_wp2_with fail
        rw [← HW0.out]
        refine (HLG.out _ HB0.out.fr).mono ?_
        rintro e w1 ⟨rfl, rfl⟩
        go_wp2_with fail
        refine HFIN.out.mono ?_
        rintro e w2 ⟨rfl, f2⟩
        have F2 := Lib.hid f2
        clear f2
        go_wp2_with fail
        go_ret
        exact ⟨rfl, F2.out⟩
      · have h5 : (v.val.size : Int) ≤ 5000 := by omega
        rw [show isBigV [] = false from rfl] at HLG
        simp only [List.length_nil] at HLG ⊢
        clear hend
        go_enter Try.func4, Try.ntmps4
        go_wp2_with fail
        rw [← HW0.out]
        refine (HLG.out _ HB0.out.fr).mono ?_
        rintro e w1 ⟨rfl, rfl⟩
        go_wp2_with fail
        refine HFIN.out.mono ?_
        rintro e w2 ⟨rfl, f2⟩
        have F2 := Lib.hid f2
        clear f2
        go_wp2_with fail
        go_ret
        exact ⟨rfl, F2.out⟩
  · have hbig : isBigV l = false := by
      cases hb : isBigV l with
      | false => rfl
      | true => exact absurd (Or.inl hb) hend
    have h5 : (v.val.size : Int) ≤ 5000 := by
      rcases Nat.lt_or_ge 5000 v.val.size with q | q
      · exact absurd (Or.inr (Or.inl q)) hend
      · omega
    have hpos : l.length ≠ 0 := fun q => hend (Or.inr (Or.inr q))
    rw [hbig] at HLG
    have HBD := Lib.hid (fun w' (f : Fr none_ W w') => build_any w' c a cap l (st.kept f (fun _ _ e => e)) hbig)
    unfold CfgV.cells at HBD
    obtain ⟨hlen, hvals⟩ := isBigV_no hbig
    have hne0 : ((l.length : Int) == 0) = false := beq_eq_false_iff_ne.2 (by omega)
    obtain ⟨A, hA⟩ : ∃ A : Nat, A = (which % 18446744073709551616).toNat := ⟨_, rfl⟩
    have hAb : A < 18446744073709551616 := by omega
    have hAw : IntKind.u64.wrap which = (A : Int) := by rw [IntKind.wrap_u64]; omega
    obtain ⟨K, hK⟩ : ∃ K : Nat, K = A % l.length := ⟨_, rfl⟩
    have hKl : K < l.length := by rw [hK]; exact Nat.mod_lt _ (by omega)
    obtain ⟨m, hm⟩ : ∃ m : Nat, m = (what % 3).toNat := ⟨_, rfl⟩
    have hKe : (A : Int) % (l.length : Int) = (K : Int) := by rw [hK]; exact (Int.natCast_emod A l.length).symm
    have HKE := Lib.hid hKe
    clear hKe
    have hd5 : decide ((5000 : Int) < (v.val.size : Int)) = false := by simp; omega
    have hwb := bounds_u8 hwt
    have hm3 : m < 3 := by omega
    have hmw : what % 3 = (m : Int) := by omega
    obtain ⟨u, hu⟩ : ∃ u, l[K]? = some u := ⟨_, List.getElem?_eq_getElem hKl⟩
    have HU := Lib.hid hu
    have HAK := Lib.hid (And.intro hA hK)
    clear st hend hbig hA hK hm hwh hts hu hv hvals hwt
    go_enter Try.func4, Try.ntmps4
    go_wp2_with fail
    rw [← HW0.out]
    clear hw0
    refine (HLG.out _ HB0.out.fr).mono ?_
    rintro e w1 ⟨rfl, rfl⟩
    go_wp2_with fail
    refine (awake_any _).mono ?_
    rintro e w2 ⟨rfl, f2⟩
    have HB2 := Lib.hid (HB0.out.keep0 f2)
    have k0 := HCR.out _ f2 0 _ rfl
    have k1 := HCR.out _ f2 1 _ rfl
    have k2 := HCR.out _ f2 2 _ rfl
    have k3 := HCR.out _ f2 3 _ rfl
    have k4 := HCR.out _ f2 4 _ rfl
    have k5 := HCR.out _ f2 5 _ rfl
    have k6 := HCR.out _ f2 6 _ rfl
    have k7 := HCR.out _ f2 7 _ rfl
    clear f2 hvl
    go_wp2_with fail
    refine (HBD.out _ HB2.out.fr).mono ?_
    rintro e w3 (⟨rfl, f3⟩ | ⟨x, b, cb, hs, t, rfl, hB, hg⟩)
    · have F3 := Lib.hid (HB2.out.fr.trans f3)
      clear f3 k0 k1 k2 k3 k4 k5 k6 k7
      go_wp2_with fail
      go_ret
      exact ⟨rfl, F3.out⟩
    · have HB := Lib.hid hB
      obtain ⟨hd, hh⟩ : ∃ hd, hs[K]? = some hd := ⟨_, List.getElem?_eq_getElem (by rw [hB.len]; exact hKl)⟩
      have hg := HB2.out.join hg
      have hsl := hg.sl (i := 3) rfl
      obtain ⟨gb, rfl⟩ := hsl.isAddr (by omega)
      have HG := Lib.hid hg
      have s0 : w3.cell? ⟨gb, K, none⟩ = some (.int .u64 (hd : Int)) := hsl.cell (i := K) (v := hvU hd) (by rw [List.getElem?_map, hh]; rfl)
      clear hB hg hsl k0 k1 k2 k3 k4 k5 k6 k7
      go_upto_region 6 with fail
      go_cut [16] (fun kv wx => kv = .int .i64 (K : Int) ∧ wx = w3)
      case first =>
        go_wp2_with fail
        go_meet
        exact ⟨by rw [HKE.out]; exact congrArg (Value.int .i64) (by first | exact IntWalk.i64_in (K : Int) (by omega) | (unfold wrap64; omega)), rfl⟩
      case rest =>
      obtain ⟨rfl, hwc⟩ := hcut
      have hwc := hwc.symm
      subst hwc
      clear hAw hAb hd5 h5 hne0
      have hvo := HB.out.ok u (List.mem_of_getElem? HU.out)
      have hdl := (HB.out.lt hd (List.mem_of_getElem? hh)).1
      obtain ⟨p, hp⟩ : ∃ p, p = prevOf hs K := ⟨_, rfl⟩
      have hfd := HB.out.at_ K u hd HU.out hh
      rw [← hp] at hfd
      have hpl : p < 18446744073709551616 := by
        rw [hp]
        unfold prevOf
        split
        · omega
        · cases hq : hs[K - 1]? with
          | none => show (0 : Nat) < _; omega
          | some y => exact (HB.out.lt y (List.mem_of_getElem? hq)).1
      have hrd := bg_read HG.out (i := 2) rfl hdl
      rw [hfd] at hrd
      have HRD := Lib.hid (show Calls Try.prog 12 #[.pointer (some ⟨x, 0, none⟩), .int .u64 (hd : Int)] w3 fun e w' => e = .returned (.tuple #[.agg #[.int .i64 u.wr, .int .i64 u.ts, .bool u.tomb, .string u.val, .int .u64 (p : Int)], .bool true]) ∧ Fr none_ w3 w' by rw [← VerV.nv_cells hvo p]; exact hrd)
      obtain ⟨cs, hcs⟩ := alone_all HB.out.is_ hdl hvo hpl hfd v HVI.out.wr ts hm3
      have HCS := Lib.hid hcs
      have HH := Lib.hid hh
      have HFD := Lib.hid hfd
      have HDL := Lib.hid hdl
      have HPL := Lib.hid hpl
      clear hrd hvo hfd hh hp hcs hdl hpl
      go_wp2_with fail
      refine HRD.out.mono ?_
      rintro e w4 ⟨rfl, f4⟩
      obtain ⟨w5, hw5⟩ : ∃ w5, w5 = w4.alloc (.cells #[.int .i64 u.wr, .int .i64 u.ts, .bool u.tomb, .string u.val, .int .u64 (p : Int)] 36) := ⟨_, rfl⟩
      obtain ⟨wb, hwb2⟩ : ∃ wb, wb = w4.heap.size := ⟨_, rfl⟩
      have hg5 := (HG.out.keep0 f4).addRow #[.int .i64 u.wr, .int .i64 u.ts, .bool u.tomb, .string u.val, .int .u64 (p : Int)] 36
      rw [← hw5, ← hwb2] at hg5
      have HG5 := Lib.hid hg5
      have HW5 := Lib.hid hw5.symm
      have HWB := Lib.hid hwb2.symm
      clear f4 hw5 hwb2 hg5 s0
      have s5 : w5.cell? ⟨gb, K, none⟩ = some (.int .u64 (hd : Int)) := ((HG5.out.sl (i := 3) rfl).cell (i := K) (v := hvU hd) (by rw [List.getElem?_map, HH.out]; rfl))
      have v0 : w5.cell? ⟨W.heap.size + 1, 0, none⟩ = some (.int .i64 v.wr) := (HG5.out.row (i := 1) rfl).cell 0
      have v1 : w5.cell? ⟨W.heap.size + 1, 1, none⟩ = some (.int .i64 v.ts) := (HG5.out.row (i := 1) rfl).cell 1
      have v2 : w5.cell? ⟨W.heap.size + 1, 2, none⟩ = some (.bool v.tomb) := (HG5.out.row (i := 1) rfl).cell 2
      have v3 : w5.cell? ⟨W.heap.size + 1, 3, none⟩ = some (.string v.val) := (HG5.out.row (i := 1) rfl).cell 3
      have HMK := Lib.hid (fun (m : Nat) w' (f : Fr none_ w5 w') => HG5.out.keep0 f)
      have HMW := Lib.hid hmw
      clear hmw
      go_upto_block 0 with fail
      rw [HW5.out, HWB.out, HMW.out]
      go_cut [19] (fun ev wx => ev = .int .i64 ((t.alone c.valLen.toNat hd v ts m).1 : Int) ∧ Bag W [tRow W.heap.size c.cells 23, tRow (W.heap.size + 1) v.cells 32, tEng x c c.valLen.toNat l.length (t.alone c.valLen.toNat hd v ts m).2, tSl (some ⟨gb, 0, none⟩) l.length cb 34 1 (hs.map hvU), tRow wb #[.int .i64 u.wr, .int .i64 u.ts, .bool u.tomb, .string u.val, .int .u64 (p : Int)] 36] wx)
      case first =>
        rcases (show m = 0 ∨ m = 1 ∨ m = 2 by omega) with rfl | rfl | rfl
        · skip
          have HC := Lib.hid (bg_change (HG5.out.keep0 (Fr.drew none_ w5)) (i := 2) rfl v (by have := HVS.out; unfold maxLen; omega) HVI.out.wr HDL.out)
          unfold VerV.cells at HC
          go_wp2_with fail
          go_still_tail 6, (by kernel_rfl)
          go_wp2_with fail
          refine HC.out.mono ?_
          rintro e w6 ⟨rfl, hg6⟩
          go_wp2_with fail
          go_meet
          exact ⟨by rw [CS.alone0], by rw [CS.alone0]; exact hg6⟩
        · skip
          have HC := Lib.hid (bg_stamp HG5.out (i := 2) rfl ts HDL.out)
          go_wp2_with fail
          refine HC.out.mono ?_
          rintro e w6 ⟨rfl, hg6⟩
          go_wp2_with fail
          go_meet
          exact ⟨by rw [CS.alone1], by rw [CS.alone1]; exact hg6⟩
        · skip
          have HC := Lib.hid (bg_cut HG5.out (i := 2) rfl HDL.out)
          go_wp2_with fail
          refine HC.out.mono ?_
          rintro e w6 ⟨rfl, hg6⟩
          go_wp2_with fail
          go_meet
          exact ⟨by rw [CS.alone2], by rw [CS.alone2]; exact hg6⟩
      case rest =>
      obtain ⟨rfl, hg6⟩ := hcut
      obtain ⟨r, hr⟩ : ∃ r, r = t.alone c.valLen.toNat hd v ts m := ⟨_, rfl⟩
      rw [← hr] at HCS hg6 ⊢
      have HG6 := Lib.hid hg6
      clear hr hg6 s5 v0 v1 v2 v3
      go_wp2_with fail
      go_loopw [20] (fun iv wr => ∃ i : Nat, Hid (i ≤ l.length) ∧ iv = .int .i64 (i : Int) ∧ Hid (Bag W [tRow W.heap.size c.cells 23, tRow (W.heap.size + 1) v.cells 32, tEng x c c.valLen.toNat l.length r.2, tSl (some ⟨gb, 0, none⟩) l.length cb 34 1 (hs.map hvU), tRow wb #[.int .i64 u.wr, .int .i64 u.ts, .bool u.tomb, .string u.val, .int .u64 (p : Int)] 36] wr)) (fun iv _ => l.length - (intOf iv).toNat)
      case atStart => exact ⟨0, Nat.zero_le _, rfl, HG6.out⟩
      case round =>
        obtain ⟨i, hi, rfl, hg⟩ := hrel
        by_cases hlt : i < l.length
        · obtain ⟨y, hy⟩ : ∃ y, hs[i]? = some y := ⟨_, List.getElem?_eq_getElem (by rw [HB.out.len]; exact hlt)⟩
          have hyl := (HB.out.lt y (List.mem_of_getElem? hy)).1
          have s0 : wr.cell? ⟨gb, i, none⟩ = some (.int .u64 (y : Int)) := (hg.out.sl (i := 3) rfl).cell (i := i) (v := hvU y) (by rw [List.getElem?_map, hy]; rfl)
          have hrd := bg_read hg.out (i := 2) rfl hyl
          by_cases hiK : i = K
          · have hiK := hiK.symm
            subst hiK
            obtain rfl : y = hd := by have := hy.symm.trans HH.out; simpa using this
            obtain ⟨n, hn1, hn2⟩ := HCS.out.here
            rw [hn1] at hrd
            have HRI := Lib.hid (show Calls Try.prog 12 #[.pointer (some ⟨x, 0, none⟩), .int .u64 (y : Int)] wr fun e w' => e = .returned (.tuple #[.agg cs, .bool true]) ∧ Fr none_ wr w' by rw [← hn2]; exact hrd)
            have hhow := HCS.out.how
            clear hrd hn1 hn2 hy hyl
            rcases hhow with ⟨hm0, h1, hcsv⟩ | ⟨hm0, h1, hcsv⟩ | ⟨hm0, h1, hcsv⟩ | ⟨hm0, h1, hcsv⟩ | ⟨hm0, h1, hcsv⟩
            · have hr1 : (((r.1 : Nat) : Int) == 0) = true := by rw [h1]; rfl
              have hmw0 : what % 3 = 0 := by rw [HMW.out, hm0]; rfl
              subst hcsv
              clear h1 hm0
              have hns := fun w' => node_same v.wr v.ts v.tomb v.val (p : Int) w'
              go_wp2_with fail
              refine HRI.out.mono ?_
              rintro e w8 ⟨rfl, f8⟩
              obtain ⟨w9, hw9⟩ : ∃ w9, w9 = w8.alloc (.cells #[.int .i64 v.wr, .int .i64 v.ts, .bool v.tomb, .string v.val, .int .u64 (p : Int)] 36) := ⟨_, rfl⟩
              obtain ⟨nb, hnb⟩ : ∃ nb, nb = w8.heap.size := ⟨_, rfl⟩
              have hg9 := hg.out.keep0 (f8.trans (Fr.alloc none_ w8 (.cells #[.int .i64 v.wr, .int .i64 v.ts, .bool v.tomb, .string v.val, .int .u64 (p : Int)] 36)))
              have rn := Row.new w8 #[.int .i64 v.wr, .int .i64 v.ts, .bool v.tomb, .string v.val, .int .u64 (p : Int)] 36
              rw [← hw9] at hg9 rn
              rw [← hnb] at rn
              have HG9 := Lib.hid hg9
              have RN := Lib.hid rn
              have HW9 := Lib.hid hw9.symm
              have HNB := Lib.hid hnb.symm
              clear f8 hw9 hnb hg9 rn
              go_upto_region 19 with fail
              rw [HW9.out, HNB.out]
              have n0 : w9.cell? ⟨nb, 0, none⟩ = some (.int .i64 (v.wr)) := RN.out.cell 0
              have n1 : w9.cell? ⟨nb, 1, none⟩ = some (.int .i64 (v.ts)) := RN.out.cell 1
              have n2 : w9.cell? ⟨nb, 2, none⟩ = some (.bool (v.tomb)) := RN.out.cell 2
              have n3 : w9.cell? ⟨nb, 3, none⟩ = some (.string (v.val)) := RN.out.cell 3
              have n4 : w9.cell? ⟨nb, 4, none⟩ = some (.int .u64 ((p : Int))) := RN.out.cell 4
              go_quiet (fail)
              have HGQ0 := HG9.out.keep0 (Fr.drewN none_ w9 nq)
              have RQ0 := RN.out.kept (Fr.drewN none_ w9 nq) (fun e => e)
              obtain ⟨wq, hwq⟩ : ∃ wq, wq = w9.drewN nq := ⟨_, rfl⟩
              rw [← hwq] at HGQ0 RQ0 ⊢
              have HGQ := Lib.hid HGQ0
              have RQ := Lib.hid RQ0
              clear hwq HGQ0 RQ0 n0 n1 n2 n3 n4
              have n0 : wq.cell? ⟨nb, 0, none⟩ = some (.int .i64 (v.wr)) := RQ.out.cell 0
              have n1 : wq.cell? ⟨nb, 1, none⟩ = some (.int .i64 (v.ts)) := RQ.out.cell 1
              have n2 : wq.cell? ⟨nb, 2, none⟩ = some (.bool (v.tomb)) := RQ.out.cell 2
              have n3 : wq.cell? ⟨nb, 3, none⟩ = some (.string (v.val)) := RQ.out.cell 3
              have n4 : wq.cell? ⟨nb, 4, none⟩ = some (.int .u64 ((p : Int))) := RQ.out.cell 4
              have b0 : wq.cell? ⟨wb, 0, none⟩ = some (.int .i64 u.wr) := (HGQ.out.row (i := 4) rfl).cell 0
              have b1 : wq.cell? ⟨wb, 1, none⟩ = some (.int .i64 u.ts) := (HGQ.out.row (i := 4) rfl).cell 1
              have b2 : wq.cell? ⟨wb, 2, none⟩ = some (.bool u.tomb) := (HGQ.out.row (i := 4) rfl).cell 2
              have b3 : wq.cell? ⟨wb, 3, none⟩ = some (.string u.val) := (HGQ.out.row (i := 4) rfl).cell 3
              have b4 : wq.cell? ⟨wb, 4, none⟩ = some (.int .u64 (p : Int)) := (HGQ.out.row (i := 4) rfl).cell 4
              have v0 : wq.cell? ⟨W.heap.size + 1, 0, none⟩ = some (.int .i64 v.wr) := (HGQ.out.row (i := 1) rfl).cell 0
              have v1 : wq.cell? ⟨W.heap.size + 1, 1, none⟩ = some (.int .i64 v.ts) := (HGQ.out.row (i := 1) rfl).cell 1
              have v2 : wq.cell? ⟨W.heap.size + 1, 2, none⟩ = some (.bool v.tomb) := (HGQ.out.row (i := 1) rfl).cell 2
              have v3 : wq.cell? ⟨W.heap.size + 1, 3, none⟩ = some (.string v.val) := (HGQ.out.row (i := 1) rfl).cell 3
              have z : nb < wq.heap.size ∧ wb < wq.heap.size ∧ W.heap.size + 1 < wq.heap.size := ⟨RQ.out.lt, (HGQ.out.row (i := 4) rfl).lt, (HGQ.out.row (i := 1) rfl).lt⟩
              have nn0 : ∀ o, (wq.alloc o).cell? ⟨nb, 0, none⟩ = some (.int .i64 (v.wr)) := fun o => Fr.keep (Fr.alloc none_ wq o) n0
              have nn1 : ∀ o, (wq.alloc o).cell? ⟨nb, 1, none⟩ = some (.int .i64 (v.ts)) := fun o => Fr.keep (Fr.alloc none_ wq o) n1
              have nn2 : ∀ o, (wq.alloc o).cell? ⟨nb, 2, none⟩ = some (.bool (v.tomb)) := fun o => Fr.keep (Fr.alloc none_ wq o) n2
              have nn3 : ∀ o, (wq.alloc o).cell? ⟨nb, 3, none⟩ = some (.string (v.val)) := fun o => Fr.keep (Fr.alloc none_ wq o) n3
              have nn4 : ∀ o, (wq.alloc o).cell? ⟨nb, 4, none⟩ = some (.int .u64 ((p : Int))) := fun o => Fr.keep (Fr.alloc none_ wq o) n4
              go_wp2_with fail
              go_roundw
              case rel => exact ⟨K + 1, hlt, by go_num, HGQ.out.keep0 (Fr.alloc none_ wq _)⟩
              case measure => simp [intOf]; omega
            · have hr1 : (((r.1 : Nat) : Int) == 0) = false := by rw [h1]; rfl
              have hmw0 : what % 3 = 0 := by rw [HMW.out, hm0]; rfl
              subst hcsv
              clear h1 hm0
              have hns := fun w' => node_same u.wr u.ts u.tomb u.val (p : Int) w'
              go_wp2_with fail
              refine HRI.out.mono ?_
              rintro e w8 ⟨rfl, f8⟩
              obtain ⟨w9, hw9⟩ : ∃ w9, w9 = w8.alloc (.cells #[.int .i64 u.wr, .int .i64 u.ts, .bool u.tomb, .string u.val, .int .u64 (p : Int)] 36) := ⟨_, rfl⟩
              obtain ⟨nb, hnb⟩ : ∃ nb, nb = w8.heap.size := ⟨_, rfl⟩
              have hg9 := hg.out.keep0 (f8.trans (Fr.alloc none_ w8 (.cells #[.int .i64 u.wr, .int .i64 u.ts, .bool u.tomb, .string u.val, .int .u64 (p : Int)] 36)))
              have rn := Row.new w8 #[.int .i64 u.wr, .int .i64 u.ts, .bool u.tomb, .string u.val, .int .u64 (p : Int)] 36
              rw [← hw9] at hg9 rn
              rw [← hnb] at rn
              have HG9 := Lib.hid hg9
              have RN := Lib.hid rn
              have HW9 := Lib.hid hw9.symm
              have HNB := Lib.hid hnb.symm
              clear f8 hw9 hnb hg9 rn
              go_upto_region 19 with fail
              rw [HW9.out, HNB.out]
              have n0 : w9.cell? ⟨nb, 0, none⟩ = some (.int .i64 (u.wr)) := RN.out.cell 0
              have n1 : w9.cell? ⟨nb, 1, none⟩ = some (.int .i64 (u.ts)) := RN.out.cell 1
              have n2 : w9.cell? ⟨nb, 2, none⟩ = some (.bool (u.tomb)) := RN.out.cell 2
              have n3 : w9.cell? ⟨nb, 3, none⟩ = some (.string (u.val)) := RN.out.cell 3
              have n4 : w9.cell? ⟨nb, 4, none⟩ = some (.int .u64 ((p : Int))) := RN.out.cell 4
              go_quiet (fail)
              have HGQ0 := HG9.out.keep0 (Fr.drewN none_ w9 nq)
              have RQ0 := RN.out.kept (Fr.drewN none_ w9 nq) (fun e => e)
              obtain ⟨wq, hwq⟩ : ∃ wq, wq = w9.drewN nq := ⟨_, rfl⟩
              rw [← hwq] at HGQ0 RQ0 ⊢
              have HGQ := Lib.hid HGQ0
              have RQ := Lib.hid RQ0
              clear hwq HGQ0 RQ0 n0 n1 n2 n3 n4
              have n0 : wq.cell? ⟨nb, 0, none⟩ = some (.int .i64 (u.wr)) := RQ.out.cell 0
              have n1 : wq.cell? ⟨nb, 1, none⟩ = some (.int .i64 (u.ts)) := RQ.out.cell 1
              have n2 : wq.cell? ⟨nb, 2, none⟩ = some (.bool (u.tomb)) := RQ.out.cell 2
              have n3 : wq.cell? ⟨nb, 3, none⟩ = some (.string (u.val)) := RQ.out.cell 3
              have n4 : wq.cell? ⟨nb, 4, none⟩ = some (.int .u64 ((p : Int))) := RQ.out.cell 4
              have b0 : wq.cell? ⟨wb, 0, none⟩ = some (.int .i64 u.wr) := (HGQ.out.row (i := 4) rfl).cell 0
              have b1 : wq.cell? ⟨wb, 1, none⟩ = some (.int .i64 u.ts) := (HGQ.out.row (i := 4) rfl).cell 1
              have b2 : wq.cell? ⟨wb, 2, none⟩ = some (.bool u.tomb) := (HGQ.out.row (i := 4) rfl).cell 2
              have b3 : wq.cell? ⟨wb, 3, none⟩ = some (.string u.val) := (HGQ.out.row (i := 4) rfl).cell 3
              have b4 : wq.cell? ⟨wb, 4, none⟩ = some (.int .u64 (p : Int)) := (HGQ.out.row (i := 4) rfl).cell 4
              have v0 : wq.cell? ⟨W.heap.size + 1, 0, none⟩ = some (.int .i64 v.wr) := (HGQ.out.row (i := 1) rfl).cell 0
              have v1 : wq.cell? ⟨W.heap.size + 1, 1, none⟩ = some (.int .i64 v.ts) := (HGQ.out.row (i := 1) rfl).cell 1
              have v2 : wq.cell? ⟨W.heap.size + 1, 2, none⟩ = some (.bool v.tomb) := (HGQ.out.row (i := 1) rfl).cell 2
              have v3 : wq.cell? ⟨W.heap.size + 1, 3, none⟩ = some (.string v.val) := (HGQ.out.row (i := 1) rfl).cell 3
              have z : nb < wq.heap.size ∧ wb < wq.heap.size ∧ W.heap.size + 1 < wq.heap.size := ⟨RQ.out.lt, (HGQ.out.row (i := 4) rfl).lt, (HGQ.out.row (i := 1) rfl).lt⟩
              have nn0 : ∀ o, (wq.alloc o).cell? ⟨nb, 0, none⟩ = some (.int .i64 (u.wr)) := fun o => Fr.keep (Fr.alloc none_ wq o) n0
              have nn1 : ∀ o, (wq.alloc o).cell? ⟨nb, 1, none⟩ = some (.int .i64 (u.ts)) := fun o => Fr.keep (Fr.alloc none_ wq o) n1
              have nn2 : ∀ o, (wq.alloc o).cell? ⟨nb, 2, none⟩ = some (.bool (u.tomb)) := fun o => Fr.keep (Fr.alloc none_ wq o) n2
              have nn3 : ∀ o, (wq.alloc o).cell? ⟨nb, 3, none⟩ = some (.string (u.val)) := fun o => Fr.keep (Fr.alloc none_ wq o) n3
              have nn4 : ∀ o, (wq.alloc o).cell? ⟨nb, 4, none⟩ = some (.int .u64 ((p : Int))) := fun o => Fr.keep (Fr.alloc none_ wq o) n4
              go_wp2_with fail
              go_roundw
              case rel => exact ⟨K + 1, hlt, by go_num, HGQ.out.keep0 (Fr.alloc none_ wq _)⟩
              case measure => simp [intOf]; omega
            · have hr1 : (((r.1 : Nat) : Int) == 0) = true := by rw [h1]; rfl
              have hmw0 : what % 3 = 1 := by rw [HMW.out, hm0]; rfl
              subst hcsv
              clear h1 hm0
              have hns := fun w' => node_same u.wr ts u.tomb u.val (p : Int) w'
              go_wp2_with fail
              refine HRI.out.mono ?_
              rintro e w8 ⟨rfl, f8⟩
              obtain ⟨w9, hw9⟩ : ∃ w9, w9 = w8.alloc (.cells #[.int .i64 u.wr, .int .i64 ts, .bool u.tomb, .string u.val, .int .u64 (p : Int)] 36) := ⟨_, rfl⟩
              obtain ⟨nb, hnb⟩ : ∃ nb, nb = w8.heap.size := ⟨_, rfl⟩
              have hg9 := hg.out.keep0 (f8.trans (Fr.alloc none_ w8 (.cells #[.int .i64 u.wr, .int .i64 ts, .bool u.tomb, .string u.val, .int .u64 (p : Int)] 36)))
              have rn := Row.new w8 #[.int .i64 u.wr, .int .i64 ts, .bool u.tomb, .string u.val, .int .u64 (p : Int)] 36
              rw [← hw9] at hg9 rn
              rw [← hnb] at rn
              have HG9 := Lib.hid hg9
              have RN := Lib.hid rn
              have HW9 := Lib.hid hw9.symm
              have HNB := Lib.hid hnb.symm
              clear f8 hw9 hnb hg9 rn
              go_upto_region 19 with fail
              rw [HW9.out, HNB.out]
              have n0 : w9.cell? ⟨nb, 0, none⟩ = some (.int .i64 (u.wr)) := RN.out.cell 0
              have n1 : w9.cell? ⟨nb, 1, none⟩ = some (.int .i64 (ts)) := RN.out.cell 1
              have n2 : w9.cell? ⟨nb, 2, none⟩ = some (.bool (u.tomb)) := RN.out.cell 2
              have n3 : w9.cell? ⟨nb, 3, none⟩ = some (.string (u.val)) := RN.out.cell 3
              have n4 : w9.cell? ⟨nb, 4, none⟩ = some (.int .u64 ((p : Int))) := RN.out.cell 4
              go_quiet (fail)
              have HGQ0 := HG9.out.keep0 (Fr.drewN none_ w9 nq)
              have RQ0 := RN.out.kept (Fr.drewN none_ w9 nq) (fun e => e)
              obtain ⟨wq, hwq⟩ : ∃ wq, wq = w9.drewN nq := ⟨_, rfl⟩
              rw [← hwq] at HGQ0 RQ0 ⊢
              have HGQ := Lib.hid HGQ0
              have RQ := Lib.hid RQ0
              clear hwq HGQ0 RQ0 n0 n1 n2 n3 n4
              have n0 : wq.cell? ⟨nb, 0, none⟩ = some (.int .i64 (u.wr)) := RQ.out.cell 0
              have n1 : wq.cell? ⟨nb, 1, none⟩ = some (.int .i64 (ts)) := RQ.out.cell 1
              have n2 : wq.cell? ⟨nb, 2, none⟩ = some (.bool (u.tomb)) := RQ.out.cell 2
              have n3 : wq.cell? ⟨nb, 3, none⟩ = some (.string (u.val)) := RQ.out.cell 3
              have n4 : wq.cell? ⟨nb, 4, none⟩ = some (.int .u64 ((p : Int))) := RQ.out.cell 4
              have b0 : wq.cell? ⟨wb, 0, none⟩ = some (.int .i64 u.wr) := (HGQ.out.row (i := 4) rfl).cell 0
              have b1 : wq.cell? ⟨wb, 1, none⟩ = some (.int .i64 u.ts) := (HGQ.out.row (i := 4) rfl).cell 1
              have b2 : wq.cell? ⟨wb, 2, none⟩ = some (.bool u.tomb) := (HGQ.out.row (i := 4) rfl).cell 2
              have b3 : wq.cell? ⟨wb, 3, none⟩ = some (.string u.val) := (HGQ.out.row (i := 4) rfl).cell 3
              have b4 : wq.cell? ⟨wb, 4, none⟩ = some (.int .u64 (p : Int)) := (HGQ.out.row (i := 4) rfl).cell 4
              have v0 : wq.cell? ⟨W.heap.size + 1, 0, none⟩ = some (.int .i64 v.wr) := (HGQ.out.row (i := 1) rfl).cell 0
              have v1 : wq.cell? ⟨W.heap.size + 1, 1, none⟩ = some (.int .i64 v.ts) := (HGQ.out.row (i := 1) rfl).cell 1
              have v2 : wq.cell? ⟨W.heap.size + 1, 2, none⟩ = some (.bool v.tomb) := (HGQ.out.row (i := 1) rfl).cell 2
              have v3 : wq.cell? ⟨W.heap.size + 1, 3, none⟩ = some (.string v.val) := (HGQ.out.row (i := 1) rfl).cell 3
              have z : nb < wq.heap.size ∧ wb < wq.heap.size ∧ W.heap.size + 1 < wq.heap.size := ⟨RQ.out.lt, (HGQ.out.row (i := 4) rfl).lt, (HGQ.out.row (i := 1) rfl).lt⟩
              have nn0 : ∀ o, (wq.alloc o).cell? ⟨nb, 0, none⟩ = some (.int .i64 (u.wr)) := fun o => Fr.keep (Fr.alloc none_ wq o) n0
              have nn1 : ∀ o, (wq.alloc o).cell? ⟨nb, 1, none⟩ = some (.int .i64 (ts)) := fun o => Fr.keep (Fr.alloc none_ wq o) n1
              have nn2 : ∀ o, (wq.alloc o).cell? ⟨nb, 2, none⟩ = some (.bool (u.tomb)) := fun o => Fr.keep (Fr.alloc none_ wq o) n2
              have nn3 : ∀ o, (wq.alloc o).cell? ⟨nb, 3, none⟩ = some (.string (u.val)) := fun o => Fr.keep (Fr.alloc none_ wq o) n3
              have nn4 : ∀ o, (wq.alloc o).cell? ⟨nb, 4, none⟩ = some (.int .u64 ((p : Int))) := fun o => Fr.keep (Fr.alloc none_ wq o) n4
              go_wp2_with fail
              go_roundw
              case rel => exact ⟨K + 1, hlt, by go_num, HGQ.out.keep0 (Fr.alloc none_ wq _)⟩
              case measure => simp [intOf]; omega
            · have hr1 : (((r.1 : Nat) : Int) == 0) = false := by rw [h1]; rfl
              have hmw0 : what % 3 = 1 := by rw [HMW.out, hm0]; rfl
              subst hcsv
              clear h1 hm0
              have hns := fun w' => node_same u.wr u.ts u.tomb u.val (p : Int) w'
              go_wp2_with fail
              refine HRI.out.mono ?_
              rintro e w8 ⟨rfl, f8⟩
              obtain ⟨w9, hw9⟩ : ∃ w9, w9 = w8.alloc (.cells #[.int .i64 u.wr, .int .i64 u.ts, .bool u.tomb, .string u.val, .int .u64 (p : Int)] 36) := ⟨_, rfl⟩
              obtain ⟨nb, hnb⟩ : ∃ nb, nb = w8.heap.size := ⟨_, rfl⟩
              have hg9 := hg.out.keep0 (f8.trans (Fr.alloc none_ w8 (.cells #[.int .i64 u.wr, .int .i64 u.ts, .bool u.tomb, .string u.val, .int .u64 (p : Int)] 36)))
              have rn := Row.new w8 #[.int .i64 u.wr, .int .i64 u.ts, .bool u.tomb, .string u.val, .int .u64 (p : Int)] 36
              rw [← hw9] at hg9 rn
              rw [← hnb] at rn
              have HG9 := Lib.hid hg9
              have RN := Lib.hid rn
              have HW9 := Lib.hid hw9.symm
              have HNB := Lib.hid hnb.symm
              clear f8 hw9 hnb hg9 rn
              go_upto_region 19 with fail
              rw [HW9.out, HNB.out]
              have n0 : w9.cell? ⟨nb, 0, none⟩ = some (.int .i64 (u.wr)) := RN.out.cell 0
              have n1 : w9.cell? ⟨nb, 1, none⟩ = some (.int .i64 (u.ts)) := RN.out.cell 1
              have n2 : w9.cell? ⟨nb, 2, none⟩ = some (.bool (u.tomb)) := RN.out.cell 2
              have n3 : w9.cell? ⟨nb, 3, none⟩ = some (.string (u.val)) := RN.out.cell 3
              have n4 : w9.cell? ⟨nb, 4, none⟩ = some (.int .u64 ((p : Int))) := RN.out.cell 4
              go_quiet (fail)
              have HGQ0 := HG9.out.keep0 (Fr.drewN none_ w9 nq)
              have RQ0 := RN.out.kept (Fr.drewN none_ w9 nq) (fun e => e)
              obtain ⟨wq, hwq⟩ : ∃ wq, wq = w9.drewN nq := ⟨_, rfl⟩
              rw [← hwq] at HGQ0 RQ0 ⊢
              have HGQ := Lib.hid HGQ0
              have RQ := Lib.hid RQ0
              clear hwq HGQ0 RQ0 n0 n1 n2 n3 n4
              have n0 : wq.cell? ⟨nb, 0, none⟩ = some (.int .i64 (u.wr)) := RQ.out.cell 0
              have n1 : wq.cell? ⟨nb, 1, none⟩ = some (.int .i64 (u.ts)) := RQ.out.cell 1
              have n2 : wq.cell? ⟨nb, 2, none⟩ = some (.bool (u.tomb)) := RQ.out.cell 2
              have n3 : wq.cell? ⟨nb, 3, none⟩ = some (.string (u.val)) := RQ.out.cell 3
              have n4 : wq.cell? ⟨nb, 4, none⟩ = some (.int .u64 ((p : Int))) := RQ.out.cell 4
              have b0 : wq.cell? ⟨wb, 0, none⟩ = some (.int .i64 u.wr) := (HGQ.out.row (i := 4) rfl).cell 0
              have b1 : wq.cell? ⟨wb, 1, none⟩ = some (.int .i64 u.ts) := (HGQ.out.row (i := 4) rfl).cell 1
              have b2 : wq.cell? ⟨wb, 2, none⟩ = some (.bool u.tomb) := (HGQ.out.row (i := 4) rfl).cell 2
              have b3 : wq.cell? ⟨wb, 3, none⟩ = some (.string u.val) := (HGQ.out.row (i := 4) rfl).cell 3
              have b4 : wq.cell? ⟨wb, 4, none⟩ = some (.int .u64 (p : Int)) := (HGQ.out.row (i := 4) rfl).cell 4
              have v0 : wq.cell? ⟨W.heap.size + 1, 0, none⟩ = some (.int .i64 v.wr) := (HGQ.out.row (i := 1) rfl).cell 0
              have v1 : wq.cell? ⟨W.heap.size + 1, 1, none⟩ = some (.int .i64 v.ts) := (HGQ.out.row (i := 1) rfl).cell 1
              have v2 : wq.cell? ⟨W.heap.size + 1, 2, none⟩ = some (.bool v.tomb) := (HGQ.out.row (i := 1) rfl).cell 2
              have v3 : wq.cell? ⟨W.heap.size + 1, 3, none⟩ = some (.string v.val) := (HGQ.out.row (i := 1) rfl).cell 3
              have z : nb < wq.heap.size ∧ wb < wq.heap.size ∧ W.heap.size + 1 < wq.heap.size := ⟨RQ.out.lt, (HGQ.out.row (i := 4) rfl).lt, (HGQ.out.row (i := 1) rfl).lt⟩
              have nn0 : ∀ o, (wq.alloc o).cell? ⟨nb, 0, none⟩ = some (.int .i64 (u.wr)) := fun o => Fr.keep (Fr.alloc none_ wq o) n0
              have nn1 : ∀ o, (wq.alloc o).cell? ⟨nb, 1, none⟩ = some (.int .i64 (u.ts)) := fun o => Fr.keep (Fr.alloc none_ wq o) n1
              have nn2 : ∀ o, (wq.alloc o).cell? ⟨nb, 2, none⟩ = some (.bool (u.tomb)) := fun o => Fr.keep (Fr.alloc none_ wq o) n2
              have nn3 : ∀ o, (wq.alloc o).cell? ⟨nb, 3, none⟩ = some (.string (u.val)) := fun o => Fr.keep (Fr.alloc none_ wq o) n3
              have nn4 : ∀ o, (wq.alloc o).cell? ⟨nb, 4, none⟩ = some (.int .u64 ((p : Int))) := fun o => Fr.keep (Fr.alloc none_ wq o) n4
              go_wp2_with fail
              go_roundw
              case rel => exact ⟨K + 1, hlt, by go_num, HGQ.out.keep0 (Fr.alloc none_ wq _)⟩
              case measure => simp [intOf]; omega
            · have hr1 : (((r.1 : Nat) : Int) == 0) = true := by rw [h1]; rfl
              have hmw0 : what % 3 = 2 := by rw [HMW.out, hm0]; rfl
              subst hcsv
              clear h1 hm0
              have hns := fun w' => node_same u.wr u.ts u.tomb u.val 0 w'
              go_wp2_with fail
              refine HRI.out.mono ?_
              rintro e w8 ⟨rfl, f8⟩
              obtain ⟨w9, hw9⟩ : ∃ w9, w9 = w8.alloc (.cells #[.int .i64 u.wr, .int .i64 u.ts, .bool u.tomb, .string u.val, .int .u64 0] 36) := ⟨_, rfl⟩
              obtain ⟨nb, hnb⟩ : ∃ nb, nb = w8.heap.size := ⟨_, rfl⟩
              have hg9 := hg.out.keep0 (f8.trans (Fr.alloc none_ w8 (.cells #[.int .i64 u.wr, .int .i64 u.ts, .bool u.tomb, .string u.val, .int .u64 0] 36)))
              have rn := Row.new w8 #[.int .i64 u.wr, .int .i64 u.ts, .bool u.tomb, .string u.val, .int .u64 0] 36
              rw [← hw9] at hg9 rn
              rw [← hnb] at rn
              have HG9 := Lib.hid hg9
              have RN := Lib.hid rn
              have HW9 := Lib.hid hw9.symm
              have HNB := Lib.hid hnb.symm
              clear f8 hw9 hnb hg9 rn
              go_upto_region 19 with fail
              rw [HW9.out, HNB.out]
              have n0 : w9.cell? ⟨nb, 0, none⟩ = some (.int .i64 (u.wr)) := RN.out.cell 0
              have n1 : w9.cell? ⟨nb, 1, none⟩ = some (.int .i64 (u.ts)) := RN.out.cell 1
              have n2 : w9.cell? ⟨nb, 2, none⟩ = some (.bool (u.tomb)) := RN.out.cell 2
              have n3 : w9.cell? ⟨nb, 3, none⟩ = some (.string (u.val)) := RN.out.cell 3
              have n4 : w9.cell? ⟨nb, 4, none⟩ = some (.int .u64 (0)) := RN.out.cell 4
              go_quiet (fail)
              have HGQ0 := HG9.out.keep0 (Fr.drewN none_ w9 nq)
              have RQ0 := RN.out.kept (Fr.drewN none_ w9 nq) (fun e => e)
              obtain ⟨wq, hwq⟩ : ∃ wq, wq = w9.drewN nq := ⟨_, rfl⟩
              rw [← hwq] at HGQ0 RQ0 ⊢
              have HGQ := Lib.hid HGQ0
              have RQ := Lib.hid RQ0
              clear hwq HGQ0 RQ0 n0 n1 n2 n3 n4
              have n0 : wq.cell? ⟨nb, 0, none⟩ = some (.int .i64 (u.wr)) := RQ.out.cell 0
              have n1 : wq.cell? ⟨nb, 1, none⟩ = some (.int .i64 (u.ts)) := RQ.out.cell 1
              have n2 : wq.cell? ⟨nb, 2, none⟩ = some (.bool (u.tomb)) := RQ.out.cell 2
              have n3 : wq.cell? ⟨nb, 3, none⟩ = some (.string (u.val)) := RQ.out.cell 3
              have n4 : wq.cell? ⟨nb, 4, none⟩ = some (.int .u64 (0)) := RQ.out.cell 4
              have b0 : wq.cell? ⟨wb, 0, none⟩ = some (.int .i64 u.wr) := (HGQ.out.row (i := 4) rfl).cell 0
              have b1 : wq.cell? ⟨wb, 1, none⟩ = some (.int .i64 u.ts) := (HGQ.out.row (i := 4) rfl).cell 1
              have b2 : wq.cell? ⟨wb, 2, none⟩ = some (.bool u.tomb) := (HGQ.out.row (i := 4) rfl).cell 2
              have b3 : wq.cell? ⟨wb, 3, none⟩ = some (.string u.val) := (HGQ.out.row (i := 4) rfl).cell 3
              have b4 : wq.cell? ⟨wb, 4, none⟩ = some (.int .u64 (p : Int)) := (HGQ.out.row (i := 4) rfl).cell 4
              have v0 : wq.cell? ⟨W.heap.size + 1, 0, none⟩ = some (.int .i64 v.wr) := (HGQ.out.row (i := 1) rfl).cell 0
              have v1 : wq.cell? ⟨W.heap.size + 1, 1, none⟩ = some (.int .i64 v.ts) := (HGQ.out.row (i := 1) rfl).cell 1
              have v2 : wq.cell? ⟨W.heap.size + 1, 2, none⟩ = some (.bool v.tomb) := (HGQ.out.row (i := 1) rfl).cell 2
              have v3 : wq.cell? ⟨W.heap.size + 1, 3, none⟩ = some (.string v.val) := (HGQ.out.row (i := 1) rfl).cell 3
              have z : nb < wq.heap.size ∧ wb < wq.heap.size ∧ W.heap.size + 1 < wq.heap.size := ⟨RQ.out.lt, (HGQ.out.row (i := 4) rfl).lt, (HGQ.out.row (i := 1) rfl).lt⟩
              have nn0 : ∀ o, (wq.alloc o).cell? ⟨nb, 0, none⟩ = some (.int .i64 (u.wr)) := fun o => Fr.keep (Fr.alloc none_ wq o) n0
              have nn1 : ∀ o, (wq.alloc o).cell? ⟨nb, 1, none⟩ = some (.int .i64 (u.ts)) := fun o => Fr.keep (Fr.alloc none_ wq o) n1
              have nn2 : ∀ o, (wq.alloc o).cell? ⟨nb, 2, none⟩ = some (.bool (u.tomb)) := fun o => Fr.keep (Fr.alloc none_ wq o) n2
              have nn3 : ∀ o, (wq.alloc o).cell? ⟨nb, 3, none⟩ = some (.string (u.val)) := fun o => Fr.keep (Fr.alloc none_ wq o) n3
              have nn4 : ∀ o, (wq.alloc o).cell? ⟨nb, 4, none⟩ = some (.int .u64 (0)) := fun o => Fr.keep (Fr.alloc none_ wq o) n4
              go_wp2_with fail
              go_roundw
              case rel => exact ⟨K + 1, hlt, by go_num, HGQ.out.keep0 (Fr.alloc none_ wq _)⟩
              case measure => simp [intOf]; omega
          · obtain ⟨z, hz⟩ : ∃ z, l[i]? = some z := ⟨_, List.getElem?_eq_getElem hlt⟩
            have hyd : y ≠ hd := fun e => by
              subst e
              have := (List.getElem?_inj (List.getElem?_eq_some_iff.1 hy).1 HB.out.nodup).1 (hy.trans HH.out.symm)
              omega
            rw [HCS.out.other y hyd, HB.out.at_ i z y hz hy] at hrd
            have hzo := HB.out.ok z (List.mem_of_getElem? hz)
            obtain ⟨q, hq⟩ : ∃ q, q = prevOf hs i := ⟨_, rfl⟩
            rw [← hq] at hrd
            have HRI := Lib.hid (show Calls Try.prog 12 #[.pointer (some ⟨x, 0, none⟩), .int .u64 (y : Int)] wr fun e w' => e = .returned (.tuple #[.agg #[.int .i64 z.wr, .int .i64 z.ts, .bool z.tomb, .string z.val, .int .u64 (q : Int)], .bool true]) ∧ Fr none_ wr w' by rw [← VerV.nv_cells hzo q]; exact hrd)
            have hne := fun w' => ver_ne z z w'
            rw [show @decide (z = z) (Classical.propDecidable _) = true from @decide_eq_true _ (Classical.propDecidable _) rfl] at hne
            have hik : ((i : Int) != (K : Int)) = true := by simp; omega
            have HZ := Lib.hid hz
            clear hrd hzo hq hyd hy hz hyl
            go_wp2_with fail
            refine HRI.out.mono ?_
            rintro e w8 ⟨rfl, f8⟩
            obtain ⟨w9, hw9⟩ : ∃ w9, w9 = w8.alloc (.cells #[.int .i64 z.wr, .int .i64 z.ts, .bool z.tomb, .string z.val, .int .u64 (q : Int)] 36) := ⟨_, rfl⟩
            obtain ⟨nb, hnb⟩ : ∃ nb, nb = w8.heap.size := ⟨_, rfl⟩
            have hg9 := hg.out.keep0 (f8.trans (Fr.alloc none_ w8 (.cells #[.int .i64 z.wr, .int .i64 z.ts, .bool z.tomb, .string z.val, .int .u64 (q : Int)] 36)))
            have rn := Row.new w8 #[.int .i64 z.wr, .int .i64 z.ts, .bool z.tomb, .string z.val, .int .u64 (q : Int)] 36
            rw [← hw9] at hg9 rn
            rw [← hnb] at rn
            have hin := HL.out w9 hg9.fr
            obtain ⟨gl, ol, rfl, hgl, hcl⟩ := hin.at_.get HZ.out
            have q0 : w9.cell? ⟨gl, ol + i * 4, none⟩ = some (.int .i64 z.wr) := hcl i z HZ.out 0 _ rfl
            have q1 : w9.cell? ⟨gl, ol + i * 4 + 1, none⟩ = some (.int .i64 z.ts) := hcl i z HZ.out 1 _ rfl
            have q2 : w9.cell? ⟨gl, ol + i * 4 + 2, none⟩ = some (.bool z.tomb) := hcl i z HZ.out 2 _ rfl
            have q3 : w9.cell? ⟨gl, ol + i * 4 + 3, none⟩ = some (.string z.val) := hcl i z HZ.out 3 _ rfl
            have n0 : w9.cell? ⟨nb, 0, none⟩ = some (.int .i64 z.wr) := rn.cell 0
            have n1 : w9.cell? ⟨nb, 1, none⟩ = some (.int .i64 z.ts) := rn.cell 1
            have n2 : w9.cell? ⟨nb, 2, none⟩ = some (.bool z.tomb) := rn.cell 2
            have n3 : w9.cell? ⟨nb, 3, none⟩ = some (.string z.val) := rn.cell 3
            have n4 : w9.cell? ⟨nb, 4, none⟩ = some (.int .u64 (q : Int)) := rn.cell 4
            have HG9 := Lib.hid hg9
            have HW9 := Lib.hid hw9.symm
            have HNB := Lib.hid hnb.symm
            clear f8 hw9 hnb hg9 rn hin hcl
            go_upto_region 19 with fail
            rw [HW9.out, HNB.out]
            go_quiet (fail)
            go_wp2_with fail
            go_roundw
            case rel => exact ⟨i + 1, hlt, by go_num, HG9.out.keep0 (Fr.drewN none_ w9 _)⟩
            case measure => simp [intOf]; omega
        · have hie : i = l.length := by have := hi.out; omega
          subst hie
          have HU := Lib.hid (bg_used hg.out (i := 2) rfl)
          rw [HCS.out.used, HB.out.used] at HU
          have HF := Lib.hid hg.out.fr
          by_cases hm2 : m = 2
          · have hmw0 : what % 3 = 2 := by rw [HMW.out, hm2]; rfl
            have hr1 : ((r.1 : Nat) : Int) = 0 := by
              rcases HCS.out.how with ⟨h0, h1, _⟩ | ⟨h0, h1, _⟩ | ⟨h0, h1, _⟩ | ⟨h0, h1, _⟩ | ⟨h0, h1, _⟩ <;> omega
            clear hm2
            go_wp2_with fail
            refine HU.out.mono ?_
            rintro e w8 ⟨rfl, rfl⟩
            go_wp2_with fail
            go_ret
            exact ⟨rfl, HF.out⟩
          · have hmw0 : ((what % 3) != 2) = true := by rw [HMW.out]; simp; omega
            clear hm2
            go_wp2_with fail
            refine HU.out.mono ?_
            rintro e w8 ⟨rfl, rfl⟩
            go_wp2_with fail
            go_ret
            exact ⟨rfl, HF.out⟩
end Go.Proofs.Yteefcfndlggajaa
