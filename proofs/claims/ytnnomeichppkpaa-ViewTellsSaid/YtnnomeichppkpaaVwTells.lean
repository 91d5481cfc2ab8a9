/-
  ViewTells' walk.
-/
import Derived.Test.YtnnomeichppkpaaVwX
import Derived.Deep.RegionHeld3
import Derived.RegionTactic
import Derived.ChangeAlike
import Derived.Outline
namespace Go.Proofs.Ytnnomeichppkpaa
open Go.RowKit Go.Sort
set_option linter.unusedVariables false
set_option linter.unusedSimpArgs false
set_option maxRecDepth 100000

/-- A view (the program's, or the reference's) in a variable, known by its cells. -/
structure VC3 (w : World) (X : Nat) (o h : Int) (s : Value) : Prop where
  c0 : w.cell? ⟨X, 0, none⟩ = some (.int .i64 o)
  c1 : w.cell? ⟨X, 1, none⟩ = some (.int .i64 h)
  c2 : w.cell? ⟨X, 2, none⟩ = some s
theorem VC3.keep {w w' : World} {X : Nat} {o h : Int} {s : Value} (q : VC3 w X o h s) (f : Fr none_ w w') : VC3 w' X o h s := ⟨f.keep q.c0, f.keep q.c1, f.keep q.c2⟩
theorem VC3.keepF {F : Nat → Prop} {w w' : World} {X : Nat} {o h : Int} {s : Value} (q : VC3 w X o h s) (f : Fr F w w') (hn : ¬ F X) : VC3 w' X o h s := ⟨f.keepF (p := ⟨X, 0, none⟩) hn q.c0, f.keepF (p := ⟨X, 1, none⟩) hn q.c1, f.keepF (p := ⟨X, 2, none⟩) hn q.c2⟩
theorem VC3.row {w : World} {X : Nat} {o h : Int} {s : Value} {t : TypeId} (r : Row w X #[.int .i64 o, .int .i64 h, s] t) : VC3 w X o h s := ⟨r.cell 0, r.cell 1, r.cell 2⟩

/-- Before the loop. -/
structure VT (W w : World) (v o : VwIn) (own high : Int) (l : List Int) (BV BO K : Nat) (ka wa : Option Addr) (wm wc : Nat) (L : List Int) : Prop where
  rv : VC3 w BV v.own v.high (.slice v.a v.n v.c)
  ro : VC3 w BO o.own o.high (.slice o.a o.n o.c)
  rk : VC3 w K own high (.slice wa wm wc)
  iv : IntsAt w v.a v.l
  io : IntsAt w o.a o.l
  kp : IntsAt w ka l
  iw : IntsAt w wa L
  lm : wm = L.length
  le : wm ≤ 300
  fr : Fr none_ W w
theorem VT.keep {W w w' : World} {v o : VwIn} {own high : Int} {l : List Int} {BV BO K : Nat} {ka wa : Option Addr} {wm wc : Nat} {L : List Int} (h : VT W w v o own high l BV BO K ka wa wm wc L) (f : Fr none_ w w') : VT W w' v o own high l BV BO K ka wa wm wc L :=
  ⟨h.rv.keep f, h.ro.keep f, h.rk.keep f, h.iv.kept0 f, h.io.kept0 f, h.kp.kept0 f, h.iw.kept0 f, h.lm, h.le, h.fr.trans f⟩
theorem pair_rows (w : World) (a b : Array Value) (t : TypeId) : Row ((w.alloc (.cells a t)).alloc (.cells b t)).drew w.heap.size a t ∧ Row ((w.alloc (.cells a t)).alloc (.cells b t)).drew (w.heap.size + 1) b t ∧ Fr none_ w ((w.alloc (.cells a t)).alloc (.cells b t)).drew := by
  refine ⟨((Row.new w a t).alloc _).drew, ?_, ((Fr.alloc _ _ _).alloc_r _).drew_r⟩
  have := (Row.new (w.alloc (.cells a t)) b t).drew
  have e : (w.alloc (.cells a t)).heap.size = w.heap.size + 1 := by simp
  rw [e] at this
  exact this
set_option maxHeartbeats 16000000 in
theorem walk_ViewTells (W : World) (own : Int) (ho : (Lit.int .i64 own).wf = true) (high : Int) (hh : (Lit.int .i64 high).wf = true) (ba : Option Addr) (bc : Nat) (l : List Int) (st : IntsIn W ba l) (v : VwIn) (hv : v.Ok W) (o : VwIn) (hov : o.Ok W) (writer : Int) (hwr : (Lit.int .i64 writer).wf = true) :
    Calls Try.prog 6 #[.int .i64 own, .int .i64 high, .slice ba l.length bc, v.val, o.val, .int .i64 writer] W fun e w' => e = .returned (.bool true) ∧ Fr none_ W w' := by
  have ST := Lib.hid st.at_
  have HH := Lib.hid (wf_le hh)
  have HV := Lib.hid hv
  have HO := Lib.hid hov
  have AW := Lib.hid awake_any
  obtain ⟨n, hn⟩ : ∃ n, n = l.length := ⟨_, rfl⟩
  rw [← hn]
  have HN := Lib.hid hn
  clear ho hh hwr st hn hv hov
  obtain ⟨vo, vh, va, vn, vc, vl⟩ := v
  obtain ⟨oo, oh, oa, on, oc, ol⟩ := o
  unfold VwIn.val
  simp only
  have fB : Hid (Fr none_ W ((W.alloc (.cells #[.int .i64 vo, .int .i64 vh, .slice va vn vc] 25)).alloc (.cells #[.int .i64 oo, .int .i64 oh, .slice oa on oc] 25))) := Lib.hid ((Fr.alloc _ _ _).alloc_r _)
  by_cases h1 : 300 < n
  · go_enter Try.func6, Try.ntmps6
    go_wp2_with fail
    refine (AW.out _).mono ?_
    rintro e w1 ⟨rfl, f⟩
    have F := Lib.hid (fB.out.trans f)
    clear f
    go_wp2_with fail
    go_ret
    exact ⟨rfl, F.out⟩
  · by_cases h2 : 300 < vn
    · go_enter Try.func6, Try.ntmps6
      go_wp2_with fail
      refine (AW.out _).mono ?_
      rintro e w1 ⟨rfl, f⟩
      have F := Lib.hid (fB.out.trans f)
      clear f
      go_wp2_with fail
      go_ret
      exact ⟨rfl, F.out⟩
    · by_cases h3 : 300 < on
      · go_enter Try.func6, Try.ntmps6
        go_wp2_with fail
        refine (AW.out _).mono ?_
        rintro e w1 ⟨rfl, f⟩
        have F := Lib.hid (fB.out.trans f)
        clear f
        go_wp2_with fail
        go_ret
        exact ⟨rfl, F.out⟩
      · go_enter Try.func6, Try.ntmps6
        go_wp2_with ((with_reducible refine at_slot 41 ?_); refine Stop.mk ?_)
        show wpList _ _ _ _ _ _
        obtain ⟨w2, hw2⟩ : ∃ w2 : World, w2 = (W.alloc (.cells #[.int .i64 vo, .int .i64 vh, .slice va vn vc] 25)).alloc (.cells #[.int .i64 oo, .int .i64 oh, .slice oa on oc] 25) := ⟨_, rfl⟩
        have r1 : Row w2 W.heap.size #[.int .i64 vo, .int .i64 vh, .slice va vn vc] 25 := by rw [hw2]; exact (Row.new _ _ _).alloc _
        have r2 : Row w2 (W.heap.size + 1) #[.int .i64 oo, .int .i64 oh, .slice oa on oc] 25 := by
          rw [hw2]
          have := Row.new (W.alloc (.cells #[.int .i64 vo, .int .i64 vh, .slice va vn vc] 25)) #[.int .i64 oo, .int .i64 oh, .slice oa on oc] 25
          have e : (W.alloc (.cells #[.int .i64 vo, .int .i64 vh, .slice va vn vc] 25)).heap.size = W.heap.size + 1 := by simp
          rw [e] at this
          exact this
        have z2 : w2.heap.size = W.heap.size + 1 + 1 := by rw [hw2]; simp
        have f2 : Fr none_ W w2 := by rw [hw2]; exact fB.out
        rw [← hw2]
        have RV := Lib.hid (VC3.row r1)
        have RO := Lib.hid (VC3.row r2)
        have F2 := Lib.hid f2
        have MD := Lib.hid (SlAt.made' w2 3 1)
        have Z2 : Hid (w2.heap.size = W.heap.size + 1 + 1) := Lib.hid z2
        rw [z2] at MD
        have FM := Lib.hid (Fr.alloc none_ w2 (.cells #[] 3))
        obtain ⟨BV, hBV⟩ : ∃ b, b = W.heap.size := ⟨_, rfl⟩
        rw [← hBV] at RV RO MD Z2 ⊢
        clear hw2 r1 r2 z2 f2 fB hBV
        refine wpAppendLn rfl _ _ _ rfl 3 (.int .i64 0) 1 8 Try.underlying22 vw_int_info rfl MD.out (((ST.out.kept0 F2.out).kept0 FM.out)) HN.out (fun _ => rfl) (fun x u hu => by simp at hu; subst hu; rfl) rfl rfl (by simp [maxLen]; omega) (by omega) ?_
        intro ka kn kc w3 hkn hs3 f3 hb3
        obtain rfl : kn = n := by have := hkn.out; omega
        have fW : Fr none_ w2 w3 := FM.out.step f3 (fun i hi e => by rw [blk_some] at e; have := Z2.out; omega)
        have F3 := Lib.hid (F2.out.trans fW)
        have RV3 := Lib.hid (RV.out.keep fW)
        have RO3 := Lib.hid (RO.out.keep fW)
        rw [List.nil_append, flat_one] at hs3
        have KS := Lib.hid (hs3.ls1 (enc := encI) HN.out)
        clear hs3 f3 hb3 hkn fW MD FM RV RO F2 Z2
        go_wp2_with fail
        refine (rOf_any w3 own high ka kc kn l KS.out HN.out (by omega)).mono ?_
        rintro e w4 ⟨wa, wm, wc, rfl, hm, hs, f, hk⟩
        obtain ⟨L, hL⟩ : ∃ L, L = vwBusy own high l := ⟨_, rfl⟩
        have HLL := Lib.hid hL
        have hmb : wm ≤ 300 := by rw [hm]; exact Nat.le_trans (vwBusy_length _ _ _) (by have := HN.out; omega)
        rw [← hL] at hm hs
        have HM := Lib.hid hm
        have F4 := Lib.hid (F3.out.trans f)
        have S4 := Lib.hid (hs.ls1 (enc := encI) hm)
        have L4 := Lib.hid hs.lt
        have K4 := Lib.hid (KS.out.kept0 f)
        have RV4 := Lib.hid (RV3.out.keep f)
        have RO4 := Lib.hid (RO3.out.keep f)
        have f5 := Fr.alloc none_ w4 (.cells #[.int .i64 0, .int .i64 0, .slice none 0 0] 38)
        have R5 := Lib.hid (Row.new w4 #[.int .i64 0, .int .i64 0, .slice none 0 0] 38)
        have FA := Lib.hid f5
        clear hs f hk hm hL F3 KS RV3 RO3 f5
        go_upto_region 5 with ((with_reducible refine at_storeOf 38 ?_); refine wpStoreRow rfl _ _ _ rfl R5.out rfl rfl (by kernel_rfl) rfl (by simp [Value.oneCell']) ?_; intro w5 r5 f5; have FB : Hid (Fr none_ w4 w5) := Lib.hid (FA.out.step f5 (fun i hi e => by unfold one at e; omega)); have RK := Lib.hid (VC3.row r5); clear r5 f5)
        have V5 : Hid (VT W w5 ⟨vo, vh, va, vn, vc, vl⟩ ⟨oo, oh, oa, on, oc, ol⟩ own high l BV (BV + 1) w4.heap.size ka wa wm wc L) := Lib.hid ⟨RV4.out.keep FB.out, RO4.out.keep FB.out, RK.out, (HV.out.at_.kept0 F4.out).kept0 FB.out, (HO.out.at_.kept0 F4.out).kept0 FB.out, K4.out.kept0 FB.out, S4.out.kept0 FB.out, HM.out, hmb, F4.out.trans FB.out⟩
        generalize w4.heap.size = K at V5 ⊢
        simp only [Act.put]
        clear FB RK R5 FA RO4 RV4 K4 L4 S4 F4 HM
        go_wp2_with fail
        go_loopw [15] (fun iv wr => ∃ q : Nat, Hid (q ≤ 2) ∧ iv = .int .i64 (q : Int) ∧ Hid (Fr none_ w5 wr)) (fun iv _ => 2 - (intOf iv).toNat)
        case atStart => exact ⟨0, Nat.zero_le _, rfl, Lib.hid (Fr.refl _ _)⟩
        case round =>
          obtain ⟨q, hq, rfl, FR⟩ := hrel
          have VR := Lib.hid (V5.out.keep FR.out)
          by_cases hlt : q < 2
          · have OF := Lib.hid (Of_any wr own high ba bc kn l (ST.out.kept0 VR.out.fr) HN.out (by omega))
            rw [← HLL.out] at OF
            go_wp2_with fail
            refine OF.out.mono ?_
            rintro e w6 ⟨aa, am, ac, rfl, hm, hs, f, hk⟩
            have HAM : Hid (am = wm) := Lib.hid (by rw [hm, VR.out.lm])
            obtain rfl : wm = am := HAM.out.symm
            have S6 := Lib.hid hs
            have F6 := Lib.hid (FR.out.trans f)
            have LA6 := Lib.hid hs.lt
            have NA6 : Hid (∀ k, blk aa k → w5.heap.size ≤ k) := Lib.hid (fun k hk' => Nat.le_trans FR.out.size (hk k hk'))
            have f7 := Fr.alloc none_ w6 (.cells #[.int .i64 0, .int .i64 0, .slice none 0 0] 25)
            have R7 := Lib.hid (Row.new w6 #[.int .i64 0, .int .i64 0, .slice none 0 0] 25)
            have FA := Lib.hid f7
            clear hs f hk hm f7 HAM OF
            go_upto_region 9 with ((with_reducible refine at_storeOf 25 ?_); refine wpStoreRow rfl _ _ _ rfl R7.out rfl rfl (by kernel_rfl) rfl (by simp [Value.oneCell']) ?_; intro w7 r7 f7; have FB : Hid (Fr none_ w6 w7) := Lib.hid (FA.out.step f7 (fun i hi e => by unfold one at e; omega)); have RA := Lib.hid (VC3.row r7); clear r7 f7)
            have SA := Lib.hid (S6.out.kept0 FB.out)
            have F7 := Lib.hid (F6.out.trans FB.out)
            have LA : Hid (∀ k, blk aa k → k < w6.heap.size) := LA6
            have XA : Hid (w5.heap.size ≤ w6.heap.size) := Lib.hid F6.out.size
            have XA7 : Hid (w6.heap.size < w7.heap.size) := Lib.hid (World.block_lt_of_cell? w7 _ RA.out.c0)
            generalize w6.heap.size = A at RA LA XA XA7 ⊢
            simp only [Act.put]
            clear FB R7 FA S6 F6 LA6
            have V7 := Lib.hid (V5.out.keep F7.out)
            have b0 := V7.out.rv.c0
            have b1 := V7.out.rv.c1
            have b2 := V7.out.rv.c2
            simp only at b0 b1 b2
            go_wp2_with fail
            refine (Copy_any w7 vo vh va vn vc vl V7.out.iv HV.out.len (by omega)).mono ?_
            rintro e w8 ⟨ca, cc, rfl, hs, f, hk⟩
            have SC := Lib.hid hs
            have LC8 := Lib.hid hs.lt
            have NC : Hid (∀ k, blk ca k → A < k ∧ ¬ blk aa k) := Lib.hid (fun k hk' => by
              have h1 := hk k hk'
              have h2 := XA7.out
              exact ⟨by omega, fun q2 => by have := LA.out k q2; omega⟩)
            have F8 := Lib.hid (F7.out.trans f)
            have RA8 := Lib.hid (RA.out.keep f)
            have SA8 := Lib.hid (SA.out.kept0 f)
            have f9 := Fr.alloc none_ w8 (.cells #[.int .i64 0, .int .i64 0, .slice none 0 0] 25)
            have R9 := Lib.hid (Row.new w8 #[.int .i64 0, .int .i64 0, .slice none 0 0] 25)
            have FA := Lib.hid f9
            clear hs f hk f9 b0 b1 b2
            go_upto_region 10 with ((with_reducible refine at_storeOf 25 ?_); refine wpStoreRow rfl _ _ _ rfl R9.out rfl rfl (by kernel_rfl) rfl (by simp [Value.oneCell']) ?_; intro w9 r9 f9; have FB : Hid (Fr none_ w8 w9) := Lib.hid (FA.out.step f9 (fun i hi e => by unfold one at e; omega)); have RC := Lib.hid (VC3.row r9); clear r9 f9)
            have SA9 := Lib.hid (SA8.out.kept0 FB.out)
            have SC9 := Lib.hid (SC.out.kept0 FB.out)
            have RA9 := Lib.hid (RA8.out.keep FB.out)
            have F9 := Lib.hid (F8.out.trans FB.out)
            have LC : Hid (∀ k, blk ca k → k < w8.heap.size) := LC8
            have XC : Hid (A < w8.heap.size) := Lib.hid (World.block_lt_of_cell? w8 _ RA8.out.c0)
            have LAC : Hid (∀ k, blk aa k → k < w8.heap.size) := Lib.hid SA8.out.lt
            generalize w8.heap.size = C at RC LC XC LAC ⊢
            simp only [Act.put]
            clear FB R9 FA SC SA8 RA8 F8 F7 RA SA V7 LC8
            have V9 := Lib.hid (V5.out.keep F9.out)
            go_cut [81] (fun v wx => v = .bool false ∧ Hid (Fr none_ w9 wx))
            case first =>
              have hvv : vwSame own high L own high L = true := by unfold vwSame; simp
              have hvw : vwSame vo vh vl vo vh vl = true := by unfold vwSame; simp
              have C1 : Hid (∀ w', Fr none_ w9 w' → Calls Try.prog 14 #[.agg #[.int .i64 own, .int .i64 high, .slice aa wm ac], .agg #[.int .i64 own, .int .i64 high, .slice wa wm wc]] w' fun e w'' => e = .returned (.bool true) ∧ Fr none_ w' w'') := Lib.hid (fun w' f => by
                have := rSame_any w' own high aa wm ac L own high wa wm wc L ((SA9.out.kept0 f).ls1 V9.out.lm) V9.out.lm (by omega) (V9.out.iw.kept0 f) V9.out.lm (by omega)
                rw [hvv] at this; exact this)
              have C2 : Hid (∀ w', Fr none_ w9 w' → Calls Try.prog 14 #[.agg #[.int .i64 vo, .int .i64 vh, .slice ca vn cc], .agg #[.int .i64 vo, .int .i64 vh, .slice va vn vc]] w' fun e w'' => e = .returned (.bool true) ∧ Fr none_ w' w'') := Lib.hid (fun w' f => by
                have := rSame_any w' vo vh ca vn cc vl vo vh va vn vc vl ((SC9.out.kept0 f).ls1 HV.out.len) HV.out.len (by omega) (V9.out.iv.kept0 f) HV.out.len (by omega)
                rw [hvw] at this; exact this)
              obtain ⟨B, hB⟩ : ∃ B, B = vwSees own high L writer := ⟨_, rfl⟩
              obtain ⟨M, hM⟩ : ∃ M, M = vwLeast own high L := ⟨_, rfl⟩
              have C3 : Hid (∀ w', Fr none_ w9 w' → Calls Try.prog 9 #[.agg #[.int .i64 own, .int .i64 high, .slice aa wm ac], .int .i64 writer] w' fun e w'' => e = .returned (.bool B) ∧ Fr none_ w' w'') := Lib.hid (fun w' f => by
                rw [hB]; exact Sees_any w' own high aa wm ac L writer ((SA9.out.kept0 f).ls1 V9.out.lm) V9.out.lm (by omega))
              have C4 : Hid (∀ w', Fr none_ w9 w' → Calls Try.prog 15 #[.agg #[.int .i64 own, .int .i64 high, .slice wa wm wc], .int .i64 writer] w' fun e w'' => e = .returned (.bool B) ∧ Fr none_ w' w'') := Lib.hid (fun w' f => by
                rw [hB]; exact rSees_any w' own high wa wm wc L writer (V9.out.iw.kept0 f) V9.out.lm (by omega))
              have C5 : Hid (∀ w', Fr none_ w9 w' → Calls Try.prog 10 #[.agg #[.int .i64 own, .int .i64 high, .slice aa wm ac]] w' fun e w'' => e = .returned (.int .i64 M) ∧ Fr none_ w' w'') := Lib.hid (fun w' f => by
                rw [hM]; exact Least_any w' own high aa wm ac L ((SA9.out.kept0 f).ls1 V9.out.lm) V9.out.lm (by omega) HH.out.2)
              have C6 : Hid (∀ w', Fr none_ w9 w' → Calls Try.prog 16 #[.agg #[.int .i64 own, .int .i64 high, .slice wa wm wc]] w' fun e w'' => e = .returned (.int .i64 M) ∧ Fr none_ w' w'') := Lib.hid (fun w' f => by
                rw [hM]; exact rLeast_any w' own high wa wm wc L (V9.out.iw.kept0 f) V9.out.lm (by omega) HH.out.2)
              have a0 := RA9.out.c0
              have a1 := RA9.out.c1
              have a2 := RA9.out.c2
              have b0 : w9.cell? ⟨BV, 0, none⟩ = some (.int .i64 vo) := V9.out.rv.c0
              have b1 : w9.cell? ⟨BV, 1, none⟩ = some (.int .i64 vh) := V9.out.rv.c1
              have b2 : w9.cell? ⟨BV, 2, none⟩ = some (.slice va vn vc) := V9.out.rv.c2
              have k0 := V9.out.rk.c0
              have k1 := V9.out.rk.c1
              have k2 := V9.out.rk.c2
              have d0 := RC.out.c0
              have d1 := RC.out.c1
              have d2 := RC.out.c2
              have fS : Fr none_ w9 w9 := Fr.refl _ _
              clear hvv hvw hB hM
              go_wp2_with fail
              go_region_held3 (fun w' => Fr none_ w9 w' ∧ w'.cell? ⟨A, 0, none⟩ = some (.int .i64 own) ∧ w'.cell? ⟨A, 1, none⟩ = some (.int .i64 high) ∧ w'.cell? ⟨A, 2, none⟩ = some (.slice aa wm ac) ∧ w'.cell? ⟨BV, 0, none⟩ = some (.int .i64 vo) ∧ w'.cell? ⟨BV, 1, none⟩ = some (.int .i64 vh) ∧ w'.cell? ⟨BV, 2, none⟩ = some (.slice va vn vc) ∧ w'.cell? ⟨K, 0, none⟩ = some (.int .i64 own) ∧ w'.cell? ⟨K, 1, none⟩ = some (.int .i64 high) ∧ w'.cell? ⟨K, 2, none⟩ = some (.slice wa wm wc) ∧ w'.cell? ⟨C, 0, none⟩ = some (.int .i64 vo) ∧ w'.cell? ⟨C, 1, none⟩ = some (.int .i64 vh) ∧ w'.cell? ⟨C, 2, none⟩ = some (.slice ca vn cc))
                (first | (go_split_ands; refine ⟨?_, ?_, ?_, ?_, ?_, ?_, ?_, ?_, ?_, ?_, ?_, ?_, ?_⟩; exact Fr.trans (by assumption) f6; all_goals exact Fr.keep f6 (by assumption)) | (go_split_ands; refine ⟨?_, ?_, ?_, ?_, ?_, ?_, ?_, ?_, ?_, ?_, ?_, ?_, ?_⟩; exact Fr.trans (by assumption) (Fr.drew _ _); all_goals assumption) | go_keep)
                (first | (go_at_call 14; (with_reducible refine (C1.out _ (by first | assumption | exact Fr.drew _ _ | (go_split_ands; assumption))).mono ?_); rintro e w6 ⟨rfl, f6⟩) | (go_at_call 14; (with_reducible refine (C2.out _ (by first | assumption | exact Fr.drew _ _ | (go_split_ands; assumption))).mono ?_); rintro e w6 ⟨rfl, f6⟩) | (go_at_call 9; refine (C3.out _ (by first | assumption | exact Fr.drew _ _ | (go_split_ands; assumption))).mono ?_; rintro e w6 ⟨rfl, f6⟩) | (go_at_call 15; refine (C4.out _ (by first | assumption | exact Fr.drew _ _ | (go_split_ands; assumption))).mono ?_; rintro e w6 ⟨rfl, f6⟩) | (go_at_call 10; refine (C5.out _ (by first | assumption | exact Fr.drew _ _ | (go_split_ands; assumption))).mono ?_; rintro e w6 ⟨rfl, f6⟩) | (go_at_call 16; refine (C6.out _ (by first | assumption | exact Fr.drew _ _ | (go_split_ands; assumption))).mono ?_; rintro e w6 ⟨rfl, f6⟩))
              rename_i hh
              have FN := Lib.hid hh.1
              clear hh
              go_wp2_with fail
              go_meet
              exact ⟨rfl, FN⟩
            case rest =>
              obtain ⟨rfl, FC⟩ := hcut
              have RA10 := Lib.hid (RA9.out.keep FC.out)
              have RC10 := Lib.hid (RC.out.keep FC.out)
              have SA10 := Lib.hid (SA9.out.kept0 FC.out)
              have SC10 := Lib.hid (SC9.out.kept0 FC.out)
              have F10 := Lib.hid (F9.out.trans FC.out)
              clear RA9 RC SA9 SC9 F9 FC V9
              go_wp2_with fail
              go_loopw [18] (fun iv wx => ∃ (j : Nat) (xs : List Value), Hid (j ≤ wm) ∧ iv = .int .i64 (j : Int) ∧ Hid (Fr (blk aa) wc wx) ∧ Hid (SlAt wx aa wm ac 3 1 xs)) (fun iv _ => wm - (intOf iv).toNat)
              case atStart => exact ⟨0, _, Nat.zero_le _, rfl, Lib.hid (Fr.refl _ _), SA10⟩
              case round =>
                obtain ⟨j, xs, hj, rfl, FX, SX⟩ := hrel
                have RAX := Lib.hid (RA10.out.keepF FX.out (fun e => Nat.lt_irrefl _ (LA.out _ e)))
                have a2 := RAX.out.c2
                by_cases hjl : j < wm
                · obtain ⟨ga, hga⟩ := SX.out.isAddr (by omega)
                  subst hga
                  obtain ⟨u, hu⟩ : ∃ u, xs[j]? = some u := ⟨_, List.getElem?_eq_getElem (by have := SX.out.1; omega)⟩
                  have q1 := SX.out.cell hu
                  have q2 := SX.out.free j
                  have SY := Lib.hid (SX.out.setAt j (.int .i64 77))
                  have FY := Lib.hid (FX.out.setCell_r ⟨ga, j, none⟩ (.int .i64 77) (fun _ => ⟨_, rfl, rfl⟩))
                  clear hu
                  go_wp2_with fail
                  go_roundw
                  case rel => exact ⟨j + 1, _, hjl, by go_num, FY, SY⟩
                  case measure => simp [intOf]; omega
                · obtain ⟨wx, rfl⟩ : ∃ wo : World, wo = wr := ⟨_, rfl⟩
                  have F11 := Lib.hid (F10.out.step FX.out (fun i hi e => by have := NA6.out i e; omega))
                  have RC11 := Lib.hid (RC10.out.keepF FX.out (fun e => Nat.lt_irrefl _ (LAC.out _ e)))
                  have SC11 := Lib.hid (SC10.out.kept FX.out (fun k hk e => (NC.out k hk).2 e))
                  clear SX RAX FX RC10 SC10 F10 SA10 RA10
                  go_wp2_with fail
                  go_loopw [19] (fun iv wy => ∃ (j : Nat) (xs : List Value), Hid (j ≤ vn) ∧ iv = .int .i64 (j : Int) ∧ Hid (Fr (blk ca) wx wy) ∧ Hid (SlAt wy ca vn cc 3 1 xs)) (fun iv _ => vn - (intOf iv).toNat)
                  case atStart => exact ⟨0, _, Nat.zero_le _, rfl, Lib.hid (Fr.refl _ _), SC11⟩
                  case round =>
                    obtain ⟨j, xs, hj, rfl, FX, SX⟩ := hrel
                    have RCX := Lib.hid (RC11.out.keepF FX.out (fun e => Nat.lt_irrefl _ (LC.out _ e)))
                    have d2 := RCX.out.c2
                    by_cases hjl : j < vn
                    · obtain ⟨ga, hga⟩ := SX.out.isAddr (by omega)
                      subst hga
                      obtain ⟨u, hu⟩ : ∃ u, xs[j]? = some u := ⟨_, List.getElem?_eq_getElem (by have := SX.out.1; omega)⟩
                      have q1 := SX.out.cell hu
                      have q2 := SX.out.free j
                      have SY := Lib.hid (SX.out.setAt j (.int .i64 77))
                      have FY := Lib.hid (FX.out.setCell_r ⟨ga, j, none⟩ (.int .i64 77) (fun _ => ⟨_, rfl, rfl⟩))
                      clear hu
                      go_wp2_with fail
                      go_roundw
                      case rel => exact ⟨j + 1, _, hjl, by go_num, FY, SY⟩
                      case measure => simp [intOf]; omega
                    · have F12 := Lib.hid (F11.out.step FX.out (fun i hi e => by have := (NC.out i e).1; have := XA.out; omega))
                      clear SX RCX FX RC11 SC11 F11
                      go_wp2_with fail
                      go_roundw
                      case rel => exact ⟨q + 1, hlt, by go_num, F12⟩
                      case measure => simp [intOf]; omega
          · clear V5
            have VX0 := VR
            have b0 : wr.cell? ⟨BV, 0, none⟩ = some (.int .i64 vo) := VR.out.rv.c0
            have b1 : wr.cell? ⟨BV, 1, none⟩ = some (.int .i64 vh) := VR.out.rv.c1
            have b2 : wr.cell? ⟨BV, 2, none⟩ = some (.slice va vn vc) := VR.out.rv.c2
            have o0 : wr.cell? ⟨BV + 1, 0, none⟩ = some (.int .i64 oo) := VR.out.ro.c0
            have o1 : wr.cell? ⟨BV + 1, 1, none⟩ = some (.int .i64 oh) := VR.out.ro.c1
            have o2 : wr.cell? ⟨BV + 1, 2, none⟩ = some (.slice oa on oc) := VR.out.ro.c2
            have b0' : ∀ ob : Obj, (wr.alloc ob).cell? ⟨BV, 0, none⟩ = some (.int .i64 vo) := fun ob => (Fr.alloc none_ wr ob).keep b0
            have b0'' : ∀ ob ob' : Obj, ((wr.alloc ob).alloc ob').cell? ⟨BV, 0, none⟩ = some (.int .i64 vo) := fun ob ob' => ((Fr.alloc none_ wr ob).alloc_r ob').keep b0
            have b1' : ∀ ob : Obj, (wr.alloc ob).cell? ⟨BV, 1, none⟩ = some (.int .i64 vh) := fun ob => (Fr.alloc none_ wr ob).keep b1
            have b1'' : ∀ ob ob' : Obj, ((wr.alloc ob).alloc ob').cell? ⟨BV, 1, none⟩ = some (.int .i64 vh) := fun ob ob' => ((Fr.alloc none_ wr ob).alloc_r ob').keep b1
            have b2' : ∀ ob : Obj, (wr.alloc ob).cell? ⟨BV, 2, none⟩ = some (.slice va vn vc) := fun ob => (Fr.alloc none_ wr ob).keep b2
            have b2'' : ∀ ob ob' : Obj, ((wr.alloc ob).alloc ob').cell? ⟨BV, 2, none⟩ = some (.slice va vn vc) := fun ob ob' => ((Fr.alloc none_ wr ob).alloc_r ob').keep b2
            have o0' : ∀ ob : Obj, (wr.alloc ob).cell? ⟨BV + 1, 0, none⟩ = some (.int .i64 oo) := fun ob => (Fr.alloc none_ wr ob).keep o0
            have o0'' : ∀ ob ob' : Obj, ((wr.alloc ob).alloc ob').cell? ⟨BV + 1, 0, none⟩ = some (.int .i64 oo) := fun ob ob' => ((Fr.alloc none_ wr ob).alloc_r ob').keep o0
            have o1' : ∀ ob : Obj, (wr.alloc ob).cell? ⟨BV + 1, 1, none⟩ = some (.int .i64 oh) := fun ob => (Fr.alloc none_ wr ob).keep o1
            have o1'' : ∀ ob ob' : Obj, ((wr.alloc ob).alloc ob').cell? ⟨BV + 1, 1, none⟩ = some (.int .i64 oh) := fun ob ob' => ((Fr.alloc none_ wr ob).alloc_r ob').keep o1
            have o2' : ∀ ob : Obj, (wr.alloc ob).cell? ⟨BV + 1, 2, none⟩ = some (.slice oa on oc) := fun ob => (Fr.alloc none_ wr ob).keep o2
            have o2'' : ∀ ob ob' : Obj, ((wr.alloc ob).alloc ob').cell? ⟨BV + 1, 2, none⟩ = some (.slice oa on oc) := fun ob ob' => ((Fr.alloc none_ wr ob).alloc_r ob').keep o2
            go_upto_region 20 with fail
            go_cut [20, 21] (fun p q wx => ∃ X Y : Nat, p = .pointer (some ⟨X, 0, none⟩) ∧ q = .pointer (some ⟨Y, 0, none⟩) ∧ Hid (VC3 wx X vo vh (.slice va vn vc)) ∧ Hid (VC3 wx Y oo oh (.slice oa on oc)) ∧ Hid (Fr none_ wr wx))
            case first =>
              go_region
              all_goals (go_wp2_with fail; go_meet)
              · have P := pair_rows wr #[.int .i64 vo, .int .i64 vh, .slice va vn vc] #[.int .i64 oo, .int .i64 oh, .slice oa on oc] 38
                exact ⟨_, _, rfl, rfl, Lib.hid (VC3.row P.1), Lib.hid (VC3.row P.2.1), Lib.hid P.2.2⟩
              · have P := pair_rows wr #[.int .i64 oo, .int .i64 oh, .slice oa on oc] #[.int .i64 vo, .int .i64 vh, .slice va vn vc] 38
                exact ⟨_, _, rfl, rfl, Lib.hid (VC3.row P.2.1), Lib.hid (VC3.row P.1), Lib.hid P.2.2⟩
            case rest =>
              obtain ⟨X, Y, rfl, rfl, RX, RY, FC⟩ := hcut
              obtain ⟨wd, rfl⟩ : ∃ wo : World, wo = wc := ⟨_, rfl⟩
              have VD := Lib.hid (VR.out.keep FC.out)
              clear b0 b1 b2 o0 o1 o2 b0' b1' b2' o0' o1' o2' b0'' b1'' b2'' o0'' o1'' o2'' FC VX0 VR
              go_upto_region 21 with fail
              go_cut [134] (fun v wx => v = .bool false ∧ Hid (Fr none_ wd wx))
              case first =>
                obtain ⟨B, hB⟩ : ∃ B, B = vwSees vo vh vl writer := ⟨_, rfl⟩
                obtain ⟨M, hM⟩ : ∃ M, M = vwLeast vo vh vl := ⟨_, rfl⟩
                obtain ⟨E, hE⟩ : ∃ E, E = vwSame vo vh vl oo oh ol := ⟨_, rfl⟩
                have hvw : vwSame vo vh vl vo vh vl = true := by unfold vwSame; simp
                have hvh := (wf_le HV.out.high).2
                simp only at hvh
                have C1 : Hid (∀ w', Fr none_ wd w' → Calls Try.prog 9 #[.agg #[.int .i64 vo, .int .i64 vh, .slice va vn vc], .int .i64 writer] w' fun e w'' => e = .returned (.bool B) ∧ Fr none_ w' w'') := Lib.hid (fun w' f => by rw [hB]; exact Sees_any w' vo vh va vn vc vl writer ((VD.out.iv.kept0 f)) HV.out.len (by omega))
                have C2 : Hid (∀ w', Fr none_ wd w' → Calls Try.prog 15 #[.agg #[.int .i64 vo, .int .i64 vh, .slice va vn vc], .int .i64 writer] w' fun e w'' => e = .returned (.bool B) ∧ Fr none_ w' w'') := Lib.hid (fun w' f => by rw [hB]; exact rSees_any w' vo vh va vn vc vl writer ((VD.out.iv.kept0 f)) HV.out.len (by omega))
                have C3 : Hid (∀ w', Fr none_ wd w' → Calls Try.prog 10 #[.agg #[.int .i64 vo, .int .i64 vh, .slice va vn vc]] w' fun e w'' => e = .returned (.int .i64 M) ∧ Fr none_ w' w'') := Lib.hid (fun w' f => by rw [hM]; exact Least_any w' vo vh va vn vc vl ((VD.out.iv.kept0 f)) HV.out.len (by omega) hvh)
                have C4 : Hid (∀ w', Fr none_ wd w' → Calls Try.prog 16 #[.agg #[.int .i64 vo, .int .i64 vh, .slice va vn vc]] w' fun e w'' => e = .returned (.int .i64 M) ∧ Fr none_ w' w'') := Lib.hid (fun w' f => by rw [hM]; exact rLeast_any w' vo vh va vn vc vl ((VD.out.iv.kept0 f)) HV.out.len (by omega) hvh)
                have C5 : Hid (∀ w', Fr none_ wd w' → Calls Try.prog 11 #[.agg #[.int .i64 vo, .int .i64 vh, .slice va vn vc], .agg #[.int .i64 oo, .int .i64 oh, .slice oa on oc]] w' fun e w'' => e = .returned (.bool E) ∧ Fr none_ w' w'') := Lib.hid (fun w' f => by rw [hE]; exact Same_any w' vo vh va vn vc vl oo oh oa on oc ol ((VD.out.iv.kept0 f)) HV.out.len (by omega) ((VD.out.io.kept0 f)) HO.out.len (by omega))
                have C6 : Hid (∀ w', Fr none_ wd w' → Calls Try.prog 14 #[.agg #[.int .i64 vo, .int .i64 vh, .slice va vn vc], .agg #[.int .i64 oo, .int .i64 oh, .slice oa on oc]] w' fun e w'' => e = .returned (.bool E) ∧ Fr none_ w' w'') := Lib.hid (fun w' f => by rw [hE]; exact rSame_any w' vo vh va vn vc vl oo oh oa on oc ol ((VD.out.iv.kept0 f)) HV.out.len (by omega) ((VD.out.io.kept0 f)) HO.out.len (by omega))
                have C7 : Hid (∀ w', Fr none_ wd w' → Calls Try.prog 11 #[.agg #[.int .i64 vo, .int .i64 vh, .slice va vn vc], .agg #[.int .i64 vo, .int .i64 vh, .slice va vn vc]] w' fun e w'' => e = .returned (.bool true) ∧ Fr none_ w' w'') := Lib.hid (fun w' f => by have := Same_any w' vo vh va vn vc vl vo vh va vn vc vl ((VD.out.iv.kept0 f)) HV.out.len (by omega) ((VD.out.iv.kept0 f)) HV.out.len (by omega); rw [hvw] at this; exact this)
                have b0 : wd.cell? ⟨BV, 0, none⟩ = some (.int .i64 vo) := VD.out.rv.c0
                have b1 : wd.cell? ⟨BV, 1, none⟩ = some (.int .i64 vh) := VD.out.rv.c1
                have b2 : wd.cell? ⟨BV, 2, none⟩ = some (.slice va vn vc) := VD.out.rv.c2
                have o0 : wd.cell? ⟨BV + 1, 0, none⟩ = some (.int .i64 oo) := VD.out.ro.c0
                have o1 : wd.cell? ⟨BV + 1, 1, none⟩ = some (.int .i64 oh) := VD.out.ro.c1
                have o2 : wd.cell? ⟨BV + 1, 2, none⟩ = some (.slice oa on oc) := VD.out.ro.c2
                have x0 : wd.cell? ⟨X, 0, none⟩ = some (.int .i64 vo) := RX.out.c0
                have x1 : wd.cell? ⟨X, 1, none⟩ = some (.int .i64 vh) := RX.out.c1
                have x2 : wd.cell? ⟨X, 2, none⟩ = some (.slice va vn vc) := RX.out.c2
                have y0 : wd.cell? ⟨Y, 0, none⟩ = some (.int .i64 oo) := RY.out.c0
                have y1 : wd.cell? ⟨Y, 1, none⟩ = some (.int .i64 oh) := RY.out.c1
                have y2 : wd.cell? ⟨Y, 2, none⟩ = some (.slice oa on oc) := RY.out.c2
                have fS : Fr none_ wd wd := Fr.refl _ _
                clear hB hM hE hvw hvh
                go_wp2_with fail
                go_region_held3 (fun w' => Fr none_ wd w' ∧ w'.cell? ⟨BV, 0, none⟩ = some (.int .i64 vo) ∧ w'.cell? ⟨BV, 1, none⟩ = some (.int .i64 vh) ∧ w'.cell? ⟨BV, 2, none⟩ = some (.slice va vn vc) ∧ w'.cell? ⟨BV + 1, 0, none⟩ = some (.int .i64 oo) ∧ w'.cell? ⟨BV + 1, 1, none⟩ = some (.int .i64 oh) ∧ w'.cell? ⟨BV + 1, 2, none⟩ = some (.slice oa on oc) ∧ w'.cell? ⟨X, 0, none⟩ = some (.int .i64 vo) ∧ w'.cell? ⟨X, 1, none⟩ = some (.int .i64 vh) ∧ w'.cell? ⟨X, 2, none⟩ = some (.slice va vn vc) ∧ w'.cell? ⟨Y, 0, none⟩ = some (.int .i64 oo) ∧ w'.cell? ⟨Y, 1, none⟩ = some (.int .i64 oh) ∧ w'.cell? ⟨Y, 2, none⟩ = some (.slice oa on oc))
                  (first | (go_split_ands; refine ⟨?_, ?_, ?_, ?_, ?_, ?_, ?_, ?_, ?_, ?_, ?_, ?_, ?_⟩; exact Fr.trans (by assumption) f6; all_goals exact Fr.keep f6 (by assumption)) | (go_split_ands; refine ⟨?_, ?_, ?_, ?_, ?_, ?_, ?_, ?_, ?_, ?_, ?_, ?_, ?_⟩; exact Fr.trans (by assumption) (Fr.drew _ _); all_goals assumption) | go_keep)
                  (first | (go_at_call 9; refine (C1.out _ (by first | assumption | exact Fr.drew _ _ | (go_split_ands; assumption))).mono ?_; rintro e w6 ⟨rfl, f6⟩) | (go_at_call 15; refine (C2.out _ (by first | assumption | exact Fr.drew _ _ | (go_split_ands; assumption))).mono ?_; rintro e w6 ⟨rfl, f6⟩) | (go_at_call 10; refine (C3.out _ (by first | assumption | exact Fr.drew _ _ | (go_split_ands; assumption))).mono ?_; rintro e w6 ⟨rfl, f6⟩) | (go_at_call 16; refine (C4.out _ (by first | assumption | exact Fr.drew _ _ | (go_split_ands; assumption))).mono ?_; rintro e w6 ⟨rfl, f6⟩) | (go_at_call 11; (with_reducible refine (C5.out _ (by first | assumption | exact Fr.drew _ _ | (go_split_ands; assumption))).mono ?_); rintro e w6 ⟨rfl, f6⟩) | (go_at_call 11; (with_reducible refine (C7.out _ (by first | assumption | exact Fr.drew _ _ | (go_split_ands; assumption))).mono ?_); rintro e w6 ⟨rfl, f6⟩) | (go_at_call 14; refine (C6.out _ (by first | assumption | exact Fr.drew _ _ | (go_split_ands; assumption))).mono ?_; rintro e w6 ⟨rfl, f6⟩))
                rename_i hh
                have FN := Lib.hid hh.1
                clear hh
                go_wp2_with fail
                go_meet
                exact ⟨rfl, FN⟩
              case rest =>
                obtain ⟨rfl, FE⟩ := hcut
                have VE := Lib.hid (VD.out.keep FE.out)
                clear FE VD RX RY
                go_wp2_with fail
                go_loopw [22] (fun iv wr => ∃ k : Nat, Hid (k ≤ kn) ∧ iv = .int .i64 (k : Int) ∧ Hid (Fr none_ wc wr)) (fun iv _ => kn - (intOf iv).toNat)
                case atStart => exact ⟨0, Nat.zero_le _, rfl, Lib.hid (Fr.refl _ _)⟩
                case round =>
                  obtain ⟨k, hk, rfl, FK⟩ := hrel
                  have VK := Lib.hid (VE.out.keep FK.out)
                  by_cases hlt : k < kn
                  · have hkl : k < l.length := by rw [← HN.out]; exact hlt
                    obtain ⟨x, hx⟩ : ∃ x, l[k]? = some x := ⟨_, List.getElem?_eq_getElem hkl⟩
                    obtain ⟨b, o, hbo⟩ := ST.out.some_ (fun e => by rw [e] at hkl; simp at hkl)
                    obtain ⟨kb, ko, hko⟩ := VK.out.kp.some_ (fun e => by rw [e] at hkl; simp at hkl)
                    subst hbo
                    subst hko
                    have q0 := VK.out.fr.keep (ST.out.at_ hx)
                    have q1 := VK.out.kp.at_ hx
                    have lt1 : (k : Int) < (kn : Int) := by omega
                    have hne : (x != x) = false := by simp
                    clear hx hkl
                    go_wp2_with fail
                    go_quiet (fail)
                    have FQ := Lib.hid (FK.out.trans (Fr.drewN none_ _ nq))
                    go_wp2_with fail
                    go_roundw
                    case rel => exact ⟨k + 1, hlt, by go_num, FQ⟩
                    case measure => simp [intOf]; omega
                  · go_wp2_with fail
                    refine (AW.out _).mono ?_
                    rintro e w9 ⟨rfl, f9⟩
                    have F9 := Lib.hid (VK.out.fr.trans f9)
                    clear f9
                    go_wp2_with fail
                    go_ret
                    exact ⟨rfl, F9.out⟩
end Go.Proofs.Ytnnomeichppkpaa
