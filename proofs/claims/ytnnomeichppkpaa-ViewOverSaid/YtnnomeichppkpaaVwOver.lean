/-
  ViewOver's walk.
-/
import Derived.Test.YtnnomeichppkpaaVwOvM
import Derived.Deep.RegionHeld3
import Derived.Deep.RegionLaw
import Derived.Outline
namespace Go.Proofs.Ytnnomeichppkpaa
open Go.RowKit Go.Sort
set_option linter.unusedVariables false
set_option linter.unusedSimpArgs false
set_option maxRecDepth 100000

/-- What a kept view sees. -/
theorem VO.sees {W w : World} {go N : Nat} {over : List Bool} {pa : Option Addr} {pn pc : Nat} {os : List OE} {qa : Option Addr} {qn qc : Nat} {us : List EP} {ba : Option Addr} {bn : Nat} {busy : List Int}
    (h : VO W w go N over pa pn pc (os.map OE.vp) qa qn qc us ba bn busy) {i : Nat} {e : OE} (hi : os[i]? = some e) (w' : World) (f : Fr none_ w w') (x : Int) (b : Bool) (hb : vwSees e.own e.own e.l x = b) :
    Calls Try.prog 9 #[.agg #[.int .i64 (e.own : Int), .int .i64 (e.own : Int), .slice e.a e.n e.c], .int .i64 x] w' fun r w'' => r = .returned (.bool b) ∧ Fr none_ w' w'' := by
  obtain ⟨q1, q2, q3⟩ := h.ev e.vp (List.mem_map_of_mem (List.mem_of_getElem? hi))
  rw [← hb]
  exact Sees_any w' e.own e.own e.a e.n e.c e.l x (q1.kept0 f) q2 (by have h3 : e.n ≤ 1000 := q3; omega)
theorem VO.vcell {W w : World} {go N : Nat} {over : List Bool} {pb : Nat} {pn pc : Nat} {os : List OE} {qa : Option Addr} {qn qc : Nat} {us : List EP} {ba : Option Addr} {bn : Nat} {busy : List Int}
    (h : VO W w go N over (some ⟨pb, 0, none⟩) pn pc (os.map OE.vp) qa qn qc us ba bn busy) {i : Nat} {e : OE} (hi : os[i]? = some e) (j : Nat) (v : Value) (hv : (e.vp.vc)[j]? = some v) : w.cell? ⟨pb, i * 3 + j, none⟩ = some v :=
  h.vw.cell (flat_cells VP.vc 3 (fun _ => rfl) _ i e.vp (by rw [List.getElem?_map, hi]; rfl) j v hv)
set_option maxHeartbeats 16000000 in
theorem walk_ViewOver (W : World) (ta : Option Addr) (tc : Nat) (l : List Int) (st : TurnsIn W ta l) :
    Calls Try.prog 4 #[.slice ta l.length tc] W fun e w' => e = .returned (.bool true) ∧ Fr none_ W w' := by
  have HWF := Lib.hid st.wf
  have ST := Lib.hid st.at_
  have AW := Lib.hid awake_any
  obtain ⟨n, hn⟩ : ∃ n, n = l.length := ⟨_, rfl⟩
  rw [← hn]
  have HN := Lib.hid hn
  clear st hn
  by_cases hlong : 200 < n
  · go_enter Try.func4, Try.ntmps4
    go_wp2_with fail
    refine (AW.out _).mono ?_
    rintro e w1 ⟨rfl, f⟩
    have F := Lib.hid f
    clear f
    go_wp2_with fail
    go_ret
    exact ⟨rfl, F.out⟩
  · go_enter Try.func4, Try.ntmps4
    go_wp2_with fail
    refine (AW.out _).mono ?_
    rintro e w1 ⟨rfl, f1⟩
    have F1 := Lib.hid f1
    clear f1
    obtain ⟨N, hN⟩ : ∃ N, N = n + 2 := ⟨_, rfl⟩
    have hNw : (n : Int) + 2 = (N : Int) := by rw [hN]; omega
    have HNN := Lib.hid hN
    have hNb : N ≤ 202 := by omega
    clear hN
    go_wp2_with ((with_reducible refine at_make ?_); refine Stop.mk ?_)
    show wpList _ _ _ _ _ _
    refine wpMakeZ rfl _ _ _ 4 rfl Try.underlying33 (.bool false) 1 bool_info rfl .i64 .i64 N rfl rfl (by omega) (by omega) ?_
    intro w2 hs2 f2 hz2
    have S2 := Lib.hid hs2
    have F2 := Lib.hid (F1.out.trans f2)
    have ng : W.heap.size ≤ w1.heap.size := F1.out.size
    obtain ⟨go, hgo⟩ : ∃ g, g = w1.heap.size := ⟨_, rfl⟩
    rw [← hgo] at S2 ng ⊢
    have V0 : Hid (VO W w2 go N (List.replicate N false) none 0 0 [] none 0 0 [] none 0 []) := Lib.hid
      ⟨F2.out, by rw [List.map_replicate]; exact S2.out, SlAt.empty _ _ _, SlAt.empty _ _ _, rfl, rfl, Or.inl rfl, rfl, fun e he => by simp at he, fun e he => by simp at he, ng, fun k hk => absurd hk (blk_none k), fun k hk => absurd hk (blk_none k), blk_none _, blk_none _, fun k hk => absurd hk (blk_none k), fun k hk => by
        rcases hk with hk | ⟨_, h, _⟩ | ⟨_, h, _⟩
        · exact absurd hk (blk_none k)
        · simp at h
        · simp at h⟩
    have I0 : Hid (OvI N 1 [] (List.replicate N false) []) := Lib.hid (OvI.zero N (by have := HNN.out; omega))
    clear hs2 f2 hz2 hNw hgo ng S2 F2 F1
    go_wp2_with fail
    go_loopw [3, 4, 5, 6, 8] (fun nv bv vv ev iv wr => ∃ (k next : Nat) (busy : List Int) (over : List Bool) (os : List OE) (pa qa ba : Option Addr) (pn pc qn qc bn bc : Nat), Hid (k ≤ n) ∧ iv = .int .i64 (k : Int) ∧ nv = .int .i64 (next : Int) ∧ bv = .slice ba bn bc ∧ vv = .slice pa pn pc ∧ ev = .slice qa qn qc ∧ Hid (bn ≤ bc) ∧ Hid (next ≤ k + 1) ∧ Hid (OvI N next busy over os) ∧ Hid (VO W wr go N over pa pn pc (os.map OE.vp) qa qn qc (os.map OE.ep) ba bn busy)) (fun _ _ _ _ iv _ => n - (intOf iv).toNat)
    case atStart => exact ⟨0, 1, [], _, [], none, none, none, 0, 0, 0, 0, 0, 0, Nat.zero_le _, rfl, rfl, rfl, rfl, rfl, Lib.hid (Nat.le_refl _), Lib.hid (Nat.le_refl _), I0, V0⟩
    case round =>
      obtain ⟨k, next, busy, over, os, pa, qa, ba, pn, pc, qn, qc, bn, bc, hk, rfl, rfl, rfl, rfl, rfl, HBC, hnx, HI, HV⟩ := hrel
      clear I0 V0
      by_cases hlt : k < n
      · have hkl : k < l.length := by rw [← HN.out]; exact hlt
        obtain ⟨x, hx⟩ : ∃ x, l[k]? = some x := ⟨_, List.getElem?_eq_getElem hkl⟩
        have hxb := HWF.out x (List.mem_of_getElem? hx)
        obtain ⟨b, o, hbo, _, hc⟩ := ST.out.get hx
        subst hbo
        have q0 : W.cell? ⟨b, o + k * 1 + 0, none⟩ = some (.int .u8 x) := hc k x hx 0 _ rfl
        rw [Nat.mul_one, Nat.add_zero] at q0
        have q1 := HV.out.fr.keep q0
        have hbn : bn ≤ 201 := by have h1 := HV.out.bl; have h2 := HI.out.bl; have h3 := HI.out.cnt; have h4 := hnx.out; have : k ≤ n := hk; omega
        have hnb : next ≤ 201 := by have h4 := hnx.out; omega
        have hpn : pn ≤ 201 := by have h1 := HV.out.cv; have h3 := HI.out.cnt; rw [List.length_map] at h1; omega
        have hqn : qn ≤ 201 := by have h1 := HV.out.ce; have h3 := HI.out.cnt; rw [List.length_map] at h1; omega
        clear hx hc q0 hkl
        obtain ⟨cb, hcb⟩ : ∃ cb, cb = decide (x = 0 ∨ bn = 0) := ⟨_, rfl⟩
        have HCB := Lib.hid hcb
        clear hcb
        go_upto_region 11 with fail
        go_cut [39] (fun c wx => c = .bool cb ∧ wx = wr)
        case first =>
          cases h1 : (x == 0)
          · have h1' : ¬ x = 0 := fun e => by rw [e] at h1; simp at h1
            cases h2 : ((bn : Int) == 0)
            · have e : cb = false := by rw [HCB.out]; apply decide_eq_false; rintro (q | q); exact h1' q; rw [q] at h2; simp at h2
              have E := Lib.hid e
              clear e
              go_wp2_with fail
              go_meet
              exact ⟨by rw [E.out], rfl⟩
            · have e : cb = true := by rw [HCB.out]; apply decide_eq_true; right; have : (bn : Int) = 0 := by simpa using h2
                                       omega
              have E := Lib.hid e
              clear e
              go_wp2_with fail
              go_meet
              exact ⟨by rw [E.out], rfl⟩
          · have e : cb = true := by rw [HCB.out]; apply decide_eq_true; left; simpa using h1
            have E := Lib.hid e
            clear e
            go_wp2_with fail
            go_meet
            exact ⟨by rw [E.out], rfl⟩
        case rest =>
          obtain ⟨rfl, rfl⟩ := hcut
          cases cb
          · have hne : ¬ (x = 0 ∨ bn = 0) := of_decide_eq_false HCB.out.symm
            have hx0 : x ≠ 0 := fun e => hne (Or.inl e)
            have hb0 : bn ≠ 0 := fun e => hne (Or.inr e)
            obtain ⟨xn, hxn⟩ := Int.eq_ofNat_of_zero_le hxb.1
            obtain ⟨K, hK⟩ : ∃ K, K = xn % bn := ⟨_, rfl⟩
            have hKl : K < bn := by rw [hK]; exact Nat.mod_lt _ (by omega)
            have hmod : ((xn : Int) % (bn : Int)) = (K : Int) := by rw [hK]; simp
            have hKb : K < busy.length := by rw [← HV.out.bl]; exact hKl
            obtain ⟨y, hy⟩ : ∃ y, busy[K]? = some y := ⟨_, List.getElem?_eq_getElem hKb⟩
            obtain ⟨w0, hw0, r1, r2, r3⟩ := HI.out.b1 y (List.mem_of_getElem? hy)
            subst hw0
            subst hxn
            have hwN : w0 < N := by have := HI.out.len; have := (List.getElem?_eq_some_iff.1 r3).1; omega
            obtain ⟨bb, bo, hbb⟩ := HV.out.bu.some_ (fun e => by rw [e] at hKb; simp at hKb)
            subst hbb
            have c1 := HV.out.bu.at_ hy
            have c2 : wc.cell? ⟨go, w0, none⟩ = some (.bool false) := HV.out.ov.cell (by rw [List.getElem?_map, r3]; rfl)
            have c3 := HV.out.ov.free w0
            have V3 := Lib.hid (HV.out.setOver w0 true)
            have I3 := Lib.hid (HI.out.end_ hy)
            have HLT := Lib.hid hlt
            have hxn2 : xn < 256 := by have := hxb.2; omega
            clear hne hx0 hK hKb hy r1 r2 r3 hxb
            have HMOD := Lib.hid hmod
            go_upto_region 18 with fail
            rw [HMOD.out]
            have BL := Lib.hid V3.out.bl
            have hbn0 : bn ≤ bc := HBC.out
            obtain ⟨w3, hw3⟩ : ∃ w3 : World, w3 = wc.setCell ⟨go, w0, none⟩ (.bool true) := ⟨_, rfl⟩
            rw [← hw3] at V3 ⊢
            clear hw3 c1 c2 c3 q1 hmod HMOD
            have IB : Hid (∀ w', Fr none_ w3 w' → IntsAt w' (some ⟨bb, bo, none⟩) busy) := Lib.hid (fun w' f => V3.out.bu.kept0 f)
            have hK1 : K ≤ bn := by omega
            have hK2 : K ≤ bc := by omega
            have hw1 : (K : Int) + 1 ≤ (bn : Int) := by omega
            obtain ⟨A3, hA3⟩ : ∃ A3 : Option Addr, A3 = if bc = K + 1 then some ⟨bb, bo, none⟩ else some ⟨bb, bo + (K + 1), none⟩ := ⟨_, rfl⟩
            have HA3 : Hid (∀ w', Fr none_ w3 w' → IntsAt w' A3 (busy.drop (K + 1))) := Lib.hid (fun w' f => by
              have := (IB.out w' f).dropN (K + 1) bc (fun e => by have := BL.out; omega)
              have e2 : (if bc = K + 1 then some (⟨bb, bo, none⟩ : Addr) else (some (⟨bb, bo, none⟩ : Addr)).map (·.add ((K + 1) * 1))) = A3 := by
                rw [hA3]; simp [Addr.add_lit]
              rw [e2] at this
              exact this)
            have hif := hA3.symm
            obtain ⟨N3, hN3⟩ : ∃ N3, N3 = bn - (K + 1) := ⟨_, rfl⟩
            have hn3b : N3 ≤ 201 := by omega
            have HN3 : Hid (N3 = (busy.drop (K + 1)).length) := Lib.hid (by rw [hN3, List.length_drop, ← BL.out])
            have hn3 := hN3.symm
            clear hA3 hN3
            have s1 : IntKind.i64.wrap ((K : Int) + 1) = (K : Int) + 1 := by have := IntWalk.i64_in ((K : Int) + 1) (by omega); exact this
            have s2 : (0 : Int) ≤ (K : Int) + 1 := by omega
            have s3 : ((K : Int) + 1).toNat = K + 1 := by omega
            go_region_law (first
              | (refine stepAppendLn rfl (.tmp 75) (.tmp 78) _ rfl 3 (.int .i64 0) 1 8 Try.underlying22 vw_int_info rfl (SlAt.made' w3 3 1) ((IB.out _ (by first | exact Fr.alloc _ _ _ | exact (Fr.alloc _ _ _).drew_r | exact (Fr.drew _ _).alloc_r _)).takeN K) (by rw [List.length_take, ← BL.out]; omega) (fun _ => rfl) (fun x u hu => by simp at hu; subst hu; rfl) rfl rfl (by simp [maxLen]; omega) (by omega) ?_; intro a4 n4 c4 w4 hn4 hs4 f4 hb4; have F4 : Hid (Fr none_ w3 w4) := Lib.hid (((Fr.alloc none_ w3 (.cells #[] 3)).drew_r).step f4 (fun i hi e => by rw [blk_some] at e; omega)); have HN4 := hn4; have S4 := Lib.hid hs4; have B4 : Hid (∀ k, blk a4 k → w3.heap.size ≤ k) := Lib.hid (blk_new hb4 (Nat.le_refl _) (by simp)); clear hs4 f4 hb4; have hn4b : n4 ≤ 201 := by have := HN4.out; omega)
              | (refine stepAppendLn rfl (.tmp 79) (.tmp 83) _ rfl 3 (.int .i64 0) 1 8 Try.underlying22 vw_int_info rfl S4.out (HA3.out _ F4.out) HN3.out (fun _ => rfl) (fun x u hu => by simp at hu; subst hu; rfl) rfl rfl (by simp [maxLen]; omega) (by omega) ?_; intro a5 n5 c5 w5 hn5 hs5 f5 hb5))
            all_goals
              have F5 := Lib.hid (F4.out.step f5 (fun i hi e => by have := B4.out i e; omega))
              have hn5' : n5 = (busy.take K ++ busy.drop (K + 1)).length := by rw [hn5.out, HN4.out, List.length_append, HN3.out, List.length_take, ← BL.out]; omega
              have hs5' : SlAt w5 a5 n5 c5 3 1 ((busy.take K ++ busy.drop (K + 1)).map encI) := by
                rw [List.nil_append, flat_one, flat_one, ← List.map_append] at hs5
                exact hs5
              have V5 := Lib.hid ((V3.out.keep F5.out).setBusy (ba' := a5) (hs5'.ls1 (enc := encI) hn5') hn5' (fun k hk' => by
                have hk2 : w3.heap.size ≤ k := by
                  rcases hb5 k hk' with q | q
                  · exact B4.out k q
                  · have := F4.out.size; omega
                obtain ⟨r1, r2, r3⟩ := V3.out.new hk2
                exact ⟨r1, r2, r3, hs5'.lt k hk'⟩))
              have NX : Hid (next ≤ k + 1 + 1) := Lib.hid (by have := hnx.out; omega)
              have BC5 : Hid (n5 ≤ c5) := Lib.hid hs5'.2.1
              clear hn5 hs5 f5 hb5 hn5' hs5' F5 s1 s2 s3 hif hn3
              go_wp2_with fail
              exact ⟨⟨k + 1, next, _, _, os, _, _, _, _, _, _, _, _, _, HLT.out, by go_num, rfl, rfl, rfl, rfl, BC5, NX, I3, V5⟩, by have := HLT.out; simp [intOf]; omega⟩
          · have HLT := Lib.hid hlt
            clear q1
            go_wp2_with fail
            refine (Of_any _ (next : Int) (next : Int) ba bc bn busy HV.out.bu HV.out.bl (by omega)).mono ?_
            rintro e w5 ⟨a, m, c, rfl, hm, hs, f, hnew⟩
            obtain ⟨L, hL⟩ : ∃ L, L = vwBusy next next busy := ⟨_, rfl⟩
            have HLL := Lib.hid hL
            have hmb : m ≤ 1000 := by rw [hm]; exact Nat.le_trans (vwBusy_length _ _ _) (by have := HV.out.bl; omega)
            rw [← hL] at hm hs
            have HM := Lib.hid hm
            have V5 := Lib.hid (HV.out.keep f)
            have S5 := Lib.hid (hs.ls1 (enc := encI) hm)
            have HC5 : Hid (∀ k, blk a k → k ≠ go ∧ ¬ blk pa k ∧ ¬ blk qa k ∧ k < w5.heap.size) := Lib.hid (fun k hk' => by
              obtain ⟨r1, r2, r3⟩ := HV.out.new (hnew k hk')
              exact ⟨r1, r2, r3, hs.lt k hk'⟩)
            clear hm hs f hnew hL
            unfold vwV
            go_wp2_with ((with_reducible refine at_slot 46 ?_); refine Stop.mk ?_)
            show wpList _ _ _ _ _ _
            obtain ⟨w6, hw6⟩ : ∃ w6 : World, w6 = w5.alloc (.cells #[.int .i64 (next : Int), .int .i64 (next : Int), .slice a m c] 25) := ⟨_, rfl⟩
            have f6 : Fr none_ w5 w6 := by rw [hw6]; exact Fr.alloc _ _ _
            have l6 : LsAt w6 (some ⟨w5.heap.size, 0, none⟩) 3 VP.vc [⟨next, a, m, c, L⟩] := by rw [hw6]; exact ls_new VP.vc 3 (fun _ => rfl) w5 25 [⟨next, a, m, c, L⟩]
            rw [← hw6]
            have V6 := Lib.hid (V5.out.keep f6)
            have S6 := Lib.hid (S5.out.kept0 f6)
            have HC6 : Hid (∀ k, blk a k → k ≠ go ∧ ¬ blk pa k ∧ ¬ blk qa k ∧ k < w6.heap.size) := Lib.hid (fun k hk' => by
              obtain ⟨r1, r2, r3, r4⟩ := HC5.out k hk'
              exact ⟨r1, r2, r3, Nat.lt_of_lt_of_le r4 f6.size⟩)
            clear hw6 f6
            refine wpAppendLn (m := 1) rfl _ _ _ rfl 25 (.agg #[.int .i64 0, .int .i64 0, .slice none 0 0]) 3 40 Try.underlying31 view_info rfl V6.out.vw l6 rfl (fun _ => rfl) VP.vc_one rfl rfl (by simp [maxLen]; omega) (by omega) ?_
            intro pa7 pn7 pc7 w7 hn7 hs7 f7 hb7
            have V7 := Lib.hid (V6.out.pushV ⟨next, a, m, c, L⟩ f7 hs7 hb7 hn7.out S6.out HM.out hmb HC6.out)
            have hpn7 : pn7 ≤ 1000 := by have := hn7.out; omega
            clear hn7 hs7 f7 hb7 l6 V6 V5 S5 HC5
            go_wp2_with ((with_reducible refine at_slot 50 ?_); refine Stop.mk ?_)
            show wpList _ _ _ _ _ _
            have f8 := made_fr w7 4 #[]
            have V8 := Lib.hid (V7.out.keep f8)
            have S8 := Lib.hid (SlAt.made' w7 4 1)
            have lov : N = over.length := HI.out.len.symm
            have LO8 := Lib.hid (V8.out.ov.ls1 lov)
            have LOV := Lib.hid lov
            have F8 := Lib.hid f8
            clear f8 lov
            obtain ⟨w8, hw8⟩ : ∃ w8 : World, w8 = w7.alloc (.cells #[] 4) := ⟨_, rfl⟩
            rw [← hw8] at V8 S8 LO8 F8 ⊢
            clear hw8
            refine wpAppendLn rfl _ _ _ rfl 4 (.bool false) 1 1 Try.underlying33 bool_info rfl S8.out LO8.out LOV.out (fun _ => rfl) (fun x u hu => by simp at hu; subst hu; rfl) rfl rfl (by simp [maxLen]; omega) (by omega) ?_
            intro ea en ec w9 hen hs9 f9 hb9
            rw [List.nil_append, flat_one] at hs9
            have hen' : en = over.length := by rw [hen.out, Nat.zero_add]; exact LOV.out
            have F9 := Lib.hid (F8.out.step f9 (fun i hi e => by rw [blk_some] at e; omega))
            have V9 := Lib.hid (V7.out.keep F9.out)
            have S9 := Lib.hid (hs9.ls1 (enc := boolc) hen')
            have HEN := Lib.hid hen'
            have HC9 : Hid (∀ k, blk ea k → k ≠ go ∧ ¬ blk pa7 k ∧ ¬ blk qa k ∧ k < w9.heap.size) := Lib.hid (fun k hk' => by
              have hk2 : w7.heap.size ≤ k := by
                rcases hb9 k hk' with q | q
                · rw [blk_some] at q; omega
                · have := F8.out.size; omega
              obtain ⟨r1, r2, r3⟩ := V7.out.new hk2
              exact ⟨r1, r2, r3, hs9.lt k hk'⟩)
            clear hen hs9 f9 hb9 hen' V8 S8 LO8 F8 V7
            go_wp2_with ((with_reducible refine at_slot 52 ?_); refine Stop.mk ?_)
            show wpList _ _ _ _ _ _
            obtain ⟨w10, hw10⟩ : ∃ w10 : World, w10 = w9.alloc (.cells #[.slice ea en ec] 33) := ⟨_, rfl⟩
            have f10 : Fr none_ w9 w10 := by rw [hw10]; exact Fr.alloc _ _ _
            have l10 : LsAt w10 (some ⟨w9.heap.size, 0, none⟩) 1 (fun e : EP => [e.ec]) [⟨ea, en, ec, over⟩] := by rw [hw10]; exact ls_new (fun e : EP => [e.ec]) 1 (fun _ => rfl) w9 33 [⟨ea, en, ec, over⟩]
            rw [← hw10]
            have V10 := Lib.hid (V9.out.keep f10)
            have S10 := Lib.hid (S9.out.kept0 f10)
            have HC10 : Hid (∀ k, blk ea k → k ≠ go ∧ ¬ blk pa7 k ∧ ¬ blk qa k ∧ k < w10.heap.size) := Lib.hid (fun k hk' => by
              obtain ⟨r1, r2, r3, r4⟩ := HC9.out k hk'
              exact ⟨r1, r2, r3, Nat.lt_of_lt_of_le r4 f10.size⟩)
            clear hw10 f10 V9 S9 HC9 F9
            refine wpAppendLn (m := 1) rfl _ _ _ rfl 33 (.slice none 0 0) 1 24 Try.underlying32 bools_info rfl V10.out.en l10 rfl (fun _ => rfl) (fun x u hu => by simp at hu; subst hu; rfl) rfl rfl (by simp [maxLen]; omega) (by omega) ?_
            intro qa11 qn11 qc11 w11 hn11 hs11 f11 hb11
            have V11 := Lib.hid (V10.out.pushE ⟨ea, en, ec, over⟩ f11 (by rw [flat_one] at hs11; exact hs11) hb11 hn11.out S10.out HEN.out HC10.out)
            clear hn11 hs11 f11 hb11 l10 V10 S10 HC10
            go_wp2_with ((with_reducible refine at_slot 55 ?_); refine Stop.mk ?_)
            show wpList _ _ _ _ _ _
            have f12 := made_fr w11 3 #[]
            have B12 := Lib.hid ((V11.out.keep f12).bu)
            have S12 := Lib.hid (SlAt.made' w11 3 1)
            have F12 := Lib.hid f12
            have BL := Lib.hid V11.out.bl
            clear f12
            obtain ⟨w12, hw12⟩ : ∃ w12 : World, w12 = w11.alloc (.cells #[] 3) := ⟨_, rfl⟩
            rw [← hw12] at B12 S12 F12 ⊢
            clear hw12
            refine wpAppendLn rfl _ _ _ rfl 3 (.int .i64 0) 1 8 Try.underlying22 vw_int_info rfl S12.out B12.out BL.out (fun _ => rfl) (fun x u hu => by simp at hu; subst hu; rfl) rfl rfl (by simp [maxLen]; omega) (by omega) ?_
            intro ba13 bn13 bc13 w13 hn13 hs13 f13 hb13
            rw [List.nil_append, flat_one] at hs13
            have F13 := Lib.hid (F12.out.step f13 (fun i hi e => by rw [blk_some] at e; omega))
            have S13 := Lib.hid hs13
            have HB13 : Hid (∀ k, blk ba13 k → w11.heap.size ≤ k) := Lib.hid (fun k hk' => by
              rcases hb13 k hk' with q | q
              · rw [blk_some] at q; omega
              · have := F12.out.size; omega)
            have hb13' : bn13 ≤ 1000 := by have := hn13.out; omega
            have HN13 := hn13
            clear hn13 hs13 f13 hb13 B12 S12 F12
            go_wp2_with ((with_reducible refine at_slot 58 ?_); refine Stop.mk ?_)
            show wpList _ _ _ _ _ _
            have f14 := made_fr w13 3 #[.int .i64 (next : Int)]
            have S14 := Lib.hid (S13.out.kept0 f14)
            have O14 := Lib.hid (one_ls w13 3 (next : Int))
            have F14 := Lib.hid (F13.out.trans f14)
            clear f14
            obtain ⟨w14, hw14⟩ : ∃ w14 : World, w14 = w13.alloc (.cells #[.int .i64 (next : Int)] 3) := ⟨_, rfl⟩
            rw [← hw14] at S14 O14 F14 ⊢
            clear hw14
            refine wpAppendLn (m := 1) rfl _ _ _ rfl 3 (.int .i64 0) 1 8 Try.underlying22 vw_int_info rfl S14.out O14.out rfl (fun _ => rfl) (fun x u hu => by simp at hu; subst hu; rfl) rfl rfl (by simp [maxLen]; omega) (by omega) ?_
            intro ba15 bn15 bc15 w15 hn15 hs15 f15 hb15
            rw [flat_one, ← List.map_append] at hs15
            have hn15' : bn15 = (busy ++ [(next : Int)]).length := by rw [hn15.out, HN13.out, BL.out, List.length_append]; simp
            have F15 := Lib.hid (F14.out.step f15 (fun i hi e => by have := HB13.out i e; omega))
            have V15 := Lib.hid ((V11.out.keep F15.out).setBusy (ba' := ba15) (hs15.ls1 (enc := encI) hn15') hn15' (fun k hk' => by
              have hk2 : w11.heap.size ≤ k := by
                rcases hb15 k hk' with q | q
                · exact HB13.out k q
                · have := F14.out.size; omega
              obtain ⟨r1, r2, r3⟩ := V11.out.new hk2
              exact ⟨r1, r2, r3, hs15.lt k hk'⟩))
            have I15 := Lib.hid (HI.out.begin_ (by have := HNN.out; have := hnx.out; have := HLT.out; omega) ⟨next, a, m, c, L, ea, en, ec, over⟩ rfl HLL.out rfl)
            have NX : Hid (next + 1 ≤ k + 1 + 1) := Lib.hid (by have := hnx.out; omega)
            have BC15 : Hid (bn15 ≤ bc15) := Lib.hid hs15.2.1
            clear hn15 hs15 f15 hb15 hn15' F15 F14 O14 S14 F13 S13 HB13 V11
            go_wp2_with fail
            refine ⟨⟨k + 1, next + 1, busy ++ [(next : Int)], over, os ++ [⟨next, a, m, c, L, ea, en, ec, over⟩], _, _, _, _, _, _, _, _, _, HLT.out, by go_num, by go_num, rfl, rfl, rfl, BC15, NX, I15, ?_⟩, by have := HLT.out; simp [intOf]; omega⟩
            rw [List.map_append, List.map_append]
            exact V15
      · have hnext : os.length + 1 = next := HI.out.cnt
        have hpl : pn = os.length := by have := HV.out.cv; rw [List.length_map] at this; exact this
        have hql : qn = os.length := by have := HV.out.ce; rw [List.length_map] at this; exact this
        have hkn : next ≤ n + 1 := by have := hnx.out; have : k ≤ n := hk; omega
        have HPL := Lib.hid hpl
        have HQL := Lib.hid hql
        have HNX := Lib.hid hnext
        obtain ⟨w0, rfl⟩ : ∃ wo : World, wo = wr := ⟨_, rfl⟩
        have hpb : pn ≤ 201 := by omega
        have hnb : next ≤ 201 := by omega
        have HNB : Hid (next < N) := Lib.hid (by have := HNN.out; omega)
        clear hpl hql hnext hkn
        go_wp2_with fail
        go_loopw [10] (fun iv wr => ∃ i : Nat, Hid (i ≤ pn) ∧ iv = .int .i64 (i : Int) ∧ Hid (Fr none_ w0 wr)) (fun iv _ => pn - (intOf iv).toNat)
        case atStart => exact ⟨0, Nat.zero_le _, rfl, Lib.hid (Fr.refl _ _)⟩
        case round =>
          obtain ⟨i, hi, rfl, FI⟩ := hrel
          by_cases hil : i < pn
          · obtain ⟨e, he⟩ : ∃ e, os[i]? = some e := ⟨_, List.getElem?_eq_getElem (by rw [← HPL.out]; exact hil)⟩
            have HIL := Lib.hid hil
            obtain ⟨pb, hpb'⟩ := HV.out.vw.isAddr (by omega)
            obtain ⟨qb, hqb'⟩ := HV.out.en.isAddr (by have := HPL.out; have := HQL.out; omega)
            subst hpb'
            subst hqb'
            have how : e.own = i + 1 := HI.out.own i e he
            have v0 := HV.out.vcell he 0 _ rfl
            have v1 := HV.out.vcell he 1 _ rfl
            have v2 := HV.out.vcell he 2 _ rfl
            change w0.cell? ⟨pb, i * 3 + 0, none⟩ = some (.int .i64 (e.own : Int)) at v0
            change w0.cell? ⟨pb, i * 3 + 1, none⟩ = some (.int .i64 (e.own : Int)) at v1
            change w0.cell? ⟨pb, i * 3 + 2, none⟩ = some (.slice e.a e.n e.c) at v2
            rw [Nat.add_zero] at v0
            have u0 : w0.cell? ⟨qb, i, none⟩ = some (.slice e.ea e.en e.ec) := HV.out.en.cell (by rw [List.map_map, List.getElem?_map, he]; rfl)
            have HE := Lib.hid he
            obtain ⟨els, elen⟩ := HV.out.ee e.ep (by rw [List.mem_map]; exact ⟨e, List.mem_of_getElem? he, rfl⟩)
            change LsAt w0 e.ea 1 (fun b => [boolc b]) e.es at els
            change e.en = e.es.length at elen
            have hesl : e.es.length = N := HI.out.eslen e (List.mem_of_getElem? he)
            have ELS := Lib.hid els
            have ELEN : Hid (e.en = N) := Lib.hid (by rw [elen, hesl])
            have HESL := Lib.hid hesl
            have HOW := Lib.hid how
            have VV0 := Lib.hid v0
            have VV1 := Lib.hid v1
            have VV2 := Lib.hid v2
            have UU0 := Lib.hid u0
            have SEES := Lib.hid (fun w' f x b hb => HV.out.sees he w' f x b hb)
            have SPEC := Lib.hid (HI.out.sees e (List.mem_of_getElem? he))
            obtain ⟨wi, rfl⟩ : ∃ wo : World, wo = wr := ⟨_, rfl⟩
            clear he els elen hesl how v0 v1 v2 u0
            go_wp2_with fail
            go_loopw [11] (fun jv wr => ∃ j : Nat, Hid (1 ≤ j ∧ j ≤ next) ∧ jv = .int .i64 (j : Int) ∧ Hid (Fr none_ w0 wr)) (fun jv _ => next - (intOf jv).toNat)
            case atStart => exact ⟨1, Lib.hid ⟨Nat.le_refl _, by have := HNX.out; omega⟩, rfl, FI⟩
            case round =>
              obtain ⟨j, hj, rfl, FJ⟩ := hrel
              by_cases hjl : j < next
              · have j1 : 1 ≤ j := hj.out.1
                have jN : j < N := by have := HNB.out; omega
                have v0 := FJ.out.keep VV0.out
                have v1 := FJ.out.keep VV1.out
                have v2 := FJ.out.keep VV2.out
                have u0 := FJ.out.keep UU0.out
                have HJL := Lib.hid hjl
                obtain ⟨be, hbe⟩ : ∃ be, be = e.es.getD j false := ⟨_, rfl⟩
                have HBE := Lib.hid hbe
                clear hbe
                by_cases hji : j = i + 1
                · have HS : Hid (vwSees e.own e.own e.l j = true) := Lib.hid (by rw [SPEC.out j j1 jN, HOW.out, hji]; simp)
                  have hb : ((j : Int) == (i : Int) + 1) = true := by rw [beq_iff_eq]; omega
                  have S1 := Lib.hid (SEES.out _ FJ.out j _ HS.out)
                  have hji' := Lib.hid hji
                  clear hji
                  go_wp2_with fail
                  refine S1.out.mono ?_
                  rintro r w5 ⟨rfl, f5⟩
                  have F5 := Lib.hid (FJ.out.trans f5)
                  clear f5 v0 v1 v2 u0
                  have v0 := F5.out.keep VV0.out
                  have v1 := F5.out.keep VV1.out
                  have v2 := F5.out.keep VV2.out
                  by_cases hi0 : 0 < i
                  · by_cases hji2 : j = i
                    · subst hji2
                      go_wp2_with fail
                      go_roundw
                      case rel => exact ⟨j + 1, Lib.hid ⟨by omega, HJL.out⟩, by go_num, F5⟩
                      case measure => have := HJL.out; simp [intOf]; omega
                    · have hb2 : ((j : Int) != (i : Int)) = true := by rw [bne_iff_ne]; omega
                      have hb4 : ¬ (j : Int) = (i : Int) := by omega
                      have hb5 : decide ((j : Int) = (i : Int)) = false := decide_eq_false hb4
                      obtain ⟨i', hi'⟩ : ∃ i', i' + 1 = i := ⟨i - 1, by omega⟩
                      have hi2 : (i : Int) - 1 = (i' : Int) := by omega
                      have hi3 : (0 : Int) ≤ (i' : Int) := by omega
                      have hi4 : i' < pn := by have := HIL.out; omega
                      obtain ⟨e', he'⟩ : ∃ e', os[i']? = some e' := ⟨_, List.getElem?_eq_getElem (by rw [← HPL.out]; exact hi4)⟩
                      have x0 := F5.out.keep (HV.out.vcell he' 0 _ rfl)
                      have x1 := F5.out.keep (HV.out.vcell he' 1 _ rfl)
                      have x2 := F5.out.keep (HV.out.vcell he' 2 _ rfl)
                      change w5.cell? ⟨pb, i' * 3 + 0, none⟩ = some (.int .i64 (e'.own : Int)) at x0
                      change w5.cell? ⟨pb, i' * 3 + 1, none⟩ = some (.int .i64 (e'.own : Int)) at x1
                      change w5.cell? ⟨pb, i' * 3 + 2, none⟩ = some (.slice e'.a e'.n e'.c) at x2
                      rw [Nat.add_zero] at x0
                      have IMP : Hid (vwSees e'.own e'.own e'.l j = true → vwSees e.own e.own e.l j = true) := Lib.hid (fun h => by
                        have h1 := HI.out.sees e' (List.mem_of_getElem? he') j j1 jN
                        rw [h] at h1
                        have how' : e'.own = i' + 1 := HI.out.own i' e' he'
                        have hne : (j == e'.own) = false := by rw [beq_eq_false_iff_ne]; omega
                        rw [hne, Bool.false_or] at h1
                        have h2 := HI.out.mono i' i e' e he' HE.out (by omega) j h1.symm
                        rw [SPEC.out j j1 jN, h2]; simp)
                      have SEE2 := Lib.hid (fun w' f x b hb => HV.out.sees he' w' f x b hb)
                      clear he' hji2 hi'
                      cases hs2 : vwSees e'.own e'.own e'.l j
                      · have S2 := Lib.hid (SEE2.out w5 F5.out j _ hs2)
                        clear hs2 IMP
                        go_wp2_with fail
                        refine S2.out.mono ?_
                        rintro r w6 ⟨rfl, f6⟩
                        have F6 := Lib.hid (F5.out.trans f6)
                        clear f6
                        go_wp2_with fail
                        go_roundw
                        case rel => exact ⟨j + 1, Lib.hid ⟨by omega, HJL.out⟩, by go_num, F6⟩
                        case measure => have := HJL.out; simp [intOf]; omega
                      · have hs3 := IMP.out hs2
                        have S2 := Lib.hid (SEE2.out w5 F5.out j _ hs2)
                        have HS3 := Lib.hid hs3
                        clear hs2 IMP hs3
                        go_wp2_with fail
                        refine S2.out.mono ?_
                        rintro r w6 ⟨rfl, f6⟩
                        have F6 := Lib.hid (F5.out.trans f6)
                        have v0 := F6.out.keep VV0.out
                        have v1 := F6.out.keep VV1.out
                        have v2 := F6.out.keep VV2.out
                        clear f6
                        go_wp2_with fail
                        refine (SEES.out w6 F6.out j _ HS3.out).mono ?_
                        rintro r w7 ⟨rfl, f7⟩
                        have F7 := Lib.hid (F6.out.trans f7)
                        clear f7
                        go_wp2_with fail
                        go_roundw
                        case rel => exact ⟨j + 1, Lib.hid ⟨by omega, HJL.out⟩, by go_num, F7⟩
                        case measure => have := HJL.out; simp [intOf]; omega
                  · skip
                    go_wp2_with fail
                    go_roundw
                    case rel => exact ⟨j + 1, Lib.hid ⟨by omega, HJL.out⟩, by go_num, F5⟩
                    case measure => have := HJL.out; simp [intOf]; omega
                · have hb : ((j : Int) == (i : Int) + 1) = false := by rw [beq_eq_false_iff_ne]; omega
                  have HS0 : Hid (vwSees e.own e.own e.l j = be) := Lib.hid (by
                    have hne : (j == e.own) = false := by rw [beq_eq_false_iff_ne, HOW.out]; exact hji
                    rw [SPEC.out j j1 jN, hne, Bool.false_or, HBE.out])
                  have hel : e.es[j]? = some be := by
                    have hl : j < e.es.length := by rw [HESL.out]; exact jN
                    rw [HBE.out, List.getD_eq_getElem?_getD, List.getElem?_eq_getElem hl]; rfl
                  obtain ⟨eb, eo, hea, _, hec⟩ := ELS.out.get hel
                  have q0 : w0.cell? ⟨eb, eo + j * 1 + 0, none⟩ = some (.bool be) := hec j be hel 0 _ rfl
                  rw [Nat.mul_one, Nat.add_zero] at q0
                  have Q0 := Lib.hid q0
                  have HEA := Lib.hid hea
                  have HEN := Lib.hid ELEN.out
                  rw [hea, ELEN.out] at u0
                  have hiq : i < qn := by have := HPL.out; have := HQL.out; have := HIL.out; omega
                  clear hea hel hec q0 hji
                  cases be
                  · have HS : Hid (vwSees e.own e.own e.l j = false) := HS0
                    have S1 := Lib.hid (SEES.out _ FJ.out j _ HS.out)
                    go_wp2_with fail
                    refine S1.out.mono ?_
                    rintro r w5 ⟨rfl, f5⟩
                    have F5 := Lib.hid (FJ.out.trans f5)
                    have q0 := F5.out.keep Q0.out
                    have u0 : w5.cell? ⟨qb, i, none⟩ = some (.slice (some ⟨eb, eo, none⟩) N e.ec) := by have := F5.out.keep UU0.out; rw [HEA.out, HEN.out] at this; exact this
                    clear f5 v0 v1 v2
                    have v0 := F5.out.keep VV0.out
                    have v1 := F5.out.keep VV1.out
                    have v2 := F5.out.keep VV2.out
                    by_cases hi0 : 0 < i
                    · by_cases hji2 : j = i
                      · subst hji2
                        go_wp2_with fail
                        go_roundw
                        case rel => exact ⟨j + 1, Lib.hid ⟨by omega, HJL.out⟩, by go_num, F5⟩
                        case measure => have := HJL.out; simp [intOf]; omega
                      · have hb2 : ((j : Int) != (i : Int)) = true := by rw [bne_iff_ne]; omega
                        have hb4 : ¬ (j : Int) = (i : Int) := by omega
                        have hb5 : decide ((j : Int) = (i : Int)) = false := decide_eq_false hb4
                        obtain ⟨i', hi'⟩ : ∃ i', i' + 1 = i := ⟨i - 1, by omega⟩
                        have hi2 : (i : Int) - 1 = (i' : Int) := by omega
                        have hi3 : (0 : Int) ≤ (i' : Int) := by omega
                        have hi4 : i' < pn := by have := HIL.out; omega
                        obtain ⟨e', he'⟩ : ∃ e', os[i']? = some e' := ⟨_, List.getElem?_eq_getElem (by rw [← HPL.out]; exact hi4)⟩
                        have x0 := F5.out.keep (HV.out.vcell he' 0 _ rfl)
                        have x1 := F5.out.keep (HV.out.vcell he' 1 _ rfl)
                        have x2 := F5.out.keep (HV.out.vcell he' 2 _ rfl)
                        change w5.cell? ⟨pb, i' * 3 + 0, none⟩ = some (.int .i64 (e'.own : Int)) at x0
                        change w5.cell? ⟨pb, i' * 3 + 1, none⟩ = some (.int .i64 (e'.own : Int)) at x1
                        change w5.cell? ⟨pb, i' * 3 + 2, none⟩ = some (.slice e'.a e'.n e'.c) at x2
                        rw [Nat.add_zero] at x0
                        have IMP : Hid (vwSees e'.own e'.own e'.l j = true → vwSees e.own e.own e.l j = true) := Lib.hid (fun h => by
                          have h1 := HI.out.sees e' (List.mem_of_getElem? he') j j1 jN
                          rw [h] at h1
                          have how' : e'.own = i' + 1 := HI.out.own i' e' he'
                          have hne : (j == e'.own) = false := by rw [beq_eq_false_iff_ne]; omega
                          rw [hne, Bool.false_or] at h1
                          have h2 := HI.out.mono i' i e' e he' HE.out (by omega) j h1.symm
                          rw [SPEC.out j j1 jN, h2]; simp)
                        have SEE2 := Lib.hid (fun w' f x b hb => HV.out.sees he' w' f x b hb)
                        clear he' hji2 hi'
                        cases hs2 : vwSees e'.own e'.own e'.l j
                        · have S2 := Lib.hid (SEE2.out w5 F5.out j _ hs2)
                          clear hs2 IMP
                          go_wp2_with fail
                          refine S2.out.mono ?_
                          rintro r w6 ⟨rfl, f6⟩
                          have F6 := Lib.hid (F5.out.trans f6)
                          clear f6
                          go_wp2_with fail
                          go_roundw
                          case rel => exact ⟨j + 1, Lib.hid ⟨by omega, HJL.out⟩, by go_num, F6⟩
                          case measure => have := HJL.out; simp [intOf]; omega
                        · have hs3 := IMP.out hs2
                          rw [HS.out] at hs3
                          cases hs3
                    · skip
                      go_wp2_with fail
                      go_roundw
                      case rel => exact ⟨j + 1, Lib.hid ⟨by omega, HJL.out⟩, by go_num, F5⟩
                      case measure => have := HJL.out; simp [intOf]; omega
                  · have HS : Hid (vwSees e.own e.own e.l j = true) := HS0
                    have S1 := Lib.hid (SEES.out _ FJ.out j _ HS.out)
                    go_wp2_with fail
                    refine S1.out.mono ?_
                    rintro r w5 ⟨rfl, f5⟩
                    have F5 := Lib.hid (FJ.out.trans f5)
                    have q0 := F5.out.keep Q0.out
                    have u0 : w5.cell? ⟨qb, i, none⟩ = some (.slice (some ⟨eb, eo, none⟩) N e.ec) := by have := F5.out.keep UU0.out; rw [HEA.out, HEN.out] at this; exact this
                    clear f5 v0 v1 v2
                    have v0 := F5.out.keep VV0.out
                    have v1 := F5.out.keep VV1.out
                    have v2 := F5.out.keep VV2.out
                    by_cases hi0 : 0 < i
                    · by_cases hji2 : j = i
                      · subst hji2
                        go_wp2_with fail
                        go_roundw
                        case rel => exact ⟨j + 1, Lib.hid ⟨by omega, HJL.out⟩, by go_num, F5⟩
                        case measure => have := HJL.out; simp [intOf]; omega
                      · have hb2 : ((j : Int) != (i : Int)) = true := by rw [bne_iff_ne]; omega
                        have hb4 : ¬ (j : Int) = (i : Int) := by omega
                        have hb5 : decide ((j : Int) = (i : Int)) = false := decide_eq_false hb4
                        obtain ⟨i', hi'⟩ : ∃ i', i' + 1 = i := ⟨i - 1, by omega⟩
                        have hi2 : (i : Int) - 1 = (i' : Int) := by omega
                        have hi3 : (0 : Int) ≤ (i' : Int) := by omega
                        have hi4 : i' < pn := by have := HIL.out; omega
                        obtain ⟨e', he'⟩ : ∃ e', os[i']? = some e' := ⟨_, List.getElem?_eq_getElem (by rw [← HPL.out]; exact hi4)⟩
                        have x0 := F5.out.keep (HV.out.vcell he' 0 _ rfl)
                        have x1 := F5.out.keep (HV.out.vcell he' 1 _ rfl)
                        have x2 := F5.out.keep (HV.out.vcell he' 2 _ rfl)
                        change w5.cell? ⟨pb, i' * 3 + 0, none⟩ = some (.int .i64 (e'.own : Int)) at x0
                        change w5.cell? ⟨pb, i' * 3 + 1, none⟩ = some (.int .i64 (e'.own : Int)) at x1
                        change w5.cell? ⟨pb, i' * 3 + 2, none⟩ = some (.slice e'.a e'.n e'.c) at x2
                        rw [Nat.add_zero] at x0
                        have IMP : Hid (vwSees e'.own e'.own e'.l j = true → vwSees e.own e.own e.l j = true) := Lib.hid (fun h => by
                          have h1 := HI.out.sees e' (List.mem_of_getElem? he') j j1 jN
                          rw [h] at h1
                          have how' : e'.own = i' + 1 := HI.out.own i' e' he'
                          have hne : (j == e'.own) = false := by rw [beq_eq_false_iff_ne]; omega
                          rw [hne, Bool.false_or] at h1
                          have h2 := HI.out.mono i' i e' e he' HE.out (by omega) j h1.symm
                          rw [SPEC.out j j1 jN, h2]; simp)
                        have SEE2 := Lib.hid (fun w' f x b hb => HV.out.sees he' w' f x b hb)
                        clear he' hji2 hi'
                        cases hs2 : vwSees e'.own e'.own e'.l j
                        · have S2 := Lib.hid (SEE2.out w5 F5.out j _ hs2)
                          clear hs2 IMP
                          go_wp2_with fail
                          refine S2.out.mono ?_
                          rintro r w6 ⟨rfl, f6⟩
                          have F6 := Lib.hid (F5.out.trans f6)
                          clear f6
                          go_wp2_with fail
                          go_roundw
                          case rel => exact ⟨j + 1, Lib.hid ⟨by omega, HJL.out⟩, by go_num, F6⟩
                          case measure => have := HJL.out; simp [intOf]; omega
                        · have hs3 := IMP.out hs2
                          have S2 := Lib.hid (SEE2.out w5 F5.out j _ hs2)
                          have HS3 := Lib.hid hs3
                          clear hs2 IMP hs3
                          go_wp2_with fail
                          refine S2.out.mono ?_
                          rintro r w6 ⟨rfl, f6⟩
                          have F6 := Lib.hid (F5.out.trans f6)
                          have v0 := F6.out.keep VV0.out
                          have v1 := F6.out.keep VV1.out
                          have v2 := F6.out.keep VV2.out
                          clear f6
                          go_wp2_with fail
                          refine (SEES.out w6 F6.out j _ HS3.out).mono ?_
                          rintro r w7 ⟨rfl, f7⟩
                          have F7 := Lib.hid (F6.out.trans f7)
                          clear f7
                          go_wp2_with fail
                          go_roundw
                          case rel => exact ⟨j + 1, Lib.hid ⟨by omega, HJL.out⟩, by go_num, F7⟩
                          case measure => have := HJL.out; simp [intOf]; omega
                    · skip
                      go_wp2_with fail
                      go_roundw
                      case rel => exact ⟨j + 1, Lib.hid ⟨by omega, HJL.out⟩, by go_num, F5⟩
                      case measure => have := HJL.out; simp [intOf]; omega
              · go_wp2_with fail
                go_roundw
                case rel => exact ⟨i + 1, HIL.out, by go_num, FJ⟩
                case measure => have := HIL.out; simp [intOf]; omega
          · go_wp2_with fail
            go_ret
            exact ⟨rfl, HV.out.fr.trans FI.out⟩
end Go.Proofs.Ytnnomeichppkpaa
