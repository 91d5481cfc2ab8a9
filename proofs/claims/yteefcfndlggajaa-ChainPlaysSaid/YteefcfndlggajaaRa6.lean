/-
  The reference of layer 4: Alloc, the walk.
-/
import Derived.Test.YteefcfndlggajaaRa
namespace Go.Proofs.Yteefcfndlggajaa
open Go.RowKit
set_option linter.unusedVariables false
set_option linter.unusedSimpArgs false
set_option maxRecDepth 100000

section
variable {w w' : World} {x : Nat} {pa ga : Option Addr} {pc gc N : Nat} {qs : List Nat} {G : List GV} {col : Nat → Nat} {Z : Nat → Prop} {s : AS}
def AllocPost (w : World) (x : Nat) (Z : Nat → Prop) (N : Nat) (s : AS) (w' : World) : Prop :=
  (∃ pa' pc' ga' gc' qs' G' col', RAt w' x pa' pc' ga' gc' qs' G' col' Z N s) ∧ Fr (fun k => ¬ Z k) w w'
/-- Pages behind the search. -/
def AS.searched (s : AS) : AS := { s with pages := s.grown }
/-- Rounds over what was given: all but that of a place, in a new row. -/
structure OutRel (w0 : World) (G : List GV) (n0 o0 : Nat) (j n : Nat) (a : Option Addr) (cap : Nat) (wr : World) : Prop where
  sl : SlAt wr a n cap 167 3 (gcells ((G.take j).filter (fun t => !gAt n0 o0 t)))
  len : n = ((G.take j).filter (fun t => !gAt n0 o0 t)).length
  fr : Fr none_ w0 wr
  own : ∀ k, blk a k → w0.heap.size ≤ k
theorem OutRel.start (w0 : World) (G : List GV) (n0 o0 : Nat) : OutRel w0 G n0 o0 0 0 none 0 w0 := ⟨SlAt.empty _ _ _, rfl, Fr.refl _ _, fun k h => absurd h (blk_none k)⟩
theorem OutRel.skip {w0 wr : World} {n0 o0 j n cap : Nat} {a : Option Addr} (h : OutRel w0 G n0 o0 j n a cap wr) {t : GV} (ht : G[j]? = some t) (hg : gAt n0 o0 t = true) : OutRel w0 G n0 o0 (j + 1) n a cap wr := by
  have e : (G.take (j + 1)).filter (fun t => !gAt n0 o0 t) = (G.take j).filter (fun t => !gAt n0 o0 t) := by
    rw [rp_take_succ _ _ _ ht, List.filter_append, List.filter_cons, if_neg (by simp [hg])]; simp
  exact ⟨by rw [e]; exact h.sl, by rw [e]; exact h.len, h.fr, h.own⟩
theorem OutRel.push {w0 wr wa w2 : World} {n0 o0 j n cap cap' : Nat} {a a' : Option Addr} (h : OutRel w0 G n0 o0 j n a cap wr) {t : GV} (ht : G[j]? = some t) (hg : gAt n0 o0 t = false) (fa : Fr none_ wr wa) (hs : SlAt w2 a' (n + 1) cap' 167 3 (gcells ((G.take j).filter (fun t => !gAt n0 o0 t)) ++ [.int .u16 (t.1 : Int), .int .u16 (t.2.1 : Int), .int .u32 (t.2.2 : Int)])) (f : Fr (blk a) wa w2) (hb : ∀ k, blk a' k → blk a k ∨ wa.heap.size ≤ k) : OutRel w0 G n0 o0 (j + 1) (n + 1) a' cap' w2 := by
  have e : (G.take (j + 1)).filter (fun t => !gAt n0 o0 t) = (G.take j).filter (fun t => !gAt n0 o0 t) ++ [t] := by
    rw [rp_take_succ _ _ _ ht, List.filter_append, List.filter_cons, if_pos (by simp [hg])]; simp
  have z1 := h.fr.size
  have z2 := fa.size
  refine ⟨by rw [e, gcells_append]; exact hs, by rw [e, List.length_append, ← h.len]; rfl, (h.fr.trans fa).step f (fun i hi q => by have := h.own i q; omega), fun k hk => ?_⟩
  rcases hb k hk with q | q
  · exact h.own k q
  · omega
theorem SlAt.one3 (w : World) (e : TypeId) (u v z : Value) : SlAt (w.alloc (.cells #[u, v, z] e)) (some ⟨w.heap.size, 0, none⟩) 1 1 e 3 [u, v, z] := by
  refine ⟨rfl, Nat.le_refl _, by simp [maxLen], (fun h => by cases h), ?_⟩
  intro ad had
  cases had
  exact ⟨rfl, rfl, _, Row.new w _ e, rfl, rfl⟩
set_option maxHeartbeats 16000000 in
theorem Ra_Alloc (h : RAt w x pa pc ga gc qs G col Z N s) (hz : ∀ k, Z k → k < w.heap.size) (hw : s.WF) (hgen : ∀ n o, s.genOf n o < 4294967295) (hN : N < 1000000) :
    Calls Try.prog 81 #[.pointer (some ⟨x, 0, none⟩)] w fun e w' => e = .returned (.tuple #[.int .u64 ((aAlloc s).1 : Int), .int .i64 ((aAlloc s).2.1 : Int)]) ∧ AllocPost w x Z (N + 1) (aAlloc s).2.2 w' := by
  have HAC := Lib.hid (aAlloc_cases hw)
  have H := Lib.hid h
  have HW := Lib.hid hw
  have HZ := Lib.hid hz
  have HGN := Lib.hid hgen
  have c1 := h.c1
  have hl := hw.len
  have hlo := hw.lo
  have hhi := hw.hi
  obtain ⟨L, hL⟩ : ∃ L, L = s.pages.length := ⟨_, rfl⟩
  rw [← hL] at c1 hl
  have HL := Lib.hid hL
  obtain ⟨r1, hr1⟩ : ∃ r : Int, ((aAlloc s).1 : Int) = r := ⟨_, rfl⟩
  obtain ⟨r2, hr2⟩ : ∃ r : Int, ((aAlloc s).2.1 : Int) = r := ⟨_, rfl⟩
  rw [hr1, hr2]
  have HR := Lib.hid (And.intro hr1 hr2)
  clear h hw hz hgen hL hr1 hr2
  go_enter Try.func81, Try.ntmps81
  go_upto_block 0 with fail
  go_cut [4] (fun i wx => ∃ k : Nat, Hid (k ≤ L) ∧ i = .int .i64 k ∧ Hid (∀ j p, j < k → s.pages[j]? = some p → full s.slot p = true) ∧ Hid (∀ p, s.pages[k]? = some p → full s.slot p = false) ∧ Hid (Fr none_ w wx))
  case first =>
    have hf0 : Fr none_ w w := Fr.refl _ _
    go_wp2_with fail
    go_loopw [4] (fun i wx => ∃ k : Nat, Hid (k ≤ L) ∧ i = .int .i64 k ∧ Hid (∀ j p, j < k → s.pages[j]? = some p → full s.slot p = true) ∧ Hid (Fr none_ w wx)) (fun i _ => L - (intOf i).toNat)
    case atStart => exact ⟨0, Nat.zero_le _, rfl, fun j p hj _ => absurd hj (by omega), hf0⟩
    case round =>
      obtain ⟨k, hk, rfl, hfu, hf⟩ := hrel
      clear hf0
      have d1 := Fr.keep hf.out c1
      by_cases hlt : k < L
      · obtain ⟨p, hp⟩ : ∃ p, s.pages[k]? = some p := ⟨s.pages[k]'(by rw [← HL.out]; exact hlt), List.getElem?_eq_getElem _⟩
        obtain ⟨q, hq, hrn⟩ := H.out.page hp
        obtain ⟨a, b, c, d, e, f, g, hrp, _⟩ := hrn
        have hpw := HW.out.pages p (List.mem_of_getElem? hp)
        obtain ⟨R, hR⟩ : ∃ R : Int, ((4096 / p.slot : Nat) : Int) - (p.used : Int) = R := ⟨_, rfl⟩
        have gr := Rp_Room (hrp.kept0 hf.out) hpw.1
        rw [hR] at gr
        have GR := Lib.hid gr
        obtain ⟨gp, hgp⟩ := H.out.pas.isAddr (by rw [← HL.out]; omega)
        subst hgp
        have cq := (H.out.pas.kept0 hf.out).cell (i := k) (v := ptrV q) (by rw [List.getElem?_map, hq]; rfl)
        unfold ptrV at cq
        cases hfull : full s.slot p with
        | true =>
          have hR0 : R = 0 := by
            unfold full at hfull
            have := of_decide_eq_true hfull
            rw [← hR, hpw.2]; omega
          subst hR0
          have HFU := Lib.hid (show ∀ j p, j < k + 1 → s.pages[j]? = some p → full s.slot p = true from fun j p' hj hp' => by
            by_cases e : j = k
            · subst e; rw [hp] at hp'; cases hp'; exact hfull
            · exact hfu.out j p' (by omega) hp')
          clear hR gr hrp hp hq hpw hfull hfu
          go_wp2_with fail
          refine GR.out.mono ?_
          rintro e w2 ⟨rfl, f2⟩
          have HF2 := Lib.hid (hf.out.trans f2)
          clear f2 GR hf
          go_wp2_with fail
          go_roundw
          case rel => exact ⟨k + 1, hlt, by go_num, HFU.out, HF2.out⟩
          case measure => simp [intOf]; omega
        | false =>
          have hR0 : (R == 0) = false := beq_eq_false_iff_ne.2 (by
            unfold full at hfull
            have := of_decide_eq_false hfull
            rw [← hR, hpw.2]; omega)
          have HNF := Lib.hid (show ∀ p, s.pages[k]? = some p → full s.slot p = false from fun p' hp' => by rw [hp] at hp'; cases hp'; exact hfull)
          clear hR gr hrp hp hq hpw hfull
          go_wp2_with fail
          refine GR.out.mono ?_
          rintro e w2 ⟨rfl, f2⟩
          have HF2 := Lib.hid (hf.out.trans f2)
          clear f2 GR hf
          go_wp2_with fail
          go_meet
          case rel => exact ⟨k, hk.out, rfl, hfu.out, HNF.out, HF2.out⟩
      · have hke : k = L := by have := hk.out; omega
        have HNF := Lib.hid (show ∀ p, s.pages[k]? = some p → full s.slot p = false from fun p hp => by
          have := (List.getElem?_eq_some_iff.1 hp).1
          rw [← HL.out] at this; omega)
        go_wp2_with fail
        go_meet
        case rel => exact ⟨k, hk.out, rfl, hfu.out, HNF.out, hf.out⟩
  case rest =>
    obtain ⟨k, hk, rfl, hfu, hnf, hf⟩ := hcut
    have hadv : k = adv s.slot s.pages s.first := (adv_from0 HW.out (by rw [← HL.out]; exact hk.out) hfu.out hnf.out).symm
    have HADV := Lib.hid hadv
    clear hadv hfu hnf
    have d1 := Fr.keep hf.out c1
    have d0 := Fr.keep hf.out H.out.c0
    have hkl := hk.out
    go_upto_if 38 with fail
    go_cut [4] (fun i wx => i = .int .i64 (k : Int) ∧ Hid (∃ pa' pc' qs' col', RAt wx x pa' pc' ga gc qs' G col' Z N s.searched) ∧ Hid (Fr (fun j => ¬ Z j) w wx) ∧ Hid (¬ (L = 4096 ∧ k = 4096)))
    case first =>
      by_cases hkL : k = L
      · have bk : ((k : Int) == (L : Int)) = true := by rw [beq_iff_eq]; omega
        by_cases hk4 : k = 4096
        · have b4 : ((k : Int) == 4096) = true := by rw [beq_iff_eq]; omega
          have hres : r1 = 0 ∧ r2 = 41 ∧ aAlloc s = (0, 41, { s with first := adv s.slot s.pages s.first }) := by
            rcases HAC.out with ⟨_, _, e⟩ | ⟨f, k', q, q', h1, h2, _⟩
            · rw [← HR.out.1, ← HR.out.2, e]; exact ⟨rfl, rfl, rfl⟩
            · have := HADV.out; omega
          obtain ⟨rfl, rfl, he⟩ := hres
          have HE := Lib.hid (show AllocPost w x Z (N + 1) (aAlloc s).2.2 wc by
            rw [he]
            exact ⟨⟨_, _, _, _, _, _, _, RAt.weakN (M := N + 1) ((H.out.kept0 hf.out).same rfl rfl rfl) (by omega) (by omega)⟩, hf.out.none⟩)
          clear he hkL hk4
          go_wp2_with fail
          go_ret2
          exact ⟨rfl, HE.out⟩
        · have b4 : ((k : Int) == 4096) = false := beq_eq_false_iff_ne.2 (by omega)
          have hgr : s.grown = s.pages ++ [PS.new s.slot] := by unfold AS.grown; rw [← HADV.out, if_pos (by rw [hkL, HL.out])]
          have GN := Lib.hid (Rp_New_yes wc s.slot hlo hhi)
          have HC := Lib.hid (H.out.kept0 hf.out)
          have HZC := Lib.hid (show ∀ j, Z j → j < wc.heap.size from fun j hj => Nat.lt_of_lt_of_le (HZ.out j hj) hf.out.size)
          have HGR := Lib.hid hgr
          have hLb : L ≤ 4096 := hl
          have hk4' : ¬ k = 4096 := hk4
          clear hgr hk4
          go_wp2_with fail
          refine GN.out.mono ?_
          rintro e w3 ⟨q, rfl, hq, f3, g3⟩
          have m0 := SlAt.made' w3 141 1
          have hps := ((HC.out.pas.kept0 f3).kept0 (Fr.alloc none_ w3 (.cells #[] 141)))
          rw [← HL.out] at hps
          have d13 := Fr.keep (Fr.alloc none_ w3 (.cells #[] 141)) (Fr.keep f3 d1)
          have HQ := Lib.hid (And.intro hq (And.intro f3 g3))
          clear hq f3 g3 GN
          go_wp2_with (first
            | ((with_reducible refine at_slot 55 ?_); refine wpAppendS rfl _ _ _ rfl 141 (.pointer none) 1 8 Try.underlying144 ra_ptr_info rfl m0 hps rfl rfl (by intro u hu; obtain ⟨_, _, rfl⟩ := List.mem_map.1 hu; rfl) (by simp [maxLen]; omega) (by omega) ?_; intro a4 k4 w4 hs4 f4 hb4; rw [Nat.zero_add, List.nil_append] at hs4)
            | ((with_reducible refine at_slot 58 ?_); refine wpAppendS rfl _ _ _ rfl 141 (.pointer none) 1 8 Try.underlying144 ra_ptr_info rfl (hs4.kept0 (Fr.alloc none_ _ (.cells #[.pointer (some ⟨q, 0, none⟩)] 141))) (SlAt.one w4 141 (.pointer (some ⟨q, 0, none⟩))) rfl rfl (by intro u hu; simp at hu; subst hu; rfl) (by simp [maxLen]; omega) (by omega) ?_; intro a5 k5 w5 hs5 f5 hb5; have N5 := two_new (fun k hk => by rw [blk_some] at hk; omega) f4 hb4 f5 hb5; have g5 := Lib.hid (HC.out.grow (s' := s.searched) HZC.out HQ.out.1 HQ.out.2.1 HQ.out.2.2 N5.1 (by rw [← HL.out]; exact hs5) N5.2 rfl HGR.out rfl); have c15 := g5.out.2.2.1; have z15 := g5.out.2.2.2; rw [← HL.out] at g5))
          go_meet
          case rel => exact ⟨(by rw [hkL]), (by obtain ⟨col', h'⟩ := g5.out.1; exact ⟨_, _, _, _, h'⟩), hf.out.none.trans g5.out.2.1, fun e => hk4' e.2⟩
      · have bk : ((k : Int) == (L : Int)) = false := beq_eq_false_iff_ne.2 (by omega)
        have hgr : s.grown = s.pages := by unfold AS.grown; rw [← HADV.out, if_neg (by rw [← HL.out]; exact hkL)]
        have HC := Lib.hid ((H.out.kept0 hf.out).same (s' := s.searched) rfl hgr rfl)
        clear hgr
        go_wp2_with fail
        go_meet
        case rel => exact ⟨rfl, ⟨_, _, _, _, HC.out⟩, hf.out.none, fun e => hkL (e.2.trans e.1.symm)⟩
    case rest =>
      obtain ⟨rfl, hra0, hfz, hnot⟩ := hcut
      obtain ⟨pa', pc', qs', col', hra⟩ := hra0.out
      obtain ⟨k', p, p', hk96, hgp, hpw, hps, hpa, hac⟩ : ∃ k' p p', k < 4096 ∧ s.grown[k]? = some p ∧ p.WF ∧ p.slot = s.slot ∧ p.alloc = some (k', p') ∧ aAlloc s = (mkH k (k' * s.slot) (s.genOf k (k' * s.slot) + 1), 0, s.giveAt k k' p') := by
        rcases HAC.out with ⟨e1, e2, _⟩ | ⟨f, k', q, q', h1, h2, h3, h4, h5, h6, _, _, h9⟩
        · exact absurd ⟨by rw [HL.out]; exact e1, by rw [HADV.out]; exact e2⟩ hnot.out
        · have : f = k := by rw [h2]; exact HADV.out.symm
          subst this
          exact ⟨k', q, q', h1, h3, h4, h5, h6, h9⟩
      obtain ⟨y, hy, hrn⟩ := hra.page (i := k) (p := p) hgp
      obtain ⟨b1, b2, b3, b4, b5, b6, b7, hrp, hown⟩ := hrn
      have hall : allocR p = (k' * s.slot, 0, p') := by unfold allocR; rw [hpa, hps]
      have hOb : k' * s.slot < 65536 := by have := (allocR_wf hpw).2.1; rw [hall] at this; exact this
      have gr := Rp_Alloc hrp hpw
      rw [hall] at gr
      have hzc : ∀ j, Z j → j < wc.heap.size := fun j hj => Nat.lt_of_lt_of_le (HZ.out j hj) hfz.out.size
      have HT := Lib.hid (fun w' (hr : RPost wc y b1 b2 b3 p' w') => hra.turn hzc hy hgp hown hr (s' := { s with pages := s.grown.set k p' }) rfl rfl rfl)
      have HZC := Lib.hid hzc
      have e1 := hra.c1
      obtain ⟨gp, hgpe⟩ := hra.pas.isAddr (by have := (List.getElem?_eq_some_iff.1 hgp).1; exact Nat.lt_of_le_of_lt (Nat.zero_le _) this)
      subst hgpe
      have cy := hra.pas.cell (i := k) (v := ptrV y) (by rw [List.getElem?_map, hy]; rfl)
      unfold ptrV at cy
      have hkg : k < s.searched.pages.length := (List.getElem?_eq_some_iff.1 hgp).1
      generalize s.searched.pages.length = LG at e1 hkg
      obtain ⟨O, hO⟩ : ∃ O, O = k' * s.slot := ⟨_, rfl⟩
      rw [← hO] at gr hOb
      have GR := Lib.hid gr
      obtain ⟨g0, hg0⟩ : ∃ g, g = s.genOf k O := ⟨_, rfl⟩
      have hg1 : g0 < 4294967295 := by rw [hg0]; exact HGN.out _ _
      have HGP := Lib.hid (And.intro hgp hpa)
      have HO := Lib.hid (And.intro hO hg0)
      have hrr : r1 = (mkH k O (g0 + 1) : Int) ∧ r2 = 0 := by rw [← HR.out.1, ← HR.out.2, hac, hg0, hO]; exact ⟨rfl, rfl⟩
      obtain ⟨hr1, rfl⟩ := hrr
      have HR1 := Lib.hid hr1
      have HAC2 := Lib.hid hac
      have wk16 : IntKind.u16.wrap (k : Int) = (k : Int) := by rw [IntKind.wrap_u16]; omega
      obtain ⟨g1, hg1e⟩ : ∃ g1, g1 = g0 + 1 := ⟨_, rfl⟩
      have HG1 := Lib.hid hg1e
      have wg : IntKind.u32.wrap ((g0 : Int) + 1) = (g1 : Int) := by rw [IntKind.wrap_u32]; omega
      have hg1b : g1 < 4294967296 := by omega
      have HWK := Lib.hid wk16
      have HWG := Lib.hid wg
      clear hra hra0 hnot hgp hpw hps hpa hac hrp hown hall gr hzc hy hO hg0 hr1 wk16 wg d0 d1 hf hg1e
      go_wp2_with fail
      refine GR.out.mono ?_
      rintro e w9 ⟨rfl, hpost⟩
      have ht := HT.out _ hpost
      obtain ⟨col9, ra9⟩ := ht.1
      have HF9 := Lib.hid (hfz.out.trans ht.2)
      have R9 := Lib.hid ra9
      have gg := Ra_gen ra9 k O
      have hgl : gLook G k O = g0 := by rw [ra9.gl k O (by omega) hOb, HO.out.2]; rfl
      rw [hgl] at gg
      have GG := Lib.hid gg
      have wk16 := HWK.out
      have wg := HWG.out
      clear hpost ht gg ra9 GR HT hgl cy e1
      go_wp2_with fail
      refine GG.out.mono ?_
      rintro e wA ⟨rfl, rfl⟩
      clear GG
      have m2 := R9.out.c2
      have hm : G.length ≤ 1000000 := by have := R9.out.gn; have := R9.out.nn; omega
      obtain ⟨m, hm0⟩ : ∃ m, m = G.length := ⟨_, rfl⟩
      rw [← hm0] at m2 hm
      have HM := Lib.hid hm0
      have hs0 : OutRel w9 G k O 0 0 none 0 w9 := OutRel.start w9 G k O
      clear hm0
      go_wp2_with fail
      go_loopw [10, 11] (fun u i wx => ∃ (j n cap : Nat) (a : Option Addr), Hid (j ≤ m) ∧ i = .int .i64 j ∧ u = .slice a n cap ∧ Hid (OutRel w9 G k O j n a cap wx)) (fun _ i _ => m - (intOf i).toNat)
      case atStart => exact ⟨0, 0, 0, none, Nat.zero_le _, rfl, rfl, hs0⟩
      case round =>
        obtain ⟨j, n, cap, a, hj, rfl, rfl, hor⟩ := hrel
        clear hs0
        have cG := Fr.keep hor.out.fr m2
        by_cases hlt : j < m
        · obtain ⟨t, ht⟩ : ∃ t, G[j]? = some t := ⟨G[j]'(by rw [← HM.out]; exact hlt), List.getElem?_eq_getElem _⟩
          obtain ⟨g, hg⟩ := R9.out.gs.isAddr (by rw [← HM.out]; omega)
          subst hg
          have hcs := gcells_get ht
          have sg := R9.out.gs.kept0 hor.out.fr
          have d0 := sg.cell hcs.1
          have d1 := sg.cell hcs.2.1
          have d2 := sg.cell hcs.2.2
          have hnb : n ≤ 1000000 := by
            rw [hor.out.len]
            have := List.length_filter_le (fun t => !gAt k O t) (G.take j)
            rw [List.length_take] at this
            omega
          have HSK := Lib.hid (fun h => hor.out.skip ht h)
          have HPU := Lib.hid (fun wa w2 a' cap' hg fa hs f hb => hor.out.push (wa := wa) (w2 := w2) (a' := a') (cap' := cap') ht hg fa hs f hb)
          have h16 := wk16
          by_cases c1' : t.1 = k
          · have v1 : ((t.1 : Int) != (k : Int)) = false := by rw [c1']; exact bne_self_eq_false _
            by_cases c2' : t.2.1 = O
            · have v2 : ((t.2.1 : Int) != (O : Int)) = false := by rw [c2']; exact bne_self_eq_false _
              have hn2 := Lib.hid (HSK.out (by unfold gAt; exact decide_eq_true ⟨c1', c2'⟩))
              generalize t.1 = t1 at d0 v1
              generalize t.2.1 = t2 at d1 v2
              clear c1' c2' HSK HPU hcs sg ht d2 hor
              go_wp2_with fail
              go_roundw
              case rel => exact ⟨j + 1, n, cap, a, hlt, by go_num, rfl, hn2⟩
              case measure => simp [intOf]; omega
            · have v2 : ((t.2.1 : Int) != (O : Int)) = true := bne_iff_ne.2 (by omega)
              have hg0' : gAt k O t = false := by unfold gAt; exact decide_eq_false (fun q => c2' q.2)
              have HG0 := Lib.hid hg0'
              generalize t.1 = t1 at d0 v1 HPU
              generalize t.2.1 = t2 at d1 v2 HPU
              generalize t.2.2 = t3 at d2 HPU
              have sl0 := hor.out.sl.kept0 (Fr.alloc none_ _ (.cells #[.int .u16 (t1 : Int), .int .u16 (t2 : Int), .int .u32 (t3 : Int)] 167))
              have o3 := SlAt.one3 wr 167 (.int .u16 (t1 : Int)) (.int .u16 (t2 : Int)) (.int .u32 (t3 : Int))
              clear c1' c2' HSK hcs sg ht hg0' hor
              go_wp2_with ((with_reducible refine at_slot 119 ?_); refine wpAppendS rfl _ _ _ rfl 167 (.agg #[.int .u16 0, .int .u16 0, .int .u32 0]) 3 8 Try.underlying145 ra_given_info rfl sl0 o3 rfl rfl (by intro u hu; simp at hu; rcases hu with rfl | rfl | rfl <;> rfl) (by simp [maxLen]; omega) (by omega) ?_; intro a6 k6 w6 hs6 f6 hb6; have hn6 := Lib.hid (HPU.out _ _ _ _ HG0.out (Fr.alloc none_ _ _) hs6 f6 hb6))
              go_roundw
              case rel => exact ⟨j + 1, n + 1, k6, a6, hlt, by go_num, rfl, hn6⟩
              case measure => simp [intOf]; omega
          · have v1 : ((t.1 : Int) != (k : Int)) = true := bne_iff_ne.2 (by omega)
            have hg0' : gAt k O t = false := by unfold gAt; exact decide_eq_false (fun q => c1' q.1)
            have HG0 := Lib.hid hg0'
            generalize t.1 = t1 at d0 v1 HPU
            generalize t.2.1 = t2 at d1 HPU
            generalize t.2.2 = t3 at d2 HPU
            have sl0 := hor.out.sl.kept0 (Fr.alloc none_ _ (.cells #[.int .u16 (t1 : Int), .int .u16 (t2 : Int), .int .u32 (t3 : Int)] 167))
            have o3 := SlAt.one3 wr 167 (.int .u16 (t1 : Int)) (.int .u16 (t2 : Int)) (.int .u32 (t3 : Int))
            clear c1' HSK hcs sg ht hg0' hor
            go_wp2_with ((with_reducible refine at_slot 119 ?_); refine wpAppendS rfl _ _ _ rfl 167 (.agg #[.int .u16 0, .int .u16 0, .int .u32 0]) 3 8 Try.underlying145 ra_given_info rfl sl0 o3 rfl rfl (by intro u hu; simp at hu; rcases hu with rfl | rfl | rfl <;> rfl) (by simp [maxLen]; omega) (by omega) ?_; intro a6 k6 w6 hs6 f6 hb6; have hn6 := Lib.hid (HPU.out _ _ _ _ HG0.out (Fr.alloc none_ _ _) hs6 f6 hb6))
            go_roundw
            case rel => exact ⟨j + 1, n + 1, k6, a6, hlt, by go_num, rfl, hn6⟩
            case measure => simp [intOf]; omega
        · have hje : j = m := by have := hj.out; omega
          have hor2 : SlAt wr a n cap 167 3 (gcells (G.filter (fun t => !gAt k O t))) := by
            have q := hor.out.sl
            rw [hje, HM.out, List.take_length] at q
            exact q
          have hlen : n = (G.filter (fun t => !gAt k O t)).length := by
            have q := hor.out.len
            rw [hje, HM.out, List.take_length] at q
            exact q
          have hnb : n ≤ 1000000 := by
            rw [hlen]
            have := List.length_filter_le (fun t => !gAt k O t) G
            rw [← HM.out] at this
            omega
          have hown := hor.out.own
          have hfr := hor.out.fr
          have sl0 := hor2.kept0 (Fr.alloc none_ _ (.cells #[.int .u16 (k : Int), .int .u16 (O : Int), .int .u32 (g1 : Int)] 167))
          have o3 := SlAt.one3 wr 167 (.int .u16 (k : Int)) (.int .u16 (O : Int)) (.int .u32 (g1 : Int))
          have HX := Lib.hid (And.intro hlen (And.intro hown hfr))
          have h16 := wk16
          clear hor hor2 hje hlen hown hfr wg
          have GH := Lib.hid (fun wq => Handle01_any wq k O g1 (by omega) hOb hg1b)
          have HPUT := Lib.hid (fun (w5 : World) (a6 : Option Addr) (k6 : Nat) (hs : SlAt w5 a6 (n + 1) k6 167 3 (gcells (G.filter (fun t => !gAt k O t)) ++ [.int .u16 (k : Int), .int .u16 (O : Int), .int .u32 (g1 : Int)])) (f6 : Fr (blk a) (wr.alloc (.cells #[.int .u16 (k : Int), .int .u16 (O : Int), .int .u32 (g1 : Int)] 167)) w5) (hb6 : ∀ j, blk a6 j → blk a j ∨ (wr.alloc (.cells #[.int .u16 (k : Int), .int .u16 (O : Int), .int .u32 (g1 : Int)] 167)).heap.size ≤ j) =>
            (show (w5.cell? ⟨x, 2, none⟩ = some (.slice ga G.length gc) ∧ w5.frozen? ⟨x, 2, none⟩ = false) ∧ AllocPost w x Z (N + 1) (s.giveAt k k' p') (w5.setCell ⟨x, 2, none⟩ (.slice a6 (n + 1) k6)) from by
              obtain ⟨hlen, hown, hfr⟩ := HX.out
              have fA := hfr.trans (Fr.alloc none_ wr (.cells #[.int .u16 (k : Int), .int .u16 (O : Int), .int .u32 (g1 : Int)] 167))
              have zA := fA.size
              have f5 : Fr none_ w9 w5 := fA.step f6 (fun i hi e => by have := hown i e; omega)
              have hnew : ∀ j, blk a6 j → w9.heap.size ≤ j := fun j hj => by
                rcases hb6 j hj with q | q
                · exact hown j q
                · omega
              have hGl : (gPut G k O g1).length = n + 1 := by unfold gPut; rw [List.length_append, ← hlen]; rfl
              have hz9 : ∀ j, Z j → j < w9.heap.size := fun j hj => Nat.lt_of_lt_of_le (HZ.out j hj) HF9.out.size
              have hr5 := R9.out.row.kept f5 (fun e => e)
              have hput := R9.out.gput (G' := gPut G k O g1) (s' := s.giveAt k k' p') (M := N + 1) hz9 f5 (by
                rw [hGl]
                unfold gPut
                rw [gcells_append]
                exact hs) hnew rfl rfl (fun a b ha hb => by
                  rw [gLook_put, R9.out.gl a b ha hb, genOf_put s (s.genOf k O + 1) (f := k) (o := O) (by omega) hOb ha hb (s.giveAt k k' p') (by show kvPut s.gen (pl k (k' * s.slot)) (s.genOf k (k' * s.slot) + 1) = _; rw [HO.out.1]), HG1.out, HO.out.2]
                  rfl) (fun t ht => by
                  unfold gPut at ht
                  rcases List.mem_append.1 ht with ht | ht
                  · exact R9.out.gb t (List.mem_filter.1 ht).1
                  · simp only [List.mem_singleton] at ht
                    subst ht
                    exact ⟨by omega, hOb, hg1b⟩) (by rw [hGl, hlen]; have := List.length_filter_le (fun t => !gAt k O t) G; have := R9.out.gn; omega) (by omega)
              rw [hGl] at hput
              refine ⟨⟨(hr5.cell 2).trans rfl, hr5.free 2⟩, ?_, HF9.out.trans hput.2⟩
              obtain ⟨col5, hc⟩ := hput.1
              exact ⟨_, _, _, _, _, _, _, hc⟩))
          go_wp2_with ((with_reducible refine at_slot 128 ?_); refine wpAppendS rfl _ _ _ rfl 167 (.agg #[.int .u16 0, .int .u16 0, .int .u32 0]) 3 8 Try.underlying145 ra_given_info rfl sl0 o3 rfl rfl (by intro u hu; simp at hu; rcases hu with rfl | rfl | rfl <;> rfl) (by simp [maxLen]; omega) (by omega) ?_; intro a6 k6 w6 hs6 f6 hb6; have hp6 := Lib.hid (HPUT.out _ _ _ hs6 f6 hb6); have c26 := hp6.out.1.1; have z26 := hp6.out.1.2)
          refine (GH.out _).mono ?_
          rintro e wE ⟨rfl, rfl⟩
          go_wp2_with fail
          go_ret2
          refine ⟨?_, ?_⟩
          · rw [HR1.out, ← HG1.out]; rfl
          · rw [HAC2.out]; exact hp6.out.2
end
end Go.Proofs.Yteefcfndlggajaa
