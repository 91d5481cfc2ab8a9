/-
  PagePlays (P3.1, P3.2): the walk.
-/
import Derived.Test.YtdbnopfpopeefaaRp9
import Derived.Deep.DeepCutAuto
import Derived.Deep.CutBlock
namespace Go.Proofs.Ytdbnopfpopeefaa
open Go.RowKit
set_option linter.unusedVariables false
set_option linter.unusedSimpArgs false
set_option maxRecDepth 100000

/-- Blocks that the reference's turns let be: all that came in, and the page's. -/
def zOf (W : World) (p m : Nat) : Nat → Prop := fun k => k < W.heap.size ∨ k = p ∨ k = m
/-- c, y: the page and the reference's, or copies of both. -/
structure CY (W w : World) (p m x : Nat) (s : PS) (Z : Nat → Prop) (c mc y : Nat) : Prop where
  px : PX w p m x Z s
  zz : ∀ k, zOf W p m k → Z k
  lp : W.heap.size ≤ p
  lm : W.heap.size ≤ m
  fr : Fr none_ W w
  cy : (c = p ∧ mc = m ∧ y = x) ∨ (PageIs w c mc s ∧ Z c ∧ Z mc ∧ ¬ two p m c ∧ ¬ two p m mc ∧ ∃ N : Nat → Prop, RN w y N s ∧ ∀ k, N k → Z k ∧ ¬ two p m k)
/-- Behind the step. -/
structure CZ (W w : World) (p m x : Nat) (s : PS) (c mc y : Nat) (sc : PS) : Prop where
  page : PageIs w p m s
  ref : RX w x (zOf W p m) s
  page2 : PageIs w c mc sc
  ref2 : R0 w y sc
  lp : W.heap.size ≤ p
  lm : W.heap.size ≤ m
  fr : Fr none_ W w
section
variable {W w w' : World} {p m x c mc y : Nat} {s s' sc : PS} {Z : Nat → Prop}
theorem CY.step (h : CY W w p m x s Z c mc y) (q : PX w' p m x Z s') (f : Fr (TF p m Z) w w') : ∃ sc, (sc = s ∨ sc = s') ∧ CZ W w' p m x s' c mc y sc := by
  have hfr : Fr none_ W w' := h.fr.step f (fun i hi e => by
    rcases e with e | e
    · have := h.lp; have := h.lm; rcases e with e | e <;> omega
    · exact e (h.zz i (Or.inl hi)))
  rcases h.cy with ⟨rfl, rfl, rfl⟩ | ⟨h1, h2, h3, h4, h5, N, h6, h7⟩
  · exact ⟨s', Or.inr rfl, q.page, q.ref.weak h.zz, q.page, q.ref.r0, h.lp, h.lm, hfr⟩
  · refine ⟨s, Or.inl rfl, q.page, q.ref.weak h.zz, h1.kept f (fun e => ?_) (fun e => ?_), (h6.kept f (fun k hk e => ?_)).r0, h.lp, h.lm, hfr⟩
    · rcases e with e | e
      · exact h4 e
      · exact e h2
    · rcases e with e | e
      · exact h5 e
      · exact e h3
    · obtain ⟨a, b⟩ := h7 k hk
      rcases e with e | e
      · exact b e
      · exact e a
theorem CZ.skip (h : CZ W w p m x s c mc y sc) (f : Fr none_ w w') : CZ W w' p m x s c mc y sc :=
  ⟨h.page.kept f (fun e => e) (fun e => e), h.ref.kept0 f, h.page2.kept f (fun e => e) (fun e => e), h.ref2.kept0 f, h.lp, h.lm, h.fr.trans f⟩
end
theorem u16_small (P : Nat) (h : P < 65536) : IntKind.u16.wrap (P : Int) = (P : Int) := by rw [IntKind.wrap_u16]; omega
theorem i64_small (P : Nat) (h : P < 65536) : IntKind.i64.wrap (P : Int) = (P : Int) := IntWalk.i64_in _ (by omega)
theorem w64_small (P : Nat) (h : P < 65536) : wrap64 (P : Int) = (P : Int) := IntWalk.wrap64_in _ (by omega)
theorem is_isZ {w : World} {p m : Nat} {s : PS} (h : PageIs w p m s) (off : Nat) {b : Bool} (hb : (s.at_ off).isSome = b) : Calls Try.prog 20 #[.pointer (some ⟨p, 0, none⟩), .int .u16 (off : Int)] w fun e w' => e = .returned (.bool b) ∧ Fr none_ w w' := by
  subst hb; exact Page_Is h off
theorem used_isZ {w : World} {p m : Nat} {s : PS} (h : PageIs w p m s) {u : Int} (hu : (s.used : Int) = u) : Calls Try.prog 18 #[.pointer (some ⟨p, 0, none⟩)] w fun e w' => e = .returned (.int .i64 u) ∧ w = w' := by
  subst hu; exact Page_Used h
theorem room_isZ {w : World} {p m : Nat} {s : PS} (h : PageIs w p m s) {u : Int} (hu : ((4096 / s.slot : Nat) : Int) - (s.used : Int) = u) : Calls Try.prog 19 #[.pointer (some ⟨p, 0, none⟩)] w fun e w' => e = .returned (.int .i64 u) ∧ Fr none_ w w' := by
  subst hu; exact (Page_Room h).mono fun e w' q => ⟨q.1, by rw [q.2]; exact Fr.drew _ _⟩

set_option maxHeartbeats 16000000 in
theorem walk_PagePlays (W : World) (slot : Int) (ws : (Lit.int .i64 slot).wf = true) (a1 : Option Addr) (c1 : Nat) (l1 : List StepV) (h1 : StepsAt W a1 l1) :
   Calls Try.prog 8 #[.int .i64 slot, .slice a1 l1.length c1] W fun e w' => e = .returned (.bool true) ∧ Fr none_ W w' := by
  have hlg := long_any W a1 c1 l1 h1
  cases hL : isLong l1 with
  | true =>
    rw [hL] at hlg
    have Hlg := Lib.hid hlg
    clear hlg hL h1 ws
    go_enter Try.func8, Try.ntmps8
    go_wp2_with fail
    refine Hlg.out.mono ?_
    rintro e w1 ⟨rfl, rfl⟩
    go_wp2_with fail
    refine (awake_any _).mono ?_
    rintro e w2 ⟨rfl, f2⟩
    go_wp2_with fail
    go_ret
    exact ⟨rfl, f2⟩
  | false =>
    rw [hL] at hlg
    have hn := notLong hL
    have Hlg := Lib.hid hlg
    have H1 := Lib.hid h1
    clear hlg hL h1 ws
    by_cases hs : slot < 2 ∨ 4096 < slot
    · have GP := Lib.hid (Page_New_no W slot hs)
      have GX := Lib.hid (Rp_New_no W slot hs)
      unfold err at GP
      clear hs
      go_enter Try.func8, Try.ntmps8
      go_wp2_with fail
      refine Hlg.out.mono ?_
      rintro e w1 ⟨rfl, rfl⟩
      go_wp2_with fail
      refine GP.out.mono ?_
      rintro e w1 ⟨rfl, rfl⟩
      go_wp2_with fail
      refine GX.out.mono ?_
      rintro e w1 ⟨rfl, rfl⟩
      go_wp2_with fail
      refine (awake_any _).mono ?_
      rintro e w2 ⟨rfl, f2⟩
      go_wp2_with fail
      go_ret
      exact ⟨rfl, f2⟩
    · obtain ⟨sl, rfl⟩ := Int.eq_ofNat_of_zero_le (show 0 ≤ slot by omega)
      have s2 : 2 ≤ sl := by omega
      have s3 : sl ≤ 4096 := by omega
      have GP := Lib.hid (Page_New_yes W sl s2 s3)
      unfold ptr err at GP
      have GX := Lib.hid (fun w => Rp_New_yes w sl s2 s3)
      clear hs
      go_enter Try.func8, Try.ntmps8
      go_wp2_with fail
      refine Hlg.out.mono ?_
      rintro e w1 ⟨rfl, rfl⟩
      go_wp2_with fail
      refine GP.out.mono ?_
      rintro e w2 ⟨p, m, rfl, hp, f2, g1, g2⟩
      go_wp2_with fail
      refine (GX.out _).mono ?_
      rintro e w3 ⟨x, rfl, hx, f3, g3⟩
      have hz0 : RX w3 x (zOf W p m) (PS.new sl) := by
        refine ⟨_, _, _, _, _, _, _, hx, fun k hk e => ?_⟩
        have hk' : k = x := by
          rcases hk with e | e | e | e
          · exact e
          · exact absurd e (blk_none k)
          · exact absurd e (blk_none k)
          · exact absurd e (blk_none k)
        subst hk'
        have := f2.size
        have := hp.lt
        rcases e with e | e | e <;> omega
      have hp0 : PageIs w3 p m (PS.new sl) := hp.kept f3 (fun e => e) (fun e => e)
      have hf0 := f2.trans f3
      have hw0 := PS.WF.new s2 s3
      have HG := Lib.hid (And.intro g1 g2)
      clear hp hx f2 f3 g1 g2 g3 GP GX
      go_wp2_with fail
      go_loopw [9] (fun i wr => ∃ (k : Nat) (s : PS), Hid (k ≤ l1.length) ∧ i = .int .i64 k ∧ s.WF ∧ Hid (s.slot = sl) ∧ PageIs wr p m s ∧ RX wr x (zOf W p m) s ∧ Fr none_ W wr) (fun i _ => l1.length - (intOf i).toNat)
      case atStart => exact ⟨0, _, Nat.zero_le _, rfl, hw0, rfl, hp0, hz0, hf0⟩
      case round =>
        obtain ⟨k, s, hk, rfl, hw, hsl, hp, hx, hf⟩ := hrel
        clear hp0 hz0 hf0 hw0
        by_cases hlt : k < l1.length
        · obtain ⟨y, hy⟩ : ∃ y, l1[k]? = some y := ⟨l1[k], List.getElem?_eq_getElem hlt⟩
          have hyo := H1.out.ok y (List.mem_of_getElem? hy)
          rcases H1.out.at_ with h0 | ⟨b, o, rfl, hb, hc⟩
          · rw [h0] at hlt; exact absurd hlt (by simp)
          have HC := Lib.hid (hc k y hy)
          clear hy hc
          obtain ⟨r7, hr7⟩ : ∃ r, r = k % 7 := ⟨_, rfl⟩
          obtain ⟨r5, hr5⟩ : ∃ r, r = k % 5 := ⟨_, rfl⟩
          have m71 : ((k : Int).tmod 7) = (r7 : Int) := by rw [hr7]; rfl
          have m72 : ((k : Int) % 7) = (r7 : Int) := by rw [hr7]; rfl
          have m51 : ((k : Int).tmod 5) = (r5 : Int) := by rw [hr5]; rfl
          have m52 : ((k : Int) % 5) = (r5 : Int) := by rw [hr5]; rfl
          have m73 : IntKind.i64.wrap (r7 : Int) = (r7 : Int) := IntWalk.i64_in _ (by omega)
          have m53 : IntKind.i64.wrap (r5 : Int) = (r5 : Int) := IntWalk.i64_in _ (by omega)
          clear hr7 hr5
          go_upto_if 58 with fail
          go_cut [10, 11] (fun u v wx => ∃ (c mc y : Nat) (Z : Nat → Prop), u = .pointer (some ⟨c, 0, none⟩) ∧ v = .pointer (some ⟨y, 0, none⟩) ∧ Hid (CY W wx p m x s Z c mc y))
          case first =>
            have hzl : ∀ j, zOf W p m j → j < wr.heap.size := fun j e => by
              have := hf.size
              have := hp.lt
              rcases e with e | e | e <;> omega
            by_cases e7 : r7 = 3
            · have b7 : ((r7 : Int) == 3) = true := by rw [beq_iff_eq]; omega
              have hcp := Page_Copy hp
              unfold ptr at hcp
              have GCp := Lib.hid hcp
              have GCx := Lib.hid (fun wq (f : Fr none_ wr wq) => (show Calls Try.prog 25 #[.pointer (some ⟨x, 0, none⟩)] wq fun e w' => RCopy wq s e w' from by
                obtain ⟨a, b, c, d, e, f', g, q1, q2⟩ := hx.kept0 f
                exact Rp_Copy q1 hw))
              have HZL := Lib.hid hzl
              have HX := Lib.hid (And.intro hp (And.intro hx hf))
              clear hcp e7 hzl hp hx hf
              go_wp2_with fail
              refine GCp.out.mono ?_
              rintro e w4 ⟨c, mc, rfl, hcc, f4, p1, p2⟩
              go_wp2_with fail
              refine (GCx.out _ f4).mono ?_
              rintro e w5 ⟨y2, ba, ua, ka, bc, uc, kc, Bs, rfl, hy2, hown, f5⟩
              go_wp2_with fail
              go_meet
              case rel =>
                obtain ⟨hp, hx, hf⟩ := HX.out
                have hzl := HZL.out
                have z4 := f4.size
                have z5 := f5.size
                have lc := hcc.lt
                have ly := hy2.lt
                have lp := hp.lt
                refine ⟨c, mc, y2, fun j => zOf W p m j ∨ j = c ∨ j = mc ∨ rown y2 ba ua ka j, rfl, rfl, ⟨⟨(hp.kept f4 (fun e => e) (fun e => e)).kept f5 (fun e => e) (fun e => e), ((hx.more (fun j hj => ?_)).kept0 f4).kept0 f5, Or.inl (Or.inr (Or.inl rfl)), Or.inl (Or.inr (Or.inr rfl)), fun j hj => ?_⟩, fun j hj => Or.inl hj, HG.out.1, HG.out.2, (hf.trans f4).trans f5, Or.inr ⟨hcc.kept f5 (fun e => e) (fun e => e), Or.inr (Or.inl rfl), Or.inr (Or.inr (Or.inl rfl)), fun e => ?_, fun e => ?_, rown y2 ba ua ka, ⟨ba, ua, ka, bc, uc, kc, Bs, hy2, fun j hj => hj⟩, fun j hj => ⟨Or.inr (Or.inr (Or.inr hj)), fun e => ?_⟩⟩⟩⟩
                · rcases hj with e | e | e | e
                  · exact Or.inl e
                  · right; omega
                  · right; omega
                  · right; have := hown j e; omega
                · rcases hj with e | e | e | e
                  · have := hzl j e; omega
                  · omega
                  · omega
                  · exact ly j e
                · rcases e with e | e <;> omega
                · rcases e with e | e <;> omega
                · have := hown j hj; rcases e with e | e <;> omega
            · have b7 : ((r7 : Int) == 3) = false := beq_eq_false_iff_ne.2 (by omega)
              have HX := Lib.hid (And.intro hp (And.intro hx (And.intro hf hzl)))
              clear e7 hzl hp hx hf
              go_wp2_with fail
              go_meet
              case rel =>
                obtain ⟨hp, hx, hf, hzl⟩ := HX.out
                exact ⟨p, m, x, zOf W p m, rfl, rfl, ⟨⟨hp, hx, Or.inr (Or.inl rfl), Or.inr (Or.inr rfl), hzl⟩, fun _ e => e, HG.out.1, HG.out.2, hf, Or.inl ⟨rfl, rfl, rfl⟩⟩⟩
          case rest =>
            obtain ⟨c, mc, y2, Z, rfl, rfl, hcy⟩ := hcut
            obtain ⟨hw', hsl'⟩ := doR_wf (slot := s.slot) (y := y) hw
            have GD := Lib.hid (do_both hcy.out.px hw y hyo)
            have HCY := Lib.hid (fun w' s1 (q : PX w' p m x Z s1) f => hcy.out.step q f)
            generalize doR s.slot y s = s' at GD hw' hsl'
            have hsl2 : s'.slot = sl := hsl'.trans hsl.out
            have GD2 := GD.out
            rw [hsl.out] at GD2
            have GD := Lib.hid GD2
            have d1 := Fr.keep hcy.out.fr HC.out.1
            have d2 := Fr.keep hcy.out.fr HC.out.2.1
            have d3 := Fr.keep hcy.out.fr HC.out.2.2.1
            have d4 := Fr.keep hcy.out.fr HC.out.2.2.2
            have HSL := Lib.hid hsl2
            have HW := Lib.hid (And.intro hw hw')
            have hnn := hw'.nslots
            clear hp hx hf hcy hsl hsl' hsl2 hw hw' GD2 m71 m72 m73
            go_wp2_with fail
            refine GD.out.mono ?_
            rintro e w5 ⟨rfl, hpx, hfd⟩
            obtain ⟨sc, hsc, hz⟩ := HCY.out _ _ hpx hfd
            have hwc : sc.WF := by
              rcases hsc with rfl | rfl
              · exact HW.out.1
              · exact HW.out.2
            have HWC := Lib.hid hwc
            clear hpx hfd GD HCY hsc hwc d1 d2 d3 d4
            obtain ⟨u, hu⟩ : ∃ u : Int, (s'.used : Int) = u := ⟨_, rfl⟩
            obtain ⟨u2, hu2⟩ : ∃ u : Int, ((4096 / s'.slot : Nat) : Int) - (s'.used : Int) = u := ⟨_, rfl⟩
            obtain ⟨u3, hu3⟩ : ∃ u : Int, (sc.used : Int) = u := ⟨_, rfl⟩
            have e1 : (u != u) = false := bne_self_eq_false _
            have e2 : (u2 != u2) = false := bne_self_eq_false _
            have e3 : (u3 != u3) = false := bne_self_eq_false _
            have G1 := Lib.hid (fun wq (h : CZ W wq p m x s' c mc y2 sc) => used_isZ h.page hu)
            have G2 := Lib.hid (fun wq (h : CZ W wq p m x s' c mc y2 sc) => r0_used h.ref.r0 HW.out.2 hu)
            have G3 := Lib.hid (fun wq (h : CZ W wq p m x s' c mc y2 sc) => room_isZ h.page hu2)
            have G4 := Lib.hid (fun wq (h : CZ W wq p m x s' c mc y2 sc) => r0_room h.ref.r0 HW.out.2 hu2)
            have G5 := Lib.hid (fun wq (h : CZ W wq p m x s' c mc y2 sc) => used_isZ h.page2 hu3)
            have G6 := Lib.hid (fun wq (h : CZ W wq p m x s' c mc y2 sc) => r0_used h.ref2 HWC.out hu3)
            clear hu hu2 hu3
            go_wp2_with fail
            refine (G1.out _ hz).mono ?_
            rintro e w6 ⟨rfl, rfl⟩
            go_wp2_with fail
            refine (G2.out _ hz).mono ?_
            rintro e w6 ⟨rfl, rfl⟩
            go_wp2_with fail
            refine (G3.out _ hz).mono ?_
            rintro e w6 ⟨rfl, f6⟩
            have hz6 := hz.skip f6
            clear hz f6
            go_wp2_with fail
            refine (G4.out _ hz6).mono ?_
            rintro e w7 ⟨rfl, f7⟩
            have hz7 := hz6.skip f7
            clear hz6 f7
            go_wp2_with fail
            refine (G5.out _ hz7).mono ?_
            rintro e w8 ⟨rfl, rfl⟩
            go_wp2_with fail
            refine (G6.out _ hz7).mono ?_
            rintro e w8 ⟨rfl, rfl⟩
            clear G1 G2 G3 G4 G5 G6 e1 e2 e3
            go_wp2_with fail
            obtain ⟨ba, ua, ka, bc, uc, kc, Bs, hr, hro⟩ := hz7.ref
            have c2r := hr.c2
            obtain ⟨n, hnE⟩ : ∃ n, n = s'.slots.length := ⟨_, rfl⟩
            rw [← hnE] at c2r hnn
            have hfit : n * sl ≤ 4096 := by have := HW.out.2.fit; rw [HSL.out, ← hnE] at this; exact this
            have HZ := Lib.hid hz7
            have HC2 := Lib.hid c2r
            have hf7 : Fr none_ w7 w7 := Fr.refl _ _
            clear hr hro hnE c2r hz7
            go_loopw [12] (fun j wx => ∃ q : Nat, Hid (q ≤ n) ∧ j = .int .i64 q ∧ Hid (Fr none_ w7 wx)) (fun j _ => n - (intOf j).toNat)
            case atStart => exact ⟨0, Nat.zero_le _, rfl, hf7⟩
            case round =>
              obtain ⟨q, hqn, rfl, hfq⟩ := hrel
              clear hf7
              have cr := Fr.keep hfq.out HC2.out
              have hzq := HZ.out.skip hfq.out
              by_cases e5 : r5 = 4
              · have b5 : ((r5 : Int) == 4) = true := by rw [beq_iff_eq]; omega
                by_cases hlq : q < n
                · obtain ⟨P, hP⟩ : ∃ P, P = q * sl := ⟨_, rfl⟩
                  have hPb : P < 65536 := by
                    have : q * sl ≤ n * sl := Nat.mul_le_mul_right _ (by omega)
                    omega
                  have hm1 : IntKind.i64.wrap ((q : Int) * (sl : Int)) = (P : Int) := by rw [← Int.natCast_mul, ← hP]; exact i64_small P hPb
                  have hm2 : wrap64 ((q : Int) * (sl : Int)) = (P : Int) := by rw [← Int.natCast_mul, ← hP]; exact w64_small P hPb
                  have hm3 : IntKind.u16.wrap (P : Int) = (P : Int) := u16_small P hPb
                  obtain ⟨T1, hT1⟩ : ∃ T, strOf (readR s' P).1 = T := ⟨_, rfl⟩
                  obtain ⟨E1, hE1⟩ : ∃ E : Int, ((readR s' P).2 : Int) = E := ⟨_, rfl⟩
                  obtain ⟨T2, hT2⟩ : ∃ T, strOf (readR sc P).1 = T := ⟨_, rfl⟩
                  obtain ⟨E2, hE2⟩ : ∃ E : Int, ((readR sc P).2 : Int) = E := ⟨_, rfl⟩
                  obtain ⟨bI, hbI⟩ : ∃ bI, (s'.at_ P).isSome = bI := ⟨_, rfl⟩
                  have e1 : (E1 != E1) = false := bne_self_eq_false _
                  have e2 : (E2 != E2) = false := bne_self_eq_false _
                  have e3 : (bI != bI) = false := bne_self_eq_false _
                  have R1 := Lib.hid (fun wq (h : CZ W wq p m x s' c mc y2 sc) => read_isZ h.page P hT1 hE1)
                  have R2 := Lib.hid (fun wq (h : CZ W wq p m x s' c mc y2 sc) => r0_read h.ref.r0 HW.out.2 P hPb hT1 hE1)
                  have R3 := Lib.hid (fun wq (h : CZ W wq p m x s' c mc y2 sc) => read_isZ h.page2 P hT2 hE2)
                  have R4 := Lib.hid (fun wq (h : CZ W wq p m x s' c mc y2 sc) => r0_read h.ref2 HWC.out P hPb hT2 hE2)
                  have R5 := Lib.hid (fun wq (h : CZ W wq p m x s' c mc y2 sc) => is_isZ h.page P hbI)
                  have R6 := Lib.hid (fun wq (h : CZ W wq p m x s' c mc y2 sc) => r0_is h.ref.r0 HW.out.2 P hPb hbI)
                  clear hT1 hE1 hT2 hE2 hbI hP e5
                  go_wp2_with fail
                  refine (R1.out _ hzq).mono ?_
                  rintro e w8 ⟨rfl, f8⟩
                  have hz8 := hzq.skip f8
                  clear hzq
                  go_wp2_with fail
                  refine (R2.out _ hz8).mono ?_
                  rintro e w9 ⟨rfl, rfl⟩
                  go_wp2_with fail
                  refine (R3.out _ hz8).mono ?_
                  rintro e w9 ⟨rfl, f9⟩
                  have hz9 := hz8.skip f9
                  clear hz8
                  go_wp2_with fail
                  refine (R4.out _ hz9).mono ?_
                  rintro e wA ⟨rfl, rfl⟩
                  go_wp2_with fail
                  refine (R5.out _ hz9).mono ?_
                  rintro e wA ⟨rfl, fA⟩
                  have hzA := hz9.skip fA
                  clear hz9
                  have HFA := Lib.hid (((hfq.out.trans f8).trans f9).trans fA)
                  clear f8 f9 fA R1 R2 R3 R4 R5
                  go_wp2_with fail
                  refine (R6.out _ hzA).mono ?_
                  rintro e wB ⟨rfl, rfl⟩
                  clear R6
                  go_wp2_with (first | ((with_reducible refine at_slot 145 ?_); refine wpNeqStr rfl _ _ _ _ rfl T1 T1 rfl rfl ?_) | ((with_reducible refine at_slot 155 ?_); refine wpNeqStr rfl _ _ _ _ rfl T2 T2 rfl rfl ?_))
                  go_roundw
                  case rel => exact ⟨q + 1, hlq, by go_num, HFA.out⟩
                  case measure => simp [intOf]; omega
                · go_wp2_with fail
                  go_roundw
                  case rel => exact ⟨k + 1, s', hlt, by go_num, HW.out.2, HSL.out, hzq.page, hzq.ref, hzq.fr⟩
                  case measure => simp [intOf]; omega
              · have b5 : ((r5 : Int) == 4) = false := beq_eq_false_iff_ne.2 (by omega)
                by_cases hlq : q < n
                · go_wp2_with fail
                  go_roundw
                  case rel => exact ⟨k + 1, s', hlt, by go_num, HW.out.2, HSL.out, hzq.page, hzq.ref, hzq.fr⟩
                  case measure => simp [intOf]; omega
                · go_wp2_with fail
                  go_roundw
                  case rel => exact ⟨k + 1, s', hlt, by go_num, HW.out.2, HSL.out, hzq.page, hzq.ref, hzq.fr⟩
                  case measure => simp [intOf]; omega
        · go_wp2_with fail
          refine (awake_any _).mono ?_
          rintro e w4 ⟨rfl, f4⟩
          go_wp2_with fail
          go_ret
          exact ⟨rfl, hf.trans f4⟩
end Go.Proofs.Ytdbnopfpopeefaa
