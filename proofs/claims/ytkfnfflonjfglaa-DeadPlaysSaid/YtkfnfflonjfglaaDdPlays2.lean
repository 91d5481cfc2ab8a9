/-
  DeadPlays (P10.1, P10.2): the walk.
-/
import Derived.Test.YtkfnfflonjfglaaDdPlays
import Derived.Deep.DeepCutAuto
import Derived.Deep.CutBlock
import Derived.Deep.RegionHeld3
namespace Go.Proofs.Ytkfnfflonjfglaa
open Go.RowKit
set_option linter.unusedVariables false
set_option linter.unusedSimpArgs false
set_option maxRecDepth 100000

theorem SlAt.setAny {w : World} {g n cap size : Nat} {e : TypeId} {xs : List Value} (h : SlAt w (some ⟨g, 0, none⟩) n cap e size xs) (i : Nat) (v : Value) : SlAt (w.setCell ⟨g, i, none⟩ v) (some ⟨g, 0, none⟩) n cap e size (xs.set i v) := by
  obtain ⟨h1, h2, h3, h4, h5⟩ := h
  refine ⟨by rw [List.length_set]; exact h1, h2, h3, h4, ?_⟩
  intro ad had
  cases had
  obtain ⟨q1, q2, cur, q3, q4, q5⟩ := h5 _ rfl
  refine ⟨rfl, rfl, _, q3.set i v, by rw [Array.size_setIfInBounds]; exact q4, ?_⟩
  rw [Array.toList_setIfInBounds, List.take_set, q5]
theorem add_isZ {w : World} {d m : Nat} {s : DS} (h : DeadAt w d m s) (hw : s.WF) (t : Int) {q : Int} (hq : ((dAdd s t).1 : Int) = q) : Calls Try.prog 14 #[.pointer (some ⟨d, 0, none⟩), .int .i64 t] w fun e w' => e = .returned (.int .i64 q) ∧ DeadAt w' d m (dAdd s t).2 ∧ Fr (two d m) w w' := by
  subst hq; exact Dead_Add h hw.max t (hw.le64 t)
theorem less_isZ {w : World} {d m : Nat} {s : DS} (h : DeadAt w d m s) (hw : s.WF) (t : Int) {b : Bool} (hb : (dLess s t).1 = b) : Calls Try.prog 16 #[.pointer (some ⟨d, 0, none⟩), .int .i64 t] w fun e w' => e = .returned (.bool b) ∧ DeadAt w' d m (dLess s t).2 ∧ Fr (two d m) w w' := by
  subst hb; exact Dead_Less h hw.max t (hw.le_all t)

set_option maxHeartbeats 16000000 in
theorem walk_DeadPlays (W : World) (a1 : Option Addr) (c1 : Nat) (l1 : List StepV) (h1 : StepsAt W a1 l1) :
   Calls Try.prog 6 #[.slice a1 l1.length c1] W fun e w' => e = .returned (.bool true) ∧ Fr none_ W w' := by
  have Hworks := Lib.hid works_any
  have H1 := Lib.hid h1
  have Hlen := Lib.hid h1.len
  clear h1
  by_cases hl : 300 < l1.length
  · go_enter Try.func6, Try.ntmps6
    go_wp2_with fail
    refine (Hworks.out _).mono ?_
    rintro e w1 ⟨rfl, f1⟩
    go_wp2_with fail
    go_ret
    exact ⟨rfl, f1⟩
  · have hl' : l1.length ≤ 300 := by omega
    go_enter Try.func6, Try.ntmps6
    go_wp2_with fail
    refine (Dead_New _).mono ?_
    rintro e w1 ⟨d, m, rfl, hA, fA, g1, g2⟩
    go_wp2_with fail
    refine (Ref_New _).mono ?_
    rintro e w2 ⟨r, rfl, hB, fB, g3⟩
    have hx0 : DX W d m r ⟨[], 0⟩ [] w2 := by
      have lt1 := hA.lt
      have z := fA.size
      exact ⟨hA.kept0 fB, ⟨_, _, hB, fun k hk => absurd hk (blk_none k)⟩, g1, g2, by omega, by omega, by omega, fA.trans fB⟩
    clear hA fA g1 g2 hB fB g3
    go_wp2_with fail
    go_loopw [5] (fun i wr => ∃ (k : Nat) (s : DS) (l : List Int), Hid (k ≤ l1.length) ∧ i = .int .i64 k ∧ Hid (Lnk s l) ∧ DX W d m r s l wr) (fun i _ => l1.length - (intOf i).toNat)
    case atStart => exact ⟨0, _, _, Nat.zero_le _, rfl, Lnk.new, hx0⟩
    case round =>
      obtain ⟨k, s, l, hk, rfl, hL, hx⟩ := hrel
      clear hx0
      have hlb : l.length ≤ 1000 := by rw [hL.out.len]; have := hL.out.wf.max; omega
      by_cases hlt : k < l1.length
      · obtain ⟨y, hy⟩ : ∃ y, l1[k]? = some y := ⟨l1[k], List.getElem?_eq_getElem hlt⟩
        have hyo := H1.out.ok y (List.mem_of_getElem? hy)
        rcases H1.out.at_ with h0 | ⟨b, o, rfl, hb, hc⟩
        · rw [h0] at hlt; exact absurd hlt (by simp)
        have HC := Lib.hid (hc k y hy)
        clear hy hc
        have GC := Lib.hid (Dead_Copy hx.dead)
        have GY := Lib.hid (fun w' (f : Fr none_ wr w') => xs_copy (hx.ref.kept0 f) hlb)
        go_wp2_with fail
        refine GC.out.mono ?_
        rintro e w4 ⟨d2, m2, rfl, hd2, f2, p1, p2⟩
        go_wp2_with fail
        refine (GY.out _ f2).mono ?_
        rintro e w5 ⟨r2, rfl, p3, f3, hY⟩
        have hq0 : DQ W d m r s l d2 m2 r2 s l w5 := by
          have ltd := hx.dead.lt
          have ltr := hx.ref.lt
          have lt2 := hd2.lt
          have z := f2.size
          refine ⟨(hx.skip f2).skip f3, hd2.kept0 f3, hY _ (fun j hj => ?_), ⟨by omega, by omega, by omega⟩, ⟨by omega, by omega, by omega⟩, ⟨by omega, by omega, by omega⟩⟩
          rcases hj with (rfl | rfl) | rfl <;> omega
        clear GC GY hd2 f2 p1 p2 p3 f3 hY hx
        have d0 := Fr.keep hq0.back HC.out.1
        have hyw := hyo.what
        go_upto_block 2 with fail
        go_cut [8] (fun u wx => ∃ (s1 : DS) (l2 : List Int), u = .bool true ∧ Hid (Lnk s1 l2) ∧ DQ W d m r s1 l2 d2 m2 r2 s l wx)
        case first =>
          by_cases k0 : y.what = 0
          · have b0 : ((y.what : Int) == 0) = true := by rw [beq_iff_eq]; omega
            clear k0
            have hw := hL.out.wf
            obtain ⟨q1, q2⟩ := hL.out.add y.n
            have HQ2 := Lib.hid q2
            obtain ⟨v, hv1⟩ : ∃ v : Int, (((dAdd s y.n).1 : Int)) = v := ⟨_, rfl⟩
            have hv2 : ((rAdd l y.n).1 : Int) = v := by rw [← hv1, q1]
            have GD := Lib.hid (fun wq lq (h : DQ W d m r s lq d2 m2 r2 s l wq) => (show Calls Try.prog 14 #[.pointer (some ⟨d, 0, none⟩), .int .i64 y.n] wq fun e w' => e = .returned (.int .i64 v) ∧ DQ W d m r (dAdd s y.n).2 lq d2 m2 r2 s l w' from (add_isZ h.now.dead hw y.n hv1).mono fun e w' q => ⟨q.1, h.turnD q.2.1 q.2.2⟩))
            have GX := Lib.hid (fun wq sq (h : DQ W d m r sq l d2 m2 r2 s l wq) => (show Calls Try.prog 23 #[.pointer (some ⟨r, 0, none⟩), .int .i64 y.n] wq fun e w' => e = .returned (.int .i64 v) ∧ DQ W d m r sq (rAdd l y.n).2 d2 m2 r2 s l w' from (xs_add h.now.ref h.now.zlt hlb y.n hv2).mono fun e w' q => ⟨q.1, h.turnX q.2.1 q.2.2⟩))
            have hvv : (v == v) = true := beq_self_eq_true _
            generalize (dAdd s y.n).2 = s1 at GD HQ2
            generalize (rAdd l y.n).2 = l2 at GX HQ2
            clear q1 q2 hv1 hv2 hw
            go_wp2_with fail
            go_region_held3 (fun w' => w'.cell? ⟨b, o + k * 2 + 1, none⟩ = some (.int .i64 y.n))
              (first | exact Fr.keep hq6.back HC.out.2 | exact Fr.keep hq5.back HC.out.2 | exact Fr.keep (hq0.skip (Fr.drew _ _)).back HC.out.2 | exact Fr.keep hq0.back HC.out.2)
              (first | (go_at_call 14; refine (GD.out _ _ hq6).mono ?_; rintro e w6 ⟨rfl, hq5⟩) | (go_at_call 14; refine (GD.out _ _ (hq0.skip (Fr.drew _ _))).mono ?_; rintro e w6 ⟨rfl, hq5⟩) | (go_at_call 23; refine (GX.out _ _ hq5).mono ?_; rintro e w7 ⟨rfl, hq6⟩) | (go_at_call 23; refine (GX.out _ _ (hq0.skip (Fr.drew _ _))).mono ?_; rintro e w7 ⟨rfl, hq6⟩))
            all_goals
              go_wp2_with fail
              go_meet
              case rel => first | exact ⟨s1, l2, rfl, HQ2.out, hq6⟩ | exact ⟨s1, l2, rfl, HQ2.out, hq5⟩
          by_cases k1 : y.what = 1
          · have b0 : ((y.what : Int) == 0) = false := beq_eq_false_iff_ne.2 (by omega)
            have b1 : ((y.what : Int) == 1) = true := by rw [beq_iff_eq]; omega
            clear k1 k0
            have hw := hL.out.wf
            obtain ⟨q1, q2⟩ := hL.out.less y.n
            have HQ2 := Lib.hid q2
            obtain ⟨v, hv1⟩ : ∃ v : Bool, (dLess s y.n).1 = v := ⟨_, rfl⟩
            have hv2 : decide (y.n ∈ l) = v := by rw [← hv1, q1]
            have GD := Lib.hid (fun wq lq (h : DQ W d m r s lq d2 m2 r2 s l wq) => (show Calls Try.prog 16 #[.pointer (some ⟨d, 0, none⟩), .int .i64 y.n] wq fun e w' => e = .returned (.bool v) ∧ DQ W d m r (dLess s y.n).2 lq d2 m2 r2 s l w' from (less_isZ h.now.dead hw y.n hv1).mono fun e w' q => ⟨q.1, h.turnD q.2.1 q.2.2⟩))
            have GX := Lib.hid (fun wq sq (h : DQ W d m r sq l d2 m2 r2 s l wq) => (show Calls Try.prog 24 #[.pointer (some ⟨r, 0, none⟩), .int .i64 y.n] wq fun e w' => e = .returned (.bool v) ∧ DQ W d m r sq (l.erase y.n) d2 m2 r2 s l w' from (xs_less h.now.ref h.now.zlt hlb y.n hv2).mono fun e w' q => ⟨q.1, h.turnX q.2.1 q.2.2⟩))
            have hvv : (v == v) = true := beq_self_eq_true _
            generalize (dLess s y.n).2 = s1 at GD HQ2
            generalize (l.erase y.n) = l2 at GX HQ2
            clear q1 q2 hv1 hv2 hw
            go_wp2_with fail
            go_region_held3 (fun w' => w'.cell? ⟨b, o + k * 2 + 1, none⟩ = some (.int .i64 y.n))
              (first | exact Fr.keep hq6.back HC.out.2 | exact Fr.keep hq5.back HC.out.2 | exact Fr.keep (hq0.skip (Fr.drew _ _)).back HC.out.2 | exact Fr.keep hq0.back HC.out.2)
              (first | (go_at_call 16; refine (GD.out _ _ hq6).mono ?_; rintro e w6 ⟨rfl, hq5⟩) | (go_at_call 16; refine (GD.out _ _ (hq0.skip (Fr.drew _ _))).mono ?_; rintro e w6 ⟨rfl, hq5⟩) | (go_at_call 24; refine (GX.out _ _ hq5).mono ?_; rintro e w7 ⟨rfl, hq6⟩) | (go_at_call 24; refine (GX.out _ _ (hq0.skip (Fr.drew _ _))).mono ?_; rintro e w7 ⟨rfl, hq6⟩))
            all_goals
              go_wp2_with fail
              go_meet
              case rel => first | exact ⟨s1, l2, rfl, HQ2.out, hq6⟩ | exact ⟨s1, l2, rfl, HQ2.out, hq5⟩
          · have b0 : ((y.what : Int) == 0) = false := beq_eq_false_iff_ne.2 (by omega)
            have b1 : ((y.what : Int) == 1) = false := beq_eq_false_iff_ne.2 (by omega)
            have k0' : ¬ (y.what : Int) = 0 := by omega
            have k1' : ¬ (y.what : Int) = 1 := by omega
            clear k0 k1
            have hw := hL.out.wf
            obtain ⟨q1, q2⟩ := hL.out.pass y.n
            have HQ2 := Lib.hid q2
            obtain ⟨v, hv1⟩ : ∃ v : Int, ((dPass s y.n).1 : Int) = v := ⟨_, rfl⟩
            have hv2 : (l.length : Int) - ((l.filter (fun x => decide (y.n < x))).length : Int) = v := by rw [← hv1, q1]
            have GD := Lib.hid (fun wq lq (h : DQ W d m r s lq d2 m2 r2 s l wq) => (show Calls Try.prog 17 #[.pointer (some ⟨d, 0, none⟩), .int .i64 y.n] wq fun e w' => e = .returned (.int .i64 v) ∧ DQ W d m r (dPass s y.n).2 lq d2 m2 r2 s l w' from (pass_isI h.now.dead hw y.n hv1).mono fun e w' q => ⟨q.1, h.turnD q.2.1 q.2.2⟩))
            have GX := Lib.hid (fun wq sq (h : DQ W d m r sq l d2 m2 r2 s l wq) => (show Calls Try.prog 25 #[.pointer (some ⟨r, 0, none⟩), .int .i64 y.n] wq fun e w' => e = .returned (.int .i64 v) ∧ DQ W d m r sq (l.filter (fun x => decide (y.n < x))) d2 m2 r2 s l w' from (xs_pass h.now.ref h.now.zlt hlb y.n hv2).mono fun e w' q => ⟨q.1, h.turnX q.2.1 q.2.2⟩))
            have hvv : (v == v) = true := beq_self_eq_true _
            generalize (dPass s y.n).2 = s1 at GD HQ2
            generalize (l.filter (fun x => decide (y.n < x))) = l2 at GX HQ2
            clear q1 q2 hv1 hv2 hw
            go_wp2_with fail
            go_region_held3 (fun w' => w'.cell? ⟨b, o + k * 2 + 1, none⟩ = some (.int .i64 y.n))
              (first | exact Fr.keep hq6.back HC.out.2 | exact Fr.keep hq5.back HC.out.2 | exact Fr.keep (hq0.skip (Fr.drew _ _)).back HC.out.2 | exact Fr.keep hq0.back HC.out.2)
              (first | (go_at_call 17; refine (GD.out _ _ hq6).mono ?_; rintro e w6 ⟨rfl, hq5⟩) | (go_at_call 17; refine (GD.out _ _ (hq0.skip (Fr.drew _ _))).mono ?_; rintro e w6 ⟨rfl, hq5⟩) | (go_at_call 25; refine (GX.out _ _ hq5).mono ?_; rintro e w7 ⟨rfl, hq6⟩) | (go_at_call 25; refine (GX.out _ _ (hq0.skip (Fr.drew _ _))).mono ?_; rintro e w7 ⟨rfl, hq6⟩))
            all_goals
              go_wp2_with fail
              go_meet
              case rel => first | exact ⟨s1, l2, rfl, HQ2.out, hq6⟩ | exact ⟨s1, l2, rfl, HQ2.out, hq5⟩
        case rest =>
          obtain ⟨s1, l2, rfl, hL1, hq⟩ := hcut
          have hl2 : l2.length ≤ 1000 := by rw [hL1.out.len]; have := hL1.out.wf.max; omega
          have GL := Lib.hid (fun wq (h : DQ W d m r s1 l2 d2 m2 r2 s l wq) p q (hpq : (p = d ∧ q = r) ∨ (p = d2 ∧ q = r2)) => (show Calls Try.prog 26 #[.pointer (some ⟨p, 0, none⟩), .pointer (some ⟨q, 0, none⟩)] wq fun e w' => e = .returned (.bool true) ∧ Fr none_ wq w' by
            rcases hpq with ⟨rfl, rfl⟩ | ⟨rfl, rfl⟩
            · exact xs_like h.now.dead h.now.ref hL1.out
            · exact xs_like h.dead h.ref hL.out))
          obtain ⟨v, hv1⟩ : ∃ v : Int, (s1.cnt y.n : Int) = v := ⟨_, rfl⟩
          have hv2 : (l2.count y.n : Int) = v := by rw [hL1.out.cnt]; exact hv1
          have GO1 := Lib.hid (fun wq (h : DQ W d m r s1 l2 d2 m2 r2 s l wq) => of_is h.now.dead y.n hv1)
          have GO2 := Lib.hid (fun wq (h : DQ W d m r s1 l2 d2 m2 r2 s l wq) => xs_of h.now.ref hl2 y.n hv2)
          have hvv : (v != v) = false := bne_self_eq_false _
          have cS := Fr.keep hq.back HC.out.2
          clear hv1 hv2 hq0 d0 hyw
          go_wp2_with fail
          go_region_held3 (fun w' => DQ W d m r s1 l2 d2 m2 r2 s l w' ∧ w'.cell? ⟨b, o + k * 2 + 1, none⟩ = some (.int .i64 y.n))
            (first | (go_split_ands; refine ⟨?_, ?_⟩; exact DQ.skip (by assumption) f6; exact Fr.keep f6 (by assumption)) | (go_split_ands; refine ⟨?_, ?_⟩; exact DQ.skip (by assumption) (Fr.drew _ _); assumption) | (go_split_ands; constructor <;> assumption))
            (first | (go_at_call 26; refine (GL.out _ (And.left (by assumption)) _ _ (by first | exact Or.inl ⟨rfl, rfl⟩ | exact Or.inr ⟨rfl, rfl⟩)).mono ?_; rintro e w6 ⟨rfl, f6⟩) | (go_at_call 18; refine (GO1.out _ (And.left (by assumption))).mono ?_; rintro e w6 ⟨rfl, rfl⟩) | (go_at_call 27; refine (GO2.out _ (And.left (by assumption))).mono ?_; rintro e w6 ⟨rfl, rfl⟩))
          rename_i hh
          obtain ⟨hqF, _⟩ := hh
          have hx7 := hqF.now
          have gcn := Dead_Counts hx7.dead hL1.out.wf.wfk (by have := hL1.out.wf.len; omega) hL1.out.wf.le64
          obtain ⟨n, hn⟩ : ∃ n, n = s1.of.length := ⟨_, rfl⟩
          have hn64 : n ≤ 64 := by rw [hn]; exact hL1.out.wf.len
          rw [← hn] at gcn
          have GCN := Lib.hid gcn
          clear hn gcn hqF cS GL GO1 GO2 hq
          go_wp2_with fail
          refine GCN.out.mono ?_
          rintro e w8 ⟨ca, cap, rfl, hsl, f8, hnew⟩
          have hx8 := hx7.skip f8
          have hz8 : Xs w8 r (fun k => two d m k ∨ blk ca k) l2 := by
            obtain ⟨xa, xc, xr, xz⟩ := hx7.ref
            refine ⟨xa, xc, xr.kept0 f8, fun j hj e => ?_⟩
            rcases e with e | e
            · exact xz j hj e
            · have := xr.sl.lt j hj; have := hnew j e; omega
          have hsz := hx7.dead.lt
          have hnw : ∀ k, blk ca k → W.heap.size ≤ k ∧ k ≠ d ∧ k ≠ m ∧ k ≠ r := fun k hk => by
            have := hnew k hk
            have := hx7.fr.size
            have := hx7.ref.lt
            omega
          have HB := Lib.hid (show W.heap.size ≤ d ∧ W.heap.size ≤ m ∧ W.heap.size ≤ r ∧ d ≠ r ∧ m ≠ r from ⟨hx7.ld, hx7.lm, hx7.lr, hx7.nd, hx7.nm⟩)
          clear hnew hsz GCN f8 hx7
          have HNW := Lib.hid hnw
          clear hnw
          have hr0 : ∃ xs, SlAt w8 ca n cap 45 2 xs := ⟨_, hsl⟩
          have hd0 : DeadAt w8 d m s1 ∧ Xs w8 r (fun k => two d m k ∨ blk ca k) l2 ∧ Fr none_ W w8 := ⟨hx8.dead, hz8, hx8.fr⟩
          clear hsl hx8 hz8
          go_wp2_with fail
          go_loopw [10] (fun i wx => ∃ q : Nat, Hid (q ≤ n) ∧ i = .int .i64 q ∧ (∃ xs, SlAt wx ca n cap 45 2 xs) ∧ DeadAt wx d m s1 ∧ Xs wx r (fun k => two d m k ∨ blk ca k) l2 ∧ Fr none_ W wx) (fun i _ => n - (intOf i).toNat)
          case atStart => exact ⟨0, Nat.zero_le _, rfl, hr0, hd0⟩
          case round =>
            obtain ⟨q, hqn, rfl, ⟨xs, hs⟩, hxd, hxx, hxf⟩ := hrel
            clear hr0 hd0
            by_cases hlt2 : q < n
            · obtain ⟨g, rfl⟩ := hs.isAddr (by omega)
              have hxl : q * 2 + 1 < xs.length := by rw [hs.1]; omega
              have cx := hs.cell (i := q * 2 + 1) (List.getElem?_eq_getElem hxl)
              have fx := hs.free (q * 2 + 1)
              have hs2 := hs.setAny (q * 2 + 1) (.int .i64 99)
              have hgn := HNW.out g ((blk_some g 0 g).2 rfl)
              have hx2 : DeadAt (wr.setCell ⟨g, q * 2 + 1, none⟩ (.int .i64 99)) d m s1 ∧ Xs (wr.setCell ⟨g, q * 2 + 1, none⟩ (.int .i64 99)) r (fun k => two d m k ∨ blk (some ⟨g, 0, none⟩) k) l2 ∧ Fr none_ W (wr.setCell ⟨g, q * 2 + 1, none⟩ (.int .i64 99)) := by
                have f : Fr (one g) wr (wr.setCell ⟨g, q * 2 + 1, none⟩ (.int .i64 99)) := Fr.setCell _ _ _ _ (fun _ => rfl)
                refine ⟨hxd.kept f (fun e => hgn.2.1 e.symm) (fun e => hgn.2.2.1 e.symm), hxx.kept f (fun j e => Or.inr ((blk_some g 0 j).2 e.symm)) (fun e => hgn.2.2.2 e.symm), hxf.step f (fun i hi e => by have := hgn.1; cases e; omega)⟩
              generalize xs[q * 2 + 1] = xv at cx
              have HS2 := Lib.hid hs2
              have HX2 := Lib.hid hx2
              clear hs2 hx2 hxl hgn hs hxd hxx hxf
              go_wp2_with fail
              go_roundw
              case rel => exact ⟨q + 1, hlt2, by go_num, ⟨_, HS2.out⟩, HX2.out.1, HX2.out.2.1, HX2.out.2.2⟩
              case measure => simp [intOf]; omega
            · have hxq : DX W d m r s1 l2 wr := by
                obtain ⟨xa, xc, xr, xz⟩ := hxx
                obtain ⟨b1, b2, b3, b4, b5⟩ := HB.out
                exact ⟨hxd, ⟨xa, xc, xr, fun j hj e => xz j hj (Or.inl e)⟩, b1, b2, b3, b4, b5, hxf⟩
              clear hxd hxx hxf hs
              go_wp2_with fail
              go_roundw
              case rel => exact ⟨k + 1, s1, l2, hlt, by go_num, hL1.out, hxq⟩
              case measure => simp [intOf]; omega
      · have GL := Lib.hid (xs_like hx.dead hx.ref hL.out)
        go_wp2_with fail
        refine GL.out.mono ?_
        rintro e w3 ⟨rfl, f3⟩
        go_wp2_with fail
        refine (Hworks.out _).mono ?_
        rintro e w4 ⟨rfl, f4⟩
        go_wp2_with fail
        go_ret
        exact ⟨rfl, (hx.fr.trans f3).trans f4⟩
end Go.Proofs.Ytkfnfflonjfglaa
