/-
  ArenaCopies (P4.7): what is done to a copy is not seen, and comes to the same when it is done to what was copied.
-/
import Derived.Test.YtncajdefjammiaaArCopyMine
namespace Go.Proofs.Ytncajdefjammiaa
open Go.RowKit
set_option linter.unusedVariables false
set_option linter.unusedSimpArgs false
set_option maxRecDepth 100000

/-- Three arenas and the row of the handles that were told, all apart, behind what was there. -/
structure P3 (W : World) (x : Nat) (s : AS) (F : Nat → Prop) (y : Nat) (t : AS) (G : Nat → Prop) (z : Nat) (u : AS) (K : Nat → Prop) (told : List Nat) (ta : Option Addr) (n tc : Nat) (wr : World) : Prop where
  a1 : Ar F wr x s
  a2 : Ar G wr y t
  a3 : Ar K wr z u
  ts : SlAt wr ta n tc 32 1 (told.map vH)
  fr : Fr none_ W wr
  d12 : ∀ k, F k → ¬ G k
  d13 : ∀ k, F k → ¬ K k
  d23 : ∀ k, G k → ¬ K k
  dT1 : ∀ k, F k → ¬ blk ta k
  dT2 : ∀ k, G k → ¬ blk ta k
  dT3 : ∀ k, K k → ¬ blk ta k
  b1 : ∀ k, F k → W.heap.size ≤ k
  b2 : ∀ k, G k → W.heap.size ≤ k
  b3 : ∀ k, K k → W.heap.size ≤ k
section
variable {W wr w1 : World} {x y z : Nat} {s s' t t' u : AS} {F F' G G' K : Nat → Prop} {told : List Nat} {ta : Option Addr} {n tc : Nat}
theorem P3.skip (h : P3 W x s F y t G z u K told ta n tc wr) (f : Fr none_ wr w1) : P3 W x s F y t G z u K told ta n tc w1 :=
  ⟨h.a1.kept0 f, h.a2.kept0 f, h.a3.kept0 f, h.ts.kept0 f, h.fr.trans f, h.d12, h.d13, h.d23, h.dT1, h.dT2, h.dT3, h.b1, h.b2, h.b3⟩
theorem P3.turn1 (h : P3 W x s F y t G z u K told ta n tc wr) (ha : Ar F' w1 x s') (f : Fr F wr w1) (g : Grow F F' wr) : P3 W x s' F' y t G z u K told ta n tc w1 := by
  have hz := h.fr.size
  refine ⟨ha, h.a2.kept f (fun k hk e => h.d12 k e hk), h.a3.kept f (fun k hk e => h.d13 k e hk), h.ts.kept f (fun k hk e => h.dT1 k e hk), h.fr.step f (fun i hi e => by have := h.b1 i e; omega), ?_, ?_, h.d23, ?_, h.dT2, h.dT3, ?_, h.b2, h.b3⟩
  · intro k hk e
    rcases g k hk with q | q
    · exact h.d12 k q e
    · have := h.a2.lt k e; omega
  · intro k hk e
    rcases g k hk with q | q
    · exact h.d13 k q e
    · have := h.a3.lt k e; omega
  · intro k hk e
    rcases g k hk with q | q
    · exact h.dT1 k q e
    · have := h.ts.lt k e; omega
  · intro k hk
    rcases g k hk with q | q
    · exact h.b1 k q
    · omega
theorem P3.turn2 (h : P3 W x s F y t G z u K told ta n tc wr) (ha : Ar G' w1 y t') (f : Fr G wr w1) (g : Grow G G' wr) : P3 W x s F y t' G' z u K told ta n tc w1 := by
  have hz := h.fr.size
  refine ⟨h.a1.kept f (fun k hk e => h.d12 k hk e), ha, h.a3.kept f (fun k hk e => h.d23 k e hk), h.ts.kept f (fun k hk e => h.dT2 k e hk), h.fr.step f (fun i hi e => by have := h.b2 i e; omega), ?_, h.d13, ?_, h.dT1, ?_, h.dT3, h.b1, ?_, h.b3⟩
  · intro k hk e
    rcases g k e with q | q
    · exact h.d12 k hk q
    · have := h.a1.lt k hk; omega
  · intro k hk e
    rcases g k hk with q | q
    · exact h.d23 k q e
    · have := h.a3.lt k e; omega
  · intro k hk e
    rcases g k hk with q | q
    · exact h.dT2 k q e
    · have := h.ts.lt k e; omega
  · intro k hk
    rcases g k hk with q | q
    · exact h.b2 k q
    · omega
end
/-- Two copies are made of an arena. -/
theorem P3.of {W wr w1 w2 : World} {x y z : Nat} {s : AS} {F G K : Nat → Prop} {told : List Nat} {ta : Option Addr} {n tc : Nat} (h : P2 W x s F told ta n tc 4 [] none 0 0 wr) (hy : Ar G w1 y s) (f1 : Fr none_ wr w1) (g1 : ∀ k, G k → wr.heap.size ≤ k) (hz : Ar K w2 z s) (f2 : Fr none_ w1 w2) (g2 : ∀ k, K k → w1.heap.size ≤ k) :
    P3 W x s F y s G z s K told ta n tc w2 := by
  have h0 := h.fr.size
  have h1 := f1.size
  refine ⟨(h.ar.kept0 f1).kept0 f2, hy.kept0 f2, hz, (h.ts.kept0 f1).kept0 f2, (h.fr.trans f1).trans f2, ?_, ?_, ?_, h.dT, ?_, ?_, h.bF, ?_, ?_⟩
  · intro k hk e; have := h.ar.lt k hk; have := g1 k e; omega
  · intro k hk e; have := h.ar.lt k hk; have := g2 k e; omega
  · intro k hk e; have := hy.lt k hk; have := g2 k e; omega
  · intro k hk e; have := g1 k hk; have := h.ts.lt k e; omega
  · intro k hk e; have := g2 k hk; have := h.ts.lt k e; omega
  · intro k hk; have := g1 k hk; omega
  · intro k hk; have := g2 k hk; omega

/-- What steps of handles that are told already make of an arena. -/
def goes (told : List Nat) (s : AS) (l : List StepV) (k : Nat) : AS := (l.take k).foldl (fun s x => (x.does told s).2.2) s
theorem goes_succ (told : List Nat) (s : AS) (l : List StepV) (k : Nat) (x : StepV) (h : l[k]? = some x) : goes told s l (k + 1) = (x.does told (goes told s l k)).2.2 := by
  unfold goes; rw [take_succ_get l k x h, List.foldl_append]; rfl
theorem goes_upto {N : Nat} {told : List Nat} {s : AS} (h : Upto N s) (l : List StepV) : ∀ k, k ≤ l.length → Upto (N + k) (goes told s l k) := by
  intro k
  induction k with
  | zero => intro _; exact h
  | succ k ih =>
    intro hk
    rw [goes_succ told s l k _ (List.getElem?_eq_getElem (by omega))]
    exact (ih (by omega)).does _ _

set_option maxHeartbeats 8000000 in
theorem walk_ArenaCopies (W : World) (slot : Int) (ws : (Lit.int .i64 slot).wf = true) (a1 : Option Addr) (c1 : Nat) (l1 : List StepV) (h1 : StepsAt W a1 l1) (a2 : Option Addr) (cc2 : Nat) (l2 : List StepV) (h2 : StepsAt W a2 l2) :
   Calls Try.prog 6 #[.int .i64 slot, .slice a1 l1.length c1, .slice a2 l2.length cc2] W fun e w' => e = .returned (.bool true) ∧ Fr none_ W w' := by
  have hlarge := fun w h => large_any w a1 c1 l1 h
  have Hlarge := Lib.hid hlarge
  have hlarge2 := fun w h => large_any w a2 cc2 l2 h
  have Hlarge2 := Lib.hid hlarge2
  have Hworks := Lib.hid works_any
  have H1 := Lib.hid h1
  have H2 := Lib.hid h2
  clear hlarge hlarge2
  cases hL : isLarge l1 with
  | true =>
    rw [hL] at Hlarge
    clear hL h1 h2
    go_enter Try.func6, Try.ntmps6
    go_wp2_with fail
    refine (Hworks.out _).mono ?_
    rintro e w1 ⟨rfl, f1⟩
    go_wp2_with fail
    refine (Hlarge.out _ (H1.out.kept f1 (fun _ _ e => e))).mono ?_
    rintro e w2 ⟨rfl, rfl⟩
    go_wp2_with fail
    refine (Hworks.out _).mono ?_
    rintro e w3 ⟨rfl, f3⟩
    go_wp2_with fail
    go_ret
    exact ⟨rfl, f1.trans f3⟩
  | false =>
   rw [hL] at Hlarge
   cases hL2 : isLarge l2 with
   | true =>
    rw [hL2] at Hlarge2
    clear hL hL2 h1 h2
    go_enter Try.func6, Try.ntmps6
    go_wp2_with fail
    refine (Hworks.out _).mono ?_
    rintro e w1 ⟨rfl, f1⟩
    go_wp2_with fail
    refine (Hlarge.out _ (H1.out.kept f1 (fun _ _ e => e))).mono ?_
    rintro e w2 ⟨rfl, rfl⟩
    go_wp2_with fail
    refine (Hlarge2.out _ (H2.out.kept f1 (fun _ _ e => e))).mono ?_
    rintro e w2 ⟨rfl, rfl⟩
    go_wp2_with fail
    refine (Hworks.out _).mono ?_
    rintro e w3 ⟨rfl, f3⟩
    go_wp2_with fail
    go_ret
    exact ⟨rfl, f1.trans f3⟩
   | false =>
    rw [hL2] at Hlarge2
    have hn1 := notLarge hL
    have hn2 := notLarge hL2
    by_cases hs : 2 ≤ slot ∧ slot ≤ 4096
    · obtain ⟨sl, rfl⟩ := Int.eq_ofNat_of_zero_le (show 0 ≤ slot by omega)
      have s2 : 2 ≤ sl := by omega
      have s3 : sl ≤ 4096 := by omega
      have hnew := fun w => ar_new w sl s2 s3
      have Hnew := Lib.hid hnew
      clear hL hL2 hnew hs ws h1 h2
      go_enter Try.func6, Try.ntmps6
      go_wp2_with fail
      refine (Hworks.out _).mono ?_
      rintro e w1 ⟨rfl, f1⟩
      go_wp2_with fail
      refine (Hlarge.out _ (H1.out.kept f1 (fun _ _ e => e))).mono ?_
      rintro e w2 ⟨rfl, rfl⟩
      go_wp2_with fail
      refine (Hlarge2.out _ (H2.out.kept f1 (fun _ _ e => e))).mono ?_
      rintro e w2 ⟨rfl, rfl⟩
      go_wp2_with fail
      refine (Hnew.out _).mono ?_
      rintro e w3 ⟨F0, x, rfl, har, f3, hF0⟩
      go_wp2_with fail
      have hp0 : P2 W x (AS.new sl) F0 [] none 0 0 4 [] none 0 0 w3 :=
        ⟨har, SlAt.empty _ _ _, SlAt.empty _ _ _, f1.trans f3, fun _ _ => blk_none _, fun _ _ => blk_none _, fun _ _ => blk_none _, fun k hk => by have := hF0 k hk; have := f1.size; omega, fun k hk => absurd hk (blk_none k), fun k hk => absurd hk (blk_none k)⟩
      have hi0 : LInv sl 0 (AS.new sl) [] := LInv.new s2 s3
      clear har f3 hF0 f1
      go_loopw [9, 10] (fun t i wr => ∃ (k n tc : Nat) (ta : Option Addr) (s : AS) (told : List Nat) (F : Nat → Prop), Hid (k ≤ l1.length) ∧ i = .int .i64 k ∧ t = .slice ta n tc ∧ Hid (n = told.length) ∧ LInv sl k s told ∧ P2 W x s F told ta n tc 4 [] none 0 0 wr) (fun _ i _ => l1.length - (intOf i).toNat)
      case atStart => exact ⟨0, 0, 0, none, AS.new sl, [], F0, Nat.zero_le _, rfl, rfl, rfl, hi0, hp0⟩
      case round =>
        obtain ⟨k, n, tc, ta, s, told, F, hk, rfl, rfl, hn, hi, hp⟩ := hrel
        clear hp0 hi0
        by_cases hlt : k < l1.length
        · obtain ⟨y, hy⟩ : ∃ y, l1[k]? = some y := ⟨l1[k], List.getElem?_eq_getElem hlt⟩
          have hyo := H1.out.ok y (List.mem_of_getElem? hy)
          rcases H1.out.at_ with h0 | ⟨b, o, rfl, hb, hc⟩
          · rw [h0] at hlt; exact absurd hlt (by simp)
          obtain ⟨c0, c1', c2, c3⟩ := hc k y hy
          have d0 := Fr.keep hp.fr c0
          have d1 := Fr.keep hp.fr c1'
          have d2 := Fr.keep hp.fr c2
          have d3 := Fr.keep hp.fr c3
          have hdo := fun w' (f : Fr none_ wr w') => ar_do (hp.ar.kept0 f) hi.up (by unfold big; omega) y hyo told hi.tl.lt ta tc (by have := hi.le; omega) (by have h := hp.ts.kept0 f; rw [hn.out] at h; exact h)
          rw [← hn.out] at hdo
          have Hdo := Lib.hid hdo
          clear c0 c1' c2 c3 hc hdo
          go_wp2_with fail
          refine (Hdo.out _ (Fr.refl _ _)).mono ?_
          rintro e w4 ⟨rfl, F', har, f4, g4⟩
          have hp4 := hp.arena har f4 g4
          generalize hr : y.does told s = r at hp4
          obtain ⟨H, bn, t⟩ := r
          simp only at hp4
          have hn200 : n ≤ 200 := by have := hi.le; have := hn.out; omega
          clear har f4 g4 hp d0 d1 d2 d3 Hdo
          cases bn with
          | true =>
            have hi2 := hi.more (by omega) hyo hr
            have Hi2 := Lib.hid hi2
            clear hr hi hi2
            go_wp2_with ((with_reducible refine at_slot 61 ?_); refine wpAppend rfl _ _ _ rfl 32 (.int .u64 0) 1 8 Try.underlying29 handle_info rfl (hp4.ts.kept0 (Fr.alloc _ _ _)) rfl ⟨w4.heap.size, 0, none⟩ 1 1 [vH H] rfl rfl (one_cells _ _ _ (by simp [vH])) (by simp [vH, Value.oneCell']) (by omega) (by simp [maxLen]; omega) (by omega) ?_; intro ta2 tc2 w5 hs5 f5 hb5; have hp5 := hp4.pushT (Fr.alloc none_ _ _) hs5 f5 hb5)
            go_roundw
            case rel => exact ⟨k + 1, n + 1, tc2, ta2, t, told ++ [H], F', hlt, by go_num, rfl, by show n + 1 = _; rw [List.length_append, ← hn.out]; rfl, Hi2.out, hp5⟩
            case measure => simp [intOf]; omega
          | false =>
            have hi2 := hi.less (by omega) hyo hr
            have Hi2 := Lib.hid hi2
            clear hr hi hi2
            go_wp2_with fail
            go_roundw
            case rel => exact ⟨k + 1, n, tc, ta, t, told, F', hlt, by go_num, rfl, hn, Hi2.out, hp4⟩
            case measure => simp [intOf]; omega
        · have hkb : k ≤ 200 := by have := hk.out; omega
          have hup := hi.up
          have htl := hi.tl
          have hnb : n ≤ 200 := by have := hi.le; have := hn.out; omega
          have hcp := fun w' (f : Fr none_ wr w') => ar_copy (hp.ar.kept0 f) hup
          have Hcp := Lib.hid hcp
          clear hcp hi
          go_wp2_with fail
          refine (Hcp.out _ (Fr.refl _ _)).mono ?_
          rintro e w4 ⟨G, y, rfl, ha4, f4, g4⟩
          go_wp2_with fail
          refine (Hcp.out _ f4).mono ?_
          rintro e w5 ⟨K, z, rfl, ha5, f5, g5⟩
          have hq0 : P3 W x s F y (goes told s l2 0) G z s K told ta n tc w5 := P3.of hp ha4 f4 g4 ha5 f5 g5
          have hgo := fun k hk => goes_upto (told := told) hup l2 k hk
          have Hgo := Lib.hid hgo
          have HT := Lib.hid htl.lt
          clear Hcp ha4 f4 g4 ha5 f5 g5 hp htl hgo
          go_wp2_with fail
          go_loopw [15] (fun i wr => ∃ (j : Nat) (G : Nat → Prop), Hid (j ≤ l2.length) ∧ i = .int .i64 j ∧ P3 W x s F y (goes told s l2 j) G z s K told ta n tc wr) (fun i _ => l2.length - (intOf i).toNat)
          case atStart => exact ⟨0, G, Nat.zero_le _, rfl, hq0⟩
          case round =>
            obtain ⟨j, G1, hj, rfl, hq⟩ := hrel
            clear hq0
            by_cases hjl : j < l2.length
            · obtain ⟨v, hv⟩ : ∃ v, l2[j]? = some v := ⟨l2[j], List.getElem?_eq_getElem hjl⟩
              have hvo := H2.out.ok v (List.mem_of_getElem? hv)
              rcases H2.out.at_ with h0 | ⟨b, o, rfl, hb, hc⟩
              · rw [h0] at hjl; exact absurd hjl (by simp)
              obtain ⟨c0, c1', c2, c3⟩ := hc j v hv
              have d0 := Fr.keep hq.fr c0
              have d1 := Fr.keep hq.fr c1'
              have d2 := Fr.keep hq.fr c2
              have d3 := Fr.keep hq.fr c3
              have hsucc := goes_succ told s l2 j v hv
              have hdo := ar_do hq.a2 (Hgo.out j (by omega)) (by unfold big; omega) v hvo told HT.out ta tc (by have := hn.out; omega) (by have h := hq.ts; rw [hn.out] at h; exact h)
              rw [← hn.out] at hdo
              have Hdo := Lib.hid hdo
              have Hsucc := Lib.hid hsucc
              clear c0 c1' c2 c3 hc hdo hsucc
              go_wp2_with fail
              refine Hdo.out.mono ?_
              rintro e w6 ⟨rfl, G2, ha6, f6, g6⟩
              have hq6 := hq.turn2 ha6 f6 g6
              rw [← Hsucc.out] at hq6
              go_wp2_with fail
              go_roundw
              case rel => exact ⟨j + 1, G2, hjl, by go_num, hq6⟩
              case measure => simp [intOf]; omega
            · have hje : j = l2.length := by have := hj.out; omega
              subst hje
              obtain ⟨sc, hsc⟩ : ∃ sc, sc = goes told s l2 l2.length := ⟨_, rfl⟩
              have hupc : Upto (k + l2.length) sc := by rw [hsc]; exact Hgo.out _ (Nat.le_refl _)
              rw [← hsc] at hq
              have HSC := Lib.hid hsc
              clear hsc
              go_wp2_with fail
              go_loopw [14, 16] (fun p i wr => ∃ (r : Nat) (st : AS) (F : Nat → Prop) (kp : Nat), Hid (r = 0 ∧ st = s ∧ kp = z ∨ r = 1 ∧ st = sc ∧ kp = y ∨ r = 2 ∧ kp = y ∧ st = sc) ∧ i = .int .i64 r ∧ p = .pointer (some ⟨kp, 0, none⟩) ∧ P3 W x st F y sc G1 z s K told ta n tc wr) (fun _ i _ => 2 - (intOf i).toNat)
              case atStart => exact ⟨0, s, F, z, Or.inl ⟨rfl, rfl, rfl⟩, rfl, rfl, hq⟩
              case round =>
                obtain ⟨r, st, F1, kp, hr, rfl, rfl, hq1⟩ := hrel
                clear hq
                by_cases hr2 : r < 2
                · have hupst : Upto 500 st := by
                    rcases hr.out with ⟨e0, e1, e2⟩ | ⟨e0, e1, e2⟩ | ⟨e0, e1, e2⟩
                    · rw [e1]; exact hup.more (by omega)
                    · rw [e1]; exact hupc.more (by omega)
                    · omega
                  obtain ⟨K', hk'⟩ : ∃ K', Ar K' wr kp st := by
                    rcases hr.out with ⟨e0, e1, e2⟩ | ⟨e0, e1, e2⟩ | ⟨e0, e1, e2⟩
                    · rw [e1, e2]; exact ⟨K, hq1.a3⟩
                    · rw [e1, e2]; exact ⟨G1, hq1.a2⟩
                    · omega
                  have hu1 := ar_used hq1.a1
                  have hu2 := ar_used hk'
                  have hg1 := ar_pages hq1.a1
                  have hg2 := ar_pages hk'
                  have hr1' := fun w' (f : Fr none_ wr w') (hh : Nat) (hlt : hh < 18446744073709551616) => ar_read (hq1.a1.kept0 f) hupst (hd := hh) hlt
                  have hr2' := fun w' (f : Fr none_ wr w') (hh : Nat) (hlt : hh < 18446744073709551616) => ar_read (hk'.kept0 f) hupst (hd := hh) hlt
                  generalize st.used = U at hu1 hu2
                  generalize st.pages.length = PL at hg1 hg2
                  have hUU : ((U : Int) != (U : Int)) = false := bne_self_eq_false _
                  have hPP : ((PL : Int) != (PL : Int)) = false := bne_self_eq_false _
                  have HU1 := Lib.hid hu1
                  have HU2 := Lib.hid hu2
                  have HG1 := Lib.hid hg1
                  have HG2 := Lib.hid hg2
                  have HR1 := Lib.hid hr1'
                  have HR2 := Lib.hid hr2'
                  have fS : Fr none_ wr wr := Fr.refl _ _
                  clear hu1 hu2 hg1 hg2 hr1' hr2' hk' hupst
                  go_wp2_with fail
                  refine HU1.out.mono ?_
                  rintro e w6 ⟨rfl, rfl⟩
                  go_wp2_with fail
                  refine HU2.out.mono ?_
                  rintro e w6 ⟨rfl, rfl⟩
                  go_wp2_with fail
                  refine HG1.out.mono ?_
                  rintro e w6 ⟨rfl, rfl⟩
                  go_wp2_with fail
                  refine HG2.out.mono ?_
                  rintro e w6 ⟨rfl, rfl⟩
                  go_wp2_with fail
                  obtain ⟨wo, hwo⟩ : ∃ wo : World, wo = wr := ⟨_, rfl⟩
                  rw [← hwo] at hq1 HR1 HR2 fS ⊢
                  clear hwo HU1 HU2 HG1 HG2
                  go_loopw [17] (fun i wx => ∃ q : Nat, Hid (q ≤ n) ∧ i = .int .i64 q ∧ Fr none_ wo wx) (fun i _ => n - (intOf i).toNat)
                  case atStart => exact ⟨0, Nat.zero_le _, rfl, fS⟩
                  case round =>
                    obtain ⟨q, hqn', rfl, hf⟩ := hrel
                    clear fS
                    by_cases hqn : q < n
                    · obtain ⟨hh, hhq⟩ : ∃ hh, told[q]? = some hh := ⟨told[q]'(by rw [← hn.out]; exact hqn), List.getElem?_eq_getElem _⟩
                      have hhlt := HT.out hh (List.mem_of_getElem? hhq)
                      obtain ⟨gg, rfl⟩ := hq1.ts.isAddr (by omega)
                      have ct := (hq1.ts.kept0 hf).cell (i := q) (v := vH hh) (by rw [List.getElem?_map, hhq]; rfl)
                      unfold vH at ct
                      have hra := fun w' (f : Fr none_ wo w') => HR1.out w' f hh hhlt
                      have hrb := fun w' (f : Fr none_ wo w') => HR2.out w' f hh hhlt
                      generalize strOf (aRead st hh).1 = SB at hra hrb
                      generalize (aRead st hh).2 = EB at hra hrb
                      have hEE : ((EB : Int) != (EB : Int)) = false := bne_self_eq_false _
                      have Hra := Lib.hid hra
                      have Hrb := Lib.hid hrb
                      clear hhq hra hrb
                      go_wp2_with fail
                      refine (Hra.out _ hf).mono ?_
                      rintro e w7 ⟨rfl, f7⟩
                      have ct7 := Fr.keep f7 ct
                      clear ct
                      go_wp2_with fail
                      refine (Hrb.out _ (hf.trans f7)).mono ?_
                      rintro e w8 ⟨rfl, f8⟩
                      go_wp2_with ((with_reducible refine at_slot 121 ?_); refine wpNeqStr rfl _ _ _ _ rfl SB SB rfl rfl ?_; rw [decide_eq_true (rfl : SB = SB)])
                      go_roundw
                      case rel => exact ⟨q + 1, hqn, by go_num, (hf.trans f7).trans f8⟩
                      case measure => simp [intOf]; omega
                    · have hq3 := hq1.skip hf
                      clear HR1 HR2 hf
                      by_cases hr0 : r = 0
                      · have b0 : ((r : Int) == 0) = true := by rw [hr0]; rfl
                        have hst : st = s := by rcases hr.out with ⟨e0, e1, e2⟩ | ⟨e0, e1, e2⟩ | ⟨e0, e1, e2⟩; exact e1; omega; omega
                        have hq4 : P3 W x (goes told s l2 0) F1 y sc G1 z s K told ta n tc wr := by rw [hst] at hq3; exact hq3
                        have HR0 := Lib.hid hr0
                        clear hq3 hst hr0 hq1
                        go_wp2_with fail
                        go_loopw [22] (fun i wx => ∃ (j : Nat) (F2 : Nat → Prop), Hid (j ≤ l2.length) ∧ i = .int .i64 j ∧ P3 W x (goes told s l2 j) F2 y sc G1 z s K told ta n tc wx) (fun i _ => l2.length - (intOf i).toNat)
                        case atStart => exact ⟨0, F1, Nat.zero_le _, rfl, hq4⟩
                        case round =>
                          obtain ⟨j, F2, hj, rfl, hq5⟩ := hrel
                          clear hq4
                          by_cases hjl : j < l2.length
                          · obtain ⟨v, hv⟩ : ∃ v, l2[j]? = some v := ⟨l2[j], List.getElem?_eq_getElem hjl⟩
                            have hvo := H2.out.ok v (List.mem_of_getElem? hv)
                            rcases H2.out.at_ with h0 | ⟨b, o, rfl, hb, hc⟩
                            · rw [h0] at hjl; exact absurd hjl (by simp)
                            obtain ⟨c0, c1', c2, c3⟩ := hc j v hv
                            have d0 := Fr.keep hq5.fr c0
                            have d1 := Fr.keep hq5.fr c1'
                            have d2 := Fr.keep hq5.fr c2
                            have d3 := Fr.keep hq5.fr c3
                            have hsucc := goes_succ told s l2 j v hv
                            have hdo := ar_do hq5.a1 (Hgo.out j (by omega)) (by unfold big; omega) v hvo told HT.out ta tc (by have := hn.out; omega) (by have h := hq5.ts; rw [hn.out] at h; exact h)
                            rw [← hn.out] at hdo
                            have Hdo := Lib.hid hdo
                            have Hsucc := Lib.hid hsucc
                            clear c0 c1' c2 c3 hc hdo hsucc
                            go_wp2_with fail
                            refine Hdo.out.mono ?_
                            rintro e w6 ⟨rfl, F3, ha6, f6, g6⟩
                            have hq6 := hq5.turn1 ha6 f6 g6
                            rw [← Hsucc.out] at hq6
                            go_wp2_with fail
                            go_roundw
                            case rel => exact ⟨j + 1, F3, hjl, by go_num, hq6⟩
                            case measure => simp [intOf]; omega
                          · have hje : j = l2.length := by have := hj.out; omega
                            rw [hje, ← HSC.out] at hq5
                            clear hje
                            go_wp2_with fail
                            go_roundw
                            case rel => exact ⟨r + 1, sc, F2, y, Or.inr (Or.inl ⟨by rw [HR0.out], rfl, rfl⟩), by go_num, rfl, hq5⟩
                            case measure => simp [intOf]; omega
                      · have hr1 : r = 1 := by omega
                        have b0 : ((r : Int) == 0) = false := beq_eq_false_iff_ne.2 (by omega)
                        have hst : st = sc := by rcases hr.out with ⟨e0, e1, e2⟩ | ⟨e0, e1, e2⟩ | ⟨e0, e1, e2⟩; omega; exact e1; omega
                        rw [hst] at hq3
                        have HR0 := Lib.hid hr1
                        clear hst hr0 hr1 hq1
                        go_wp2_with fail
                        go_loopw [22] (fun i wx => i = .int .i64 ((0 : Nat) : Int) ∧ P3 W x sc F1 y sc G1 z s K told ta n tc wx) (fun i _ => 0)
                        case atStart => exact ⟨rfl, hq3⟩
                        case round =>
                          obtain ⟨rfl, hq5⟩ := hrel
                          clear hq3
                          by_cases hl0 : 0 < l2.length
                          · go_wp2_with fail
                            go_roundw
                            case rel => exact ⟨r + 1, sc, F1, y, Or.inr (Or.inr ⟨by rw [HR0.out], rfl, rfl⟩), by go_num, rfl, hq5⟩
                            case measure => simp [intOf]; omega
                          · go_wp2_with fail
                            go_roundw
                            case rel => exact ⟨r + 1, sc, F1, y, Or.inr (Or.inr ⟨by rw [HR0.out], rfl, rfl⟩), by go_num, rfl, hq5⟩
                            case measure => simp [intOf]; omega
                · go_wp2_with fail
                  go_ret
                  exact ⟨rfl, hq1.fr⟩
    · have hno := fun w => Arena_New_no w slot (by omega)
      have Hno := Lib.hid hno
      clear hno hs hL hL2 h1 h2 ws
      go_enter Try.func6, Try.ntmps6
      go_wp2_with fail
      refine (Hworks.out _).mono ?_
      rintro e w1 ⟨rfl, f1⟩
      go_wp2_with fail
      refine (Hlarge.out _ (H1.out.kept f1 (fun _ _ e => e))).mono ?_
      rintro e w2 ⟨rfl, rfl⟩
      go_wp2_with fail
      refine (Hlarge2.out _ (H2.out.kept f1 (fun _ _ e => e))).mono ?_
      rintro e w2 ⟨rfl, rfl⟩
      go_wp2_with fail
      refine (Hno.out _).mono ?_
      rintro e w3 ⟨rfl, rfl⟩
      go_wp2_with fail
      go_ret
      exact ⟨rfl, f1⟩
end Go.Proofs.Ytncajdefjammiaa
