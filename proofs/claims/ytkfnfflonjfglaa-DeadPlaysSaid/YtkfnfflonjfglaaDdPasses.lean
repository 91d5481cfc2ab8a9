/-
  DeadPasses (P10.5): two passes come to one, of the larger; what is left is what lies above it.
-/
import Derived.Test.YtkfnfflonjfglaaDdApart
import Derived.Test.YtkfnfflonjfglaaMax
namespace Go.Proofs.Ytkfnfflonjfglaa
open Go.RowKit
set_option linter.unusedVariables false
set_option linter.unusedSimpArgs false
set_option maxRecDepth 100000

theorem run_max_int {P : Program} {w : World} (ts : Array TypeId) (t : TypeId) (k k' : IntKind) (i j m : Int) (hm : m = if i < j then j else i) : (Builtin.max_ ts t #[.int k i, .int k' j]).run P w = .ok (.int k m) w := by
  subst hm
  rw [run_max_int2]
section arms
variable {P : Program} {ops : Array Oper} {Q : Exit → Act → World → Prop} {rest : List Oper} {o : Oper} {a : Act} {w : World}
theorem wpMaxI (hg : Region.wanted o (yielded ops a.tmps) = true) (x y : Operand) (ts : Array TypeId) (hop : o.op = Op.call { callee := Callee.builtin Builtin.max, args := #[x, y], argTypes := ts }) (k k' : IntKind) (i j m : Int) (hm : m = if i < j then j else i)
    (hx : a.eval x = .int k i) (hy : a.eval y = .int k' j) (hK : wpList P ops Q rest (a.put o.dst (.int k m)) w) : wpList P ops Q (o :: rest) a w := by
  refine wpList_go hg fun K' hK' => ?_
  unfold Oper.wp
  have hrun := run_max_int (P := P) (w := w) ts o.type k k' i j m hm
  simp [execOp, hop, resolve, invoke, builtin, hx, hy, hrun, Result.andThen]
  exact hK' _ _ hK
end arms

/-- What lies above a floor. -/
def keptOf (fl : Int) : List (Int × Nat) → Nat
  | [] => 0
  | p :: r => (if p.1 ≤ fl then 0 else p.2) + keptOf fl r
theorem keptOf_append (fl : Int) (a b : List (Int × Nat)) : keptOf fl (a ++ b) = keptOf fl a + keptOf fl b := by
  induction a with
  | nil => simp [keptOf]
  | cons p r ih => simp only [List.cons_append, keptOf, ih]; omega
theorem keptOf_le (fl : Int) (l : List (Int × Nat)) (k : Nat) : keptOf fl (l.take k) ≤ keptOf fl l := by
  have h := keptOf_append fl (l.take k) (l.drop k)
  rw [List.take_append_drop] at h
  omega
theorem keptOf_succ (fl : Int) (l : List (Int × Nat)) (k : Nat) (p : Int × Nat) (h : l[k]? = some p) : keptOf fl (l.take (k + 1)) = keptOf fl (l.take k) + if p.1 ≤ fl then 0 else p.2 := by
  rw [take_succ_get2 l k p h, keptOf_append]; simp [keptOf]
theorem passTo_kept (fl : Int) (l : List (Int × Nat)) : ∀ (g : Nat) (s : DS), (l.foldl (fun (st : Nat × DS) (p : Int × Nat) => if p.1 ≤ fl then (st.1 + p.2, dTake st.2 p.1 p.2) else st) (g, s)).1 + keptOf fl l = g + tot l := by
  induction l with
  | nil => intro g s; simp [keptOf, tot]
  | cons p r ih =>
    intro g s
    rw [List.foldl_cons]
    by_cases h : p.1 ≤ fl
    · rw [if_pos h]
      have := ih (g + p.2) (dTake s p.1 p.2)
      simp only [keptOf, tot, List.map_cons, List.sum_cons, if_pos h] at this ⊢
      omega
    · rw [if_neg h]
      have := ih g s
      simp only [keptOf, tot, List.map_cons, List.sum_cons, if_neg h] at this ⊢
      omega
theorem pass_kept {s : DS} (h : s.WF) (fl : Int) : keptOf fl s.counts = (dPass s fl).2.all := by
  have h1 := passTo_kept fl s.counts 0 s
  have h2 := (pass_law h fl).2.2
  have h3 := counts_sum h
  unfold dPass passTo at h2 ⊢
  omega
theorem of_is {w : World} {d m : Nat} {s : DS} (h : DeadAt w d m s) (t : Int) {q : Int} (hq : (s.cnt t : Int) = q) : Calls Try.prog 18 #[.pointer (some ⟨d, 0, none⟩), .int .i64 t] w fun e w' => e = .returned (.int .i64 q) ∧ w = w' := by
  subst hq; exact Dead_Of h t
theorem all_is {w : World} {d m : Nat} {s : DS} (h : DeadAt w d m s) {q : Nat} (hq : s.all = q) : Calls Try.prog 11 #[.pointer (some ⟨d, 0, none⟩)] w fun e w' => e = .returned (.int .i64 (q : Int)) ∧ w = w' := by
  subst hq; exact Dead_All h
theorem pass_is {w : World} {d m : Nat} {s : DS} (h : DeadAt w d m s) (hw : s.WF) (t : Int) {q : Nat} {u : DS} (hq : (dPass s t).1 = q) (hu : (dPass s t).2 = u) : Calls Try.prog 17 #[.pointer (some ⟨d, 0, none⟩), .int .i64 t] w fun e w' => e = .returned (.int .i64 (q : Int)) ∧ DeadAt w' d m u ∧ Fr (two d m) w w' := by
  subst hq; subst hu; exact Dead_Pass h hw t
theorem all_isI {w : World} {d m : Nat} {s : DS} (h : DeadAt w d m s) {q : Int} (hq : (s.all : Int) = q) : Calls Try.prog 11 #[.pointer (some ⟨d, 0, none⟩)] w fun e w' => e = .returned (.int .i64 q) ∧ w = w' := by
  subst hq; exact Dead_All h
theorem pass_isI {w : World} {d m : Nat} {s : DS} (h : DeadAt w d m s) (hw : s.WF) (t : Int) {q : Int} (hq : ((dPass s t).1 : Int) = q) : Calls Try.prog 17 #[.pointer (some ⟨d, 0, none⟩), .int .i64 t] w fun e w' => e = .returned (.int .i64 q) ∧ DeadAt w' d m (dPass s t).2 ∧ Fr (two d m) w w' := by
  subst hq; exact Dead_Pass h hw t

set_option maxHeartbeats 8000000 in
theorem walk_DeadPasses (W : World) (a1 : Option Addr) (c1 : Nat) (l1 : List StepV) (h1 : StepsAt W a1 l1) (x : Int) (hx : (Lit.int .i64 x).wf = true) (y : Int) (hy : (Lit.int .i64 y).wf = true) :
   Calls Try.prog 7 #[.slice a1 l1.length c1, .int .i64 x, .int .i64 y] W fun e w' => e = .returned (.bool true) ∧ Fr none_ W w' := by
  have Hworks := Lib.hid works_any
  have H1 := Lib.hid h1
  have Hlen := Lib.hid h1.len
  clear h1 hx hy
  obtain ⟨M, hM⟩ : ∃ M : Int, M = if x < y then y else x := ⟨_, rfl⟩
  have HM := Lib.hid hM
  clear hM
  by_cases hl : 300 < l1.length
  · go_enter Try.func7, Try.ntmps7
    go_wp2_with fail
    refine (Hworks.out _).mono ?_
    rintro e w1 ⟨rfl, f1⟩
    go_wp2_with fail
    refine (Hworks.out _).mono ?_
    rintro e w2 ⟨rfl, f2⟩
    go_wp2_with fail
    go_ret
    exact ⟨rfl, f1.trans f2⟩
  · have hl' : l1.length ≤ 300 := by omega
    go_enter Try.func7, Try.ntmps7
    go_wp2_with fail
    refine (Hworks.out _).mono ?_
    rintro e w1 ⟨rfl, f1⟩
    have G := Lib.hid (d1_new W w1 f1)
    go_wp2_with fail
    refine G.out.mono ?_
    rintro e w2 ⟨d, rfl, h0⟩
    clear G f1
    have hw0 := WF_new
    go_wp2_with fail
    go_loopw [8] (fun i wr => ∃ (k : Nat) (s : DS), Hid (k ≤ l1.length) ∧ i = .int .i64 k ∧ s.WF ∧ D1 W d s wr) (fun i _ => l1.length - (intOf i).toNat)
    case atStart => exact ⟨0, _, Nat.zero_le _, rfl, hw0, h0⟩
    case round =>
      obtain ⟨k, s, hk, rfl, hw, hd⟩ := hrel
      clear h0 hw0
      by_cases hlt : k < l1.length
      · obtain ⟨y, hy⟩ : ∃ y, l1[k]? = some y := ⟨l1[k], List.getElem?_eq_getElem hlt⟩
        have hyo := H1.out.ok y (List.mem_of_getElem? hy)
        rcases H1.out.at_ with h0 | ⟨b, o, rfl, hb, hc⟩
        · rw [h0] at hlt; exact absurd hlt (by simp)
        obtain ⟨c0, c1'⟩ := hc k y hy
        have d0 := Fr.keep hd.fr c0
        have d1 := Fr.keep hd.fr c1'
        have GD := Lib.hid (d1_do hd hw y hyo)
        obtain ⟨v1, v2⟩ := doV_wf hw y
        clear c0 c1' hc v2
        go_wp2_with fail
        refine GD.out.mono ?_
        rintro e w3 ⟨rfl, hd3⟩
        go_wp2_with fail
        go_roundw
        case rel => exact ⟨k + 1, _, hlt, by go_num, v1, hd3⟩
        case measure => simp [intOf]; omega
      · obtain ⟨m, hd1, ld, lm, hfr⟩ := hd
        have G := Lib.hid (fun w' (f : Fr none_ wr w') => Dead_Copy (hd1.kept0 f))
        have hcs := Dead_Counts hd1 hw.wfk (by have := hw.len; omega) hw.le64
        obtain ⟨n, hn⟩ : ∃ n, n = s.of.length := ⟨_, rfl⟩
        have hn64 : n ≤ 64 := by rw [hn]; exact hw.len
        have hkl : s.keys.length = n := by rw [hn]; exact keys_length s
        have HKL := Lib.hid hkl
        rw [← hn] at hcs
        have GC := Lib.hid hcs
        clear hcs hn hkl
        go_wp2_with fail
        refine GC.out.mono ?_
        rintro e w4 ⟨ca, cap, rfl, hsl, fc, hnew⟩
        go_wp2_with fail
        refine (G.out _ fc).mono ?_
        rintro e w5 ⟨d2, m2, rfl, h2, f2, g1, g2⟩
        go_wp2_with fail
        refine (G.out _ (fc.trans f2)).mono ?_
        rintro e w6 ⟨d3, m3, rfl, h3, f3, g3, g4⟩
        have hq0 : D3 W d m s d2 m2 s d3 m3 s w6 := D3.of (hd1.kept0 fc) ld lm (hfr.trans fc) h2 f2 g1 g2 h3 f3 g3 g4
        have hs0 := (hsl.kept0 f2).kept0 f3
        have hne : ∀ k, blk ca k → ¬ two d2 m2 k ∧ ¬ two d3 m3 k := by
          intro k hk
          have := hsl.lt k hk
          have := f2.size
          unfold two; omega
        clear G hd1 ld lm hfr h2 f2 g1 g2 h3 f3 g3 g4 hsl fc hnew GC
        obtain ⟨gone, hgone⟩ : ∃ g, (dPass s M).1 = g := ⟨_, rfl⟩
        obtain ⟨s1, hs1⟩ : ∃ t, (dPass s M).2 = t := ⟨_, rfl⟩
        have GP := Lib.hid (pass_is hq0.a2 hw M hgone hs1)
        obtain ⟨p1, p2, p3⟩ := pass_law hw M
        have hkp := pass_kept hw M
        rw [hgone, hs1] at p3
        rw [hs1] at p1 p2 hkp
        clear hgone hs1
        have P2 := Lib.hid p2
        have P3 := Lib.hid p3
        have HKP := Lib.hid hkp
        clear p2 p3 hkp
        go_wp2_with ((with_reducible refine at_slot 46 ?_); refine wpMaxI rfl _ _ _ rfl .i64 .i64 x y M HM.out rfl rfl ?_)
        refine GP.out.mono ?_
        rintro e w7 ⟨rfl, h7, f7⟩
        have hq7 := hq0.turn2 h7 f7
        have hs7 := hs0.kept f7 (fun k hk => (hne k hk).1)
        clear hq0 hs0 h7 f7 GP
        obtain ⟨gA, hgA⟩ : ∃ g, (dPass s x).1 = g := ⟨_, rfl⟩
        obtain ⟨s2, hs2⟩ : ∃ t, (dPass s x).2 = t := ⟨_, rfl⟩
        have GA := Lib.hid (pass_is hq7.a3 hw x hgA hs2)
        obtain ⟨t1, t2, t3⟩ := pass_law hw x
        rw [hgA, hs2] at t3
        rw [hs2] at t1 t2
        clear hgA hs2
        obtain ⟨gB, hgB⟩ : ∃ g, (dPass s2 y).1 = g := ⟨_, rfl⟩
        obtain ⟨s3, hs3⟩ : ∃ t, (dPass s2 y).2 = t := ⟨_, rfl⟩
        have GB := Lib.hid (fun w' (h : DeadAt w' d3 m3 s2) => pass_is h t1 y hgB hs3)
        obtain ⟨u1, u2, u3⟩ := pass_law t1 y
        rw [hgB, hs3] at u3
        rw [hs3] at u1 u2
        clear hgB hs3
        have hsame : ∀ k, s1.cnt k = s3.cnt k := fun k => by
          have hm := HM.out
          rw [P2.out, u2, t2]
          by_cases hxy : x < y
          · rw [if_pos hxy] at hm
            by_cases k1 : k ≤ y
            · rw [if_pos (by omega), if_pos k1]
            · rw [if_neg (by omega), if_neg k1, if_neg (by omega)]
          · rw [if_neg hxy] at hm
            by_cases k1 : k ≤ x
            · rw [if_pos (by omega), if_pos k1]
              by_cases k2 : k ≤ y
              · rw [if_pos k2]
              · rw [if_neg k2]
            · rw [if_neg (by omega), if_neg (by omega), if_neg k1]
        have hall := all_ext p1 u1 hsame
        have hmax := hw.max
        have esum : IntKind.i64.wrap ((gA : Int) + (gB : Int)) = (gone : Int) := by
          have h3 := P3.out
          have e : (gA : Int) + (gB : Int) = (gone : Int) := by omega
          rw [e]; exact IntWalk.i64_in _ (by omega)
        have ene : ((gone : Int) != (gone : Int)) = false := bne_self_eq_false _
        have HS := Lib.hid hsame
        clear t2 t3 u2 u3 hall hsame
        go_wp2_with fail
        refine GA.out.mono ?_
        rintro e w8 ⟨rfl, h8, f8⟩
        have hq8 := hq7.turn3 h8 f8
        have hs8 := hs7.kept f8 (fun k hk => (hne k hk).2)
        clear hq7 hs7 h8 f8 GA
        go_wp2_with fail
        refine (GB.out _ hq8.a3).mono ?_
        rintro e w9 ⟨rfl, h9, f9⟩
        have hq9 := hq8.turn3 h9 f9
        have hs9 := hs8.kept f9 (fun k hk => (hne k hk).2)
        clear hq8 hs8 h9 f9 GB
        have GS := Lib.hid (same_any hq9.a2 hq9.a3 p1 u1 HS.out)
        go_wp2_with fail
        refine GS.out.mono ?_
        rintro e w10 ⟨rfl, f10⟩
        have hqA := hq9.skip f10
        have hsA := hs9.kept0 f10
        clear hq9 hs9 f10 GS esum ene
        go_wp2_with fail
        go_loopw [13, 14] (fun u i wx => ∃ (q c : Nat), Hid (q ≤ n) ∧ i = .int .i64 q ∧ u = .int .i64 c ∧ Hid (c = keptOf M (s.counts.take q)) ∧ D3 W d m s d2 m2 s1 d3 m3 s3 wx ∧ SlAt wx ca n cap 45 2 (flat2 s.counts)) (fun _ i _ => n - (intOf i).toNat)
        case atStart => exact ⟨0, 0, Nat.zero_le _, rfl, rfl, rfl, hqA, hsA⟩
        case round =>
          obtain ⟨q, c, hqn, rfl, rfl, hc, hq, hs⟩ := hrel
          clear hqA hsA
          by_cases hlt2 : q < n
          · obtain ⟨t, ht⟩ : ∃ t, s.keys[q]? = some t := ⟨s.keys[q]'(by rw [HKL.out]; exact hlt2), List.getElem?_eq_getElem _⟩
            have hcg := counts_get ht
            obtain ⟨g, rfl⟩ := hs.isAddr (by omega)
            have hfl := flat2_get hcg
            have e0 := hs.cell (i := q * 2) hfl.1
            have e1 := hs.cell (i := q * 2 + 1) hfl.2
            have hks := keptOf_succ M s.counts q _ hcg
            have hle := keptOf_le M s.counts (q + 1)
            rw [HKP.out] at hle
            have ho := P2.out t
            have h1m := p1.max
            have hN64 := hw.le64 t
            simp only at e0 e1 hks
            generalize s.cnt t = N at e1 hks ho hN64
            clear hfl hcg
            have hcc := hc.out
            by_cases hf : t ≤ M
            · rw [if_pos hf] at ho hks
              have GO := Lib.hid (fun w' (f : Fr none_ wr w') => of_is (hq.a2.kept0 f) t (q := 0) (by rw [ho]; rfl))
              have hMf : ¬ M < t := by omega
              have hc64 : c ≤ 64 := by omega
              have HKS := Lib.hid (show c = keptOf M (s.counts.take (q + 1)) by omega)
              clear hks hle ho hcc
              go_wp2_with fail
              refine (GO.out _ (Fr.refl _ _)).mono ?_
              rintro e w11 ⟨rfl, rfl⟩
              go_wp2_with (first | ((with_reducible refine at_slot 83 ?_); refine wpMaxI rfl _ _ _ rfl .i64 .i64 x y M HM.out rfl rfl ?_) | ((with_reducible refine at_slot 97 ?_); refine wpMaxI rfl _ _ _ rfl .i64 .i64 x y M HM.out rfl rfl ?_))
              go_roundw
              case rel => exact ⟨q + 1, c, hlt2, by go_num, by go_num, HKS, hq, hs⟩
              case measure => simp [intOf]; omega
            · rw [if_neg hf] at ho hks
              have GO := Lib.hid (fun w' (f : Fr none_ wr w') => of_is (hq.a2.kept0 f) t (q := (N : Int)) (by rw [ho]))
              have hMf : M < t := by omega
              have hc64 : c + N ≤ 64 := by omega
              have HKS := Lib.hid (show c + N = keptOf M (s.counts.take (q + 1)) by omega)
              clear hks hle ho hcc
              go_wp2_with fail
              refine (GO.out _ (Fr.refl _ _)).mono ?_
              rintro e w11 ⟨rfl, rfl⟩
              go_wp2_with (first | ((with_reducible refine at_slot 83 ?_); refine wpMaxI rfl _ _ _ rfl .i64 .i64 x y M HM.out rfl rfl ?_) | ((with_reducible refine at_slot 97 ?_); refine wpMaxI rfl _ _ _ rfl .i64 .i64 x y M HM.out rfl rfl ?_))
              go_roundw
              case rel => exact ⟨q + 1, c + N, hlt2, by go_num, by go_num, HKS, hq, hs⟩
              case measure => simp [intOf]; omega
          · have hqe : q = n := by have := hqn.out; omega
            subst hqe
            have hcn : c = s1.all := by
              have h := hc.out
              rw [List.take_of_length_le (by rw [show s.counts.length = s.keys.length from by unfold DS.counts; rw [List.length_map], HKL.out]; exact Nat.le_refl _)] at h
              rw [h, HKP.out]
            subst hcn
            clear hc
            obtain ⟨T, hT⟩ : ∃ T : Int, T = (s1.all : Int) + (gone : Int) := ⟨_, rfl⟩
            have h3 := P3.out
            have hmx := hw.max
            have G1 := Lib.hid (all_isI hq.a2 (q := (s1.all : Int)) rfl)
            have G2 := Lib.hid (all_isI hq.a1 (q := T) (by rw [hT]; omega))
            obtain ⟨v1, v2, v3⟩ := pass_law p1 M
            have hz : (dPass s1 M).1 = 0 := by
              have := all_ext v1 p1 (fun k => by
                rw [v2, P2.out]
                by_cases h : k ≤ M
                · rw [if_pos h, if_pos h]
                · rw [if_neg h])
              omega
            have G3 := Lib.hid (pass_isI hq.a2 p1 M (q := 0) (by rw [hz]; rfl))
            have esum : IntKind.i64.wrap ((s1.all : Int) + (gone : Int)) = T := by
              rw [hT]; exact IntWalk.i64_in _ (by omega)
            have esum2 : wrap64 ((s1.all : Int) + (gone : Int)) = T := by
              rw [hT]; unfold wrap64; omega
            clear v1 v2 v3 hz hT h3
            go_wp2_with fail
            refine G1.out.mono ?_
            rintro e w11 ⟨rfl, rfl⟩
            go_wp2_with fail
            refine G2.out.mono ?_
            rintro e w11 ⟨rfl, rfl⟩
            go_wp2_with ((with_reducible refine at_slot 128 ?_); refine wpMaxI rfl _ _ _ rfl .i64 .i64 x y M HM.out rfl rfl ?_)
            refine G3.out.mono ?_
            rintro e w12 ⟨rfl, h12, f12⟩
            have hqZ := hq.turn2 h12 f12
            go_wp2_with fail
            go_ret
            exact ⟨rfl, hqZ.fr⟩
end Go.Proofs.Ytkfnfflonjfglaa
