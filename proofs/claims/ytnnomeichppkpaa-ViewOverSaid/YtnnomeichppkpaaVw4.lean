/-
  Package view: Least, as the program computes it.
-/
import Derived.Test.YtnnomeichppkpaaVw3
import Derived.Test.YtnnomeichppkpaaApL
import Derived.LoopTactic
import Derived.Outline
namespace Go.Proofs.Ytnnomeichppkpaa
open Go.RowKit Go.Sort
set_option linter.unusedVariables false
set_option linter.unusedSimpArgs false
set_option maxRecDepth 100000

theorem vwLeastOf_snoc (own high : Int) (l : List Int) (x : Int) : ∀ (c : List Int) (acc : Int), vwLeastOf own high l (c ++ [x]) acc = if (1 ≤ x ∧ x < vwLeastOf own high l c acc) ∧ vwSees own high l x = false then x else vwLeastOf own high l c acc
  | [], acc => rfl
  | y :: c, acc => vwLeastOf_snoc own high l x c _
theorem SlAt.built2 (w : World) (e : TypeId) (u v : Value) : SlAt (w.alloc (.cells #[u, v] e)) (some ⟨w.heap.size, 0, none⟩) 2 2 e 1 [u, v] := by
  refine ⟨rfl, Nat.le_refl _, by simp [maxLen], (fun h => by cases h), ?_⟩
  intro ad had
  cases had
  exact ⟨rfl, rfl, _, Row.new w _ e, rfl, rfl⟩
set_option maxHeartbeats 2000000 in
theorem Least_any (w : World) (own high : Int) (a : Option Addr) (n c : Nat) (l : List Int) (h : IntsAt w a l) (hn : n = l.length) (hb : n ≤ 100000) (hh : high ≤ mostI) :
    Calls Try.prog 10 #[.agg #[.int .i64 own, .int .i64 high, .slice a n c]] w fun e w' => e = .returned (.int .i64 (vwLeast own high l)) ∧ Fr none_ w w' := by
  have HL := Lib.hid h
  have HN := Lib.hid hn
  obtain ⟨F, hF⟩ : ∃ F, F = if (1 : Int) < high then high else 1 := ⟨_, rfl⟩
  have HF := Lib.hid hF
  obtain ⟨G, hG⟩ : ∃ G, G = if (9223372036854775806 : Int) < F then 9223372036854775806 else F := ⟨_, rfl⟩
  have HG := Lib.hid hG
  have hFb : F ≤ mostI := by rw [hF]; split; exact hh; simp [mostI]
  obtain ⟨M, hM⟩ : ∃ M, M = G + 1 := ⟨_, rfl⟩
  have HM := Lib.hid hM
  have hF1 : 1 ≤ F := by rw [hF]; split <;> omega
  have hw : wrap64 (G + 1) = M := by
    rw [hM, hG]; unfold wrap64; split <;> omega
  have HFM : Hid (vwLeast own high l = vwLeastOf own high l (F :: M :: l) mostI) := by
    have e1 : vwFrom high = F := by unfold vwFrom; rw [hF, Int.max_def]; split <;> split <;> omega
    have e2 : min F (mostI - 1) + 1 = M := by
      rw [hM, hG, Int.min_def]; unfold mostI; split <;> split <;> omega
    unfold vwLeast
    rw [e1, e2]
    exact Lib.hid rfl
  clear h hn hF hG hM
  go_enter Try.func10, Try.ntmps10
  go_wp2_with (first | ((with_reducible refine at_slot 9 ?_); refine wpMaxI' rfl _ _ _ rfl .i64 .i64 1 high F HF.out rfl rfl ?_) | ((with_reducible refine at_slot 14 ?_); refine wpMinI rfl _ _ _ rfl .i64 .i64 F 9223372036854775806 G HG.out rfl rfl ?_) | ((with_reducible refine at_slot 19 ?_); refine Stop.mk ?_))
  show wpList _ _ _ _ _ _
  clear hw
  have R1 := Lib.hid ((Row.new w #[.int .i64 own, .int .i64 high, .slice a n c] 25).alloc (.cells #[.int .i64 F, .int .i64 M] 3))
  have S1 := SlAt.built2 (w.alloc (.cells #[.int .i64 own, .int .i64 high, .slice a n c] 25)) 3 (.int .i64 F) (.int .i64 M)
  have e1 : (w.alloc (.cells #[.int .i64 own, .int .i64 high, .slice a n c] 25)).heap.size = w.heap.size + 1 := by simp
  rw [e1] at S1
  have f1 : Fr none_ w ((w.alloc (.cells #[.int .i64 own, .int .i64 high, .slice a n c] 25)).alloc (.cells #[.int .i64 F, .int .i64 M] 3)) := (Fr.alloc _ _ _).alloc_r _
  have Z1 : Hid (((w.alloc (.cells #[.int .i64 own, .int .i64 high, .slice a n c] 25)).alloc (.cells #[.int .i64 F, .int .i64 M] 3)).heap.size = w.heap.size + 2) := Lib.hid (by simp)
  clear e1
  generalize ((w.alloc (.cells #[.int .i64 own, .int .i64 high, .slice a n c] 25)).alloc (.cells #[.int .i64 F, .int .i64 M] 3)) = w1 at *
  refine wpAppendLs rfl _ _ _ rfl 3 (.int .i64 0) 1 8 Try.underlying22 vw_int_info rfl S1 (HL.out.kept0 f1) HN.out (fun _ => rfl) (fun x u hu => by simp at hu; subst hu; rfl) rfl rfl (by simp [maxLen]; omega) (by omega) ?_
  intro a2 cap2 w2 hs2 f2 hb2
  have e3 : ([Value.int .i64 F, Value.int .i64 M] ++ l.flatMap fun x => [encI x]) = (F :: M :: l).map encI := by
    rw [flat_one]; rfl
  rw [e3] at hs2
  obtain ⟨cs, hcs⟩ : ∃ cs, cs = F :: M :: l := ⟨_, rfl⟩
  rw [← hcs] at hs2
  have hN : 2 + n = cs.length := by rw [hcs, HN.out]; simp; omega
  have HFM' : Hid (vwLeast own high l = vwLeastOf own high l cs mostI) := Lib.hid (by rw [hcs]; exact HFM.out)
  have hb2' : ∀ k, blk a2 k → w.heap.size < k := fun k hk => by
    rcases hb2 k hk with q | q
    · rw [blk_some] at q; omega
    · have := Z1.out; omega
  have F2 : Hid (Fr none_ w w2) := Lib.hid (f1.step f2 (fun i hi e => by rw [blk_some] at e; omega))
  have hR2 : Row w2 w.heap.size #[.int .i64 own, .int .i64 high, .slice a n c] 25 := R1.out.kept f2 (fun e => by rw [blk_some] at e; omega)
  have R2 := Lib.hid hR2
  have S2 := Lib.hid hs2
  have HB2 := Lib.hid hb2'
  have HNN := Lib.hid hN
  obtain ⟨N, hN2⟩ : ∃ N, N = 2 + n := ⟨_, rfl⟩
  rw [← hN2] at S2 HNN ⊢
  have hNb : N ≤ 200000 := by omega
  have SE := Lib.hid (fun w' (f : Fr none_ w w') (x : Int) => Sees_any w' own high a n c l x (HL.out.kept0 f) HN.out (by omega))
  clear hs2 f2 hb2 e3 hcs hN hb2' hR2 hN2 HFM f1 S1 R1 Z1
  go_wp2_with fail
  go_loopw [21, 3] (fun s21 s3 wr => ∃ k : Nat, k ≤ N ∧ s21 = .int .i64 k ∧ s3 = .int .i64 (vwLeastOf own high l (cs.take k) mostI) ∧ Fr none_ w2 wr) (fun s21 _ _ => N - (intOf s21).toNat)
  case atStart => exact ⟨0, Nat.zero_le _, rfl, rfl, Fr.refl _ _⟩
  case round =>
    obtain ⟨k, hk, rfl, rfl, fr⟩ := hrel
    by_cases hlt : k < N
    · have hkc : k < cs.length := by rw [← HNN.out]; exact hlt
      obtain ⟨x, hx⟩ : ∃ x, cs[k]? = some x := ⟨_, List.getElem?_eq_getElem hkc⟩
      obtain ⟨g, hg⟩ := S2.out.isAddr (by omega)
      subst hg
      have hcell : wr.cell? ⟨g, k, none⟩ = some (.int .i64 x) := fr.keep (S2.out.cell (by rw [List.getElem?_map, hx]; rfl))
      have hsn : vwLeastOf own high l (cs.take (k + 1)) mostI = if (1 ≤ x ∧ x < vwLeastOf own high l (cs.take k) mostI) ∧ vwSees own high l x = false then x else vwLeastOf own high l (cs.take k) mostI := by
        rw [List.take_add_one, hx]
        exact vwLeastOf_snoc own high l x _ _
      obtain ⟨acc, hacc⟩ : ∃ acc, acc = vwLeastOf own high l (cs.take k) mostI := ⟨_, rfl⟩
      rw [← hacc] at hsn ⊢
      have HSN := Lib.hid hsn
      have SW := Lib.hid (SE.out wr (F2.out.trans fr) x)
      have hrw : Row wr w.heap.size #[.int .i64 own, .int .i64 high, .slice a n c] 25 := R2.out.kept fr (fun e => e)
      have c0 : wr.cell? ⟨w.heap.size, 0, none⟩ = some (.int .i64 own) := hrw.cell 0
      have c1 : wr.cell? ⟨w.heap.size, 1, none⟩ = some (.int .i64 high) := hrw.cell 1
      have c2 : wr.cell? ⟨w.heap.size, 2, none⟩ = some (.slice a n c) := hrw.cell 2
      clear hsn hacc hrw hx hkc
      have nxt : ∀ r, r = vwLeastOf own high l (cs.take (k + 1)) mostI → ∀ wq, Fr none_ w2 wq → ∃ k1 : Nat, k1 ≤ N ∧ Value.int .i64 ((k : Int) + 1) = .int .i64 k1 ∧ Value.int .i64 r = .int .i64 (vwLeastOf own high l (cs.take k1) mostI) ∧ Fr none_ w2 wq :=
        fun r hr wq fq => ⟨k + 1, hlt, by go_num, by rw [hr], fq⟩
      have NXT := Lib.hid nxt
      clear nxt
      by_cases h1 : 1 ≤ x
      · by_cases h2 : x < acc
        · cases hs : vwSees own high l x
          · rw [hs, if_pos ⟨⟨h1, h2⟩, rfl⟩] at HSN
            rw [hs] at SW
            clear hs
            go_wp2_with fail
            refine SW.out.mono ?_
            rintro e w5 ⟨rfl, f5⟩
            have f5' := Lib.hid (fr.trans f5)
            clear f5
            go_wp2_with fail
            exact ⟨NXT.out _ HSN.out.symm _ f5'.out, by simp [intOf]; omega⟩
          · rw [hs, if_neg (fun h => by cases h.2)] at HSN
            rw [hs] at SW
            clear hs
            go_wp2_with fail
            refine SW.out.mono ?_
            rintro e w5 ⟨rfl, f5⟩
            have f5' := Lib.hid (fr.trans f5)
            clear f5
            go_wp2_with fail
            exact ⟨NXT.out _ HSN.out.symm _ f5'.out, by simp [intOf]; omega⟩
        · rw [if_neg (fun h => h2 h.1.2)] at HSN
          go_wp2_with fail
          exact ⟨NXT.out _ HSN.out.symm _ fr, by simp [intOf]; omega⟩
      · rw [if_neg (fun h => h1 h.1.1)] at HSN
        go_wp2_with fail
        exact ⟨NXT.out _ HSN.out.symm _ fr, by simp [intOf]; omega⟩
    · have hkN : k = N := by omega
      have hfin : vwLeastOf own high l (cs.take k) mostI = vwLeast own high l := by rw [HFM'.out, List.take_of_length_le (by have := HNN.out; omega)]
      rw [hfin]
      have FF := Lib.hid (F2.out.trans fr)
      clear hfin fr hkN
      go_wp2_with fail
      go_ret
      exact ⟨rfl, FF.out⟩
end Go.Proofs.Ytnnomeichppkpaa
