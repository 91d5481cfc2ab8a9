/-
  The reference of layer 17: Free.
-/
import Derived.Test.YteefcfndlggajaaCnRef5
import Derived.Deep.RegionLaw
namespace Go.Proofs.Yteefcfndlggajaa
open Go.RowKit
set_option linter.unusedVariables false
set_option linter.unusedSimpArgs false
set_option maxRecDepth 100000

section
variable {W w : World} {Ts : List Thing} {i j x k ar : Nat} {c : CfgV} {lim N : Nat} {t : CS} {la : Option Addr} {lc : Nat} {L : List (Nat × NV)}
set_option maxHeartbeats 8000000 in
theorem bg_rfree17 (h : Bag W Ts w) (r : RcIn Ts i j x c lim N t) (hi : t.Is lim N) (hN : N ≤ 100000) {hd : Nat} (hh : hd < 18446744073709551616) :
    Calls Try.prog 58 #[.pointer (some ⟨x, 0, none⟩), .int .u64 (hd : Int)] w fun e w' => e = .returned (.int .i64 ((t.free hd).1 : Int)) ∧ RcOut W Ts i j x c lim N (t.free hd).2 w' := by
  obtain ⟨k, ar, la, lc, L, r⟩ := r
  have hLb : L.length ≤ 100000 := by rw [r.cnt]; exact Nat.le_trans hi.up.used hN
  have P := Lib.hid (rc_place h r hLb hd)
  have HB := Lib.hid h
  have HR := Lib.hid r
  have HI := Lib.hid hi
  have c8 : w.cell? ⟨x, 8, none⟩ = some (.pointer (some ⟨ar, 0, none⟩)) := h.rcell r 8 _ rfl
  have AL := Lib.hid (bg_rfree h r.ref hi.up.wf.blank hh (E := ((aFree t.s hd).1 : Int)) (by rw [aFree_blank]))
  rw [aFree_blank] at AL
  clear h r hi
  go_enter Try.func58, Try.ntmps58
  go_wp2_with fail
  refine P.out.mono ?_
  rintro e w1 ⟨⟨q, n, ⟨rfl, hq⟩ | ⟨rfl, hn⟩⟩, rfl⟩
  · have hf : t.f hd = some n := HR.out.rep.here _ (List.mem_of_getElem? hq)
    obtain ⟨i1, i2, i3, i4⟩ := HI.out.free hh
    rw [hf] at i2
    obtain ⟨t', ht'⟩ : ∃ t', t' = (t.free hd).2 := ⟨_, rfl⟩
    have E := Lib.hid (show t.free hd = (0, t') from by rw [ht']; unfold CS.free; rw [hf])
    have HTF : Hid (t'.f = upd t.f hd none) := Lib.hid (by rw [ht']; unfold CS.free; rw [hf])
    rw [← ht'] at i2 i4
    simp only [Option.isSome_some, if_true] at i2
    go_wp2_with fail
    refine AL.out.mono ?_
    rintro e w2 ⟨rfl, hb2⟩
    have hql : q < L.length := (List.getElem?_eq_some_iff.1 hq).1
    have HRP := Lib.hid (rep_drop HR.out.rep hq)
    have HLU : Hid ((L.take q ++ L.drop (q + 1)).length = t'.s.used) := Lib.hid (by have := HR.out.cnt; rw [List.length_append, List.length_take, List.length_drop]; omega)
    have hjl : j < Ts.length := (List.getElem?_eq_some_iff.1 HR.out.ref).1
    obtain ⟨Vs, hVs⟩ : ∃ Vs, Vs = Ts.set j (tRef ar N (aFree t.s hd).2.blank) := ⟨_, rfl⟩
    rw [← hVs] at hb2
    have HB3 := Lib.hid hb2
    have hrow : Vs[i]? = some (tRow17 x c ar la L.length lc) := by rw [hVs, List.getElem?_set_ne (Ne.symm HR.out.ij)]; exact HR.out.row
    have href : Vs[j]? = some (tRef ar N t'.s.blank) := by rw [hVs, List.getElem?_set_self hjl, i4]
    have hsl : Vs[k]? = some (tSlots la L.length lc L) := by rw [hVs, List.getElem?_set_ne (Ne.symm HR.out.kj)]; exact HR.out.sl
    have HST := Lib.hid (show Stay i j Ts Vs from by rw [hVs]; exact Stay.set _ _ _ _)
    have hij := Lib.hid HR.out.ij
    have c9 : w2.cell? ⟨x, 9, none⟩ = some (.slice la L.length lc) := (HB3.out.row hrow).cell 9
    have KF := Lib.hid (fun (w' : World) (f : Fr none_ w2 w') => ((HB3.out.row hrow).kept f (fun e => e)).free 9)
    have kf0 : w2.frozen? ⟨x, 9, none⟩ = false := (HB3.out.row hrow).free 9
    have hsa := HB3.out.sl hsl
    have hlc : L.length ≤ lc := hsa.2.1
    have hls := hsa.ls slotL_len rfl
    obtain ⟨b, o, hbo, hbl, hc⟩ := hls.get hq
    clear hc hbl
    subst hbo
    have SLS := Lib.hid (fun (w' : World) (f : Fr none_ w2 w') => hls.kept0 f)
    obtain ⟨n0, hn0⟩ : ∃ n0, n0 = L.length := ⟨_, rfl⟩
    rw [← hn0] at c9 hLb hlc hql hrow
    have HN0 := Lib.hid hn0
    have HV4 : Hid (4 ≤ Vs.length) := Lib.hid (by have := (List.getElem?_eq_some_iff.1 hsl).1; have := HR.out.lo; omega)
    have HROW := Lib.hid hrow
    have HREF := Lib.hid href
    obtain ⟨A3, hA3⟩ : ∃ A3 : Option Addr, A3 = if lc = q + 1 then some ⟨b, o, none⟩ else some ⟨b, o + (q + 1) * 6, none⟩ := ⟨_, rfl⟩
    have HA3 : Hid (∀ w', Fr none_ w2 w' → LsAt w' A3 6 slotL (L.drop (q + 1))) := Lib.hid (fun w' f => by
      have := (SLS.out w' f).dropN (q + 1) lc (fun e => by have := HN0.out; omega)
      have e2 : (if lc = q + 1 then some (⟨b, o, none⟩ : Addr) else (some (⟨b, o, none⟩ : Addr)).map (·.add ((q + 1) * 6))) = A3 := by
        rw [hA3]; simp [Addr.add_lit]
      rw [e2] at this
      exact this)
    have hif := hA3.symm
    obtain ⟨N3, hN3⟩ : ∃ N3, N3 = n0 - (q + 1) := ⟨_, rfl⟩
    have hn3b : N3 ≤ 100000 := by omega
    have HN3 : Hid (N3 = (L.drop (q + 1)).length) := Lib.hid (by rw [hN3, List.length_drop, ← HN0.out])
    have hn3 := hN3.symm
    have HQ3 : Hid (q + N3 = (L.take q ++ L.drop (q + 1)).length) := Lib.hid (by rw [List.length_append, List.length_take, List.length_drop, ← HN0.out, hN3]; omega)
    clear hA3 hN3
    have hw1 : (q : Int) + 1 ≤ (n0 : Int) := by omega
    have hK1 : q ≤ n0 := by omega
    have hK2 : q ≤ lc := by omega
    have s1 : IntKind.i64.wrap ((q : Int) + 1) = (q : Int) + 1 := by have := IntWalk.i64_in ((q : Int) + 1) (by omega); exact this
    have s2 : (0 : Int) ≤ (q : Int) + 1 := by omega
    have s3 : ((q : Int) + 1).toNat = q + 1 := by omega
    have HQN : Hid (q = (L.take q).length) := Lib.hid (by rw [List.length_take, ← HN0.out]; omega)
    have EMP := Lib.hid (fun (w0 w' : World) (g : Nat) (f : Fr none_ (w0.alloc (.cells #[] 111)) w') (hg : g = w0.heap.size) => show SlAt w' (some ⟨g, 0, none⟩) 0 0 111 6 [] from by
      subst hg
      exact (SlAt.made' w0 _ 6).kept0 f)
    clear hb2 hjl hVs hrow href hsl hsa hls hf i1 i2 i3 i4 ht' hq c8 P AL hn0 HB HR HI
    have c9a : ∀ u, (w2.alloc u).drew.cell? ⟨x, 9, none⟩ = some (.slice (some ⟨b, o, none⟩) n0 lc) := fun u => Fr.keep ((Fr.alloc none_ w2 u).drew_r) c9
    have c9e : w2.drew.cell? ⟨x, 9, none⟩ = some (.slice (some ⟨b, o, none⟩) n0 lc) := Fr.keep (Fr.drew none_ w2) c9
    go_wp2_with fail
    go_region_law (first
      | (refine stepAppendLn rfl (.tmp 22) (.tmp 28) _ rfl 111 (.agg #[.int .u64 0, .int .i64 0, .int .i64 0, .bool false, .string ⟨#[]⟩, .int .u64 0]) 6 56 Try.underlying103 slot_info rfl (EMP.out _ _ _ (by first | with_reducible exact Fr.refl _ _ | with_reducible exact Fr.drew _ _ | with_reducible exact (Fr.drew _ _).alloc_r _ | with_reducible exact Fr.alloc _ _ _ | with_reducible exact (Fr.alloc _ _ _).drew_r | with_reducible exact ((Fr.alloc _ _ _).drew_r).alloc_r _ | with_reducible exact ((Fr.alloc _ _ _).alloc_r _).drew_r) (by first | rfl | simp | simp [World.drew])) ((SLS.out _ (by first | with_reducible exact Fr.refl _ _ | with_reducible exact Fr.drew _ _ | with_reducible exact (Fr.drew _ _).alloc_r _ | with_reducible exact Fr.alloc _ _ _ | with_reducible exact (Fr.alloc _ _ _).drew_r | with_reducible exact ((Fr.alloc _ _ _).drew_r).alloc_r _ | with_reducible exact ((Fr.alloc _ _ _).alloc_r _).drew_r)).takeN q) HQN.out slotL_len slotL_one rfl rfl (by simp [maxLen]; omega) (by omega) ?_
         intro a4 n4 c4 w4 hn4 hs4 f4 hb4
         have F4 : Hid (Fr none_ w2 w4) := Lib.hid (Fr.step (by first | with_reducible exact Fr.refl _ _ | with_reducible exact Fr.drew _ _ | with_reducible exact (Fr.drew _ _).alloc_r _ | with_reducible exact Fr.alloc _ _ _ | with_reducible exact (Fr.alloc _ _ _).drew_r | with_reducible exact ((Fr.alloc _ _ _).drew_r).alloc_r _ | with_reducible exact ((Fr.alloc _ _ _).alloc_r _).drew_r) f4 (fun q hq e => by rw [blk_some] at e; omega))
         have B4 : Hid (∀ q, blk a4 q → w2.heap.size ≤ q) := Lib.hid (blk_new hb4 (by omega) (by first | omega | (simp; done) | (simp; omega) | (simp [World.drew]; done) | (simp [World.drew]; omega)))
         have S4 : Hid (SlAt w4 a4 n4 c4 111 6 ((L.take q).flatMap slotL)) := Lib.hid (by rw [List.nil_append] at hs4; exact hs4)
         have HN4 : Hid (n4 = q) := Lib.hid (by have := hn4.out; omega)
         have hn4b : n4 ≤ 100000 := by have := HN4.out; omega
         have c9b : w4.cell? ⟨x, 9, none⟩ = some (.slice (some ⟨b, o, none⟩) n0 lc) := F4.out.keep c9
         have kfb : w4.frozen? ⟨x, 9, none⟩ = false := KF.out _ F4.out
         clear hn4 hs4 f4 hb4)
      | (refine stepAppendLn rfl (.tmp 29) (.tmp 36) _ rfl 111 (.agg #[.int .u64 0, .int .i64 0, .int .i64 0, .bool false, .string ⟨#[]⟩, .int .u64 0]) 6 56 Try.underlying103 slot_info rfl S4.out (HA3.out _ F4.out) HN3.out slotL_len slotL_one rfl rfl (by simp [maxLen]; omega) (by omega) ?_
         intro a5 n5 c5 w5 hn5 hs5 f5 hb5
         have F5 : Hid (Fr none_ w2 w5) := Lib.hid (F4.out.step f5 (fun q hq e => by have := B4.out q e; omega))
         have B5 : Hid (∀ q, blk a5 q → w2.heap.size ≤ q) := Lib.hid (fun q hq => by
           rcases hb5 q hq with r | r
           · exact B4.out q r
           · have := F4.out.size
             omega)
         have HN5 : Hid (n5 = (L.take q ++ L.drop (q + 1)).length) := Lib.hid (by have := hn5.out; have := HN4.out; have := HQ3.out; omega)
         have S5 : Hid (SlAt w5 a5 n5 c5 111 6 ((L.take q ++ L.drop (q + 1)).flatMap slotL)) := Lib.hid (by rw [List.flatMap_append]; exact hs5)
         have c9c : w5.cell? ⟨x, 9, none⟩ = some (.slice (some ⟨b, o, none⟩) n0 lc) := F5.out.keep c9
         have kfc : w5.frozen? ⟨x, 9, none⟩ = false := KF.out _ F5.out
         clear hn5 hs5 f5 hb5))
    all_goals
      have RS := Lib.hid (bg_reslot HB3.out (by rw [HROW.out, HN0.out]) F5.out HN5.out S5.out B5.out)
      obtain ⟨r1, r2⟩ := rc_reslot (by rw [HROW.out, HN0.out]) t' HREF.out hij.out HV4.out (L.take q ++ L.drop (q + 1)) (by rw [HTF.out]; exact HRP.out) HLU.out a5 c5
      have R1 := Lib.hid r1
      have R2 := Lib.hid (HST.out.trans r2)
      clear r1 r2
      go_wp2_with fail
      go_ret
      rw [E.out]
      exact ⟨rfl, _, RS.out, R1.out, R2.out⟩
  · have E := Lib.hid (show t.free hd = (5, t) from by unfold CS.free; rw [hn])
    clear hn
    go_wp2_with fail
    go_ret
    rw [E.out]
    exact ⟨rfl, RcOut.same HB.out HR.out⟩
end
end Go.Proofs.Yteefcfndlggajaa
