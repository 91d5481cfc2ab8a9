/-
  The reference of layer 17: List.
-/
import Derived.Test.YteefcfndlggajaaCnRef6
import Derived.Test.YteefcfndlggajaaCnBag
namespace Go.Proofs.Yteefcfndlggajaa
open Go.RowKit
set_option linter.unusedVariables false
set_option linter.unusedSimpArgs false
set_option maxRecDepth 100000

section
variable {W w : World} {Ts : List Thing} {i j x k ar : Nat} {c : CfgV} {lim N : Nat} {t : CS} {la : Option Addr} {lc : Nat} {L : List (Nat × NV)}
set_option maxHeartbeats 8000000 in
theorem bg_rlist (h : Bag W Ts w) (r : RcIn Ts i j x c lim N t) (hu : t.s.used ≤ 100000) (top : Nat) (l : List VerV) (hl : (cWalk t.f t.s.used top).map NV.toVer = l) :
    Calls Try.prog 60 #[.pointer (some ⟨x, 0, none⟩), .int .u64 (top : Int)] w fun e w' => ∃ a cap, e = .returned (.slice a l.length cap) ∧ LsAt w' a 4 VerV.list l ∧ Fr none_ w w' := by
  obtain ⟨k, ar, la, lc, L, r⟩ := r
  have hln : L.length = t.s.used := r.cnt
  have c9 : w.cell? ⟨x, 9, none⟩ = some (.slice la L.length lc) := h.rcell r 9 _ rfl
  have RD := Lib.hid (fun w' (f : Fr none_ w w') (hd : Nat) => Rc_Read w' x la lc L (f.keep c9) (((h.sl r.sl).ls slotL_len rfl).kept0 f) (by omega) t.f r.rep hd)
  have C9 := Lib.hid (fun w' (f : Fr none_ w w') => f.keep c9)
  obtain ⟨n0, hn0⟩ : ∃ n0, n0 = L.length := ⟨_, rfl⟩
  rw [← hn0] at C9 hln
  have hnb : n0 ≤ 100000 := by omega
  have HL := Lib.hid (show (cWalk t.f n0 top).map NV.toVer = l by rw [hln]; exact hl)
  have hlen : l.length ≤ n0 := by rw [← HL.out, List.length_map]; exact cWalk_length _ _ _
  obtain ⟨f, hf⟩ : ∃ f, f = t.f := ⟨_, rfl⟩
  rw [← hf] at HL RD
  clear h r hu hl hln hf hn0 c9
  go_enter Try.func60, Try.ntmps60
  go_wp2_with fail
  go_loopw [1, 5, 6] (fun tv ov iv wr => ∃ (i : Nat) (b : Option Addr) (cb tp : Nat) (pre : List VerV), Hid (i ≤ n0) ∧ tv = .int .u64 (tp : Int) ∧ ov = .slice b i cb ∧ iv = .int .i64 (i : Int) ∧ Hid (pre.length = i) ∧ Hid (l = pre ++ (cWalk f (n0 - i) tp).map NV.toVer) ∧ Hid (SlAt wr b i cb 32 4 (pre.flatMap VerV.list)) ∧ Hid (∀ q, blk b q → w.heap.size ≤ q) ∧ Hid (Fr none_ w wr)) (fun _ _ iv _ => n0 - (intOf iv).toNat)
  case atStart => exact ⟨0, none, 0, top, [], Lib.hid (Nat.zero_le _), rfl, rfl, rfl, Lib.hid rfl, Lib.hid HL.out.symm, Lib.hid (SlAt.empty _ _ _), Lib.hid (fun q hq => absurd hq (blk_none q)), Lib.hid (Fr.refl _ _)⟩
  case round =>
    obtain ⟨i, b, cb, tp, pre, hi, rfl, rfl, rfl, hp, hx, hs, hb, hfr⟩ := hrel
    have q9 := C9.out _ hfr.out
    by_cases hlt : i < n0
    · have hR := RD.out _ hfr.out tp
      cases e : f tp with
      | none =>
        rw [e] at hR
        have HRD := Lib.hid hR
        have HE := Lib.hid (show l = pre by rw [hx.out, cWalk_none e]; simp)
        clear e hR
        unfold nodeOf at HRD
        go_wp2_with fail
        refine HRD.out.mono ?_
        rintro e w1 ⟨rfl, f1⟩
        have F1 := Lib.hid f1
        have RB := Lib.hid (Row.new w1 nodeZero 67)
        clear f1
        go_wp2_with ((with_reducible refine at_storeOf 67 ?_); refine wpStoreRow (cs' := nodeZero) rfl _ _ _ rfl RB.out rfl (by rfl) (by kernel_rfl) rfl (by simp [NV.cells, nodeZero, Value.oneCell']) ?_; intro w3 R3 f3; have F3 := Lib.hid f3; clear f3 R3)
        go_ret
        have FW : Fr none_ wr w3 := (F1.out.trans (Fr.alloc none_ w1 _)).step F3.out (fun q hq e => by unfold one at e; have := F1.out.size; omega)
        refine ⟨b, cb, by rw [HE.out, hp.out]; rfl, ?_, hfr.out.trans FW⟩
        rw [HE.out]
        exact (show LsAt wr b 4 VerV.list pre from hs.out.ls (fun _ => rfl) hp.out.symm).kept0 FW
      | some n =>
        rw [e] at hR
        have HRD := Lib.hid hR
        have HX : Hid (l = (pre ++ [n.toVer]) ++ (cWalk f (n0 - (i + 1)) n.nx).map NV.toVer) := Lib.hid (by
          rw [hx.out, cWalk_some (by omega) e, show n0 - i - 1 = n0 - (i + 1) by omega]; simp)
        clear e hR
        unfold nodeOf at HRD
        go_wp2_with fail
        refine HRD.out.mono ?_
        rintro e w1 ⟨rfl, f1⟩
        have F1 := Lib.hid f1
        have RB := Lib.hid (Row.new w1 nodeZero 67)
        clear f1
        go_wp2_with ((with_reducible refine at_storeOf 67 ?_); refine wpStoreRow (cs' := n.cells) rfl _ _ _ rfl RB.out rfl (by rfl) (by kernel_rfl) rfl (by simp [NV.cells, nodeZero, Value.oneCell']) ?_; intro w3 R3 f3; refine Stop.mk ?_)
        show wpList _ _ _ _ _ _
        have FW := Lib.hid (show Fr none_ wr w3 from (F1.out.trans (Fr.alloc none_ w1 _)).step f3 (fun q hq e => by unfold one at e; have := F1.out.size; omega))
        have z1 : wr.heap.size ≤ w1.heap.size := F1.out.size
        have c0 : w3.cell? ⟨w1.heap.size, 0, none⟩ = some (.int .i64 (n.wr : Int)) := R3.cell 0
        have c1 : w3.cell? ⟨w1.heap.size, 1, none⟩ = some (.int .i64 (n.ts : Int)) := R3.cell 1
        have c2 : w3.cell? ⟨w1.heap.size, 2, none⟩ = some (.bool n.tomb) := R3.cell 2
        have c3 : w3.cell? ⟨w1.heap.size, 3, none⟩ = some (.string n.val) := R3.cell 3
        have RR := Lib.hid R3
        have HGZ : Hid (wr.heap.size ≤ w1.heap.size) := Lib.hid (by omega)
        have HVE := Lib.hid (show (n.toVer.list).toArray = #[.int .i64 (n.wr : Int), .int .i64 (n.ts : Int), .bool n.tomb, .string n.val] from rfl)
        have HSA := Lib.hid ((hs.out.kept0 FW.out).kept0 (Fr.alloc none_ w3 (.cells n.toVer.list.toArray 32)))
        have RA := Lib.hid (new_cells w3 n.toVer.list 32)
        have hib : i ≤ 100000 := by omega
        clear R3 f3 z1
        go_wp2_with (at_builtin; refine Stop.mk ?_)
        show wpList _ _ _ _ _ _
        rw [← HVE.out]
        refine wpAppend rfl _ _ _ rfl 32 (.agg #[.int .i64 0, .int .i64 0, .bool false, .string ⟨#[]⟩]) 4 40 Try.underlying24 verInfo rfl HSA.out rfl ⟨w3.heap.size, 0, none⟩ 1 1 n.toVer.list rfl rfl RA.out (by intro u hu; unfold VerV.list at hu; simp only [List.mem_cons, List.not_mem_nil, or_false] at hu; rcases hu with rfl | rfl | rfl | rfl <;> rfl) (by omega) (by unfold maxLen; omega) (by omega) ?_
        intro b' cb' w5 hs5 f5 hb5
        have F5 := Lib.hid (show Fr none_ w w5 from ((hfr.out.trans FW.out).alloc_r _).step f5 (fun q hq e => by have := hb.out q e; omega))
        have q4 : w5.cell? ⟨w1.heap.size, 4, none⟩ = some (.int .u64 (n.nx : Int)) := ((RR.out.kept (Fr.alloc none_ w3 (.cells n.toVer.list.toArray 32)) (fun e => e)).kept f5 (fun e => by have := hs.out.lt _ e; have := HGZ.out; omega)).cell 4
        have S5 := Lib.hid (show SlAt w5 b' (i + 1) cb' 32 4 ((pre ++ [n.toVer]).flatMap VerV.list) from by rw [List.flatMap_append]; simpa using hs5)
        have B5 : Hid (∀ q, blk b' q → w.heap.size ≤ q) := Lib.hid (fun q hq => by
          rcases hb5 q hq with e | e
          · exact hb.out q e
          · have h1 := (hfr.out.trans FW.out).size
            rw [World.size_alloc] at e
            omega)
        clear hs5 f5 hb5 c0 c1 c2 c3
        go_wp2_with fail
        go_roundw
        case rel => exact ⟨i + 1, b', cb', n.nx, pre ++ [n.toVer], hlt, rfl, rfl, by go_num, Lib.hid (by rw [List.length_append, hp.out]; rfl), HX, S5, B5, F5⟩
        case measure => simp [intOf]; omega
    · have hie : i = n0 := by have := hi.out; omega
      have HE := Lib.hid (show l = pre by rw [hx.out, hie, Nat.sub_self]; show pre ++ [] = pre; simp)
      go_wp2_with fail
      go_ret
      refine ⟨b, cb, by rw [HE.out, hp.out]; rfl, ?_, hfr.out⟩
      rw [HE.out]
      exact hs.out.ls (fun _ => rfl) hp.out.symm
end
end Go.Proofs.Yteefcfndlggajaa
