/-
  What the law of layer 17 asks of a pair: like.
-/
import Derived.Test.YteefcfndlggajaaCnRef7
import Derived.Test.YteefcfndlggajaaCnStep
import Derived.Test.YteefcfndlggajaaCnAwake
import Derived.RegionTactic
namespace Go.Proofs.Yteefcfndlggajaa
open Go.ChangeShapes Go.WideShapes Go.ChangeAt Go.RowKit Go.Deep Go.Joins
set_option linter.unusedVariables false
set_option linter.unusedSimpArgs false
set_option maxRecDepth 100000

theorem node_same3 (a b : Int) (c : Bool) (d : ByteArray) (e : Int) (w : World) : (binOp .neq 67 (.agg #[.int .i64 a, .int .i64 b, .bool c, .string d, .int .u64 e]) (.agg #[.int .i64 a, .int .i64 b, .bool c, .string d, .int .u64 e])).run Try.prog w = .ok (.bool false) w := by
  rw [run_neq_struct, run_equalIn_agg w _ _ _ _ (by kernel_rfl) (by kernel_rfl)]
  simp [Program.fieldsOf, Try.underlying67, Try.underlying32, Op.eqFields, go_sem]
section
variable {W w : World} {Ts : List Thing} {i0 j0 x y : Nat} {c : CfgV} {lim N M : Nat} {t : CS}
set_option maxHeartbeats 8000000 in
theorem like_any (h : Bag W Ts w) {e0 : Nat} (he : Ts[e0]? = some (tEng x c lim N t)) (hN : N < big) (r : RcIn Ts i0 j0 y c lim M t) (hu : t.s.used ≤ 100000) {a : Option Addr} {cap : Nat} {told : List Nat} (hsl : SlAt w a told.length cap 34 1 (told.map hvU)) (hlen : told.length ≤ 1000000) (ht : allLt told) :
    Calls Try.prog 31 #[.pointer (some ⟨x, 0, none⟩), .pointer (some ⟨y, 0, none⟩), .slice a told.length cap] w fun e w' => e = .returned (.bool true) ∧ Fr none_ w w' := by
  have HG := Lib.hid (fun w' (f : Fr none_ w w') => h.keep0 f)
  have HE := Lib.hid he
  have HBIG := Lib.hid hN
  have HRI := Lib.hid r
  have HU := Lib.hid hu
  have HSL := Lib.hid (fun w' (f : Fr none_ w w') => hsl.kept0 f)
  have HLT := Lib.hid ht
  have HRD2 := Lib.hid (show ∀ w' (f : Fr none_ w w') (hd : Nat), Calls Try.prog 30 #[.pointer (some ⟨y, 0, none⟩), .int .u64 (hd : Int)] w' fun e w'' => e = .returned (.tuple #[.agg (nodeOf (t.f hd)), .bool (t.f hd).isSome]) ∧ Fr none_ w' w'' from fun w' f hd => by
    obtain ⟨k, ar, la, lc, L, r⟩ := r
    exact Rc_Read w' y la lc L (f.keep (h.rcell r 9 _ rfl)) (((h.sl r.sl).ls slotL_len rfl).kept0 f) (by rw [r.cnt]; omega) t.f r.rep hd)
  obtain ⟨u0, hu0⟩ : ∃ u0, u0 = t.s.used := ⟨_, rfl⟩
  have C9 : Hid (∃ la lc, ∀ w', Fr none_ w w' → w'.cell? ⟨y, 9, none⟩ = some (.slice la u0 lc)) := Lib.hid (by
    obtain ⟨k, ar, la, lc, L, r⟩ := r
    refine ⟨la, lc, fun w' f => f.keep ?_⟩
    rw [hu0, ← r.cnt]
    exact h.rcell r 9 _ rfl)
  have HUS := Lib.hid (show ∀ w' (f : Fr none_ w w'), Calls Try.prog 16 #[.pointer (some ⟨x, 0, none⟩)] w' fun e w'' => e = .returned (.int .i64 (u0 : Int)) ∧ w' = w'' from fun w' f => by rw [hu0]; exact bg_used (h.keep0 f) he)
  have hub : u0 ≤ 100000 := by omega
  clear h he hN r hu hsl ht hu0
  go_enter Try.func31, Try.ntmps31
  go_wp2_with fail
  go_loopw [7] (fun iv wr => ∃ i : Nat, Hid (i ≤ told.length) ∧ iv = .int .i64 (i : Int) ∧ Hid (Fr none_ w wr)) (fun iv _ => told.length - (intOf iv).toNat)
  case atStart => exact ⟨0, Lib.hid (Nat.zero_le _), rfl, Lib.hid (Fr.refl _ _)⟩
  case round =>
    obtain ⟨i, hi, rfl, hfr⟩ := hrel
    by_cases hlt : i < told.length
    · obtain ⟨z, hy⟩ : ∃ z, told[i]? = some z := ⟨_, List.getElem?_eq_getElem hlt⟩
      have hs := HSL.out _ hfr.out
      obtain ⟨gb, hgb⟩ := hs.isAddr (by omega)
      subst hgb
      have s0 : wr.cell? ⟨gb, i, none⟩ = some (.int .u64 (z : Int)) := hs.cell (i := i) (v := hvU z) (by rw [List.getElem?_map, hy]; rfl)
      have hz := HLT.out z (List.mem_of_getElem? hy)
      have hrd := bg_read (HG.out _ hfr.out) HE.out hz
      have hrd2 := fun w' f => HRD2.out w' f z
      obtain ⟨na, nb, nc, nd, ne, hno⟩ := nodeOf_is (t.f z)
      rw [hno] at hrd hrd2
      obtain ⟨bz, hbz⟩ : ∃ bz, bz = (t.f z).isSome := ⟨_, rfl⟩
      rw [← hbz] at hrd hrd2
      have HRD := Lib.hid hrd
      have HRDB := Lib.hid hrd2
      have HZ := Lib.hid hz
      have hns := fun w' => node_same3 na nb nc nd (ne : Int) w'
      clear hs hrd hrd2 hno hy hbz hz
      go_wp2_with fail
      refine HRD.out.mono ?_
      rintro e w5 ⟨rfl, f5⟩
      have F5 := Lib.hid (f5.trans (Fr.alloc none_ w5 (.cells #[.int .i64 na, .int .i64 nb, .bool nc, .string nd, .int .u64 (ne : Int)] 36)))
      have R5 := Lib.hid (Row.new w5 #[.int .i64 na, .int .i64 nb, .bool nc, .string nd, .int .u64 (ne : Int)] 36)
      have s5 := F5.out.keep s0
      clear f5
      go_wp2_with fail
      refine (HRDB.out _ (hfr.out.trans F5.out)).mono ?_
      rintro e w7 ⟨rfl, f7⟩
      have fa := Fr.alloc none_ w7 (.cells #[.int .i64 na, .int .i64 nb, .bool nc, .string nd, .int .u64 (ne : Int)] 67)
      obtain ⟨w8, hw8⟩ : ∃ w8, w8 = w7.alloc (.cells #[.int .i64 na, .int .i64 nb, .bool nc, .string nd, .int .u64 (ne : Int)] 67) := ⟨_, rfl⟩
      have R8 := Row.new w7 #[.int .i64 na, .int .i64 nb, .bool nc, .string nd, .int .u64 (ne : Int)] 67
      rw [← hw8] at R8 fa
      have R58 := R5.out.kept (f7.trans fa) (fun e => e)
      have s8 : w8.cell? ⟨gb, i, none⟩ = some (.int .u64 (z : Int)) := (f7.trans fa).keep s5
      obtain ⟨b5, hb5⟩ : ∃ b5, b5 = w5.heap.size := ⟨_, rfl⟩
      obtain ⟨b7, hb7⟩ : ∃ b7, b7 = w7.heap.size := ⟨_, rfl⟩
      rw [← hb5] at R58
      rw [← hb7] at R8
      have n0 : w8.cell? ⟨b5, 0, none⟩ = some (.int .i64 na) := R58.cell 0
      have n1 : w8.cell? ⟨b5, 1, none⟩ = some (.int .i64 nb) := R58.cell 1
      have n2 : w8.cell? ⟨b5, 2, none⟩ = some (.bool nc) := R58.cell 2
      have n3 : w8.cell? ⟨b5, 3, none⟩ = some (.string nd) := R58.cell 3
      have n4 : w8.cell? ⟨b5, 4, none⟩ = some (.int .u64 (ne : Int)) := R58.cell 4
      have m0 : w8.cell? ⟨b7, 0, none⟩ = some (.int .i64 na) := R8.cell 0
      have m1 : w8.cell? ⟨b7, 1, none⟩ = some (.int .i64 nb) := R8.cell 1
      have m2 : w8.cell? ⟨b7, 2, none⟩ = some (.bool nc) := R8.cell 2
      have m3 : w8.cell? ⟨b7, 3, none⟩ = some (.string nd) := R8.cell 3
      have m4 : w8.cell? ⟨b7, 4, none⟩ = some (.int .u64 (ne : Int)) := R8.cell 4
      have F8 := Lib.hid (hfr.out.trans (F5.out.trans (f7.trans fa)))
      have HW8 := Lib.hid hw8.symm
      have HB5 := Lib.hid hb5.symm
      have HB7 := Lib.hid hb7.symm
      obtain ⟨lv, hlv⟩ : ∃ lv, (cWalk t.f t.s.used z).map NV.toVer = lv := ⟨_, rfl⟩
      have hlb : lv.length ≤ 100000 := by rw [← hlv, List.length_map]; exact Nat.le_trans (cWalk_length _ _ _) HU.out
      have hli := fun w' (f : Fr none_ w8 w') => bg_list (HG.out _ (F8.out.trans f)) HE.out HBIG.out HZ.out (by have := HU.out; omega) lv hlv
      have hlr := fun w' (f : Fr none_ w8 w') => bg_rlist (HG.out _ (F8.out.trans f)) HRI.out HU.out z lv hlv
      obtain ⟨n, hn⟩ : ∃ n, n = lv.length := ⟨_, rfl⟩
      rw [← hn] at hli hlr hlb
      have HLI := Lib.hid hli
      have HLR := Lib.hid hlr
      have HSM := Lib.hid (fun w' a b ca cb hl hm => Lists_same (w := w') (a := a) (b := b) (ca := ca) (cb := cb) (l := lv) n hn.symm hl hm (by omega))
      have hf8 := Fr.refl none_ w8
      clear s0 s5 f7 fa hw8 hb5 hb7 R8 R58 hli hlr hlv hn
      go_upto_region 6 with fail
      rw [HW8.out, HB5.out, HB7.out]
      go_cut [59] (fun u wx => u = .bool false ∧ Fr none_ w8 wx)
      case first =>
        go_region_held3 (fun w' => Fr none_ w8 w' ∧ w'.cell? ⟨b5, 0, none⟩ = some (.int .i64 na) ∧ w'.cell? ⟨b5, 1, none⟩ = some (.int .i64 nb) ∧ w'.cell? ⟨b5, 2, none⟩ = some (.bool nc) ∧ w'.cell? ⟨b5, 3, none⟩ = some (.string nd) ∧ w'.cell? ⟨b5, 4, none⟩ = some (.int .u64 (ne : Int)) ∧ w'.cell? ⟨b7, 0, none⟩ = some (.int .i64 na) ∧ w'.cell? ⟨b7, 1, none⟩ = some (.int .i64 nb) ∧ w'.cell? ⟨b7, 2, none⟩ = some (.bool nc) ∧ w'.cell? ⟨b7, 3, none⟩ = some (.string nd) ∧ w'.cell? ⟨b7, 4, none⟩ = some (.int .u64 (ne : Int)) ∧ w'.cell? ⟨gb, i, none⟩ = some (.int .u64 (z : Int)))
          (first | (go_split_ands; refine ⟨?_, ?_, ?_, ?_, ?_, ?_, ?_, ?_, ?_, ?_, ?_, ?_⟩; exact Fr.trans (by assumption) f9; all_goals exact Fr.keep f9 (by assumption)) | (go_split_ands; refine ⟨?_, ?_, ?_, ?_, ?_, ?_, ?_, ?_, ?_, ?_, ?_, ?_⟩; exact Fr.trans (by assumption) f7; all_goals exact Fr.keep f7 (by assumption)) | (go_split_ands; refine ⟨?_, ?_, ?_, ?_, ?_, ?_, ?_, ?_, ?_, ?_, ?_, ?_⟩; exact Fr.trans (by assumption) f6; all_goals exact Fr.keep f6 (by assumption)) | (go_split_ands; refine ⟨?_, ?_, ?_, ?_, ?_, ?_, ?_, ?_, ?_, ?_, ?_, ?_⟩; exact Fr.trans (by assumption) (Fr.drew _ _); all_goals assumption) | go_keep)
          (first
            | (go_at_call 14; refine (HLI.out _ (by exact (‹Fr none_ w8 _ ∧ _›).1)).mono ?_; rintro e w6 ⟨a6, cap6, rfl, l6, f6⟩)
            | (go_at_call 60; refine (HLR.out _ (by exact (‹Fr none_ w8 _ ∧ _›).1)).mono ?_; rintro e w7 ⟨a7, cap7, rfl, l7, f7⟩)
            | (go_at_call 13; refine (HSM.out _ _ _ _ _ (by first | exact l6 | exact l6.kept0 f7) (by first | exact l7 | exact l7.kept0 f6)).mono ?_; rintro e w9 ⟨rfl, f9⟩))
        all_goals (rename_i hk; have hF := hk.1; clear hk; go_wp2_with fail; go_meet; exact ⟨rfl, hF⟩)
      case rest =>
        obtain ⟨rfl, h9⟩ := hcut
        have FE := Lib.hid (F8.out.trans h9)
        clear h9 n0 n1 n2 n3 n4 m0 m1 m2 m3 m4 s8 hf8
        go_wp2_with fail
        go_roundw
        case rel => exact ⟨i + 1, Lib.hid hlt, by go_num, FE⟩
        case measure => simp [intOf]; omega
    · obtain ⟨la, lc, c9⟩ := C9.out
      have k9 := c9 _ hfr.out
      have HUR := Lib.hid (fun w' (f : Fr none_ wr w') => HUS.out w' (hfr.out.trans f))
      have hf := Fr.refl none_ wr
      clear c9
      go_upto_region 8 with fail
      go_region_held3 (fun w' => Fr none_ wr w' ∧ w'.cell? ⟨y, 9, none⟩ = some (.slice la u0 lc))
        (first | (go_split_ands; exact ⟨Fr.trans (by assumption) (Fr.drew _ _), by assumption⟩) | (go_split_ands; exact ⟨by assumption, by assumption⟩) | go_keep)
        (first
          | (go_at_call 16; refine (HUR.out _ (by exact (‹Fr none_ wr _ ∧ _›).1)).mono ?_; rintro e w13 ⟨rfl, rfl⟩))
      all_goals
        rename_i hk
        have hF := hk.1
        clear hk
        go_wp2_with fail
        go_ret
        exact ⟨rfl, hfr.out.trans hF⟩
end
end Go.Proofs.Yteefcfndlggajaa
