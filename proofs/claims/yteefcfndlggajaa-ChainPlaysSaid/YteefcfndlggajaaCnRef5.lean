/-
  The reference of layer 17: Make.
-/
import Derived.Test.YteefcfndlggajaaCnRef4
import Derived.Deep.RegionLaw
namespace Go.Proofs.Yteefcfndlggajaa
open Go.RowKit
set_option linter.unusedVariables false
set_option linter.unusedSimpArgs false
set_option maxRecDepth 100000

theorem ls_newN {α : Type} (cells : α → List Value) (sz : Nat) (hsz : ∀ x, (cells x).length = sz) (w : World) (t : TypeId) (l : List α) : LsAt (w.alloc (.cells (l.flatMap cells).toArray t)) (some ⟨w.heap.size, 0, none⟩) sz cells l := by
  refine Or.inr ⟨w.heap.size, 0, rfl, by simp, fun i x hx j v hv => ?_⟩
  rw [(Row.new w (l.flatMap cells).toArray t).cell, Nat.zero_add]
  simpa using flat_cells cells sz hsz l i x hx j v hv
theorem ls_keep_blk {α : Type} {cells : α → List Value} {sz g g1 : Nat} {l : List α} {w w' : World} (f : Fr (blk (some ⟨g, 0, none⟩)) w w') (h : LsAt w (some ⟨g1, 0, none⟩) sz cells l) (hne : g1 ≠ g) : LsAt w' (some ⟨g1, 0, none⟩) sz cells l := h.kept f (fun q hq e => by rw [blk_some] at hq e; omega)
section
variable {W w : World} {Ts : List Thing} {i j x k ar : Nat} {c : CfgV} {lim N : Nat} {t : CS} {la : Option Addr} {lc : Nat} {L : List (Nat × NV)}
theorem bg_refmore (h : Bag W Ts w) {M : Nat} {s : AS} (hj : Ts[j]? = some (tRef ar N s)) (h1 : N ≤ M) (h2 : M ≤ 1000000) : Bag W (Ts.set j (tRef ar M s)) w :=
  h.turn hj (fun F hF => ⟨F, ⟨hF.1, hF.2.weakN h1 h2⟩, Fr.refl _ _, fun k hk => Or.inl hk⟩)
theorem RcAt.reref (r : RcAt Ts i j x c lim N t k ar la lc L) {M : Nat} {t' : CS} (hf : t'.f = t.f) (hu : t'.s.used = t.s.used) : RcAt (Ts.set j (tRef ar M t'.s.blank)) i j x c lim M t' k ar la lc L := by
  have hjl : j < Ts.length := (List.getElem?_eq_some_iff.1 r.ref).1
  exact ⟨by rw [List.getElem?_set_ne (Ne.symm r.ij)]; exact r.row, List.getElem?_set_self hjl, by rw [List.getElem?_set_ne (Ne.symm r.kj)]; exact r.sl, r.ij, r.ki, r.kj, by rw [hf]; exact r.rep, by rw [hu]; exact r.cnt, r.lo⟩
theorem Stay.set (i j : Nat) (Ts : List Thing) (T : Thing) : Stay i j Ts (Ts.set j T) := fun m U _ h2 h3 => by rw [List.getElem?_set_ne (Ne.symm h2)]; exact h3
theorem Stay.trans {i j : Nat} {Ts Us Vs : List Thing} (h : Stay i j Ts Us) (k : Stay i j Us Vs) : Stay i j Ts Vs := fun m T h1 h2 h3 => k m T h1 h2 (h m T h1 h2 h3)
theorem RcAt.app (r : RcAt Ts i j x c lim N t k ar la lc L) (Us : List Thing) : RcAt (Ts ++ Us) i j x c lim N t k ar la lc L := by
  have ap : ∀ {q : Nat} {T : Thing}, Ts[q]? = some T → (Ts ++ Us)[q]? = some T := fun {q T} hq => by rw [List.getElem?_append_left (List.getElem?_eq_some_iff.1 hq).1]; exact hq
  exact ⟨ap r.row, ap r.ref, ap r.sl, r.ij, r.ki, r.kj, r.rep, r.cnt, r.lo⟩
theorem Stay.app (i j : Nat) (Ts Us : List Thing) : Stay i j Ts (Ts ++ Us) := fun m T _ _ hm => by rw [List.getElem?_append_left (List.getElem?_eq_some_iff.1 hm).1]; exact hm
/-- The row and the slots are others. -/
theorem rc_reslot {M n : Nat} (hrow : Ts[i]? = some (tRow17 x c ar la n lc)) (t' : CS) (href : Ts[j]? = some (tRef ar M t'.s.blank)) (hij : i ≠ j) (h4 : 4 ≤ Ts.length) (L' : List (Nat × NV)) (hf : Lrep L' t'.f) (hu : L'.length = t'.s.used) (la' : Option Addr) (lc' : Nat) :
    RcIn (Ts.set i (tRow17 x c ar la' L'.length lc') ++ [tSlots la' L'.length lc' L']) i j x c lim M t' ∧ Stay i j Ts (Ts.set i (tRow17 x c ar la' L'.length lc') ++ [tSlots la' L'.length lc' L']) := by
  have hil : i < Ts.length := (List.getElem?_eq_some_iff.1 hrow).1
  have hjl : j < Ts.length := (List.getElem?_eq_some_iff.1 href).1
  have hlt : (Ts.set i (tRow17 x c ar la' L'.length lc')).length = Ts.length := List.length_set
  refine ⟨⟨Ts.length, ar, la', lc', L', ?_, ?_, ?_, hij, by omega, by omega, hf, hu, h4⟩, fun q T h1 h2 h3 => ?_⟩
  · rw [List.getElem?_append_left (by rw [hlt]; exact hil), List.getElem?_set_self hil]
  · rw [List.getElem?_append_left (by rw [hlt]; exact hjl), List.getElem?_set_ne hij]; exact href
  · rw [List.getElem?_append_right (by omega), hlt, Nat.sub_self]; rfl
  · have hql : q < Ts.length := (List.getElem?_eq_some_iff.1 h3).1
    rw [List.getElem?_append_left (by rw [hlt]; exact hql), List.getElem?_set_ne (Ne.symm h1)]; exact h3
/-- New slots, put into the row. -/
theorem bg_reslot (h : Bag W Ts w) {n : Nat} (hrow : Ts[i]? = some (tRow17 x c ar la n lc)) {w' : World} (f : Fr none_ w w') {la' : Option Addr} {n' lc' : Nat} {L' : List (Nat × NV)} (hn : n' = L'.length) (hs : SlAt w' la' n' lc' 111 6 (L'.flatMap slotL)) (hb : ∀ q, blk la' q → w.heap.size ≤ q) :
    Bag W (Ts.set i (tRow17 x c ar la' L'.length lc') ++ [tSlots la' L'.length lc' L']) (w'.setCell ⟨x, 9, none⟩ (.slice la' n' lc')) := by
  subst hn
  have hil : i < Ts.length := (List.getElem?_eq_some_iff.1 hrow).1
  have h1 := h.add (T := tSlots la' L'.length lc' L') (F := blk la') f ⟨hs, rfl⟩ hb
  have h2 := h1.setRow (i := i) (b := x) (cs := rcCells c ar la n lc) (t := 105) (by rw [List.getElem?_append_left hil]; exact hrow) 9 (.slice la' L'.length lc')
  rw [List.set_append_left _ _ hil] at h2
  exact h2
set_option maxHeartbeats 8000000 in
theorem bg_rmake (h : Bag W Ts w) (r : RcIn Ts i j x c lim N t) (hi : t.Is lim N) (hN : N < 100000) (hlim : c.valLen = lim) (hl256 : lim ≤ 256) (v : VerV) (hs : v.val.size ≤ maxLen) (hvw : v.wr < 9223372036854775808) {nx : Nat} (hnx : nx < 18446744073709551616) :
    Calls Try.prog 54 #[.pointer (some ⟨x, 0, none⟩), .agg v.cells, .int .u64 (nx : Int)] w fun e w' => e = .returned (.tuple #[.int .u64 ((t.put lim v nx).1 : Int), .int .i64 ((t.put lim v nx).2.1 : Int)]) ∧ RcOut W Ts i j x c lim (N + 1) (t.put lim v nx).2.2 w' := by
  obtain ⟨k, ar, la, lc, L, r⟩ := r
  have hLb : L.length ≤ 100000 := by rw [r.cnt]; exact Nat.le_trans hi.up.used (by omega)
  have HB := Lib.hid h
  have HR := Lib.hid r
  have HI := Lib.hid hi
  have fb := Fr.alloc none_ w (.cells v.cells 32)
  have HB1 := Lib.hid (h.keep0 fb)
  have c6 : (w.alloc (.cells v.cells 32)).cell? ⟨x, 6, none⟩ = some (.int .i64 (lim : Int)) := by rw [← hlim]; exact HB1.out.rcell r 6 _ rfl
  have MAY := Lib.hid (Rc_May (w := w.alloc (.cells v.cells 32)) lim v hl256 c6 hs)
  have RB := Lib.hid (Row.new w v.cells 32)
  cases hm : v.may lim with
  | false =>
    have E := Lib.hid (show t.put lim v nx = (0, 1, t) from by unfold CS.put; rw [if_neg (by rw [hm]; simp)])
    rw [hm] at MAY
    unfold VerV.cells at MAY HB1 ⊢
    clear h r hi hLb fb c6 hm RB hlim
    go_enter Try.func54, Try.ntmps54
    go_wp2_with fail
    refine MAY.out.mono ?_
    rintro e w1 ⟨rfl, f1⟩
    have HB2 := Lib.hid (bg_refmore (HB1.out.keep0 f1) HR.out.ref (M := N + 1) (by omega) (by omega))
    clear f1
    go_wp2_with fail
    go_ret2
    rw [E.out]
    exact ⟨rfl, _, HB2.out, ⟨k, ar, la, lc, L, HR.out.reref rfl rfl⟩, Stay.set _ _ _ _⟩
  | true =>
    have hok := VerV.may_iff.1 hm
    have E0 := Lib.hid (show t.put lim v nx = t.make (v.nv nx) from by unfold CS.put; rw [if_pos hm])
    have NC := Lib.hid (VerV.nv_cells hok nx)
    have MK := Lib.hid (hi.make (by unfold big; omega) (VerV.nv_ok hok hvw hnx))
    have UP := Lib.hid (hi.up.alloc)
    rw [hm] at MAY
    obtain ⟨Ts1, hT1⟩ : ∃ T, T = Ts ++ [tRow w.heap.size v.cells 32] := ⟨_, rfl⟩
    have HBx := Lib.hid (show Bag W Ts1 (w.alloc (.cells v.cells 32)) from hT1 ▸ h.addRow v.cells 32)
    have HRx := Lib.hid (show RcAt Ts1 i j x c lim N t k ar la lc L from hT1 ▸ r.app _)
    have HS0 := Lib.hid (show Stay i j Ts Ts1 from hT1 ▸ Stay.app i j Ts _)
    have HJ : Hid (Ts.length ≠ j) := Lib.hid (by have := (List.getElem?_eq_some_iff.1 r.ref).1; omega)
    have HBX : Hid (Ts1[Ts.length]? = some (tRow w.heap.size v.cells 32)) := Lib.hid (by rw [hT1]; simp)
    clear HB HR HB1 RB
    unfold VerV.cells at MAY HBx HBX ⊢
    clear h r hi fb c6 hm hok hlim hT1
    have HB1 := HBx
    have HR := HRx
    clear HBx HRx
    go_enter Try.func54, Try.ntmps54
    go_wp2_with fail
    refine MAY.out.mono ?_
    rintro e w1 ⟨rfl, f1⟩
    have HB2 := Lib.hid (HB1.out.keep0 f1)
    have c8 : w1.cell? ⟨x, 8, none⟩ = some (.pointer (some ⟨ar, 0, none⟩)) := HB2.out.rcell HR.out 8 _ rfl
    clear f1 MAY HB1
    have AL := Lib.hid (bg_ralloc HB2.out HR.out.ref HI.out.up.wf.blank (fun n o => by rw [genOf_blank]; have := HI.out.up.gen n o; omega) (by omega) (H := ((aAlloc t.s).1 : Int)) (E := ((aAlloc t.s).2.1 : Int)) (by rw [aAlloc_blank]) (by rw [aAlloc_blank]))
    rw [aAlloc_blank] at AL
    go_wp2_with fail
    refine AL.out.mono ?_
    rintro e w2 ⟨rfl, hb2⟩
    have HB3 := Lib.hid hb2
    clear hb2 c8
    by_cases he : (aAlloc t.s).2.1 = 0
    · have EM : t.make (v.nv nx) = ((aAlloc t.s).1, 0, ⟨(aWrite (aAlloc t.s).2.2 (aAlloc t.s).1 (strOf (v.nv nx).enc)).2, upd t.f (aAlloc t.s).1 (some (v.nv nx))⟩) := by unfold CS.make; rw [if_pos he]
      have MD : t.Made lim N (v.nv nx) (aAlloc t.s).1 ⟨(aWrite (aAlloc t.s).2.2 (aAlloc t.s).1 (strOf (v.nv nx).enc)).2, upd t.f (aAlloc t.s).1 (some (v.nv nx))⟩ := by
        rcases MK.out with ⟨_, q⟩ | ⟨q, _⟩
        · rw [EM] at q; exact q
        · rw [EM] at q; cases q
      have hbl : (aWrite (aAlloc t.s).2.2 (aAlloc t.s).1 (strOf (v.nv nx).enc)).2.blank = (aAlloc t.s).2.2.blank := aWrite_blank UP.out.wf _ _
      rw [he]
      obtain ⟨H, hH⟩ : ∃ H, H = (aAlloc t.s).1 := ⟨_, rfl⟩
      rw [← hH] at EM MD ⊢
      obtain ⟨t', ht'⟩ : ∃ t' : CS, t' = ⟨(aWrite (aAlloc t.s).2.2 H (strOf (v.nv nx).enc)).2, upd t.f H (some (v.nv nx))⟩ := ⟨_, rfl⟩
      rw [← ht'] at EM MD
      have hbl' : t'.s.blank = (aAlloc t.s).2.2.blank := by rw [ht', hH]; exact hbl
      have hjl : j < Ts1.length := (List.getElem?_eq_some_iff.1 HR.out.ref).1
      obtain ⟨Vs, hVs⟩ : ∃ Vs, Vs = Ts1.set j (tRef ar (N + 1) (aAlloc t.s).2.2.blank) := ⟨_, rfl⟩
      rw [← hVs] at HB3
      have hrow : Vs[i]? = some (tRow17 x c ar la L.length lc) := by rw [hVs, List.getElem?_set_ne (Ne.symm HR.out.ij)]; exact HR.out.row
      have href : Vs[j]? = some (tRef ar (N + 1) t'.s.blank) := by rw [hVs, List.getElem?_set_self hjl, hbl']
      have hsl : Vs[k]? = some (tSlots la L.length lc L) := by rw [hVs, List.getElem?_set_ne (Ne.symm HR.out.kj)]; exact HR.out.sl
      have HST := Lib.hid (show Stay i j Ts Vs from by rw [hVs]; exact HS0.out.trans (Stay.set _ _ _ _))
      have HRP := Lib.hid (rep_add HR.out.rep MD.fresh (v.nv nx))
      have HLU : Hid ((L ++ [(H, v.nv nx)]).length = t'.s.used) := Lib.hid (by rw [MD.used, List.length_append, HR.out.cnt]; rfl)
      have HTF : Hid (t'.f = upd t.f H (some (v.nv nx))) := Lib.hid MD.f
      have EE := Lib.hid (E0.out.trans EM)
      have c9 : w2.cell? ⟨x, 9, none⟩ = some (.slice la L.length lc) := (HB3.out.row hrow).cell 9
      have kf : w2.frozen? ⟨x, 9, none⟩ = false := (HB3.out.row hrow).free 9
      have SL2 := Lib.hid ((HB3.out.sl hsl).ls slotL_len rfl)
      have RB3 := Lib.hid (HB3.out.row (show Vs[Ts.length]? = some _ from by rw [hVs, List.getElem?_set_ne (Ne.symm HJ.out)]; exact HBX.out))
      have KF := Lib.hid (fun (w' : World) (f : Fr none_ w2 w') => ((HB3.out.row hrow).kept f (fun e => e)).free 9)
      have HV4 : Hid (4 ≤ Vs.length) := Lib.hid (by have := (List.getElem?_eq_some_iff.1 hsl).1; have := HR.out.lo; omega)
      have HROW := Lib.hid hrow
      have HREF := Lib.hid href
      obtain ⟨n0, hn0⟩ : ∃ n0, n0 = L.length := ⟨_, rfl⟩
      rw [← hn0] at c9 hLb HROW
      have HN0 := Lib.hid hn0
      have b0 : w2.cell? ⟨w.heap.size, 0, none⟩ = some (.int .i64 v.wr) := RB3.out.cell 0
      have b1 : w2.cell? ⟨w.heap.size, 1, none⟩ = some (.int .i64 v.ts) := RB3.out.cell 1
      have b2 : w2.cell? ⟨w.heap.size, 2, none⟩ = some (.bool v.tomb) := RB3.out.cell 2
      have b3 : w2.cell? ⟨w.heap.size, 3, none⟩ = some (.string v.val) := RB3.out.cell 3
      have SLOT : slotL (H, v.nv nx) = [.int .u64 (H : Int), .int .i64 v.wr, .int .i64 v.ts, .bool v.tomb, .string v.val, .int .u64 (nx : Int)] := by
        have := NC.out
        unfold NV.cells at this
        unfold slotL
        simp only [Array.mk.injEq, List.cons.injEq] at this
        obtain ⟨q0, q1, q2, q3, q4, _⟩ := this
        simp only [q0, q1, q2, q3, q4]
      have EMP := Lib.hid (fun (w0 w' : World) (g : Nat) (f : Fr none_ (w0.alloc (.cells #[] 111)) w') (hg : g = w0.heap.size) => show SlAt w' (some ⟨g, 0, none⟩) 0 0 111 6 [] from by
        subst hg
        exact (SlAt.made' w0 _ 6).kept0 f)
      have ONE := Lib.hid (fun (w0 w' : World) (g : Nat) (f : Fr none_ (w0.alloc (.cells #[.int .u64 (H : Int), .int .i64 v.wr, .int .i64 v.ts, .bool v.tomb, .string v.val, .int .u64 (nx : Int)] 111)) w') (hg : g = w0.heap.size) => show LsAt w' (some ⟨g, 0, none⟩) 6 slotL [(H, v.nv nx)] from by
        subst hg
        have := ls_newN slotL 6 slotL_len w0 111 [(H, v.nv nx)]
        simp only [List.flatMap_cons, List.flatMap_nil, List.append_nil, SLOT] at this
        exact this.kept0 f)
      have SLS := Lib.hid (fun (w' : World) (f : Fr none_ w2 w') => SL2.kept0 f)
      clear hH ht' hbl hbl' hjl hVs hrow href hsl EM MD he hn0 MK AL SL2 SLOT RB3
      have k1 : ∀ o, Fr none_ w2 (w2.alloc o).drew := fun o => (Fr.alloc none_ w2 o).drew_r
      have c9a : ∀ o, (w2.alloc o).drew.cell? ⟨x, 9, none⟩ = some (.slice la n0 lc) := fun o => (k1 o).keep c9
      have b0a : ∀ o, (w2.alloc o).drew.cell? ⟨w.heap.size, 0, none⟩ = some (.int .i64 v.wr) := fun o => (k1 o).keep b0
      have b1a : ∀ o, (w2.alloc o).drew.cell? ⟨w.heap.size, 1, none⟩ = some (.int .i64 v.ts) := fun o => (k1 o).keep b1
      have b2a : ∀ o, (w2.alloc o).drew.cell? ⟨w.heap.size, 2, none⟩ = some (.bool v.tomb) := fun o => (k1 o).keep b2
      have b3a : ∀ o, (w2.alloc o).drew.cell? ⟨w.heap.size, 3, none⟩ = some (.string v.val) := fun o => (k1 o).keep b3
      have c9d : ∀ o o', ((w2.alloc o).alloc o').drew.cell? ⟨x, 9, none⟩ = some (.slice la n0 lc) := fun o o' => Fr.keep (((Fr.alloc none_ w2 o).alloc_r o').drew_r) c9
      clear k1
      go_wp2_with fail
      go_region_law (first
        | (refine stepAppendLn rfl (.tmp 26) (.tmp 30) _ rfl 111 (.agg #[.int .u64 0, .int .i64 0, .int .i64 0, .bool false, .string ⟨#[]⟩, .int .u64 0]) 6 56 Try.underlying103 slot_info rfl (EMP.out _ _ _ (by first | with_reducible exact Fr.refl _ _ | with_reducible exact Fr.drew _ _ | with_reducible exact (Fr.drew _ _).alloc_r _ | with_reducible exact Fr.alloc _ _ _ | with_reducible exact (Fr.alloc _ _ _).drew_r | with_reducible exact ((Fr.alloc _ _ _).drew_r).alloc_r _ | with_reducible exact ((Fr.alloc _ _ _).alloc_r _).drew_r) (by first | rfl | simp | simp [World.drew])) (SLS.out _ (by first | with_reducible exact Fr.refl _ _ | with_reducible exact Fr.drew _ _ | with_reducible exact (Fr.drew _ _).alloc_r _ | with_reducible exact Fr.alloc _ _ _ | with_reducible exact (Fr.alloc _ _ _).drew_r | with_reducible exact ((Fr.alloc _ _ _).drew_r).alloc_r _ | with_reducible exact ((Fr.alloc _ _ _).alloc_r _).drew_r)) HN0.out slotL_len slotL_one rfl rfl (by simp [maxLen]; omega) (by omega) ?_
           intro a4 n4 c4 w4 hn4 hs4 f4 hb4
           have F4 : Hid (Fr none_ w2 w4) := Lib.hid (Fr.step (by first | with_reducible exact Fr.refl _ _ | with_reducible exact Fr.drew _ _ | with_reducible exact (Fr.drew _ _).alloc_r _ | with_reducible exact Fr.alloc _ _ _ | with_reducible exact (Fr.alloc _ _ _).drew_r | with_reducible exact ((Fr.alloc _ _ _).drew_r).alloc_r _ | with_reducible exact ((Fr.alloc _ _ _).alloc_r _).drew_r) f4 (fun q hq e => by rw [blk_some] at e; omega))
           have B4 : Hid (∀ q, blk a4 q → w2.heap.size ≤ q) := Lib.hid (blk_new hb4 (by omega) (by first | omega | (simp; done) | (simp; omega) | (simp [World.drew]; done) | (simp [World.drew]; omega)))
           have S4 : Hid (SlAt w4 a4 n4 c4 111 6 (L.flatMap slotL)) := Lib.hid (by rw [List.nil_append] at hs4; exact hs4)
           have K4 := Lib.hid (fun (g1 : Nat) (l : List (Nat × NV)) => ls_keep_blk (g1 := g1) (l := l) (sz := 6) (cells := slotL) f4)
           have HN4 : Hid (n4 = n0) := Lib.hid (by have := hn4.out; omega)
           have hn4b : n4 ≤ 100000 := by have := HN4.out; omega
           have c9b : w4.cell? ⟨x, 9, none⟩ = some (.slice la n0 lc) := F4.out.keep c9
           have kfb : w4.frozen? ⟨x, 9, none⟩ = false := KF.out _ F4.out
           have b0b : w4.cell? ⟨w.heap.size, 0, none⟩ = some (.int .i64 v.wr) := F4.out.keep b0
           have b1b : w4.cell? ⟨w.heap.size, 1, none⟩ = some (.int .i64 v.ts) := F4.out.keep b1
           have b2b : w4.cell? ⟨w.heap.size, 2, none⟩ = some (.bool v.tomb) := F4.out.keep b2
           have b3b : w4.cell? ⟨w.heap.size, 3, none⟩ = some (.string v.val) := F4.out.keep b3
           clear hn4 hs4 f4 hb4)
        | (refine stepAppendLn rfl (.tmp 31) (.tmp 37) _ rfl 111 (.agg #[.int .u64 0, .int .i64 0, .int .i64 0, .bool false, .string ⟨#[]⟩, .int .u64 0]) 6 56 Try.underlying103 slot_info rfl (by first | exact S4.out | exact S4.out.kept0 (Fr.alloc _ _ _)) (by first | exact ONE.out _ _ _ (by first | with_reducible exact Fr.refl _ _ | with_reducible exact Fr.drew _ _ | with_reducible exact (Fr.drew _ _).alloc_r _ | with_reducible exact Fr.alloc _ _ _ | with_reducible exact (Fr.alloc _ _ _).drew_r | with_reducible exact ((Fr.alloc _ _ _).drew_r).alloc_r _ | with_reducible exact ((Fr.alloc _ _ _).alloc_r _).drew_r) (by first | rfl | simp | simp [World.drew]) | exact K4.out _ _ (ONE.out _ _ _ (by first | with_reducible exact Fr.refl _ _ | with_reducible exact Fr.drew _ _ | with_reducible exact (Fr.drew _ _).alloc_r _ | with_reducible exact Fr.alloc _ _ _ | with_reducible exact (Fr.alloc _ _ _).drew_r | with_reducible exact ((Fr.alloc _ _ _).drew_r).alloc_r _ | with_reducible exact ((Fr.alloc _ _ _).alloc_r _).drew_r) (by first | rfl | simp | simp [World.drew])) (by omega)) (show 1 = ([(H, v.nv nx)] : List (Nat × NV)).length from rfl) slotL_len slotL_one rfl rfl (by simp [maxLen]; omega) (by omega) ?_
           intro a5 n5 c5 w5 hn5 hs5 f5 hb5
           have F5 : Hid (Fr none_ w2 w5) := Lib.hid (by
             first
               | exact F4.out.step f5 (fun q hq e => by have := B4.out q e; omega)
               | exact (F4.out.alloc_r _).step f5 (fun q hq e => by have := B4.out q e; omega))
           have B5 : Hid (∀ q, blk a5 q → w2.heap.size ≤ q) := Lib.hid (fun q hq => by
             rcases hb5 q hq with r | r
             · exact B4.out q r
             · have := F4.out.size
               first | omega | (simp at r; omega))
           have HN5 : Hid (n5 = (L ++ [(H, v.nv nx)]).length) := Lib.hid (by have := hn5.out; have := HN4.out; have := HN0.out; rw [List.length_append]; simp; omega)
           have S5 : Hid (SlAt w5 a5 n5 c5 111 6 ((L ++ [(H, v.nv nx)]).flatMap slotL)) := Lib.hid (by rw [List.flatMap_append]; exact hs5)
           have c9c : w5.cell? ⟨x, 9, none⟩ = some (.slice la n0 lc) := F5.out.keep c9
           have kfc : w5.frozen? ⟨x, 9, none⟩ = false := KF.out _ F5.out
           clear hn5 hs5 f5 hb5))
      all_goals
        have RS := Lib.hid (bg_reslot HB3.out (by rw [HROW.out, HN0.out]) F5.out HN5.out S5.out B5.out)
        obtain ⟨r1, r2⟩ := rc_reslot (by rw [HROW.out, HN0.out]) t' HREF.out HR.out.ij HV4.out (L ++ [(H, v.nv nx)]) (by rw [HTF.out]; exact HRP.out) HLU.out a5 c5
        have R1 := Lib.hid r1
        have R2 := Lib.hid (HST.out.trans r2)
        clear r1 r2
        go_wp2_with fail
        go_ret2
        rw [EE.out]
        exact ⟨rfl, _, RS.out, R1.out, R2.out⟩
    · have EM : t.make (v.nv nx) = (0, (aAlloc t.s).2.1, ⟨(aAlloc t.s).2.2, t.f⟩) := by unfold CS.make; rw [if_neg he]
      have hus : (aAlloc t.s).2.2.used = t.s.used := by
        rcases MK.out with ⟨q, _⟩ | ⟨_, _, _, q, _⟩
        · rw [EM] at q; exact absurd q he
        · rw [EM] at q
          have := congrArg CS.s q
          simp only at this
          rw [this]
      have hne : (((aAlloc t.s).2.1 : Int) != 0) = true := by rw [bne_iff_ne]; omega
      have EE := Lib.hid (E0.out.trans EM)
      have HUS := Lib.hid hus
      obtain ⟨er, her⟩ : ∃ er, er = (aAlloc t.s).2.1 := ⟨_, rfl⟩
      rw [← her] at hne ⊢
      have HER := Lib.hid her
      clear EM hus he her
      go_wp2_with fail
      go_ret2
      rw [EE.out]
      exact ⟨by rw [HER.out]; rfl, _, HB3.out, ⟨k, ar, la, lc, L, HR.out.reref (t' := ⟨(aAlloc t.s).2.2, t.f⟩) rfl HUS.out⟩, HS0.out.trans (Stay.set _ _ _ _)⟩
end
end Go.Proofs.Yteefcfndlggajaa
