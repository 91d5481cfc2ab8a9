/-
  The reference of layer 17: Change, Stamp, Cut.
-/
import Derived.Test.YteefcfndlggajaaMgCnRef2
import Derived.StillTailTactics
namespace Go.Proofs.Yteefcfndlggajaa
open Go.RowKit
set_option linter.unusedVariables false
set_option linter.unusedSimpArgs false
set_option maxRecDepth 100000

section
variable {W w : World} {Ts : List Thing} {i j x k ar : Nat} {c : CfgV} {lim N : Nat} {t : CS} {la : Option Addr} {lc : Nat} {L : List (Nat × NV)}
theorem rc_turned (r : RcAt Ts i j x c lim N t k ar la lc L) {p hd : Nat} {n : NV} (hp : L[p]? = some (hd, n)) (m : NV) (t' : CS) (hf : t'.f = upd t.f hd (some m)) (hb : t'.s.blank = t.s.blank) (hu : t'.s.used = t.s.used) (la' : Option Addr) (lc' : Nat) :
    RcIn (Ts.set i (tRow17 x c ar la' L.length lc') ++ [tSlots la' L.length lc' (L.set p (hd, m))]) i j x c lim N t' ∧ Stay i j Ts (Ts.set i (tRow17 x c ar la' L.length lc') ++ [tSlots la' L.length lc' (L.set p (hd, m))]) := by
  have hil : i < Ts.length := (List.getElem?_eq_some_iff.1 r.row).1
  have hjl : j < Ts.length := (List.getElem?_eq_some_iff.1 r.ref).1
  have hln : (L.set p (hd, m)).length = L.length := List.length_set
  have hlt : (Ts.set i (tRow17 x c ar la' L.length lc')).length = Ts.length := List.length_set
  refine ⟨⟨Ts.length, ar, la', lc', L.set p (hd, m), ?_, ?_, ?_, r.ij, by omega, by omega, ?_, ?_, by have := r.lo; have := (List.getElem?_eq_some_iff.1 r.sl).1; omega⟩, fun q T h1 h2 h3 => ?_⟩
  · rw [hln, List.getElem?_append_left (by rw [hlt]; exact hil), List.getElem?_set_self hil]
  · rw [List.getElem?_append_left (by rw [hlt]; exact hjl), List.getElem?_set_ne r.ij, hb]; exact r.ref
  · rw [hln, List.getElem?_append_right (by omega), hlt, Nat.sub_self]; rfl
  · rw [hf]; exact rep_set r.rep hp m
  · rw [hln, r.cnt, hu]
  · have hql : q < Ts.length := (List.getElem?_eq_some_iff.1 h3).1
    rw [List.getElem?_append_left (by rw [hlt]; exact hql), List.getElem?_set_ne (Ne.symm h1)]; exact h3
theorem set_same_blank (h : t.Is lim N) (hd : Nat) (m : NV) : (t.set hd m).f = upd t.f hd (some m) ∧ (t.set hd m).s.blank = t.s.blank ∧ (t.set hd m).s.used = t.s.used :=
  ⟨rfl, aWrite_blank h.up.wf _ _, write_used h.up.wf _ _⟩
/-- What a step at the reference leaves. -/
def RcOut (W : World) (Ts : List Thing) (i j x : Nat) (c : CfgV) (lim N : Nat) (t' : CS) (w' : World) : Prop := ∃ Us, Bag W Us w' ∧ RcIn Us i j x c lim N t' ∧ Stay i j Ts Us
theorem RcOut.same (h : Bag W Ts w) (r : RcAt Ts i j x c lim N t k ar la lc L) : RcOut W Ts i j x c lim N t w := ⟨Ts, h, ⟨k, ar, la, lc, L, r⟩, Stay.refl _ _ _⟩
theorem Bag.rcell (h : Bag W Ts w) (r : RcAt Ts i j x c lim N t k ar la lc L) (q : Nat) (v : Value) (hv : (rcCells c ar la L.length lc)[q]? = some v) : w.cell? ⟨x, q, none⟩ = some v := ((h.row r.row).cell q).trans hv
theorem rc_place (h : Bag W Ts w) (r : RcAt Ts i j x c lim N t k ar la lc L) (hL : L.length ≤ 100000) (hd : Nat) :
    Calls Try.prog 59 #[.pointer (some ⟨x, 0, none⟩), .int .u64 (hd : Int)] w fun e w' => (∃ (q : Nat) (n : NV), (e = .returned (.tuple #[.int .i64 (q : Int), .bool true]) ∧ L[q]? = some (hd, n)) ∨ (e = .returned (.tuple #[.int .i64 0, .bool false]) ∧ t.f hd = Option.none)) ∧ w = w' := by
  refine (Rc_place w x la lc L (h.rcell r 9 _ rfl) ((h.sl r.sl).ls slotL_len rfl) (by omega) hd).mono ?_
  rintro e w' ⟨⟨q, n, ⟨he, hq⟩ | ⟨he, hn⟩⟩, hw⟩
  · exact ⟨⟨q, n, Or.inl ⟨he, hq⟩⟩, hw⟩
  · exact ⟨⟨q, n, Or.inr ⟨he, r.rep.none hn⟩⟩, hw⟩
set_option maxHeartbeats 4000000 in
theorem bg_rcut (h : Bag W Ts w) (r : RcIn Ts i j x c lim N t) (hi : t.Is lim N) (hN : N ≤ 100000) (hd : Nat) :
    Calls Try.prog 57 #[.pointer (some ⟨x, 0, none⟩), .int .u64 (hd : Int)] w fun e w' => e = .returned (.int .i64 ((t.cut hd).1 : Int)) ∧ RcOut W Ts i j x c lim N (t.cut hd).2 w' := by
  obtain ⟨k, ar, la, lc, L, r⟩ := r
  have hLb : L.length ≤ 100000 := by rw [r.cnt]; exact Nat.le_trans hi.up.used hN
  have P := Lib.hid (rc_place h r hLb hd)
  have HB := Lib.hid h
  have HR := Lib.hid r
  have HI := Lib.hid hi
  have HLB := Lib.hid hLb
  have c9 : w.cell? ⟨x, 9, none⟩ = some (.slice la L.length lc) := h.rcell r 9 _ rfl
  clear h r hi hLb
  go_enter Try.func57, Try.ntmps57
  go_wp2_with fail
  refine P.out.mono ?_
  rintro e w1 ⟨⟨q, n, ⟨rfl, hq⟩ | ⟨rfl, hn⟩⟩, rfl⟩
  · have hf : t.f hd = some n := HR.out.rep.here _ (List.mem_of_getElem? hq)
    have E := Lib.hid (show t.cut hd = (0, t.set hd { n with nx := 0 }) from by unfold CS.cut CS.turn; rw [hf])
    obtain ⟨b, o, hbo, hbl, hc⟩ := ((HB.out.sl HR.out.sl).ls slotL_len rfl).get hq
    subst hbo
    have hql : q < L.length := (List.getElem?_eq_some_iff.1 hq).1
    have q1 := hc q (hd, n) hq 1 _ rfl
    have q2 := hc q (hd, n) hq 2 _ rfl
    have q3 := hc q (hd, n) hq 3 _ rfl
    have q4 := hc q (hd, n) hq 4 _ rfl
    have SE := Lib.hid (bg_rset HB.out HR.out.row HR.out.sl HLB.out (m := { n with nx := 0 }) hq)
    have HQ := Lib.hid hq
    have hlb : L.length ≤ 100000 := HLB.out
    unfold NV.cells at SE
    clear hc hq hf
    go_wp2_with fail
    refine SE.out.mono ?_
    rintro e w2 ⟨rfl, la', lc', hb⟩
    obtain ⟨e1, e2, e3⟩ := set_same_blank HI.out hd { n with nx := 0 }
    have OUT := Lib.hid (show RcOut W Ts i j x c lim N (t.set hd { n with nx := 0 }) w2 from ⟨_, hb, rc_turned HR.out HQ.out _ _ e1 e2 e3 la' lc'⟩)
    clear hb e1 e2 e3
    go_wp2_with fail
    go_ret
    rw [E.out]
    exact ⟨rfl, OUT.out⟩
  · have E := Lib.hid (show t.cut hd = (5, t) from by unfold CS.cut CS.turn; rw [hn])
    clear hn
    go_wp2_with fail
    go_ret
    rw [E.out]
    exact ⟨rfl, RcOut.same HB.out HR.out⟩
set_option maxHeartbeats 4000000 in
theorem bg_rstamp (h : Bag W Ts w) (r : RcIn Ts i j x c lim N t) (hi : t.Is lim N) (hN : N ≤ 100000) (hd : Nat) (ts : Int) :
    Calls Try.prog 56 #[.pointer (some ⟨x, 0, none⟩), .int .u64 (hd : Int), .int .i64 ts] w fun e w' => e = .returned (.int .i64 ((t.stamp hd ts).1 : Int)) ∧ RcOut W Ts i j x c lim N (t.stamp hd ts).2 w' := by
  obtain ⟨k, ar, la, lc, L, r⟩ := r
  have hLb : L.length ≤ 100000 := by rw [r.cnt]; exact Nat.le_trans hi.up.used hN
  have HB := Lib.hid h
  have HR := Lib.hid r
  have HI := Lib.hid hi
  have HLB := Lib.hid hLb
  by_cases h1 : ts < 1
  · have E := Lib.hid (show t.stamp hd ts = (1, t) from by unfold CS.stamp; rw [if_neg (by omega)])
    clear h r hi hLb
    go_enter Try.func56, Try.ntmps56
    go_wp2_with fail
    go_ret
    rw [E.out]
    exact ⟨rfl, RcOut.same HB.out HR.out⟩
  · by_cases h2 : 1048576 < ts
    · have E := Lib.hid (show t.stamp hd ts = (1, t) from by unfold CS.stamp; rw [if_neg (by omega)])
      clear h r hi hLb
      go_enter Try.func56, Try.ntmps56
      go_wp2_with fail
      go_ret
      rw [E.out]
      exact ⟨rfl, RcOut.same HB.out HR.out⟩
    · obtain ⟨tn, rfl⟩ := Int.eq_ofNat_of_zero_le (show 0 ≤ ts by omega)
      have E0 := Lib.hid (show t.stamp hd (tn : Int) = t.turn hd (fun n => { n with ts := tn }) from by unfold CS.stamp; rw [if_pos (by omega)]; simp)
      have P := Lib.hid (rc_place h r hLb hd)
      have c9 : w.cell? ⟨x, 9, none⟩ = some (.slice la L.length lc) := h.rcell r 9 _ rfl
      clear h r hi hLb
      go_enter Try.func56, Try.ntmps56
      go_wp2_with fail
      refine P.out.mono ?_
      rintro e w1 ⟨⟨q, n, ⟨rfl, hq⟩ | ⟨rfl, hn⟩⟩, rfl⟩
      · have hf : t.f hd = some n := HR.out.rep.here _ (List.mem_of_getElem? hq)
        have E := Lib.hid (show t.stamp hd (tn : Int) = (0, t.set hd { n with ts := tn }) from by rw [E0.out]; unfold CS.turn; rw [hf])
        obtain ⟨b, o, hbo, hbl, hc⟩ := ((HB.out.sl HR.out.sl).ls slotL_len rfl).get hq
        subst hbo
        have hql : q < L.length := (List.getElem?_eq_some_iff.1 hq).1
        have q1 := hc q (hd, n) hq 1 _ rfl
        have q2 := hc q (hd, n) hq 2 _ rfl
        have q3 := hc q (hd, n) hq 3 _ rfl
        have q4 := hc q (hd, n) hq 4 _ rfl
        have q5 := hc q (hd, n) hq 5 _ rfl
        have SE := Lib.hid (fun w' (hb : Bag W Ts w') => bg_rset hb HR.out.row HR.out.sl HLB.out (m := { n with ts := tn }) hq)
        have HQ := Lib.hid hq
        have hlb : L.length ≤ 100000 := HLB.out
        unfold NV.cells at SE
        clear hc hq hf
        go_wp2_with fail
        refine (SE.out _ (HB.out.keep0 (Fr.alloc none_ _ _))).mono ?_
        rintro e w2 ⟨rfl, la', lc', hb⟩
        obtain ⟨e1, e2, e3⟩ := set_same_blank HI.out hd { n with ts := tn }
        have OUT := Lib.hid (show RcOut W Ts i j x c lim N (t.set hd { n with ts := tn }) w2 from ⟨_, hb, rc_turned HR.out HQ.out _ _ e1 e2 e3 la' lc'⟩)
        clear hb e1 e2 e3
        go_wp2_with fail
        go_ret
        rw [E.out]
        exact ⟨rfl, OUT.out⟩
      · have E := Lib.hid (show t.stamp hd (tn : Int) = (5, t) from by rw [E0.out]; unfold CS.turn; rw [hn])
        clear hn
        go_wp2_with fail
        go_ret
        rw [E.out]
        exact ⟨rfl, RcOut.same HB.out HR.out⟩
set_option maxHeartbeats 4000000 in
theorem bg_rchange (h : Bag W Ts w) (r : RcIn Ts i j x c lim N t) (hi : t.Is lim N) (hN : N ≤ 100000) (hlim : c.valLen = lim) (hl256 : lim ≤ 256) (v : VerV) (hs : v.val.size ≤ maxLen) (hd : Nat) :
    Calls Try.prog 55 #[.pointer (some ⟨x, 0, none⟩), .int .u64 (hd : Int), .agg v.cells] w fun e w' => e = .returned (.int .i64 ((t.change lim hd v).1 : Int)) ∧ RcOut W Ts i j x c lim N (t.change lim hd v).2 w' := by
  obtain ⟨k, ar, la, lc, L, r⟩ := r
  have hLb : L.length ≤ 100000 := by rw [r.cnt]; exact Nat.le_trans hi.up.used hN
  have HB := Lib.hid h
  have HR := Lib.hid r
  have HI := Lib.hid hi
  have HLB := Lib.hid hLb
  have fb := Fr.alloc none_ w (.cells v.cells 32)
  have HB1 := Lib.hid (h.keep0 fb)
  have c6 : (w.alloc (.cells v.cells 32)).cell? ⟨x, 6, none⟩ = some (.int .i64 (lim : Int)) := by rw [← hlim]; exact HB1.out.rcell r 6 _ rfl
  have MAY := Lib.hid (Rc_May (w := w.alloc (.cells v.cells 32)) lim v hl256 c6 hs)
  have RB := Lib.hid (Row.new w v.cells 32)
  cases hm : v.may lim with
  | false =>
    have E := Lib.hid (show t.change lim hd v = (1, t) from by unfold CS.change; rw [if_neg (by rw [hm]; simp)])
    rw [hm] at MAY
    unfold VerV.cells at MAY HB1 ⊢
    clear h r hi hLb fb c6 hm RB hlim
    go_enter Try.func55, Try.ntmps55
    go_wp2_with fail
    refine MAY.out.mono ?_
    rintro e w1 ⟨rfl, f1⟩
    have HB2 := Lib.hid (HB1.out.keep0 f1)
    clear f1
    go_wp2_with fail
    go_ret
    rw [E.out]
    exact ⟨rfl, RcOut.same HB2.out HR.out⟩
  | true =>
    have hok := VerV.may_iff.1 hm
    have E0 := Lib.hid (show t.change lim hd v = t.turn hd (fun n => v.nv n.nx) from by unfold CS.change; rw [if_pos hm])
    have NC := Lib.hid (fun nx => VerV.nv_cells hok nx)
    rw [hm] at MAY
    unfold VerV.cells at MAY HB1 RB ⊢
    clear h r hi hLb fb c6 hm hok hlim
    go_enter Try.func55, Try.ntmps55
    go_wp2_with fail
    refine MAY.out.mono ?_
    rintro e w1 ⟨rfl, f1⟩
    have HB2 := Lib.hid (HB1.out.keep0 f1)
    have RB2 := Lib.hid (RB.out.kept f1 (fun e => e))
    have P := Lib.hid (rc_place HB2.out HR.out HLB.out hd)
    clear f1 MAY HB1 RB
    go_wp2_with fail
    refine P.out.mono ?_
    rintro e w2 ⟨⟨q, n, ⟨rfl, hq⟩ | ⟨rfl, hn⟩⟩, rfl⟩
    · have hf : t.f hd = some n := HR.out.rep.here _ (List.mem_of_getElem? hq)
      have E := Lib.hid (show t.change lim hd v = (0, t.set hd (v.nv n.nx)) from by rw [E0.out]; unfold CS.turn; rw [hf])
      have c9 : w1.cell? ⟨x, 9, none⟩ = some (.slice la L.length lc) := HB2.out.rcell HR.out 9 _ rfl
      obtain ⟨b, o, hbo, hbl, hc⟩ := ((HB2.out.sl HR.out.sl).ls slotL_len rfl).get hq
      subst hbo
      have hql : q < L.length := (List.getElem?_eq_some_iff.1 hq).1
      have q5 := hc q (hd, n) hq 5 _ rfl
      have b0 : w1.cell? ⟨w.heap.size, 0, none⟩ = some (.int .i64 v.wr) := RB2.out.cell 0
      have b1 : w1.cell? ⟨w.heap.size, 1, none⟩ = some (.int .i64 v.ts) := RB2.out.cell 1
      have b2 : w1.cell? ⟨w.heap.size, 2, none⟩ = some (.bool v.tomb) := RB2.out.cell 2
      have b3 : w1.cell? ⟨w.heap.size, 3, none⟩ = some (.string v.val) := RB2.out.cell 3
      have SE := Lib.hid (fun w' (hb : Bag W Ts w') => bg_rset hb HR.out.row HR.out.sl HLB.out (m := v.nv n.nx) hq)
      have HQ := Lib.hid hq
      have hlb : L.length ≤ 100000 := HLB.out
      rw [NC.out n.nx] at SE
      clear hc hq hf NC
      go_wp2_with fail
      go_still_tail 13, (by kernel_rfl)
      go_wp2_with fail
      refine (SE.out _ (HB2.out.keep0 (by first | exact Fr.drew _ _ | exact Fr.drewN _ _ _))).mono ?_
      rintro e w3 ⟨rfl, la', lc', hb⟩
      obtain ⟨e1, e2, e3⟩ := set_same_blank HI.out hd (v.nv n.nx)
      have OUT := Lib.hid (show RcOut W Ts i j x c lim N (t.set hd (v.nv n.nx)) w3 from ⟨_, hb, rc_turned HR.out HQ.out _ _ e1 e2 e3 la' lc'⟩)
      clear hb e1 e2 e3
      go_wp2_with fail
      go_ret
      rw [E.out]
      exact ⟨rfl, OUT.out⟩
    · have E := Lib.hid (show t.change lim hd v = (5, t) from by rw [E0.out]; unfold CS.turn; rw [hn])
      clear hn
      go_wp2_with fail
      go_ret
      rw [E.out]
      exact ⟨rfl, RcOut.same HB2.out HR.out⟩
end
end Go.Proofs.Yteefcfndlggajaa
