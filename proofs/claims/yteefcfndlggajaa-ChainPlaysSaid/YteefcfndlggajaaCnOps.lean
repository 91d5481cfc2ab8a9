/-
  Package chain: the state of an engine ('CS': an arena's, and which version each handle names), and what is done to it. Of states alone.
  Package chain: Make.
  Package chain: the methods, on an engine that owns blocks ('Cn').
-/
import Derived.Test.YteefcfndlggajaaArNewR
import Derived.Test.YteefcfndlggajaaCnTurn
import Derived.Deep.RegionHeld3
namespace Go.Proofs.Yteefcfndlggajaa
open Go.RowKit
set_option linter.unusedVariables false
set_option linter.unusedSimpArgs false
set_option maxRecDepth 100000

structure CS where
  s : AS
  f : Nat → Option NV
def upd (f : Nat → Option NV) (h : Nat) (v : Option NV) : Nat → Option NV := fun y => if y = h then v else f y
theorem upd_same (f : Nat → Option NV) (h : Nat) (v : Option NV) : upd f h v h = v := by unfold upd; rw [if_pos rfl]
theorem upd_other (f : Nat → Option NV) {h y : Nat} (v : Option NV) (hne : y ≠ h) : upd f h v y = f y := by unfold upd; rw [if_neg hne]
structure CS.Is (vl N : Nat) (t : CS) : Prop where
  up : Upto N t.s
  slot : t.s.slot = 27 + vl
  find : ∀ h, h < 18446744073709551616 → aFind t.s h = (t.f h).map (NV.slot vl)
  ok : ∀ h n, t.f h = some n → n.Ok vl
def CS.new (vl : Nat) : CS := ⟨AS.new (27 + vl), fun _ => none⟩
def CS.make (t : CS) (n : NV) : Nat × Nat × CS :=
  if (aAlloc t.s).2.1 = 0 then ((aAlloc t.s).1, 0, ⟨(aWrite (aAlloc t.s).2.2 (aAlloc t.s).1 (strOf n.enc)).2, upd t.f (aAlloc t.s).1 (some n)⟩) else (0, (aAlloc t.s).2.1, ⟨(aAlloc t.s).2.2, t.f⟩)
def CS.set (t : CS) (h : Nat) (n : NV) : CS := ⟨(aWrite t.s h (strOf n.enc)).2, upd t.f h (some n)⟩
def CS.turn (t : CS) (h : Nat) (g : NV → NV) : Nat × CS := match t.f h with | none => (5, t) | some n => (0, t.set h (g n))
def CS.free (t : CS) (h : Nat) : Nat × CS := match t.f h with | none => (5, t) | some _ => (0, ⟨(aFree t.s h).2, upd t.f h none⟩)

theorem find_new (slot h : Nat) : aFind (AS.new slot) h = none := by
  unfold aFind
  split
  · rfl
  · rfl
theorem CS.Is.new {vl : Nat} (hvl : vl ≤ 256) : (CS.new vl).Is vl 0 :=
  ⟨Upto.new (by omega) (by omega), rfl, fun h _ => by show aFind (AS.new (27 + vl)) h = none; exact find_new _ _, fun h n e => by cases e⟩
theorem CS.Is.more {vl N M : Nat} {t : CS} (h : t.Is vl N) (hm : N ≤ M) : t.Is vl M := ⟨h.up.more hm, h.slot, h.find, h.ok⟩

/-- A version more. -/
structure CS.Made (vl N : Nat) (t : CS) (n : NV) (h : Nat) (t' : CS) : Prop where
  lt : h < 18446744073709551616
  pos : h ≠ 0
  fresh : t.f h = none
  f : t'.f = upd t.f h (some n)
  used : t'.s.used = t.s.used + 1
  is_ : t'.Is vl (N + 1)

theorem write_used {s : AS} (hw : s.WF) (h : Nat) (b : ByteArray) : (aWrite s h b).2.used = s.used := by
  have := (aWrite_old hw h b).used
  rw [if_neg (fun q => by have := q.1; split at this <;> cases this)] at this
  simpa using this
theorem CS.Is.set {vl N : Nat} {t : CS} (h : t.Is vl N) {hd : Nat} (hf : (t.f hd).isSome = true) (hh : hd < 18446744073709551616) {n : NV} (hn : n.Ok vl) : (t.set hd n).Is vl N ∧ (t.set hd n).s.used = t.s.used := by
  have hw := h.up.wf
  obtain ⟨w1, w2, w3, w4⟩ := aWrite_all hw hd (strOf n.enc)
  refine ⟨⟨h.up.write hd _, by show (aWrite t.s hd _).2.slot = _; rw [w2, h.slot], fun y hy => ?_, fun y m e => ?_⟩, write_used hw hd _⟩
  · show aFind (aWrite t.s hd _).2 y = (upd t.f hd (some n) y).map _
    rw [w4 y]
    by_cases e : y = hd
    · subst e
      rw [upd_same, if_pos ⟨rfl, by rw [h.find y hy, Option.isSome_map]; exact hf, by rw [h.slot]; exact enc_fits hn⟩, h.slot, enc_slot hn]; rfl
    · rw [upd_other _ _ e, if_neg (fun q => e q.1)]; exact h.find y hy
  · have e : upd t.f hd (some n) y = some m := e
    by_cases ey : y = hd
    · subst ey; rw [upd_same] at e; cases e; exact hn
    · rw [upd_other _ _ ey] at e; exact h.ok y m e
theorem CS.Is.turn {vl N : Nat} {t : CS} (h : t.Is vl N) {hd : Nat} (hh : hd < 18446744073709551616) (g : NV → NV) (hg : ∀ n : NV, n.Ok vl → (g n).Ok vl) : (t.turn hd g).2.Is vl N ∧ (t.turn hd g).2.s.used = t.s.used := by
  unfold CS.turn
  cases e : t.f hd with
  | none => exact ⟨h, rfl⟩
  | some n => exact h.set (by rw [e]; rfl) hh (hg n (h.ok _ _ e))
theorem CS.Is.free {vl N : Nat} {t : CS} (h : t.Is vl N) {hd : Nat} (hh : hd < 18446744073709551616) : (t.free hd).2.Is vl N ∧ (t.free hd).2.s.used + (if (t.f hd).isSome = true then 1 else 0) = t.s.used ∧ ((t.free hd).1 = (aFree t.s hd).1) ∧ (t.free hd).2.s = (aFree t.s hd).2 := by
  have hw := h.up.wf
  have hfd := h.find hd hh
  unfold CS.free
  cases e : t.f hd with
  | none =>
    rw [e] at hfd
    have : aFree t.s hd = (5, t.s) := by unfold aFree; rw [if_neg (by rw [hfd]; simp)]
    rw [this]
    exact ⟨h, by simp, rfl, rfl⟩
  | some n =>
    rw [e] at hfd
    have hs : (aFind t.s hd).isSome = true := by rw [hfd]; rfl
    obtain ⟨w1, w2, w3, w4⟩ := aFree_all hw hd
    have hu := (aFree_old hw hd).used
    rw [if_pos ⟨rfl, hs⟩] at hu
    refine ⟨⟨h.up.free hd, by show (aFree t.s hd).2.slot = _; rw [w2, h.slot], fun y hy => ?_, fun y m e' => ?_⟩, by simpa using hu, ?_, rfl⟩
    · show aFind (aFree t.s hd).2 y = (upd t.f hd none y).map _
      rw [w4 hs y]
      by_cases ey : y = hd
      · subst ey; rw [upd_same, if_pos rfl]; rfl
      · rw [upd_other _ _ ey, if_neg ey]; exact h.find y hy
    · have e' : upd t.f hd none y = some m := e'
      by_cases ey : y = hd
      · subst ey; rw [upd_same] at e'; cases e'
      · rw [upd_other _ _ ey] at e'; exact h.ok y m e'
    · show 0 = (aFree t.s hd).1
      unfold aFree; rw [if_pos hs]
theorem CS.Is.make {vl N : Nat} {t : CS} (h : t.Is vl N) (hN : N < big) {n : NV} (hn : n.Ok vl) : (t.make n).2.1 = 0 ∧ t.Made vl N n (t.make n).1 (t.make n).2.2 ∨ (t.make n).2.1 = 41 ∧ (t.make n).1 = 0 ∧ t.s.pages.length = 4096 ∧ (t.make n).2.2 = ⟨{ t.s with first := adv t.s.slot t.s.pages t.s.first }, t.f⟩ ∧ (t.make n).2.2.Is vl (N + 1) := by
  have hw := h.up.wf
  have hup := h.up.alloc
  rcases aAlloc_new h.up hN with ⟨e, r⟩ | ⟨e1, e2, e3, e4, e5⟩
  · left
    unfold CS.make
    rw [if_pos e]
    refine ⟨rfl, ?_⟩
    have hsl : (aAlloc t.s).2.2.slot = 27 + vl := by rw [(aAlloc_wf hw).2, h.slot]
    have hfr := r.none
    rw [h.find _ r.lt] at hfr
    have hfr' : t.f (aAlloc t.s).1 = none := by
      cases e : t.f (aAlloc t.s).1 with
      | none => rfl
      | some m => rw [e] at hfr; cases hfr
    obtain ⟨w1, w2, w3, w4⟩ := aWrite_all hup.wf (aAlloc t.s).1 (strOf n.enc)
    refine ⟨r.lt, r.pos, hfr', rfl, ?_, hup.write _ _, by show (aWrite _ _ _).2.slot = _; rw [w2, hsl], fun y hy => ?_, fun y m e' => ?_⟩
    · show (aWrite _ _ _).2.used = _
      rw [write_used hup.wf]; exact r.used
    · show aFind (aWrite _ _ _).2 y = (upd t.f _ (some n) y).map _
      rw [w4 y]
      by_cases ey : y = (aAlloc t.s).1
      · subst ey
        rw [upd_same, if_pos ⟨rfl, by rw [r.find _ hy, if_pos rfl]; rfl, by rw [hsl]; exact enc_fits hn⟩, hsl, enc_slot hn]; rfl
      · rw [upd_other _ _ ey, if_neg (fun q => ey q.1), r.find y hy, if_neg ey]; exact h.find y hy
    · have e' : upd t.f _ (some n) y = some m := e'
      by_cases ey : y = (aAlloc t.s).1
      · rw [ey, upd_same] at e'; cases e'; exact hn
      · rw [upd_other _ _ ey] at e'; exact h.ok y m e'
  · right
    have hne : ¬ (aAlloc t.s).2.1 = 0 := by omega
    unfold CS.make
    rw [if_neg hne]
    refine ⟨e1, rfl, e3, by rw [e5], hup, by show (aAlloc t.s).2.2.slot = _; rw [(aAlloc_wf hw).2, h.slot], fun y hy => ?_, h.ok⟩
    show aFind (aAlloc t.s).2.2 y = _
    rw [e5]; exact h.find y hy
end Go.Proofs.Yteefcfndlggajaa
namespace Go.Proofs.Yteefcfndlggajaa
open Go.RowKit
set_option linter.unusedVariables false
set_option linter.unusedSimpArgs false
set_option maxRecDepth 100000
section
variable {w : World} {x a N vl : Nat} {F : Nat → Prop} {c : CfgV} {s : AS}
theorem ver_box {w w' : World} {v : VerV} {G : Nat → Prop} (f : Fr G (w.alloc (.cells v.cells 32)) w') (hn : ¬ G w.heap.size) : w'.cell? ⟨w.heap.size, 0, none⟩ = some (.int .i64 v.wr) ∧ w'.cell? ⟨w.heap.size, 1, none⟩ = some (.int .i64 v.ts) ∧ w'.cell? ⟨w.heap.size, 2, none⟩ = some (.bool v.tomb) ∧ w'.cell? ⟨w.heap.size, 3, none⟩ = some (.string v.val) := by
  have h := (Row.new w v.cells 32).kept f hn
  exact ⟨h.cell 0, h.cell 1, h.cell 2, h.cell 3⟩
set_option maxHeartbeats 4000000 in
theorem Chain_Make_bad (h : ChAt w x a F c s) (hvl : vl ≤ 256) (hc : c.valLen = vl) (v : VerV) (hs : v.val.size ≤ maxLen) (hm : v.may vl = false) (nx : Int) :
    Calls Try.prog 22 #[.pointer (some ⟨x, 0, none⟩), .agg v.cells, .int .u64 nx] w fun e w' => e = .returned (.tuple #[.int .u64 0, .int .i64 1]) ∧ Fr none_ w w' := by
  have fB := Fr.alloc none_ w (.cells v.cells 32)
  have hvl' := (h.kept0 fB).vlen
  rw [hc] at hvl'
  have HM := Chain_may vl v hvl hvl' hs
  rw [hm] at HM
  obtain ⟨b0, b1, b2, b3⟩ := ver_box (w := w) (v := v) (Fr.refl none_ _) (fun e => e)
  unfold VerV.cells at HM fB b0 b1 b2 b3 ⊢
  obtain ⟨vw, vt, vtomb, vv⟩ := v
  simp only at HM fB b0 b1 b2 b3 ⊢
  have HMM := Lib.hid HM
  have FB := Lib.hid fB
  clear h hc hs hm hvl' HM fB
  go_enter Try.func22, Try.ntmps22
  go_wp2_with fail
  refine HMM.out.mono ?_
  rintro e w1 ⟨rfl, f1⟩
  have F1 := Lib.hid (FB.out.trans f1)
  clear f1
  go_wp2_with fail
  go_ret2
  exact ⟨rfl, F1.out⟩
set_option maxHeartbeats 4000000 in
theorem Chain_Make_full (h : ChAt w x a F c s) (hu : Upto N s) (hN : N < big) (hvl : vl ≤ 256) (hc : c.valLen = vl) (v : VerV) (hs : v.val.size ≤ maxLen) (hm : v.may vl = true) (h0 : (aAlloc s).1 = 0) (h1 : (aAlloc s).2.1 = 41) (nx : Int) :
    Calls Try.prog 22 #[.pointer (some ⟨x, 0, none⟩), .agg v.cells, .int .u64 nx] w fun e w' => e = .returned (.tuple #[.int .u64 0, .int .i64 41]) ∧ ∃ F', ChAt w' x a F' c (aAlloc s).2.2 ∧ Fr F w w' ∧ Grow F F' w := by
  have fB := Fr.alloc none_ w (.cells v.cells 32)
  have hvl' := (h.kept0 fB).vlen
  rw [hc] at hvl'
  have HM := Chain_may vl v hvl hvl' hs
  rw [hm] at HM
  obtain ⟨b0, b1, b2, b3⟩ := ver_box (w := w) (v := v) (Fr.refl none_ _) (fun e => e)
  have HC := Lib.hid (fun w' (f : Fr none_ w w') => (h.kept0 f).arena)
  have HA := Lib.hid (fun w' (f : Fr none_ w w') => ar_alloc_lit (h.kept0 f).ar hu hN 0 (q := 41) (by rw [h0]; rfl) (by rw [h1]; rfl))
  have HH := Lib.hid h
  unfold VerV.cells at HM fB b0 b1 b2 b3 ⊢
  obtain ⟨vw, vt, vtomb, vv⟩ := v
  simp only at HM fB b0 b1 b2 b3 ⊢
  have HMM := Lib.hid HM
  have FB := Lib.hid fB
  generalize (aAlloc s).2.2 = s2 at HA ⊢
  clear h hu hc hs hm hvl' HM fB h0 h1
  go_enter Try.func22, Try.ntmps22
  go_wp2_with fail
  refine HMM.out.mono ?_
  rintro e w1 ⟨rfl, f1⟩
  have F1 := Lib.hid (FB.out.trans f1)
  have c8 := HC.out _ F1.out
  clear f1
  go_wp2_with fail
  refine (HA.out _ F1.out).mono ?_
  rintro e w2 ⟨rfl, F', ha, f2, g2⟩
  have HX := Lib.hid (And.intro ha (And.intro f2 g2))
  clear ha f2 g2
  go_wp2_with fail
  go_ret2
  obtain ⟨ha, f2, g2⟩ := HX.out
  have g3 : Grow F F' w := fun k hk => (g2 k hk).imp id (fun q => Nat.le_trans F1.out.size q)
  exact ⟨rfl, F', (HH.out.kept0 F1.out).turn ha f2 g2, F1.out.none.trans f2, g3⟩
set_option maxHeartbeats 4000000 in
theorem Chain_Make_yes {t : CS} (h : ChAt w x a F c t.s) (hi : t.Is vl N) (hN : N < big) (hvl : vl ≤ 256) (hc : c.valLen = vl) (v : VerV) (hs : v.val.size ≤ maxLen) (hm : v.may vl = true) (hvw : v.wr < 9223372036854775808) {nx : Nat} (hnx : nx < 18446744073709551616)
    (h1 : (aAlloc t.s).2.1 = 0) (hmade : t.Made vl N (v.nv nx) (t.make (v.nv nx)).1 (t.make (v.nv nx)).2.2) :
    Calls Try.prog 22 #[.pointer (some ⟨x, 0, none⟩), .agg v.cells, .int .u64 (nx : Int)] w fun e w' => e = .returned (.tuple #[.int .u64 ((t.make (v.nv nx)).1 : Int), .int .i64 0]) ∧ ∃ F', ChAt w' x a F' c (t.make (v.nv nx)).2.2.s ∧ Fr F w w' ∧ Grow F F' w := by
  have hok := VerV.may_iff.1 hm
  have hn := VerV.nv_ok hok hvw hnx
  have hncells := VerV.nv_cells hok nx
  have em : t.make (v.nv nx) = ((aAlloc t.s).1, 0, ⟨(aWrite (aAlloc t.s).2.2 (aAlloc t.s).1 (strOf (v.nv nx).enc)).2, upd t.f (aAlloc t.s).1 (some (v.nv nx))⟩) := by unfold CS.make; rw [if_pos h1]
  have fB := Fr.alloc none_ w (.cells v.cells 32)
  have hvl' := (h.kept0 fB).vlen
  rw [hc] at hvl'
  have HM := Chain_may vl v hvl hvl' hs
  rw [hm] at HM
  have HB := Lib.hid (fun w' (G : Nat → Prop) (f : Fr G (w.alloc (.cells v.cells 32)) w') hn => ver_box (w := w) (v := v) f hn)
  have HC := Lib.hid (fun w' (f : Fr none_ w w') => (h.kept0 f).arena)
  have HA := Lib.hid (fun w' (f : Fr none_ w w') => ar_alloc_lit (h.kept0 f).ar hi.up hN ((aAlloc t.s).1 : Int) (q := 0) rfl (by rw [h1]; rfl))
  have hhl : (aAlloc t.s).1 < 18446744073709551616 := by have := hmade.lt; rw [em] at this; exact this
  have hfd : (aFind (aAlloc t.s).2.2 (aAlloc t.s).1).isSome = true := by
    rcases aAlloc_new hi.up hN with ⟨_, r⟩ | ⟨e1, _⟩
    · rw [r.find _ r.lt, if_pos rfl]; rfl
    · omega
  have hsl : (aAlloc t.s).2.2.slot = 27 + vl := by rw [(aAlloc_wf hi.up.wf).2, hi.slot]
  have HWR := Lib.hid (fun w' F' (h' : ChAt w' x a F' c (aAlloc t.s).2.2) => ch_write h' hi.up.alloc hsl hhl hfd (v.nv nx) hn)
  have HBY := Lib.hid (fun w' => Chain_bytes w' (.pointer (some ⟨x, 0, none⟩)) (v.nv nx) hn.wr hn.ts hn.nx (by have := hn.val; omega))
  have HH := Lib.hid h
  rw [em]
  simp only
  have ewr : (((v.nv nx).wr : Nat) : Int) = v.wr := by have := hok.wr; show ((v.wr.toNat : Nat) : Int) = _; omega
  have ets : (((v.nv nx).ts : Nat) : Int) = v.ts := by have := hok.ts0; show ((v.ts.toNat : Nat) : Int) = _; omega
  have e3 : (v.nv nx).nx = nx := rfl
  have e4 : (v.nv nx).tomb = v.tomb := rfl
  have e5 : (v.nv nx).val = v.val := rfl
  rw [ewr, ets, e3, e4, e5] at HBY
  obtain ⟨EN, hEN⟩ : ∃ EN, EN = (v.nv nx).enc := ⟨_, rfl⟩
  rw [← hEN] at HBY HWR ⊢
  unfold VerV.cells at HM fB HB ⊢
  obtain ⟨vw, vt, vtomb, vv⟩ := v
  simp only at HM fB HB HBY ⊢
  have HMM := Lib.hid HM
  have FB := Lib.hid fB
  generalize (aWrite (aAlloc t.s).2.2 (aAlloc t.s).1 (strOf EN)).2 = s3 at HWR ⊢
  generalize (aAlloc t.s).2.2 = s2 at HA HWR
  generalize (aAlloc t.s).1 = H at HA HWR ⊢
  have HNB := Lib.hid (show ¬ F w.heap.size from fun e => absurd (h.ar.lt _ e) (Nat.lt_irrefl _))
  obtain ⟨b0, b1, b2, b3⟩ := HB.out _ none_ (Fr.refl none_ _) (fun e => e)
  clear h hi hc hs hm hvl' HM fB h1 hmade hok hn hncells em hhl hfd hsl ewr ets e3 e4 e5 hEN
  go_enter Try.func22, Try.ntmps22
  go_wp2_with fail
  refine HMM.out.mono ?_
  rintro e w1 ⟨rfl, f1⟩
  have F1 := Lib.hid (FB.out.trans f1)
  have F01 := Lib.hid f1
  have c8 := HC.out _ F1.out
  clear f1 b0 b1 b2 b3
  go_wp2_with fail
  refine (HA.out _ F1.out).mono ?_
  rintro e w2 ⟨rfl, F', ha, f2, g2⟩
  have hA2 := (HH.out.kept0 F1.out).turn ha f2 g2
  have hnb2 : ¬ F' w.heap.size := fun e => by
    rcases g2 _ e with q | q
    · exact HNB.out q
    · have := F01.out.size; simp at this; omega
  obtain ⟨b0, b1, b2, b3⟩ := HB.out _ F (F01.out.none.trans f2) HNB.out
  have c8' := hA2.arena
  have HX := Lib.hid (And.intro hA2 (And.intro f2 g2))
  have HNB2 := Lib.hid hnb2
  have fS : Fr F' w2 w2 := Fr.refl _ _
  clear ha f2 g2 hA2 hnb2 c8
  go_wp2_with fail
  go_region_held3 (fun w' => Fr F' w2 w' ∧ w'.cell? ⟨x, 8, none⟩ = some (.pointer (some ⟨a, 0, none⟩)) ∧ w'.cell? ⟨w.heap.size, 0, none⟩ = some (.int .i64 vw) ∧ w'.cell? ⟨w.heap.size, 1, none⟩ = some (.int .i64 vt) ∧ w'.cell? ⟨w.heap.size, 2, none⟩ = some (.bool vtomb) ∧ w'.cell? ⟨w.heap.size, 3, none⟩ = some (.string vv))
    (first | (go_split_ands; refine ⟨?_, ?_, ?_, ?_, ?_, ?_⟩; exact Fr.trans (by assumption) f6; exact hA.arena; all_goals exact Fr.keepF f6 HNB2.out (by assumption)) | (go_split_ands; refine ⟨?_, ?_, ?_, ?_, ?_, ?_⟩; exact Fr.trans (by assumption) f5.none; all_goals exact Fr.keep f5 (by assumption)) | (go_split_ands; refine ⟨?_, ?_, ?_, ?_, ?_, ?_⟩; exact Fr.trans (by assumption) (Fr.drew _ _); all_goals assumption) | go_keep)
    (first
      | (go_at_call 47; refine (HBY.out _).mono ?_; rintro e w5 ⟨rfl, f5⟩)
      | (go_at_call 46; refine (HWR.out _ F' (HX.out.1.kept0 ((Fr.drew none_ w2).trans f5))).mono ?_; rintro e w6 ⟨rfl, hA, f6⟩))
  rename_i hk
  have hF := hk.1
  clear hk
  go_wp2
  go_ret2
  obtain ⟨hA2, f2, g2⟩ := HX.out
  refine ⟨rfl, F', hA, ?_, fun k hk => (g2 k hk).imp id (fun q => Nat.le_trans F1.out.size q)⟩
  refine (F1.out.none.trans f2).step hF (fun i hi hk => ?_)
  rcases g2 i hk with q | q
  · exact q
  · have := F1.out.size; omega
end
end Go.Proofs.Yteefcfndlggajaa
namespace Go.Proofs.Yteefcfndlggajaa
open Go.RowKit
set_option linter.unusedVariables false
set_option linter.unusedSimpArgs false
set_option maxRecDepth 100000

noncomputable def CS.change (vl : Nat) (t : CS) (h : Nat) (v : VerV) : Nat × CS := if v.may vl = true then t.turn h (fun n => v.nv n.nx) else (1, t)
def CS.stamp (t : CS) (h : Nat) (ts : Int) : Nat × CS := if 1 ≤ ts ∧ ts ≤ 1048576 then t.turn h (fun n => { n with ts := ts.toNat }) else (1, t)
def CS.cut (t : CS) (h : Nat) : Nat × CS := t.turn h (fun n => { n with nx := 0 })
noncomputable def CS.put (vl : Nat) (t : CS) (v : VerV) (nx : Nat) : Nat × Nat × CS := if v.may vl = true then t.make (v.nv nx) else (0, 1, t)
def nodeOf : Option NV → Array Value
  | none => nodeZero
  | some n => n.cells
structure CnAt (w : World) (x a : Nat) (F : Nat → Prop) (c : CfgV) (vl N : Nat) (t : CS) : Prop where
  at_ : ChAt w x a F c t.s
  is_ : t.Is vl N
  lim : vl ≤ 256
  cfg : c.valLen = vl
/-- At x there is an engine of a config, of state t, that owns the blocks G. -/
def Cn (G : Nat → Prop) (w : World) (x : Nat) (c : CfgV) (vl N : Nat) (t : CS) : Prop := ∃ a F, CnAt w x a F c vl N t ∧ G = fun k => k = x ∨ F k
section
variable {w w' : World} {G : Nat → Prop} {x N vl : Nat} {c : CfgV} {t : CS}
theorem Cn.is_ (h : Cn G w x c vl N t) : t.Is vl N := by obtain ⟨a, F, h, _⟩ := h; exact h.is_
theorem Cn.vl_le (h : Cn G w x c vl N t) : vl ≤ 256 := by obtain ⟨a, F, h, _⟩ := h; exact h.lim
theorem Cn.lt (h : Cn G w x c vl N t) : ∀ k, G k → k < w.heap.size := by
  obtain ⟨a, F, h, rfl⟩ := h
  rintro k (rfl | e)
  · exact h.at_.row.lt
  · exact h.at_.ar.lt k e
theorem Cn.own (h : Cn G w x c vl N t) : G x := by obtain ⟨a, F, h, rfl⟩ := h; exact Or.inl rfl
theorem Cn.kept {H : Nat → Prop} (h : Cn G w x c vl N t) (f : Fr H w w') (hn : ∀ k, G k → ¬ H k) : Cn G w' x c vl N t := by
  obtain ⟨a, F, h, rfl⟩ := h
  exact ⟨a, F, ⟨⟨h.at_.row.kept f (hn x (Or.inl rfl)), h.at_.ar.kept f (fun k e => hn k (Or.inr e)), h.at_.nx⟩, h.is_, h.lim, h.cfg⟩, rfl⟩
theorem Cn.kept0 (h : Cn G w x c vl N t) (f : Fr none_ w w') : Cn G w' x c vl N t := h.kept f (fun _ _ e => e)
theorem Cn.more {M : Nat} (h : Cn G w x c vl N t) (hm : N ≤ M) : Cn G w x c vl M t := by
  obtain ⟨a, F, h, e⟩ := h
  exact ⟨a, F, ⟨h.at_, h.is_.more hm, h.lim, h.cfg⟩, e⟩
theorem cn_used (h : Cn G w x c vl N t) : Calls Try.prog 16 #[.pointer (some ⟨x, 0, none⟩)] w fun e w' => e = .returned (.int .i64 (t.s.used : Int)) ∧ w = w' := by
  obtain ⟨a, F, h, _⟩ := h
  exact Chain_Used h.at_
theorem cn_read (h : Cn G w x c vl N t) {hd : Nat} (hh : hd < 18446744073709551616) : Calls Try.prog 12 #[.pointer (some ⟨x, 0, none⟩), .int .u64 (hd : Int)] w fun e w' => e = .returned (.tuple #[.agg (nodeOf (t.f hd)), .bool (t.f hd).isSome]) ∧ Fr none_ w w' := by
  obtain ⟨a, F, h, _⟩ := h
  have hf := h.is_.find hd hh
  cases e : t.f hd with
  | none => rw [e] at hf; exact Chain_Read_no h.at_ h.is_.up hh hf
  | some n => rw [e] at hf; exact Chain_Read_yes h.at_ h.is_.up hh n (h.is_.ok _ _ e) h.lim (zeros (vl - n.val.size)) (n.pad_le h.lim) hf
theorem cn_free (h : Cn G w x c vl N t) (hN : N < big) {hd : Nat} (hh : hd < 18446744073709551616) : Calls Try.prog 17 #[.pointer (some ⟨x, 0, none⟩), .int .u64 (hd : Int)] w fun e w' => e = .returned (.int .i64 ((t.free hd).1 : Int)) ∧ Cn G w' x c vl N (t.free hd).2 ∧ Fr G w w' := by
  obtain ⟨a, F, h, rfl⟩ := h
  obtain ⟨i1, i2, i3, i4⟩ := h.is_.free hh
  refine (Chain_Free h.at_ h.is_.up hN hh).mono ?_
  rintro e w1 ⟨he, h1, f1⟩
  refine ⟨by rw [i3]; exact he, ⟨a, F, ⟨by rw [i4]; exact h1, i1, h.lim, h.cfg⟩, rfl⟩, f1.mono fun k _ e => Or.inr e⟩
theorem cn_put (h : Cn G w x c vl N t) (hN : N < big) (v : VerV) (hs : v.val.size ≤ maxLen) (hvw : v.wr < 9223372036854775808) {nx : Nat} (hnx : nx < 18446744073709551616) :
    Calls Try.prog 22 #[.pointer (some ⟨x, 0, none⟩), .agg v.cells, .int .u64 (nx : Int)] w fun e w' => e = .returned (.tuple #[.int .u64 ((t.put vl v nx).1 : Int), .int .i64 ((t.put vl v nx).2.1 : Int)]) ∧ ∃ G', Cn G' w' x c vl (N + 1) (t.put vl v nx).2.2 ∧ Fr G w w' ∧ Grow G G' w := by
  obtain ⟨a, F, h, rfl⟩ := h
  unfold CS.put
  by_cases hm : v.may vl = true
  · rw [if_pos hm]
    have hgr : ∀ F', Grow F F' w → Grow (fun k => k = x ∨ F k) (fun k => k = x ∨ F' k) w := fun F' g k hk => by
      rcases hk with e | e
      · exact Or.inl (Or.inl e)
      · rcases g k e with q | q
        · exact Or.inl (Or.inr q)
        · exact Or.inr q
    rcases h.is_.make hN (VerV.nv_ok (VerV.may_iff.1 hm) hvw hnx) with ⟨e0, r⟩ | ⟨e1, e2, e3, e4, i1⟩
    · have h1 : (aAlloc t.s).2.1 = 0 := by
        rcases aAlloc_new h.is_.up hN with ⟨q, _⟩ | ⟨q, _⟩
        · exact q
        · have : (t.make (v.nv nx)).2.1 = 41 := by unfold CS.make; rw [if_neg (by omega)]; exact q
          omega
      refine (Chain_Make_yes h.at_ h.is_ hN h.lim h.cfg v hs hm hvw hnx h1 r).mono ?_
      rintro e w1 ⟨he, F', h2, f2, g2⟩
      exact ⟨by rw [e0]; exact he, _, ⟨a, F', ⟨h2, r.is_, h.lim, h.cfg⟩, rfl⟩, f2.mono fun k _ e => Or.inr e, hgr F' g2⟩
    · have h1 : (aAlloc t.s).2.1 = 41 ∧ (aAlloc t.s).1 = 0 ∧ (t.make (v.nv nx)).2.2.s = (aAlloc t.s).2.2 := by
        rcases aAlloc_new h.is_.up hN with ⟨q, _⟩ | ⟨q, q2, _⟩
        · have : (t.make (v.nv nx)).2.1 = 0 := by unfold CS.make; rw [if_pos q]
          omega
        · refine ⟨q, q2, ?_⟩
          unfold CS.make; rw [if_neg (by omega)]
      refine (Chain_Make_full h.at_ h.is_.up hN h.lim h.cfg v hs hm h1.2.1 h1.1 (nx : Int)).mono ?_
      rintro e w1 ⟨he, F', h2, f2, g2⟩
      exact ⟨by rw [e1, e2]; exact he, _, ⟨a, F', ⟨by rw [h1.2.2]; exact h2, i1, h.lim, h.cfg⟩, rfl⟩, f2.mono fun k _ e => Or.inr e, hgr F' g2⟩
  · rw [if_neg hm]
    refine (Chain_Make_bad h.at_ h.lim h.cfg v hs (by simpa using hm) (nx : Int)).mono ?_
    rintro e w1 ⟨he, f1⟩
    exact ⟨he, _, ⟨a, F, ⟨h.at_.kept0 f1, h.is_.more (by omega), h.lim, h.cfg⟩, rfl⟩, f1.none, Grow.refl _ _⟩

/-! ### the methods that turn a version -/
set_option maxHeartbeats 4000000 in
theorem Chain_Change_bad {a : Nat} {F : Nat → Prop} {s : AS} (h : ChAt w x a F c s) (hvl : vl ≤ 256) (hc : c.valLen = vl) (v : VerV) (hs : v.val.size ≤ maxLen) (hm : v.may vl = false) (hd : Int) :
    Calls Try.prog 18 #[.pointer (some ⟨x, 0, none⟩), .int .u64 hd, .agg v.cells] w fun e w' => e = .returned (.int .i64 1) ∧ Fr none_ w w' := by
  have fB := Fr.alloc none_ w (.cells v.cells 32)
  have hvl' := (h.kept0 fB).vlen
  rw [hc] at hvl'
  have HM := Chain_may vl v hvl hvl' hs
  rw [hm] at HM
  obtain ⟨b0, b1, b2, b3⟩ := ver_box (w := w) (v := v) (Fr.refl none_ _) (fun e => e)
  unfold VerV.cells at HM fB b0 b1 b2 b3 ⊢
  obtain ⟨vw, vt, vtomb, vv⟩ := v
  simp only at HM fB b0 b1 b2 b3 ⊢
  have HMM := Lib.hid HM
  have FB := Lib.hid fB
  clear h hc hs hm hvl' HM fB
  go_enter Try.func18, Try.ntmps18
  go_wp2_with fail
  refine HMM.out.mono ?_
  rintro e w1 ⟨rfl, f1⟩
  have F1 := Lib.hid (FB.out.trans f1)
  clear f1
  go_wp2_with fail
  go_ret
  exact ⟨rfl, F1.out⟩
set_option maxHeartbeats 4000000 in
theorem Chain_Change_ok {a : Nat} {F : Nat → Prop} {s : AS} (h : ChAt w x a F c s) (hvl : vl ≤ 256) (hc : c.valLen = vl) (v : VerV) (hs : v.val.size ≤ maxLen) (hm : v.may vl = true) (hd : Int) (R : Ending → World → Prop)
    (hR : ∀ w1, Fr none_ w w1 → (∀ i, i < 4 → w1.cell? ⟨w.heap.size, i, none⟩ = v.cells[i]?) → w.heap.size < w1.heap.size → Calls Try.prog 40 #[.pointer (some ⟨x, 0, none⟩), .int .u64 hd, .func (.func 41) #[] #[.pointer (some ⟨w.heap.size, 0, none⟩)]] w1 fun e w' => (∃ q : Int, e = .returned (.int .i64 q)) ∧ R e w') :
    Calls Try.prog 18 #[.pointer (some ⟨x, 0, none⟩), .int .u64 hd, .agg v.cells] w R := by
  have fB := Fr.alloc none_ w (.cells v.cells 32)
  have hvl' := (h.kept0 fB).vlen
  rw [hc] at hvl'
  have HM := Chain_may vl v hvl hvl' hs
  rw [hm] at HM
  obtain ⟨b0, b1, b2, b3⟩ := ver_box (w := w) (v := v) (Fr.refl none_ _) (fun e => e)
  have HCB := Lib.hid (show ∀ w1, Fr none_ (w.alloc (.cells v.cells 32)) w1 → (∀ i, i < 4 → w1.cell? ⟨w.heap.size, i, none⟩ = v.cells[i]?) ∧ w.heap.size < w1.heap.size from fun w1 f => ⟨fun i _ => ((Row.new w v.cells 32).kept f (fun e => e)).cell i, by have := f.size; simp at this; omega⟩)
  have HR := Lib.hid hR
  unfold VerV.cells at HM fB b0 b1 b2 b3 HCB HR ⊢
  obtain ⟨vw, vt, vtomb, vv⟩ := v
  simp only at HM fB b0 b1 b2 b3 HCB HR ⊢
  have HMM := Lib.hid HM
  have FB := Lib.hid fB
  clear h hc hs hm hvl' HM fB hR
  go_enter Try.func18, Try.ntmps18
  go_wp2_with fail
  refine HMM.out.mono ?_
  rintro e w1 ⟨rfl, f1⟩
  have F1 := Lib.hid (FB.out.trans f1)
  have HT := Lib.hid (HR.out w1 F1.out (HCB.out w1 f1).1 (HCB.out w1 f1).2)
  clear f1 b0 b1 b2 b3
  go_wp2_with fail
  refine HT.out.mono ?_
  rintro e w2 ⟨⟨q, rfl⟩, hq⟩
  have HQ := Lib.hid hq
  clear hq
  go_wp2_with fail
  exact HQ.out
theorem cn_change (h : Cn G w x c vl N t) (v : VerV) (hs : v.val.size ≤ maxLen) (hvw : v.wr < 9223372036854775808) {hd : Nat} (hh : hd < 18446744073709551616) :
    Calls Try.prog 18 #[.pointer (some ⟨x, 0, none⟩), .int .u64 (hd : Int), .agg v.cells] w fun e w' => e = .returned (.int .i64 ((t.change vl hd v).1 : Int)) ∧ Cn G w' x c vl N (t.change vl hd v).2 ∧ Fr G w w' := by
  obtain ⟨a, F, h, rfl⟩ := h
  unfold CS.change
  by_cases hm : v.may vl = true
  · rw [if_pos hm]
    have hok := VerV.may_iff.1 hm
    refine Chain_Change_ok h.at_ h.lim h.cfg v hs hm (hd : Int) _ (fun w1 f1 hb hlt => ?_)
    have hf := h.is_.find hd hh
    have hi := (h.is_.turn hh (fun n => v.nv n.nx) (fun n hn => VerV.nv_ok hok hvw hn.nx)).1
    unfold CS.turn at hi ⊢
    cases e : t.f hd with
    | none =>
      rw [e] at hf hi
      refine (turn_none (h.at_.kept0 f1) h.is_.up hh hf _).mono ?_
      rintro e w2 ⟨rfl, f2⟩
      exact ⟨⟨_, rfl⟩, rfl, ⟨a, F, ⟨(h.at_.kept0 f1).kept0 f2, hi, h.lim, h.cfg⟩, rfl⟩, (f1.trans f2).none⟩
    | some n =>
      rw [e] at hf hi
      refine (turn_Change (h.at_.kept0 f1) h.is_.up h.lim h.is_.slot hh n (h.is_.ok _ _ e) hf v w.heap.size hb hlt hok hvw).mono ?_
      rintro e w2 ⟨rfl, h2, f2⟩
      exact ⟨⟨_, rfl⟩, rfl, ⟨a, F, ⟨h2, hi, h.lim, h.cfg⟩, rfl⟩, f1.none.trans (f2.mono fun k _ e => Or.inr e)⟩
  · rw [if_neg hm]
    refine (Chain_Change_bad h.at_ h.lim h.cfg v hs (by simpa using hm) (hd : Int)).mono ?_
    rintro e w1 ⟨he, f1⟩
    exact ⟨he, ⟨a, F, ⟨h.at_.kept0 f1, h.is_, h.lim, h.cfg⟩, rfl⟩, f1.none⟩
set_option maxHeartbeats 4000000 in
theorem Chain_Stamp_bad (ts : Int) (hts : ts < 1 ∨ 1048576 < ts) (hd : Int) :
    Calls Try.prog 19 #[.pointer (some ⟨x, 0, none⟩), .int .u64 hd, .int .i64 ts] w fun e w' => e = .returned (.int .i64 1) ∧ Fr none_ w w' := by
  have FB := Lib.hid (Fr.alloc none_ w (.cells #[.int .i64 ts] 3))
  rcases hts with hts | hts
  · go_enter Try.func19, Try.ntmps19
    go_wp2_with fail
    go_ret
    exact ⟨rfl, FB.out⟩
  · have h1 : ¬ ts < 1 := by omega
    go_enter Try.func19, Try.ntmps19
    go_wp2_with fail
    go_ret
    exact ⟨rfl, FB.out⟩
set_option maxHeartbeats 4000000 in
theorem Chain_Stamp_ok (ts : Int) (h1 : ¬ ts < 1) (h2 : ¬ 1048576 < ts) (hd : Int) (R : Ending → World → Prop)
    (hR : ∀ w1, Fr none_ w w1 → w1.cell? ⟨w.heap.size, 0, none⟩ = some (.int .i64 ts) → w.heap.size < w1.heap.size → Calls Try.prog 40 #[.pointer (some ⟨x, 0, none⟩), .int .u64 hd, .func (.func 42) #[] #[.pointer (some ⟨w.heap.size, 0, none⟩)]] w1 fun e w' => (∃ q : Int, e = .returned (.int .i64 q)) ∧ R e w') :
    Calls Try.prog 19 #[.pointer (some ⟨x, 0, none⟩), .int .u64 hd, .int .i64 ts] w R := by
  have HT := Lib.hid (hR (w.alloc (.cells #[.int .i64 ts] 3)) (Fr.alloc none_ w _) ((Row.new w #[.int .i64 ts] 3).cell 0) (by simp))
  clear hR
  go_enter Try.func19, Try.ntmps19
  go_wp2_with fail
  refine HT.out.mono ?_
  rintro e w2 ⟨⟨q, rfl⟩, hq⟩
  have HQ := Lib.hid hq
  clear hq
  go_wp2_with fail
  exact HQ.out
theorem cn_stamp (h : Cn G w x c vl N t) (ts : Int) {hd : Nat} (hh : hd < 18446744073709551616) :
    Calls Try.prog 19 #[.pointer (some ⟨x, 0, none⟩), .int .u64 (hd : Int), .int .i64 ts] w fun e w' => e = .returned (.int .i64 ((t.stamp hd ts).1 : Int)) ∧ Cn G w' x c vl N (t.stamp hd ts).2 ∧ Fr G w w' := by
  obtain ⟨a, F, h, rfl⟩ := h
  unfold CS.stamp
  by_cases hm : 1 ≤ ts ∧ ts ≤ 1048576
  · rw [if_pos hm]
    have ets : ((ts.toNat : Nat) : Int) = ts := by omega
    have htl : ts.toNat ≤ 1048576 := by omega
    refine Chain_Stamp_ok ts (by omega) (by omega) (hd : Int) _ (fun w1 f1 hb hlt => ?_)
    rw [← ets] at hb
    have hf := h.is_.find hd hh
    have hi := (h.is_.turn hh (fun n => { n with ts := ts.toNat }) (fun n hn => ⟨hn.wr, by show ts.toNat < _; omega, hn.nx, hn.val⟩)).1
    unfold CS.turn at hi ⊢
    cases e : t.f hd with
    | none =>
      rw [e] at hf hi
      refine (turn_none (h.at_.kept0 f1) h.is_.up hh hf _).mono ?_
      rintro e w2 ⟨rfl, f2⟩
      exact ⟨⟨_, rfl⟩, rfl, ⟨a, F, ⟨(h.at_.kept0 f1).kept0 f2, hi, h.lim, h.cfg⟩, rfl⟩, (f1.trans f2).none⟩
    | some n =>
      rw [e] at hf hi
      refine (turn_Stamp (h.at_.kept0 f1) h.is_.up h.lim h.is_.slot hh n (h.is_.ok _ _ e) hf ts.toNat w.heap.size hb hlt htl).mono ?_
      rintro e w2 ⟨rfl, h2, f2⟩
      exact ⟨⟨_, rfl⟩, rfl, ⟨a, F, ⟨h2, hi, h.lim, h.cfg⟩, rfl⟩, f1.none.trans (f2.mono fun k _ e => Or.inr e)⟩
  · rw [if_neg hm]
    refine (Chain_Stamp_bad ts (by omega) (hd : Int)).mono ?_
    rintro e w1 ⟨he, f1⟩
    exact ⟨he, ⟨a, F, ⟨h.at_.kept0 f1, h.is_, h.lim, h.cfg⟩, rfl⟩, f1.none⟩
set_option maxHeartbeats 4000000 in
theorem Chain_Cut_any (hd : Int) (R : Ending → World → Prop)
    (HR : Calls Try.prog 40 #[.pointer (some ⟨x, 0, none⟩), .int .u64 hd, .func (.func 43) #[] #[]] w fun e w' => (∃ q : Int, e = .returned (.int .i64 q)) ∧ R e w') :
    Calls Try.prog 20 #[.pointer (some ⟨x, 0, none⟩), .int .u64 hd] w R := by
  have HT := Lib.hid HR
  clear HR
  go_enter Try.func20, Try.ntmps20
  go_wp2_with fail
  refine HT.out.mono ?_
  rintro e w2 ⟨⟨q, rfl⟩, hq⟩
  have HQ := Lib.hid hq
  clear hq
  go_wp2_with fail
  exact HQ.out
theorem cn_cut (h : Cn G w x c vl N t) {hd : Nat} (hh : hd < 18446744073709551616) :
    Calls Try.prog 20 #[.pointer (some ⟨x, 0, none⟩), .int .u64 (hd : Int)] w fun e w' => e = .returned (.int .i64 ((t.cut hd).1 : Int)) ∧ Cn G w' x c vl N (t.cut hd).2 ∧ Fr G w w' := by
  obtain ⟨a, F, h, rfl⟩ := h
  unfold CS.cut
  refine Chain_Cut_any (hd : Int) _ ?_
  have hf := h.is_.find hd hh
  have hi := (h.is_.turn hh (fun n => { n with nx := 0 }) (fun n hn => ⟨hn.wr, hn.ts, by show 0 < _; omega, hn.val⟩)).1
  unfold CS.turn at hi ⊢
  cases e : t.f hd with
  | none =>
    rw [e] at hf hi
    refine (turn_none h.at_ h.is_.up hh hf _).mono ?_
    rintro e w2 ⟨rfl, f2⟩
    exact ⟨⟨_, rfl⟩, rfl, ⟨a, F, ⟨h.at_.kept0 f2, hi, h.lim, h.cfg⟩, rfl⟩, f2.none⟩
  | some n =>
    rw [e] at hf hi
    refine (turn_Cut h.at_ h.is_.up h.lim h.is_.slot hh n (h.is_.ok _ _ e) hf).mono ?_
    rintro e w2 ⟨rfl, h2, f2⟩
    exact ⟨⟨_, rfl⟩, rfl, ⟨a, F, ⟨h2, hi, h.lim, h.cfg⟩, rfl⟩, f2.mono fun k _ e => Or.inr e⟩
end
end Go.Proofs.Yteefcfndlggajaa
