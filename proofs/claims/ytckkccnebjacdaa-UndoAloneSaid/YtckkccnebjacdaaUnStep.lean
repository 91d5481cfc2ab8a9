/-
  Package undo's statements: states step by step ('St'); the examples. Of states alone.
-/
import Derived.Test.YtckkccnebjacdaaUnStk
namespace Go.Proofs.Ytckkccnebjacdaa
open Go.RowKit
set_option linter.unusedVariables false
set_option linter.unusedSimpArgs false
set_option maxRecDepth 100000

structure St (vl N : Nat) (t : US) (L : List Nat) : Prop where
  is_ : t.Is vl N
  live : Live t L
  pages : t.s.pages.length ≤ N
theorem St.new {vl : Nat} (h : vl ≤ 256) : St vl 0 (US.new vl) [] := ⟨US.Is.new h, Live.new vl, Nat.le_refl _⟩
section
variable {vl N : Nat} {t : US} {L : List Nat}
theorem St.more {M : Nat} (h : St vl N t L) (hm : N ≤ M) : St vl M t L := ⟨h.is_.more hm, h.live, Nat.le_trans h.pages hm⟩
theorem St.make (h : St vl N t L) (hN : N < 4096) {n : UV} (hn : n.Ok vl) (hg : n.rcd = true → 1 ≤ n.sg) : ∃ hd t', t.make n = (hd, 0, t') ∧ t.Made vl N n hd t' ∧ St vl (N + 1) t' (hd :: L) := by
  have hpg := upages_make h.is_ (by unfold big; omega) n
  rcases h.is_.make (by unfold big; omega) hn hg with ⟨e1, _, r⟩ | ⟨_, _, _, _, e, _⟩
  · exact ⟨(t.make n).1, (t.make n).2.2, by rw [← e1], r, r.is_, h.live.made r, by have := h.pages; omega⟩
  · have := h.pages; omega
theorem St.mkr (h : St vl N t L) (hN : N < 4096) {v : VerV} (hv : v.Fit vl) {nx : Nat} (hx : nx < 18446744073709551616) : ∃ hd t', t.mkr vl v nx = (hd, 0, t') ∧ t.Made vl N (v.uv false nx) hd t' ∧ St vl (N + 1) t' (hd :: L) := by
  have e : t.mkr vl v nx = t.make (v.uv false nx) := by unfold US.mkr; rw [if_pos hv.may]
  rw [e]
  exact h.make hN (uv_ok hv.may hv.wr hx) (fun e => by cases e)
theorem St.save (h : St vl N t L) (hN : N < 4096) {u v : VerV} (hu : u.Fit vl) (hv : v.Fit vl) {nx : Nat} (hx : nx < 18446744073709551616) : ∃ hd t', t.save vl u nx v = (hd, 0, t') ∧ t.Made vl N (saveUV u nx v) hd t' ∧ St vl (N + 1) t' (hd :: L) := by
  have e : t.save vl u nx v = t.make (saveUV u nx v) := by unfold US.save; rw [hu.may, hv.may]; rfl
  rw [e]
  obtain ⟨o1, o2⟩ := save_ok hu.may hv.may hu.wr hv.wr hx
  exact h.make hN o1 (fun _ => o2)
theorem St.set (h : St vl N t L) {hd : Nat} {m n : UV} (hf : t.f hd = some m) (hh : hd < 18446744073709551616) (hn : n.Ok vl) (hr : n.rcd = m.rcd) (hg : n.sg = m.sg) : St vl N (t.set hd n) L :=
  ⟨(h.is_.set hf hh hn hr hg).1, h.live.set h.is_ hf, by rw [upages_set h.is_]; exact h.pages⟩
theorem St.change (h : St vl N t L) {v u : VerV} {row top nx : Nat} (hf : t.f row = some (v.uv false top)) (hh : row < 18446744073709551616) (hu : u.Fit vl) (hx : nx < 18446744073709551616) :
    ∃ t', t.change vl row u nx = (0, t') ∧ t'.f = updU t.f row (some (u.uv false nx)) ∧ t'.seg = t.seg ∧ St vl N t' L := by
  have e : t.change vl row u nx = (0, t.set row (u.uv false nx)) := by unfold US.change; rw [if_pos hu.may]; unfold US.turn; rw [hf]; rfl
  exact ⟨_, e, rfl, rfl, h.set hf hh (uv_ok hu.may hu.wr hx) rfl rfl⟩
theorem St.free (h : St vl N t L) {hd : Nat} (hh : hd < 18446744073709551616) : St vl N (t.free hd).2 (L.filter (fun x => decide (x ≠ hd))) :=
  ⟨(h.is_.free hh).1, h.live.free h.is_ hh, by rw [upages_free h.is_]; exact h.pages⟩
end
section
variable {vl N b row top : Nat} {t : US} {L : List Nat} {v : VerV} {us : List VerV} {hs : List Nat}
theorem St.top_lt (h : St vl N t L) (s : Stk vl t.f 0 row v us hs top) : top < 18446744073709551616 := (h.is_.ok _ _ s.row).nx
theorem St.row_lt (h : St vl N t L) (s : Stk vl t.f b row v us hs top) : row < 18446744073709551616 := (h.live.pos row ((h.live.mem row).1 (by rw [s.row]; simp))).2
theorem St.list (h : St vl N t L) (hvl : vl ≤ 256) (s : Stk vl t.f b row v us hs top) (hb : t.f b = none) : (t.list row).map OV.ver = v :: us := s.list hvl (fun n e => by rw [hb] at e; cases e) (s.used h.live)
/-- A row. -/
theorem St.first (h : St vl N t L) (hN : N < 4096) {v : VerV} (hv : v.Fit vl) : ∃ row t', t.mkr vl v 0 = (row, 0, t') ∧ t.Made vl N (v.uv false 0) row t' ∧ St vl (N + 1) t' (row :: L) ∧ Stk vl t'.f 0 row v [] [] 0 := by
  obtain ⟨hd, t', e, m, s⟩ := h.mkr hN hv (nx := 0) (by omega)
  refine ⟨hd, t', e, m, s, ⟨by rw [m.f, updU_same], rfl, hv, fun u hu => by simp at hu, List.nodup_nil⟩⟩
/-- One more on it. -/
theorem St.push (h : St vl N t L) (hN : N < 4096) (s : Stk vl t.f 0 row v us hs top) {u : VerV} (hu : u.Fit vl) :
    ∃ hd t1 t2, t.save vl v top u = (hd, 0, t1) ∧ t1.change vl row u hd = (0, t2) ∧ t.f hd = none ∧ hd < 18446744073709551616 ∧ St vl (N + 1) t1 (hd :: L) ∧ St vl (N + 1) t2 (hd :: L) ∧ Stk vl t2.f 0 row u (v :: us) (hd :: hs) hd ∧ (∀ y, y ≠ row → y ≠ hd → t2.f y = t.f y) ∧ t2.seg = t.more (saveUV v top u) hd := by
  obtain ⟨hd, t1, e1, m, s1⟩ := h.save hN s.fit hu (h.top_lt s)
  have hr : t1.f row = some (v.uv false top) := by
    rw [m.f, updU_other _ _ (fun e => by have := m.fresh; rw [← e, s.row] at this; cases this)]; exact s.row
  obtain ⟨t2, e2, f2, g2, s2⟩ := s1.change hr (h.row_lt s) hu m.lt
  refine ⟨hd, t1, t2, e1, e2, m.fresh, m.lt, s1, s2, ?_, fun y h1 h2 => ?_, by rw [g2, m.seg]⟩
  · rw [f2, m.f]; exact s.push hu m.fresh
  · rw [f2, m.f, updU_other _ _ h1, updU_other _ _ h2]
end

/-! ### the examples -/
def exA : VerV := ⟨1, 0, false, ⟨#[97, 98, 99, 100]⟩⟩
def exB : VerV := ⟨2, 0, false, ⟨#[97, 98, 88, 100]⟩⟩
theorem exA_fit : exA.Fit 4 := ⟨by decide, rfl, by decide⟩
theorem exB_fit : exB.Fit 4 := ⟨by decide, rfl, by decide⟩
structure ExAll (r s : Nat) (t1 t2 t3 t4 : US) : Prop where
  p1 : (US.new 4).mkr 4 exA 0 = (r, 0, t1)
  p2 : t1.save 4 exA 0 exB = (s, 0, t2)
  p3 : t2.change 4 r exB s = (0, t3)
  rl : r < 18446744073709551616
  sl : s < 18446744073709551616
  l3 : (t3.list r).map OV.ver = [exB, exA]
  g3 : t3.seg 2 = [s]
  rc : t3.record s exB.val.data.toList = some (⟨1, false, exA.val⟩, 0)
  rn : t3.record s (VerV.mk 2 0 false ⟨#[97]⟩).val.data.toList = none
  p4 : t3.pop 2 = (some s, t4)
  l4 : (t4.list r).map OV.ver = [exB]
  u4 : t4.s.used = 1
theorem ex_all : ∃ r s t1 t2 t3 t4, ExAll r s t1 t2 t3 t4 := by
  have s0 := St.new (vl := 4) (by omega)
  obtain ⟨r, t1, p1, m1, s1, k1⟩ := s0.first (by omega) exA_fit
  obtain ⟨s, t2, t3, p2, p3, fr, sl, s2, s3, k3, _, g3⟩ := s1.push (by omega) k1 exB_fit
  have hf : t3.f s = some (saveUV exA 0 exB) := by
    obtain ⟨_, nx, e, c⟩ := k3.chn
    have c : nx = 0 := c
    subst c; exact e
  have hg : t3.seg 2 = [s] := by
    rw [g3]
    unfold US.more
    have e : (saveUV exA 0 exB).rcd = true := rfl
    rw [e, if_pos rfl]
    have e : (((saveUV exA 0 exB).sg : Nat) : Int) = 2 := rfl
    rw [e, updU_same, m1.seg]; rfl
  refine ⟨r, s, t1, t2, t3, (t3.free s).2, p1, p2, p3, m1.lt, sl, s3.list (by omega) k3 s3.live.zero, hg, saveRec (vl := 4) (by omega) exA_fit.may exB_fit.may hf, ?_, by unfold US.pop; rw [hg], ?_, ?_⟩
  · unfold US.record
    rw [hf]
    have e : (saveUV exA 0 exB).rcd = true := rfl
    simp only [e, if_true]
    have e : dApply [97] (saveUV exA 0 exB).rest.data.toList = none := by decide
    show (match dApply [97] (saveUV exA 0 exB).rest.data.toList with
      | some v => some (OV.mk (saveUV exA 0 exB).wr (saveUV exA 0 exB).tomb (strOf v), (saveUV exA 0 exB).nx)
      | none => none) = none
    rw [e]
  · have k4 := k3.free (k := 0) (hd := s) rfl
    rw [← free_f] at k4
    exact (s3.free sl).list (by omega) k4 (by rw [free_f, updU_same])
  · have := (s3.free sl).live.used
    rw [this]
    have e : (s :: r :: []).filter (fun x => decide (x ≠ s)) = [r] := by
      have : r ≠ s := fun e => by rw [← e, m1.f, updU_same] at fr; cases fr
      simp [this]
    rw [e]; rfl
end Go.Proofs.Ytckkccnebjacdaa
