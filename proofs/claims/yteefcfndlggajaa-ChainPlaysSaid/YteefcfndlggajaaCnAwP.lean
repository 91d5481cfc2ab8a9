/-
  An engine that a statement has made ('CE'): all that it owns is new since W; rows of cells beside it that stay (K).
  Package chain's statements: the examples, of states alone.
-/
import Derived.Test.YteefcfndlggajaaMgArgs
namespace Go.Proofs.Yteefcfndlggajaa
open Go.RowKit
set_option linter.unusedVariables false
set_option linter.unusedSimpArgs false
set_option maxRecDepth 100000

structure Held where
  b : Nat
  cs : Array Value
  t : TypeId
structure CEx (G : Nat → Prop) (W : World) (x : Nat) (c : CfgV) (lim N : Nat) (t : CS) (K : List Held) (w : World) : Prop where
  cn : Cn G w x c lim N t
  fr : Fr none_ W w
  new : ∀ k, G k → W.heap.size ≤ k
  rows : ∀ r ∈ K, Row w r.b r.cs r.t ∧ ¬ G r.b
def CE (W : World) (x : Nat) (c : CfgV) (lim N : Nat) (t : CS) (K : List Held) (w : World) : Prop := ∃ G, CEx G W x c lim N t K w
section
variable {W w w' : World} {x N lim : Nat} {c : CfgV} {t : CS} {K : List Held}
theorem CE.fr (h : CE W x c lim N t K w) : Fr none_ W w := by obtain ⟨G, h⟩ := h; exact h.fr
theorem CE.is_ (h : CE W x c lim N t K w) : t.Is lim N := by obtain ⟨G, h⟩ := h; exact h.cn.is_
theorem CE.keep0 (h : CE W x c lim N t K w) (f : Fr none_ w w') : CE W x c lim N t K w' := by
  obtain ⟨G, h⟩ := h
  exact ⟨G, h.cn.kept0 f, h.fr.trans f, h.new, fun r hr => ⟨(h.rows r hr).1.kept f (fun e => e), (h.rows r hr).2⟩⟩
theorem CE.row (h : CE W x c lim N t K w) {r : Held} (hr : r ∈ K) : Row w r.b r.cs r.t := by obtain ⟨G, h⟩ := h; exact (h.rows r hr).1
theorem CE.more {M : Nat} (h : CE W x c lim N t K w) (hm : N ≤ M) : CE W x c lim M t K w := by
  obtain ⟨G, h⟩ := h
  exact ⟨G, h.cn.more hm, h.fr, h.new, h.rows⟩
theorem CE.less {K' : List Held} (h : CE W x c lim N t K w) (hk : ∀ r ∈ K', r ∈ K) : CE W x c lim N t K' w := by
  obtain ⟨G, h⟩ := h
  exact ⟨G, h.cn, h.fr, h.new, fun r hr => h.rows r (hk r hr)⟩
/-- A new row. -/
theorem CE.alloc (h : CE W x c lim N t K w) (cs : Array Value) (ty : TypeId) : CE W x c lim N t (⟨w.heap.size, cs, ty⟩ :: K) (w.alloc (.cells cs ty)) := by
  obtain ⟨G, h⟩ := h
  have f := Fr.alloc none_ w (.cells cs ty)
  refine ⟨G, h.cn.kept0 f, h.fr.trans f, h.new, fun r hr => ?_⟩
  rcases List.mem_cons.1 hr with rfl | hr
  · exact ⟨Row.new w cs ty, fun e => Nat.lt_irrefl _ (h.cn.lt _ e)⟩
  · exact ⟨(h.rows r hr).1.kept f (fun e => e), (h.rows r hr).2⟩
/-- A cell of the first row is turned. -/
theorem CE.set {b : Nat} {cs : Array Value} {ty : TypeId} (h : CE W x c lim N t (⟨b, cs, ty⟩ :: K) w) (hb : W.heap.size ≤ b) (hk : ∀ r ∈ K, r.b ≠ b) (i : Nat) (v : Value) : CE W x c lim N t (⟨b, cs.setIfInBounds i v, ty⟩ :: K) (w.setCell ⟨b, i, none⟩ v) := by
  obtain ⟨G, h⟩ := h
  have h0 := h.rows ⟨b, cs, ty⟩ (by simp)
  have f := Fr.setCell (one b) w ⟨b, i, none⟩ v (fun _ => rfl)
  refine ⟨G, h.cn.kept f (fun j hj e => h0.2 (by unfold one at e; subst e; exact hj)), h.fr.step f (fun i hi e => by unfold one at e; omega), h.new, fun r hr => ?_⟩
  rcases List.mem_cons.1 hr with rfl | hr
  · exact ⟨h0.1.set i v, h0.2⟩
  · exact ⟨(h.rows r (List.mem_cons_of_mem _ hr)).1.set_other _ _ _ (hk r hr), (h.rows r (List.mem_cons_of_mem _ hr)).2⟩
theorem ce_step {M : Nat} {t' : CS} {G G' : Nat → Prop} (h : CEx G W x c lim N t K w) (h1 : Cn G' w' x c lim M t') (f : Fr G w w') (g : Grow G G' w) : CE W x c lim M t' K w' :=
  ⟨G', h1, h.fr.step f (fun i hi e => absurd (h.new i e) (by omega)), fun k hk => by
    rcases g k hk with q | q
    · exact h.new k q
    · exact Nat.le_trans h.fr.size q, fun r hr => ⟨(h.rows r hr).1.kept f (h.rows r hr).2, fun e => by
    rcases g _ e with q | q
    · exact (h.rows r hr).2 q
    · have := (h.rows r hr).1.lt; omega⟩⟩
/-- What writes at most the engine leaves the rows. -/
def Beside (K : List Held) (w w' : World) : Prop := ∀ r ∈ K, ∀ i v, w.cell? ⟨r.b, i, none⟩ = some v → w'.cell? ⟨r.b, i, none⟩ = some v
theorem Beside.of (h : CE W x c lim N t K w) {M : Nat} {t' : CS} (h' : CE W x c lim M t' K w') : Beside K w w' := fun r hr i v hv => by
  rw [(h'.row hr).cell]; rw [(h.row hr).cell] at hv; exact hv

theorem ce_new (W : World) (c : CfgV) (h : c.may = true) (hlim : c.valLen = lim) (hl : lim ≤ 256) {w : World} (f : Fr none_ W w) (hK : ∀ r ∈ K, Row w r.b r.cs r.t) :
    Calls Try.prog 24 #[.agg c.cells] w fun e w' => ∃ x, e = .returned (.tuple #[.pointer (some ⟨x, 0, none⟩), .int .i64 0]) ∧ CE W x c lim 0 (CS.new lim) K w' := by
  refine (Chain_New_yes w c h lim hlim hl).mono ?_
  rintro e w1 ⟨x, a, F, he, hr, ha, f1, hx, hxF, hF⟩
  refine ⟨x, he, fun k => k = x ∨ F k, ⟨⟨a, F, ⟨⟨hr, ha, hxF⟩, CS.Is.new hl, hl, hlim⟩, rfl⟩, f.trans f1, ?_, fun r hr' => ⟨(hK r hr').kept f1 (fun e => e), ?_⟩⟩⟩
  · rintro k (rfl | q)
    · exact Nat.le_trans f.size hx
    · exact Nat.le_trans f.size (hF k q)
  · have := (hK r hr').lt
    rintro (e | e)
    · omega
    · have := hF _ e; omega
theorem ce_used (h : CE W x c lim N t K w) {q : Int} (hq : (t.s.used : Int) = q) : Calls Try.prog 16 #[.pointer (some ⟨x, 0, none⟩)] w fun e w' => e = .returned (.int .i64 q) ∧ w = w' := by
  subst hq; obtain ⟨G, h⟩ := h; exact cn_used h.cn
theorem ce_read (h : CE W x c lim N t K w) {hd : Nat} (hh : hd < 18446744073709551616) (o : Option NV) (ho : t.f hd = o) : Calls Try.prog 12 #[.pointer (some ⟨x, 0, none⟩), .int .u64 (hd : Int)] w fun e w' => e = .returned (.tuple #[.agg (nodeOf o), .bool o.isSome]) ∧ CE W x c lim N t K w' := by
  subst ho
  have h0 := h
  obtain ⟨G, h⟩ := h
  refine (cn_read h.cn hh).mono ?_
  rintro e w1 ⟨he, f⟩
  exact ⟨he, h0.keep0 f⟩
theorem ce_free (h : CE W x c lim N t K w) (hN : N < big) {hd : Nat} (hh : hd < 18446744073709551616) {q : Int} (hq : ((t.free hd).1 : Int) = q) : Calls Try.prog 17 #[.pointer (some ⟨x, 0, none⟩), .int .u64 (hd : Int)] w fun e w' => e = .returned (.int .i64 q) ∧ CE W x c lim N (t.free hd).2 K w' := by
  subst hq
  obtain ⟨G, h⟩ := h
  refine (cn_free h.cn hN hh).mono ?_
  rintro e w1 ⟨he, h1, f⟩
  exact ⟨he, ce_step h h1 f (Grow.refl _ _)⟩
theorem ce_put (h : CE W x c lim N t K w) (hN : N < big) (v : VerV) (hs : v.val.size ≤ maxLen) (hvw : v.wr < 9223372036854775808) {nx : Nat} (hnx : nx < 18446744073709551616) {q p : Int} (hq : ((t.put lim v nx).1 : Int) = q) (hp : ((t.put lim v nx).2.1 : Int) = p) :
    Calls Try.prog 22 #[.pointer (some ⟨x, 0, none⟩), .agg v.cells, .int .u64 (nx : Int)] w fun e w' => e = .returned (.tuple #[.int .u64 q, .int .i64 p]) ∧ CE W x c lim (N + 1) (t.put lim v nx).2.2 K w' := by
  subst hq; subst hp
  obtain ⟨G, h⟩ := h
  refine (cn_put h.cn hN v hs hvw hnx).mono ?_
  rintro e w1 ⟨he, G', h1, f, g⟩
  exact ⟨he, ce_step h h1 f g⟩
theorem ce_change (h : CE W x c lim N t K w) (v : VerV) (hs : v.val.size ≤ maxLen) (hvw : v.wr < 9223372036854775808) {hd : Nat} (hh : hd < 18446744073709551616) {q : Int} (hq : ((t.change lim hd v).1 : Int) = q) :
    Calls Try.prog 18 #[.pointer (some ⟨x, 0, none⟩), .int .u64 (hd : Int), .agg v.cells] w fun e w' => e = .returned (.int .i64 q) ∧ CE W x c lim N (t.change lim hd v).2 K w' := by
  subst hq
  obtain ⟨G, h⟩ := h
  refine (cn_change h.cn v hs hvw hh).mono ?_
  rintro e w1 ⟨he, h1, f⟩
  exact ⟨he, ce_step h h1 f (Grow.refl _ _)⟩
theorem ce_stamp (h : CE W x c lim N t K w) (ts : Int) {hd : Nat} (hh : hd < 18446744073709551616) {q : Int} (hq : ((t.stamp hd ts).1 : Int) = q) :
    Calls Try.prog 19 #[.pointer (some ⟨x, 0, none⟩), .int .u64 (hd : Int), .int .i64 ts] w fun e w' => e = .returned (.int .i64 q) ∧ CE W x c lim N (t.stamp hd ts).2 K w' := by
  subst hq
  obtain ⟨G, h⟩ := h
  refine (cn_stamp h.cn ts hh).mono ?_
  rintro e w1 ⟨he, h1, f⟩
  exact ⟨he, ce_step h h1 f (Grow.refl _ _)⟩
theorem ce_cut (h : CE W x c lim N t K w) {hd : Nat} (hh : hd < 18446744073709551616) {q : Int} (hq : ((t.cut hd).1 : Int) = q) :
    Calls Try.prog 20 #[.pointer (some ⟨x, 0, none⟩), .int .u64 (hd : Int)] w fun e w' => e = .returned (.int .i64 q) ∧ CE W x c lim N (t.cut hd).2 K w' := by
  subst hq
  obtain ⟨G, h⟩ := h
  refine (cn_cut h.cn hh).mono ?_
  rintro e w1 ⟨he, h1, f⟩
  exact ⟨he, ce_step h h1 f (Grow.refl _ _)⟩
def NV.toVer (n : NV) : VerV := ⟨(n.wr : Int), (n.ts : Int), n.tomb, n.val⟩
theorem verList_map (l : List NV) : verList l = (l.map NV.toVer).flatMap VerV.list := by
  unfold verList
  rw [List.flatMap_map]; rfl
/-- What List tells: as versions. -/
theorem ce_list (h : CE W x c lim N t K w) (hN : N < big) {top : Nat} (htop : top < 18446744073709551616) (hu : t.s.used ≤ 1000000) (l : List VerV) (hl : (cWalk t.f t.s.used top).map NV.toVer = l) :
    Calls Try.prog 14 #[.pointer (some ⟨x, 0, none⟩), .int .u64 (top : Int)] w fun e w' => ∃ a cap, e = .returned (.slice a l.length cap) ∧ LsAt w' a 4 VerV.list l ∧ Fr none_ w w' := by
  obtain ⟨G, h⟩ := h
  refine (cn_list h.cn hN htop hu).mono ?_
  rintro e w1 ⟨a, cap, he, hs, f, hb⟩
  have hlen : (cWalk t.f t.s.used top).length = l.length := by rw [← hl, List.length_map]
  rw [verList_map, hl, hlen] at hs
  rw [hlen] at he
  exact ⟨a, cap, he, hs.ls (fun _ => rfl) rfl, f⟩
end
end Go.Proofs.Yteefcfndlggajaa
namespace Go.Proofs.Yteefcfndlggajaa
open Go.RowKit
set_option linter.unusedVariables false
set_option linter.unusedSimpArgs false
set_option maxRecDepth 100000

theorem pages_make {vl N : Nat} {t : CS} (h : t.Is vl N) (hN : N < big) (n : NV) : (t.make n).2.2.s.pages.length ≤ t.s.pages.length + 1 := by
  have hup := h.up.alloc
  unfold CS.make
  rcases aAlloc_new h.up hN with ⟨e, r⟩ | ⟨e1, e2, e3, e4, e5⟩
  · rw [if_pos e]
    have h1 := r.len.2
    have h2 := (aWrite_old hup.wf (aAlloc t.s).1 (strOf n.enc)).len
    show (aWrite _ _ _).2.pages.length ≤ _
    rw [h2]; omega
  · rw [if_neg (by omega)]
    show (aAlloc t.s).2.2.pages.length ≤ _
    rw [e5]; exact Nat.le_succ _
theorem pages_set {vl N : Nat} {t : CS} (h : t.Is vl N) (hd : Nat) (n : NV) : (t.set hd n).s.pages.length = t.s.pages.length := (aWrite_old h.up.wf hd (strOf n.enc)).len
theorem pages_free {vl N : Nat} {t : CS} (h : t.Is vl N) (hd : Nat) : (t.free hd).2.s.pages.length = t.s.pages.length := by
  unfold CS.free
  cases t.f hd with
  | none => rfl
  | some n => exact (aFree_old h.up.wf hd).len
theorem put_ok {vl N : Nat} {t : CS} (h : t.Is vl N) (hN : N < big) (hp : t.s.pages.length < 4096) {v : VerV} (hv : v.Ok vl) (hw : v.wr < 9223372036854775808) {nx : Nat} (hx : nx < 18446744073709551616) :
    ∃ hd t', t.put vl v nx = (hd, 0, t') ∧ t.Made vl N (v.nv nx) hd t' ∧ t'.s.pages.length ≤ t.s.pages.length + 1 := by
  have hpg := pages_make h hN (v.nv nx)
  have e : t.put vl v nx = t.make (v.nv nx) := by unfold CS.put; rw [if_pos (VerV.may_yes hv)]
  rcases h.make hN (VerV.nv_ok hv hw hx) with ⟨e1, r⟩ | ⟨_, _, e3, _⟩
  · refine ⟨(t.make (v.nv nx)).1, (t.make (v.nv nx)).2.2, ?_, r, hpg⟩
    rw [e, ← e1]
  · omega
theorem put_bad {vl : Nat} {t : CS} {v : VerV} (hv : ¬ v.Ok vl) (nx : Nat) : t.put vl v nx = (0, 1, t) := by
  unfold CS.put; rw [if_neg (by rw [VerV.may_no hv]; simp)]
def exOne : VerV := ⟨1, 0, false, ⟨#[97]⟩⟩
def exTwo : VerV := ⟨2, 0, true, ⟨#[]⟩⟩
def exOne7 : VerV := ⟨1, 7, false, ⟨#[97]⟩⟩
def exBad : VerV := ⟨1, 0, false, ⟨#[97, 98, 99, 100]⟩⟩
theorem exOne_ok : exOne.Ok 3 := ⟨by decide, by decide, by decide, by decide, by decide⟩
theorem exTwo_ok : exTwo.Ok 3 := ⟨by decide, by decide, by decide, by decide, fun _ => by rw [ByteArray.toList_eq]; rfl⟩
theorem exBad_no : ¬ exBad.Ok 3 := fun h => absurd h.val (by decide)
/-- What the examples come to. -/
structure ExAll (h k : Nat) (t1 t2 t3 t4 t5 : CS) : Prop where
  p1 : (CS.new 3).put 3 exOne 0 = (h, 0, t1)
  p2 : t1.put 3 exTwo h = (k, 0, t2)
  hl : h < 18446744073709551616
  kl : k < 18446744073709551616
  l2 : (cWalk t2.f t2.s.used k).map NV.toVer = [exTwo, exOne]
  u2 : t2.s.used = 2
  p3 : t2.stamp h 7 = (0, t3)
  b3 : t3.put 3 exBad 0 = (0, 1, t3)
  l3 : (cWalk t3.f t3.s.used h).map NV.toVer = [exOne7]
  u3 : t3.s.used = 2
  p4 : t3.cut k = (0, t4)
  l4 : (cWalk t4.f t4.s.used k).map NV.toVer = [exTwo]
  u4 : t4.s.used = 2
  p5 : t4.free h = (0, t5)
  n5 : t5.f h = none
  u5 : t5.s.used = 1
theorem ex_all : ∃ h k t1 t2 t3 t4 t5, ExAll h k t1 t2 t3 t4 t5 := by
  have i0 := CS.Is.new (vl := 3) (by omega)
  obtain ⟨h, t1, p1, m1, g1⟩ := put_ok i0 (by unfold big; omega) (by show ([] : List PS).length < 4096; simp) exOne_ok (by decide) (nx := 0) (by omega)
  have g1 : t1.s.pages.length ≤ 1 := g1
  obtain ⟨k, t2, p2, m2, g2⟩ := put_ok m1.is_ (by unfold big; omega) (by omega) exTwo_ok (by decide) (nx := h) m1.lt
  have i2 := m2.is_
  have u1 : t1.s.used = 1 := m1.used
  have u2 : t2.s.used = 2 := by rw [m2.used, u1]
  have hkh : k ≠ h := fun e => by have := m2.fresh; rw [e, m1.f, upd_same] at this; cases this
  have f2h : t2.f h = some (exOne.nv 0) := by rw [m2.f, upd_other _ _ (Ne.symm hkh), m1.f, upd_same]
  have f2k : t2.f k = some (exTwo.nv h) := by rw [m2.f, upd_same]
  have f20 : t2.f 0 = none := by
    rw [m2.f, upd_other _ _ (Ne.symm m2.pos), m1.f, upd_other _ _ (Ne.symm m1.pos)]; rfl
  -- stamp
  have p3 : t2.stamp h 7 = (0, t2.set h { exOne.nv 0 with ts := 7 }) := by
    unfold CS.stamp
    rw [if_pos (by decide)]
    unfold CS.turn
    rw [f2h]; rfl
  have i3 := (i2.set (hd := h) (by rw [f2h]; rfl) m1.lt (n := { exOne.nv 0 with ts := 7 }) ⟨by decide, by decide, by decide, by decide⟩)
  have f3 : (t2.set h { exOne.nv 0 with ts := 7 }).f = upd t2.f h (some { exOne.nv 0 with ts := 7 }) := rfl
  obtain ⟨t3, ht3⟩ : ∃ t3, t3 = t2.set h { exOne.nv 0 with ts := 7 } := ⟨_, rfl⟩
  rw [← ht3] at p3 i3 f3
  have u3 : t3.s.used = 2 := by rw [i3.2, u2]
  have f3h : t3.f h = some { exOne.nv 0 with ts := 7 } := by rw [f3, upd_same]
  have f30 : t3.f 0 = none := by rw [f3, upd_other _ _ (Ne.symm m1.pos), f20]
  have f3k : t3.f k = some (exTwo.nv h) := by rw [f3, upd_other _ _ hkh, f2k]
  -- cut
  have p4 : t3.cut k = (0, t3.set k { exTwo.nv h with nx := 0 }) := by
    unfold CS.cut CS.turn
    rw [f3k]
  have i4 := (i3.1.set (hd := k) (by rw [f3k]; rfl) m2.lt (n := { exTwo.nv h with nx := 0 }) ⟨(show (2 : Nat) < 9223372036854775808 by decide), (show (0 : Nat) < 9223372036854775808 by decide), (show (0 : Nat) < 18446744073709551616 by decide), (show (0 : Nat) ≤ 3 by decide)⟩)
  have f4 : (t3.set k { exTwo.nv h with nx := 0 }).f = upd t3.f k (some { exTwo.nv h with nx := 0 }) := rfl
  obtain ⟨t4, ht4⟩ : ∃ t4, t4 = t3.set k { exTwo.nv h with nx := 0 } := ⟨_, rfl⟩
  rw [← ht4] at p4 i4 f4
  have u4 : t4.s.used = 2 := by rw [i4.2, u3]
  have f4k : t4.f k = some { exTwo.nv h with nx := 0 } := by rw [f4, upd_same]
  have f40 : t4.f 0 = none := by rw [f4, upd_other _ _ (Ne.symm m2.pos), f30]
  have f4h : t4.f h = some { exOne.nv 0 with ts := 7 } := by rw [f4, upd_other _ _ (Ne.symm hkh), f3h]
  -- free
  have i5 := i4.1.free m1.lt
  have p5 : t4.free h = (0, (t4.free h).2) := by unfold CS.free; rw [f4h]
  have n5 : (t4.free h).2.f h = none := by unfold CS.free; rw [f4h]; exact upd_same _ _ _
  refine ⟨h, k, t1, t2, t3, t4, (t4.free h).2, p1, p2, m1.lt, m2.lt, ?_, u2, p3, put_bad exBad_no 0, ?_, u3, p4, ?_, u4, p5, n5, ?_⟩
  · rw [u2, cWalk_some (by omega) f2k, cWalk_some (by omega) (show t2.f (exTwo.nv h).nx = _ from f2h)]; rfl
  · rw [u3, cWalk_some (by omega) f3h, cWalk_none (show t3.f ({ exOne.nv 0 with ts := 7 } : NV).nx = _ from f30)]; rfl
  · rw [u4, cWalk_some (by omega) f4k, cWalk_none (show t4.f ({ exTwo.nv h with nx := 0 } : NV).nx = _ from f40)]; rfl
  · have := i5.2.1
    rw [f4h, u4] at this
    simp at this
    omega
end Go.Proofs.Yteefcfndlggajaa
