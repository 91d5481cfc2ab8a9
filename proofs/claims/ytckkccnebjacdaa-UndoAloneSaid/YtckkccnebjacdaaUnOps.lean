/-
  Package undo: the methods, on an engine that owns blocks ('Un'), told of its state ('US').
-/
import Derived.Test.YtckkccnebjacdaaUnSave
import Derived.Test.YtckkccnebjacdaaUnFree
namespace Go.Proofs.Ytckkccnebjacdaa
open Go.RowKit
set_option linter.unusedVariables false
set_option linter.unusedSimpArgs false
set_option maxRecDepth 100000

def US.mkr (t : US) (vl : Nat) (v : VerV) (nx : Nat) : Nat × Nat × US := if v.umay vl then t.make (v.uv false nx) else (0, 1, t)
def US.change (t : US) (vl : Nat) (hd : Nat) (v : VerV) (nx : Nat) : Nat × US := if v.umay vl then t.turn hd (v.uv false nx) else (1, t)
def US.save (t : US) (vl : Nat) (u : VerV) (nx : Nat) (v : VerV) : Nat × Nat × US := if u.umay vl && v.umay vl then t.make (saveUV u nx v) else (0, 1, t)
theorem uv_ok {vl : Nat} {v : VerV} (h : v.umay vl = true) (hw : v.wr < 9223372036854775808) {nx : Nat} (hx : nx < 18446744073709551616) : (v.uv false nx).Ok vl := by
  have h1 := VerV.umay_iff.1 h
  exact ⟨by unfold VerV.uv; simp only; omega, hx, by unfold VerV.uv; simp, by unfold VerV.uv; simp only; exact h1.2.1, fun _ => rfl⟩
theorem save_ok {vl : Nat} {u v : VerV} (hu : u.umay vl = true) (hv : v.umay vl = true) (hw : u.wr < 9223372036854775808) (hw2 : v.wr < 9223372036854775808) {nx : Nat} (hx : nx < 18446744073709551616) : (saveUV u nx v).Ok vl ∧ 1 ≤ (saveUV u nx v).sg := by
  have h1 := VerV.umay_iff.1 hu
  have h2 := VerV.umay_iff.1 hv
  refine ⟨⟨by unfold saveUV; simp only; omega, hx, by unfold saveUV; simp only; omega, ?_, fun e => by cases e⟩, by unfold saveUV; simp only; omega⟩
  show (strOf _).size ≤ vl + 4
  rw [strOf_size]
  have := dMake_enc_length v.val.data.toList u.val.data.toList
  have hl : u.val.data.toList.length = u.val.size := rfl
  omega

/-- At x there is an engine of state t, that owns the blocks G. -/
structure UnIn (w : World) (x a m : Nat) (F : Nat → Prop) (vs : List (Int × SgV)) (c : CfgV) (vl N : Nat) (t : US) : Prop where
  at_ : UnAt w x a m F vs c t.s
  is_ : t.Is vl N
  lim : vl ≤ 256
  cfg : c.valLen = vl
  seg : ∀ k, segOf vs k = t.seg k
  keys : vs.length ≤ N
def Un (G : Nat → Prop) (w : World) (x : Nat) (c : CfgV) (vl N : Nat) (t : US) : Prop := ∃ a m F vs, UnIn w x a m F vs c vl N t ∧ G = fun k => k = x ∨ F k ∨ segOwn m vs k
section
variable {w w' : World} {G : Nat → Prop} {x N vl : Nat} {c : CfgV} {t : US}
theorem Un.is_ (h : Un G w x c vl N t) : t.Is vl N := by obtain ⟨a, m, F, vs, h, _⟩ := h; exact h.is_
theorem Un.vl_le (h : Un G w x c vl N t) : vl ≤ 256 := by obtain ⟨a, m, F, vs, h, _⟩ := h; exact h.lim
theorem Un.lt (h : Un G w x c vl N t) : ∀ k, G k → k < w.heap.size := by
  obtain ⟨a, m, F, vs, h, rfl⟩ := h
  exact h.at_.lt
theorem Un.own (h : Un G w x c vl N t) : G x := by obtain ⟨a, m, F, vs, h, rfl⟩ := h; exact Or.inl rfl
theorem Un.kept {H : Nat → Prop} (h : Un G w x c vl N t) (f : Fr H w w') (hn : ∀ k, G k → ¬ H k) : Un G w' x c vl N t := by
  obtain ⟨a, m, F, vs, h, rfl⟩ := h
  exact ⟨a, m, F, vs, ⟨h.at_.kept f (hn x (Or.inl rfl)) (fun k e => hn k (Or.inr (Or.inl e))) (fun k e => hn k (Or.inr (Or.inr e))), h.is_, h.lim, h.cfg, h.seg, h.keys⟩, rfl⟩
theorem Un.kept0 (h : Un G w x c vl N t) (f : Fr none_ w w') : Un G w' x c vl N t := h.kept f (fun _ _ e => e)
theorem Un.more {M : Nat} (h : Un G w x c vl N t) (hm : N ≤ M) : Un G w x c vl M t := by
  obtain ⟨a, m, F, vs, h, e⟩ := h
  exact ⟨a, m, F, vs, ⟨h.at_, h.is_.more hm, h.lim, h.cfg, h.seg, Nat.le_trans h.keys hm⟩, e⟩
theorem un_used (h : Un G w x c vl N t) : Calls Try.prog 12 #[.pointer (some ⟨x, 0, none⟩)] w fun e w' => e = .returned (.int .i64 (t.s.used : Int)) ∧ w = w' := by
  obtain ⟨a, m, F, vs, h, _⟩ := h
  exact Undo_Used h.at_
/-- What read hands back. -/
theorem un_read (h : Un G w x c vl N t) {hd : Nat} (hh : hd < 18446744073709551616) (kind : UInt8) :
    (∃ n, t.f hd = some n ∧ n.kind = kind ∧ n.Ok vl ∧ ∀ w1, Fr none_ w w1 → Calls Try.prog 27 #[.pointer (some ⟨x, 0, none⟩), .int .u64 (hd : Int), byteV kind] w1 fun e w' => e = .returned (.tuple #[.agg n.cells, .bool true]) ∧ Fr none_ w1 w') ∨
    ((∀ n, t.f hd = some n → n.kind ≠ kind) ∧ ∀ w1, Fr none_ w w1 → Calls Try.prog 27 #[.pointer (some ⟨x, 0, none⟩), .int .u64 (hd : Int), byteV kind] w1 fun e w' => e = .returned (.tuple #[.agg slotZero, .bool false]) ∧ Fr none_ w1 w') := by
  obtain ⟨a, m, F, vs, h, _⟩ := h
  have hf := h.is_.find hd hh
  by_cases hk : ∃ n, t.f hd = some n ∧ n.kind = kind
  · left
    obtain ⟨n, hn, rfl⟩ := hk
    rw [hn] at hf
    exact ⟨n, hn, rfl, h.is_.ok _ _ hn, fun w1 f => Undo_read_yes (h.at_.kept0 f).arena (h.at_.kept0 f).ar h.is_.up hh n (h.is_.ok _ _ hn) h.lim (zeros (32 + vl - (n.at_ + 2 + n.rest.size))) (by unfold zeros; rw [List.length_replicate]; have := h.lim; omega) hf⟩
  · right
    refine ⟨fun n hn e => hk ⟨n, hn, e⟩, fun w1 f => Undo_read_no (h.at_.kept0 f).arena (h.at_.kept0 f).ar h.is_.up hh kind (fun l hl => ?_)⟩
    rw [hf] at hl
    cases e : t.f hd with
    | none => rw [e] at hl; cases hl
    | some n =>
      rw [e] at hl
      have hl : n.slot vl = l := by simpa using hl
      have hl2 := UV.slot_length (h.is_.ok _ _ e)
      refine ⟨n.kind, (n.slot vl).tail, ?_, fun q => hk ⟨n, e, q⟩, by rw [← hl, hl2]; have := h.lim; omega⟩
      rw [← hl]; rfl
def ovCells : Option (OV × Nat) → Array Value
  | some (v, _) => v.cells
  | none => verZero
def ovNx : Option (OV × Nat) → Nat
  | some (_, n) => n
  | none => 0
theorem rcd_of {n : UV} : n.kind = 2 ↔ n.rcd = true := by unfold UV.kind; cases n.rcd <;> simp
theorem rcd_not {n : UV} : n.kind = 1 ↔ n.rcd = false := by unfold UV.kind; cases n.rcd <;> simp
theorem un_row (h : Un G w x c vl N t) {hd : Nat} (hh : hd < 18446744073709551616) : Calls Try.prog 53 #[.pointer (some ⟨x, 0, none⟩), .int .u64 (hd : Int)] w fun e w' => e = .returned (.tuple #[.agg (ovCells (t.row hd)), .int .u64 (ovNx (t.row hd) : Int), .bool (t.row hd).isSome]) ∧ Fr none_ w w' := by
  rcases un_read h hh 1 with ⟨n, hn, hk, hok, hr⟩ | ⟨hn, hr⟩
  · have e : t.row hd = some (n.ov, n.nx) := by unfold US.row; rw [hn]; simp only [rcd_not.1 hk]; rfl
    rw [e]
    exact Undo_Row_yes n (rcd_not.1 hk) hok.wr hr
  · have e : t.row hd = none := by
      unfold US.row
      cases q : t.f hd with
      | none => rfl
      | some n =>
        have := hn n q
        simp only
        cases r : n.rcd with
        | true => rfl
        | false => exact absurd (rcd_not.2 r) this
    rw [e]
    exact Undo_Row_no hr
theorem un_record (h : Un G w x c vl N t) {hd : Nat} (hh : hd < 18446744073709551616) (v : VerV) (hv : v.val.size ≤ 140737488351232) : Calls Try.prog 18 #[.pointer (some ⟨x, 0, none⟩), .int .u64 (hd : Int), .agg v.cells] w fun e w' => e = .returned (.tuple #[.agg (ovCells (t.record hd v.val.data.toList)), .int .u64 (ovNx (t.record hd v.val.data.toList) : Int), .bool (t.record hd v.val.data.toList).isSome]) ∧ Fr none_ w w' := by
  rcases un_read h hh 2 with ⟨n, hn, hk, hok, hr⟩ | ⟨hn, hr⟩
  · have e : t.record hd v.val.data.toList = (match dApply v.val.data.toList n.rest.data.toList with
      | some u => some (⟨n.wr, n.tomb, strOf u⟩, n.nx)
      | none => none) := by unfold US.record; rw [hn]; simp only [rcd_of.1 hk]; rfl
    rw [e]
    refine (Undo_Record_yes v hv n hok.wr (by have := hok.fits; have := h.vl_le; omega) hr).mono ?_
    rintro e w1 ⟨he, f⟩
    refine ⟨?_, f⟩
    rw [he]
    cases dApply v.val.data.toList n.rest.data.toList <;> rfl
  · have e : t.record hd v.val.data.toList = none := by
      unfold US.record
      cases q : t.f hd with
      | none => rfl
      | some n =>
        have := hn n q
        simp only
        cases r : n.rcd with
        | true => exact absurd (rcd_of.2 r) this
        | false => rfl
    rw [e]
    exact Undo_Record_no v hr
theorem grow_own {x m : Nat} {F F' : Nat → Prop} {vs : List (Int × SgV)} (g : Grow F F' w) : Grow (fun k => k = x ∨ F k ∨ segOwn m vs k) (fun k => k = x ∨ F' k ∨ segOwn m vs k) w := fun k hk => by
  rcases hk with e | e | e
  · exact Or.inl (Or.inl e)
  · rcases g k e with q | q
    · exact Or.inl (Or.inr (Or.inl q))
    · exact Or.inr q
  · exact Or.inl (Or.inr (Or.inr e))
theorem un_mk (h : Un G w x c vl N t) (hN : N < big) (v : VerV) (hs : v.val.size ≤ 140737488351232) (hvw : v.wr < 9223372036854775808) {nx : Nat} (hnx : nx < 18446744073709551616) :
    Calls Try.prog 20 #[.pointer (some ⟨x, 0, none⟩), .agg v.cells, .int .u64 (nx : Int)] w fun e w' => e = .returned (.tuple #[.int .u64 ((t.mkr vl v nx).1 : Int), .int .i64 ((t.mkr vl v nx).2.1 : Int)]) ∧ ∃ G', Un G' w' x c vl (N + 1) (t.mkr vl v nx).2.2 ∧ Fr G w w' ∧ Grow G G' w := by
  obtain ⟨a, m, F, vs, h, rfl⟩ := h
  have hvl := h.at_.vlen
  rw [h.cfg] at hvl
  unfold US.mkr
  cases hm : v.umay vl with
  | false =>
    simp only [Bool.false_eq_true, if_false]
    refine (Undo_Make_bad hvl h.lim v hs hm (nx : Int)).mono ?_
    rintro e w1 ⟨he, f1⟩
    exact ⟨he, _, ⟨a, m, F, vs, ⟨h.at_.kept0 f1, h.is_.more (by omega), h.lim, h.cfg, h.seg, Nat.le_succ_of_le h.keys⟩, rfl⟩, f1.none, Grow.refl _ _⟩
  | true =>
    simp only [if_true]
    have hok := uv_ok hm hvw hnx
    rcases h.is_.make hN hok (fun e => by cases e) with ⟨e0, e1, r⟩ | ⟨e0, e1, e2, e3, e4, e5, i1, _⟩
    · have em : (t.make (v.uv false nx)) = ((aAlloc t.s).1, 0, ⟨(aWrite (aAlloc t.s).2.2 (aAlloc t.s).1 (strOf (v.uv false nx).enc)).2, updU t.f (aAlloc t.s).1 (some (v.uv false nx)), t.more (v.uv false nx) (aAlloc t.s).1⟩) := by unfold US.make; rw [if_pos e1]
      rw [em] at r ⊢
      refine Undo_Make_ok hvl h.lim v hs hm hvw _ _ _ (fun w1 f1 => ?_)
      · refine (Undo_put_ok (h.at_.kept0 f1) h.is_.up hN h.is_.slot e1 _ hok h.lim).mono ?_
        rintro e w2 ⟨he, F', h2, f2, g2⟩
        have g3 : Grow F F' w := fun k hk => (g2 k hk).imp id (fun q => Nat.le_trans f1.size q)
        exact ⟨he, _, ⟨a, m, F', vs, ⟨h2, r.is_, h.lim, h.cfg, fun k => h.seg k, Nat.le_succ_of_le h.keys⟩, rfl⟩, f1.none.trans (f2.mono fun k _ e => Or.inr (Or.inl e)), grow_own g3⟩
    · rw [e0, e3, e5]
      have i2 := i1
      rw [e5] at i2
      refine Undo_Make_ok hvl h.lim v hs hm hvw _ _ _ (fun w1 f1 => ?_)
      · refine (Undo_put_full (h.at_.kept0 f1) h.is_.up hN e2 e1 _).mono ?_
        rintro e w2 ⟨he, F', h2, f2, g2⟩
        have g3 : Grow F F' w := fun k hk => (g2 k hk).imp id (fun q => Nat.le_trans f1.size q)
        exact ⟨he, _, ⟨a, m, F', vs, ⟨h2, i2, h.lim, h.cfg, fun k => h.seg k, Nat.le_succ_of_le h.keys⟩, rfl⟩, f1.none.trans (f2.mono fun k _ e => Or.inr (Or.inl e)), grow_own g3⟩
theorem un_save (h : Un G w x c vl N t) (hN : N < big) (u v : VerV) (hs : u.val.size ≤ 140737488351232) (hs2 : v.val.size ≤ 140737488351232) (huw : u.wr < 9223372036854775808) (hvw : v.wr < 9223372036854775808) {nx : Nat} (hnx : nx < 18446744073709551616) :
    Calls Try.prog 14 #[.pointer (some ⟨x, 0, none⟩), .agg u.cells, .int .u64 (nx : Int), .agg v.cells] w fun e w' => e = .returned (.tuple #[.int .u64 ((t.save vl u nx v).1 : Int), .int .i64 ((t.save vl u nx v).2.1 : Int)]) ∧ ∃ G', Un G' w' x c vl (N + 1) (t.save vl u nx v).2.2 ∧ Fr G w w' ∧ Grow G G' w := by
  obtain ⟨a, m, F, vs, h, rfl⟩ := h
  have hvl := h.at_.vlen
  rw [h.cfg] at hvl
  unfold US.save
  cases hm : (u.umay vl && v.umay vl) with
  | false =>
    simp only [Bool.false_eq_true, if_false]
    refine (Undo_Save_bad hvl h.lim u v hs hs2 hm (nx : Int)).mono ?_
    rintro e w1 ⟨he, f1⟩
    exact ⟨he, _, ⟨a, m, F, vs, ⟨h.at_.kept0 f1, h.is_.more (by omega), h.lim, h.cfg, h.seg, Nat.le_succ_of_le h.keys⟩, rfl⟩, f1.none, Grow.refl _ _⟩
  | true =>
    simp only [if_true]
    rw [Bool.and_eq_true] at hm
    obtain ⟨hok, hsg⟩ := save_ok hm.1 hm.2 huw hvw hnx
    rcases h.is_.make hN hok (fun _ => hsg) with ⟨e0, e1, r⟩ | ⟨e0, e1, e2, e3, e4, e5, i1, _⟩
    · have em : (t.make (saveUV u nx v)) = ((aAlloc t.s).1, 0, ⟨(aWrite (aAlloc t.s).2.2 (aAlloc t.s).1 (strOf (saveUV u nx v).enc)).2, updU t.f (aAlloc t.s).1 (some (saveUV u nx v)), t.more (saveUV u nx v) (aAlloc t.s).1⟩) := by unfold US.make; rw [if_pos e1]
      rw [em] at r ⊢
      refine (Undo_Save_ok (F := F) hvl h.lim u v hm.1 hm.2 huw hvw (aAlloc t.s).1 (fun k hk => h.at_.lt k (Or.inr hk)) (fun k => by rw [h.seg k]; have := h.is_.segl k; unfold big at hN; omega) (fun w1 f1 => Undo_put_ok (h.at_.kept0 f1) h.is_.up hN h.is_.slot e1 _ hok h.lim)).mono ?_
      rintro e w2 ⟨he, F', vs', h2, hsegs, hg, f2, hl⟩
      refine ⟨he, _, ⟨a, m, F', vs', ⟨h2, r.is_, h.lim, h.cfg, fun k => ?_, by have := h.keys; omega⟩, rfl⟩, f2.mono fun k _ e => Or.inr e, fun k hk => ?_⟩
      · rw [hsegs k]
        have esg : ((saveUV u nx v).sg : Int) = v.wr := by have := (VerV.umay_iff.1 hm.2).1; show ((v.wr.toNat : Nat) : Int) = _; omega
        show _ = t.more (saveUV u nx v) (aAlloc t.s).1 k
        unfold US.more
        have hr : (saveUV u nx v).rcd = true := rfl
        rw [hr, if_pos rfl, esg]
        unfold updU
        by_cases e : v.wr = k
        · subst e; rw [if_pos rfl, if_pos rfl, h.seg]
        · rw [if_neg e, if_neg (fun q => e q.symm), h.seg]
      · rcases hg k hk with q | q | q | q
        · exact Or.inl (Or.inl q)
        · exact Or.inl (Or.inr (Or.inl q))
        · exact Or.inl (Or.inr (Or.inr q))
        · exact Or.inr q
    · rw [e0, e3, e5]
      have i2 := i1
      rw [e5] at i2
      refine (Undo_Save_full (F := F) (vs := vs) hvl h.lim u v hm.1 hm.2 huw hvw (fun w1 f1 => Undo_put_full (h.at_.kept0 f1) h.is_.up hN e2 e1 _)).mono ?_
      rintro e w2 ⟨he, F', h2, f2, g2⟩
      exact ⟨he, _, ⟨a, m, F', vs, ⟨h2, i2, h.lim, h.cfg, fun k => h.seg k, Nat.le_succ_of_le h.keys⟩, rfl⟩, f2.mono fun k _ e => Or.inr (Or.inl e), grow_own g2⟩
theorem un_change (h : Un G w x c vl N t) (v : VerV) (hs : v.val.size ≤ 140737488351232) (hvw : v.wr < 9223372036854775808) {hd nx : Nat} (hh : hd < 18446744073709551616) (hnx : nx < 18446744073709551616) :
    Calls Try.prog 16 #[.pointer (some ⟨x, 0, none⟩), .int .u64 (hd : Int), .agg v.cells, .int .u64 (nx : Int)] w fun e w' => e = .returned (.int .i64 ((t.change vl hd v nx).1 : Int)) ∧ Un G w' x c vl N (t.change vl hd v nx).2 ∧ Fr G w w' := by
  have hrd := un_read h hh 1
  obtain ⟨a, m, F, vs, h, rfl⟩ := h
  have hvl := h.at_.vlen
  rw [h.cfg] at hvl
  unfold US.change
  cases hm : v.umay vl with
  | false =>
    simp only [Bool.false_eq_true, if_false]
    refine (Undo_Change_bad hvl h.lim v hs hm (hd : Int) (nx : Int)).mono ?_
    rintro e w1 ⟨he, f1⟩
    exact ⟨he, ⟨a, m, F, vs, ⟨h.at_.kept0 f1, h.is_, h.lim, h.cfg, h.seg, h.keys⟩, rfl⟩, f1.none⟩
  | true =>
    simp only [if_true]
    rcases hrd with ⟨n, hn, hk, hok, hr⟩ | ⟨hn, hr⟩
    · have e : t.turn hd (v.uv false nx) = (0, t.set hd (v.uv false nx)) := by unfold US.turn; rw [hn]; simp only [rcd_not.1 hk]; rfl
      rw [e]
      have hfs : (aFind t.s hd).isSome = true := by rw [h.is_.find hd hh, hn]; rfl
      have hi := (h.is_.set hn hh (uv_ok hm hvw hnx) (by rw [rcd_not.1 hk]; rfl) (by rw [hok.row0 (rcd_not.1 hk)]; rfl)).1
      refine (Undo_Change_ok h.at_ h.is_.up h.is_.slot h.lim h.cfg v hs hm hvw hh hnx hfs n hr).mono ?_
      rintro e w1 ⟨he, h1, f1⟩
      exact ⟨he, ⟨a, m, F, vs, ⟨h1, hi, h.lim, h.cfg, h.seg, h.keys⟩, rfl⟩, f1.mono fun k _ e => Or.inr (Or.inl e)⟩
    · have e : t.turn hd (v.uv false nx) = (5, t) := by
        unfold US.turn
        cases q : t.f hd with
        | none => rfl
        | some n =>
          have := hn n q
          simp only
          cases r : n.rcd with
          | true => rfl
          | false => exact absurd (rcd_not.2 r) this
      rw [e]
      refine (Undo_Change_no hvl h.lim v hs hm (hd : Int) (nx : Int) hr).mono ?_
      rintro e w1 ⟨he, f1⟩
      exact ⟨he, ⟨a, m, F, vs, ⟨h.at_.kept0 f1, h.is_, h.lim, h.cfg, h.seg, h.keys⟩, rfl⟩, f1.none⟩
theorem un_cut (h : Un G w x c vl N t) {hd : Nat} (hh : hd < 18446744073709551616) :
    Calls Try.prog 9 #[.pointer (some ⟨x, 0, none⟩), .int .u64 (hd : Int)] w fun e w' => e = .returned (.int .i64 ((t.cut hd).1 : Int)) ∧ Un G w' x c vl N (t.cut hd).2 ∧ Fr G w w' := by
  have hrd := un_read h hh 2
  obtain ⟨a, m, F, vs, h, rfl⟩ := h
  rcases hrd with ⟨n, hn, hk, hok, hr⟩ | ⟨hn, hr⟩
  · have e : t.cut hd = (0, t.set hd n.cutn) := by unfold US.cut UV.cutn; rw [hn]; simp only [rcd_of.1 hk, if_true]
    rw [e]
    have hfs : (aFind t.s hd).isSome = true := by rw [h.is_.find hd hh, hn]; rfl
    have hi := (h.is_.set hn hh (n := n.cutn) ⟨hok.wr, by show 0 < _; omega, hok.sg, hok.rest, hok.row0⟩ rfl rfl).1
    refine (Undo_Cut_ok h.at_ h.is_.up h.is_.slot h.lim hh hfs n hok hr).mono ?_
    rintro e w1 ⟨he, h1, f1⟩
    exact ⟨he, ⟨a, m, F, vs, ⟨h1, hi, h.lim, h.cfg, h.seg, h.keys⟩, rfl⟩, f1.mono fun k _ e => Or.inr (Or.inl e)⟩
  · have e : t.cut hd = (5, t) := by
      unfold US.cut
      cases q : t.f hd with
      | none => rfl
      | some n =>
        have := hn n q
        simp only
        cases r : n.rcd with
        | true => exact absurd (rcd_of.2 r) this
        | false => rfl
    rw [e]
    refine (Undo_Cut_no (hd : Int) hr).mono ?_
    rintro e w1 ⟨he, f1⟩
    exact ⟨he, ⟨a, m, F, vs, ⟨h.at_.kept0 f1, h.is_, h.lim, h.cfg, h.seg, h.keys⟩, rfl⟩, f1.none⟩
theorem un_free (h : Un G w x c vl N t) (hN : N < big) (hN9 : N ≤ 1000000000) {hd : Nat} (hh : hd < 18446744073709551616) :
    Calls Try.prog 13 #[.pointer (some ⟨x, 0, none⟩), .int .u64 (hd : Int)] w fun e w' => e = .returned (.int .i64 ((t.free hd).1 : Int)) ∧ (∃ G', Un G' w' x c vl N (t.free hd).2 ∧ Grow G G' w) ∧ Fr G w w' := by
  have hrd := un_read h hh 2
  obtain ⟨a, m, F, vs, h, rfl⟩ := h
  obtain ⟨i1, i2, i3, i4⟩ := h.is_.free hh
  rcases hrd with ⟨n, hn, hk, hok, hr⟩ | ⟨hn, hr⟩
  · refine (Undo_Free_rec h.at_ h.is_.up hN hh n hok.sg (by rw [h.seg]; have := h.is_.segl (n.sg : Int); omega) hr).mono ?_
    rintro e w1 ⟨he, vs', h1, hs, hg, f1, hl⟩
    refine ⟨by rw [i3]; exact he, ⟨_, ⟨a, m, F, vs', ⟨by rw [i4]; exact h1, i1, h.lim, h.cfg, fun k => ?_, by have := h.keys; omega⟩, rfl⟩, fun k hk => ?_⟩, f1.mono fun k _ e => Or.inr e⟩
    · rw [hs k]
      have e : (t.free hd).2.seg = t.less n hd := by unfold US.free; rw [hn]
      rw [e]
      unfold US.less notH
      rw [rcd_of.1 hk, if_pos rfl]
      unfold updU
      by_cases e : (n.sg : Int) = k
      · subst e; rw [if_pos rfl, if_pos rfl, h.seg]
      · rw [if_neg e, if_neg (fun q => e q.symm), h.seg]
    · rcases hk with q | q | q
      · exact Or.inl (Or.inl q)
      · exact Or.inl (Or.inr (Or.inl q))
      · rcases hg k q with q | q
        · exact Or.inl (Or.inr (Or.inr q))
        · exact Or.inr q
  · refine (Undo_Free_plain h.at_ h.is_.up hN hh hr).mono ?_
    rintro e w1 ⟨he, h1, f1⟩
    refine ⟨by rw [i3]; exact he, ⟨_, ⟨a, m, F, vs, ⟨by rw [i4]; exact h1, i1, h.lim, h.cfg, fun k => ?_, h.keys⟩, rfl⟩, Grow.refl _ _⟩, f1.mono fun k _ e => Or.inr (Or.inl e)⟩
    rw [h.seg k]
    unfold US.free
    cases q : t.f hd with
    | none => rfl
    | some n =>
      have := hn n q
      show _ = t.less n hd k
      unfold US.less
      cases r : n.rcd with
      | true => exact absurd (rcd_of.2 r) this
      | false => rfl
theorem un_segment (h : Un G w x c vl N t) (hN9 : N ≤ 1000000000) (k : Int) :
    Calls Try.prog 23 #[.pointer (some ⟨x, 0, none⟩), .int .i64 k] w fun e w' => ∃ a' cap', e = .returned (.slice a' (t.seg k).length cap') ∧ SlAt w' a' (t.seg k).length cap' 32 1 ((t.seg k).map hvN) ∧ Fr none_ w w' ∧ ∀ b, blk a' b → w.heap.size ≤ b := by
  obtain ⟨a, m, F, vs, h, rfl⟩ := h
  have := Undo_Segment_at h.at_ k (by rw [h.seg]; have := h.is_.segl k; omega)
  rw [h.seg] at this
  exact this
def popH : Option Nat → Nat
  | some h => h
  | none => 0
theorem un_pop (h : Un G w x c vl N t) (hN : N < big) (hN9 : N ≤ 1000000000) (k : Int) :
    Calls Try.prog 24 #[.pointer (some ⟨x, 0, none⟩), .int .i64 k] w fun e w' => e = .returned (.tuple #[.int .u64 (popH (t.pop k).1 : Int), .bool (t.pop k).1.isSome]) ∧ (∃ G', Un G' w' x c vl N (t.pop k).2 ∧ Grow G G' w) ∧ Fr G w w' := by
  have hsg := un_segment h hN9 k
  have hsegh := h.is_.segh k
  have hsl := h.is_.segl k
  unfold US.pop
  cases e : t.seg k with
  | nil =>
    rw [e] at hsg
    refine (Undo_Pop_no k (hsg.mono fun e w' q => by obtain ⟨a', cap', he, _, f, _⟩ := q; exact ⟨a', cap', he, f⟩)).mono ?_
    rintro e w1 ⟨he, f1⟩
    exact ⟨he, ⟨G, h.kept0 f1, Grow.refl _ _⟩, f1.none⟩
  | cons hd r =>
    rw [e] at hsg hsegh hsl
    simp only [List.length_cons] at hsl
    refine (Undo_Pop_yes k hd (r.length + 1) r rfl (by omega) hsg (fun w' => (∃ G', Un G' w' x c vl N (t.free hd).2 ∧ Grow G G' w) ∧ Fr G w w') G h.lt (fun w1 f1 => ?_)).mono ?_
    · refine (un_free (h.kept0 f1) hN hN9 (hsegh hd (by simp))).mono ?_
      rintro e w2 ⟨he, ⟨G', h2, g2⟩, f2⟩
      exact ⟨⟨_, he⟩, ⟨⟨G', h2, fun k hk => (g2 k hk).imp id (fun q => Nat.le_trans f1.size q)⟩, f1.none.trans f2⟩, f2⟩
    · rintro e w2 ⟨he, q⟩
      exact ⟨he, q⟩
end
end Go.Proofs.Ytckkccnebjacdaa
