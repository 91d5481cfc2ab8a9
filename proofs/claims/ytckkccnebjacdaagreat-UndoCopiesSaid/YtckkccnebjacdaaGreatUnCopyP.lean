/-
  Package undo, Copy: what stands in memory while the segments are copied.
-/
import Derived.Test.YtckkccnebjacdaaGreatMgUnFree
import Derived.Test.YtckkccnebjacdaaGreatRangeMap
import Derived.Test.YtckkccnebjacdaaGreatArenaCopy
namespace Go.Proofs.YtckkccnebjacdaaGreat
open Go.RowKit
set_option linter.unusedVariables false
set_option linter.unusedSimpArgs false
set_option maxRecDepth 100000

theorem ar_copy {w : World} {F : Nat → Prop} {x : Nat} {s : AS} {N : Nat} (h : Ar F w x s) (hu : Upto N s) :
    Calls Tryz.prog 65 #[.pointer (some ⟨x, 0, none⟩)] w fun e w' => ∃ G y, e = .returned (.pointer (some ⟨y, 0, none⟩)) ∧ Ar G w' y s ∧ Fr none_ w w' ∧ ∀ k, G k → w.heap.size ≤ k := by
  obtain ⟨m, pa, cap, ps, h, rfl⟩ := h
  refine (Arena_Copy h hu.wf.len).mono ?_
  rintro e w1 ⟨x', m', pa', cap', ps', he, h1, h2, h3⟩
  exact ⟨_, x', he, ⟨m', pa', cap', ps', h1, rfl⟩, h2, h3⟩
def segL (vs : List (Int × SgV)) : List (Int × List Nat) := vs.map fun p => (p.1, p.2.l)
theorem segL_get : ∀ (vs : List (Int × SgV)) (k : Int), segOf vs k = (kvGet (segL vs) k).getD []
  | [], k => rfl
  | p :: r, k => by
    have ih := segL_get r k
    unfold segOf at ih ⊢
    rw [kvGet_cons]
    show _ = (kvGet ((p.1, p.2.l) :: segL r) k).getD []
    rw [kvGet_cons]
    by_cases e : p.1 = k
    · rw [if_pos e, if_pos e]; rfl
    · rw [if_neg e, if_neg e]; exact ih
theorem segL_put : ∀ (vs : List (Int × SgV)) (k : Int) (v : SgV), k ∉ (segL vs).map (·.1) → segL (kvPut vs k v) = segL vs ++ [(k, v.l)]
  | [], k, v, _ => rfl
  | p :: r, k, v, h => by
    have h : ¬ (k = p.1 ∨ k ∈ (segL r).map (·.1)) := fun q => h (by
      rcases q with q | q
      · exact List.mem_cons.2 (Or.inl q)
      · exact List.mem_cons.2 (Or.inr q))
    unfold kvPut
    rw [if_neg (fun e => h (Or.inl e.symm))]
    show (p.1, p.2.l) :: segL (kvPut r k v) = _
    rw [segL_put r k v (fun q => h (Or.inr q))]; rfl
/-- While the segments are copied. -/
structure CpR (w wr : World) (x a m : Nat) (F : Nat → Prop) (vs : List (Int × SgV)) (y b n : Nat) (G : Nat → Prop) (us : List (Int × SgV)) (done : List (Int × SgV)) (c : CfgV) (s : AS) (r : Nat) : Prop where
  old : UnAt wr x a m F vs c s
  new : UnAt wr y b n G us c s
  it : It wr r m (Value.int .i64) sgEv vs done
  kv : segL us = segL done
  fr : Fr none_ w wr
  ny : w.heap.size ≤ y
  nG : ∀ k, G k → w.heap.size ≤ k
  nS : ∀ k, segOwn n us k → w.heap.size ≤ k
  rn : w.heap.size ≤ r
  ry : r ≠ y
  rG : ¬ G r
  rS : ¬ segOwn n us r
  ol : ∀ k, (k = x ∨ F k ∨ segOwn m vs k) → k < w.heap.size
theorem mem_iff_done {vs done : List (Int × SgV)} (hn : (vs.map (·.1)).Nodup) (hd : (done.map (·.1)).Nodup) (h1 : ∀ p ∈ done, p ∈ vs) (h2 : ∀ p ∈ vs, p ∈ done) (k : Int) : segOf done k = segOf vs k := by
  unfold segOf
  cases e : kvGet vs k with
  | some p =>
    have := mem_kvGet hd (h2 _ (kvGet_mem e))
    rw [this]
  | none =>
    cases e2 : kvGet done k with
    | none => rfl
    | some p =>
      have := mem_kvGet hn (h1 _ (kvGet_mem e2))
      rw [e] at this; cases this
section
variable {w wr w2 : World} {x a m y b n r : Nat} {F G : Nat → Prop} {vs us done : List (Int × SgV)} {c : CfgV} {s : AS}
theorem CpR.seg (h : CpR w wr x a m F vs y b n G us done c s r) (hall : ∀ p ∈ vs, p ∈ done) : (∀ k, segOf us k = segOf vs k) ∧ us.length ≤ vs.length := by
  refine ⟨fun k => ?_, ?_⟩
  · rw [segL_get, h.kv, ← segL_get]
    exact mem_iff_done h.old.seg.nodup h.it.nodup h.it.sub hall k
  · have e : us.length = done.length := by have := congrArg List.length h.kv; simpa [segL] using this
    have := h.it.len; omega
/-- The iterator goes on. -/
theorem CpR.step (h : CpR w wr x a m F vs y b n G us done c s r) {p : Int × SgV} {w' : World} (hi : It w' r m (Value.int .i64) sgEv vs (done ++ [p])) (f : Fr (one r) wr w') :
    UnAt w' x a m F vs c s ∧ UnAt w' y b n G us c s ∧ Fr none_ w w' :=
  ⟨h.old.kept f (fun e => by have := h.ol x (Or.inl rfl); have := h.rn; unfold one at e; omega) (fun k hk e => by have := h.ol k (Or.inr (Or.inl hk)); have := h.rn; unfold one at e; omega) (fun k hk e => by have := h.ol k (Or.inr (Or.inr hk)); have := h.rn; unfold one at e; omega),
   h.new.kept f (fun e => h.ry e.symm) (fun k hk e => h.rG (by unfold one at e; subst e; exact hk)) (fun k hk e => h.rS (by unfold one at e; subst e; exact hk)),
   h.fr.step f (fun i hi e => by unfold one at e; have := h.rn; omega)⟩
theorem CpR.fresh (h : CpR w wr x a m F vs y b n G us done c s r) {p : Int × SgV} (hp : p ∈ vs) (hd : p ∉ done) : p.1 ∉ (segL us).map (·.1) := by
  rw [h.kv]
  intro q
  obtain ⟨q1, hq1, hq2⟩ := List.mem_map.1 q
  obtain ⟨q0, hq0, rfl⟩ := List.mem_map.1 hq1
  have h1 := mem_kvGet (k := p.1) (v := p.2) h.old.seg.nodup hp
  have h2 := mem_kvGet (k := q0.1) (v := q0.2) h.old.seg.nodup (h.it.sub _ hq0)
  have hq2 : q0.1 = p.1 := hq2
  rw [hq2, h1] at h2
  have : p.2 = q0.2 := Option.some.inj h2
  exact hd (by have e : p = q0 := Prod.ext hq2.symm this; rw [e]; exact hq0)
/-- One more is copied. -/
theorem CpR.more (h : CpR w wr x a m F vs y b n G us done c s r) {p : Int × SgV} (hp : p ∈ vs) (hd : p ∉ done) {w1 w3 w4 : World} (hi : It w1 r m (Value.int .i64) sgEv vs (done ++ [p])) (f1 : Fr (one r) wr w1)
    {a2 : Option Addr} {cap2 : Nat} (f3 : Fr none_ w1 w3) (hs : SlAt w3 a2 p.2.l.length cap2 32 1 (p.2.l.map hvN)) (hb : ∀ k, blk a2 k → w1.heap.size ≤ k) (hm : MapAt w4 n (Value.int .i64) sgEv (kvPut us p.1 ⟨a2, cap2, p.2.l⟩)) (f4 : Fr (one n) w3 w4) :
    CpR w w4 x a m F vs y b n G (kvPut us p.1 ⟨a2, cap2, p.2.l⟩) (done ++ [p]) c s r := by
  obtain ⟨o1, n1, g1⟩ := h.step hi f1
  have hn := n1.kept0 f3
  have hlt := hn.seg.map.lt
  have hnn : w.heap.size ≤ n := h.nS n (Or.inl rfl)
  have hne : ∀ k, k < w.heap.size → k ≠ n := fun k hk e => by omega
  have hfresh := h.fresh hp hd
  have hget : kvGet us p.1 = none := by
    cases e : kvGet us p.1 with
    | none => rfl
    | some v => exact absurd (List.mem_map.2 ⟨(p.1, v.l), List.mem_map.2 ⟨(p.1, v), kvGet_mem e, rfl⟩, rfl⟩) hfresh
  have hsg : sgGet us p.1 = ⟨none, 0, []⟩ := by unfold sgGet; rw [hget]; rfl
  obtain ⟨q1, q2, q3⟩ := (n1.seg).put (k := p.1) (v := ⟨a2, cap2, p.2.l⟩) (w1 := w3) (w2 := w4) f3.none hs (h.old.seg.ne p hp) (fun k hk => Or.inr (hb k hk)) hm f4
  have f14 : Fr (one n) w1 w4 := f3.none.trans f4
  have hr1 := hi.lt.1
  have hsz := f1.size
  have hrn : r ≠ n := fun e => h.rS (Or.inl e)
  refine ⟨o1.kept f14 (fun e => hne x (h.ol x (Or.inl rfl)) e) (fun k hk e => hne k (h.ol k (Or.inr (Or.inl hk))) e) (fun k hk e => hne k (h.ol k (Or.inr (Or.inr hk))) e), n1.turnS q1 (f14.mono fun k _ e => Or.inl e) q2, hi.kept f14 hrn (fun e => hne m (h.ol m (Or.inr (Or.inr (Or.inl rfl)))) e), ?_, g1.step f14 (fun i hi e => hne i hi e), h.ny, h.nG, fun k hk => ?_, h.rn, h.ry, h.rG, fun e => ?_, h.ol⟩
  · rw [segL_put us p.1 _ hfresh, h.kv]
    unfold segL
    rw [List.map_append]; rfl
  · rcases q2 k hk with q | q
    · exact h.nS k q
    · have := g1.size; omega
  · rcases q2 r e with q | q
    · exact h.rS q
    · omega
end
/-- The new engine: its arena is copied first, or its map is made first. -/
theorem cp_startA {w w5 : World} {b : Nat} {G : Nat → Prop} {c : CfgV} {s : AS} (f : Fr none_ w w5) (hb : Ar G w5 b s) (hG : ∀ k, G k → w.heap.size ≤ k) :
    UnAt ((w5.alloc (.map #[] 0)).alloc (.cells (undoCells c b w5.heap.size) 82)) (w5.heap.size + 1) b w5.heap.size G [] c s ∧ Fr none_ w ((w5.alloc (.map #[] 0)).alloc (.cells (undoCells c b w5.heap.size) 82)) ∧ w.heap.size ≤ w5.heap.size + 1 ∧ (∀ k, G k → w.heap.size ≤ k) ∧ w.heap.size ≤ w5.heap.size := by
  have fm := Fr.alloc none_ w5 (.map #[] 0)
  have fa := Fr.alloc none_ (w5.alloc (.map #[] 0)) (.cells (undoCells c b w5.heap.size) 82)
  have hr := Row.new (w5.alloc (.map #[] 0)) (undoCells c b w5.heap.size) 82
  have e : (w5.alloc (.map #[] 0)).heap.size = w5.heap.size + 1 := by simp
  rw [e] at hr
  have hz := f.size
  refine ⟨⟨hr, (hb.kept0 fm).kept0 fa, (SegM.new w5).kept0 fa, fun e => ?_, fun e => ?_, fun k hk e => ?_⟩, (f.trans fm).trans fa, by omega, hG, hz⟩
  · have := hb.lt _ e; omega
  · rcases e with e | ⟨p, hp, _⟩
    · omega
    · simp at hp
  · rcases e with e | ⟨p, hp, _⟩
    · have := hb.lt _ hk; omega
    · simp at hp
theorem cp_startB {w w1 w5 : World} {b : Nat} {G : Nat → Prop} {c : CfgV} {s : AS} (f0 : Fr none_ w w1) (f : Fr none_ (w1.alloc (.map #[] 0)) w5) (hb : Ar G w5 b s) (hG : ∀ k, G k → (w1.alloc (.map #[] 0)).heap.size ≤ k) :
    UnAt (w5.alloc (.cells (undoCells c b w1.heap.size) 82)) w5.heap.size b w1.heap.size G [] c s ∧ Fr none_ w (w5.alloc (.cells (undoCells c b w1.heap.size) 82)) ∧ w.heap.size ≤ w5.heap.size ∧ (∀ k, G k → w.heap.size ≤ k) ∧ w.heap.size ≤ w1.heap.size := by
  have fm := Fr.alloc none_ w1 (.map #[] 0)
  have fa := Fr.alloc none_ w5 (.cells (undoCells c b w1.heap.size) 82)
  have hr := Row.new w5 (undoCells c b w1.heap.size) 82
  have e : (w1.alloc (.map #[] 0)).heap.size = w1.heap.size + 1 := by simp
  have hz := f0.size
  have hz1 := f.size
  rw [e] at hz1
  refine ⟨⟨hr, hb.kept0 fa, ((SegM.new w1).kept0 f).kept0 fa, fun e => ?_, fun e => ?_, fun k hk q => ?_⟩, ((f0.trans fm).trans f).trans fa, by omega, fun k hk => by have := hG k hk; omega, hz⟩
  · have := hb.lt _ e; omega
  · rcases e with e | ⟨p, hp, _⟩
    · omega
    · simp at hp
  · rcases q with q | ⟨p, hp, _⟩
    · have := hG k hk; omega
    · simp at hp
/-- Where the range begins. -/
theorem CpR.start {w wx : World} {x a m y b n : Nat} {F G : Nat → Prop} {vs : List (Int × SgV)} {c : CfgV} {s : AS} {o : Obj} (h : UnAt w x a m F vs c s) (hn : UnAt wx y b n G [] c s) (f : Fr none_ w wx) (h1 : w.heap.size ≤ y) (h2 : ∀ k, G k → w.heap.size ≤ k) (h3 : w.heap.size ≤ n) (hi : It (wx.alloc o) wx.heap.size m (Value.int .i64) sgEv vs []) : CpR w (wx.alloc o) x a m F vs y b n G [] [] c s wx.heap.size := by
  have fa := Fr.alloc none_ wx o
  refine ⟨(h.kept0 f).kept0 fa, hn.kept0 fa, hi, rfl, f.trans fa, h1, h2, fun k hk => ?_, f.size, fun e => ?_, fun e => ?_, fun e => ?_, h.lt⟩
  · rcases hk with rfl | ⟨p, hp, _⟩
    · exact h3
    · simp at hp
  · have := hn.row.lt; omega
  · have := hn.ar.lt _ e; omega
  · have := hn.seg.lt _ e; omega
end Go.Proofs.YtckkccnebjacdaaGreat
