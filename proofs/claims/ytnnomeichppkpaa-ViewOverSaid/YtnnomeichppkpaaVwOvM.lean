/-
  ViewOver's memory: who had ended (a slice that is written), the views, what had ended at each one's beginning, the busy ones.
-/
import Derived.Test.YtnnomeichppkpaaVwX
import Derived.Test.YtnnomeichppkpaaVwOvP
namespace Go.Proofs.Ytnnomeichppkpaa
open Go.RowKit Go.Sort
set_option linter.unusedVariables false
set_option linter.unusedSimpArgs false
set_option maxRecDepth 100000

def boolc (b : Bool) : Value := .bool b
theorem boolc_one (b : Bool) : (boolc b).oneCell' = true := rfl
/-- A view, as an element; what had ended, as an element. -/
structure VP where
  own : Nat
  a : Option Addr
  n : Nat
  c : Nat
  l : List Int
structure EP where
  a : Option Addr
  n : Nat
  c : Nat
  es : List Bool
def VP.vc (e : VP) : List Value := [.int .i64 (e.own : Int), .int .i64 (e.own : Int), .slice e.a e.n e.c]
def EP.ec (e : EP) : Value := .slice e.a e.n e.c
def OE.vp (e : OE) : VP := ⟨e.own, e.a, e.n, e.c, e.l⟩
def OE.ep (e : OE) : EP := ⟨e.ea, e.en, e.ec, e.es⟩
theorem VP.vc_one (e : VP) (u : Value) (h : u ∈ e.vc) : u.oneCell' = true := by
  unfold VP.vc at h
  simp only [List.mem_cons, List.not_mem_nil, or_false] at h
  rcases h with rfl | rfl | rfl <;> rfl
def Cold (ba : Option Addr) (vs : List VP) (us : List EP) (k : Nat) : Prop := blk ba k ∨ (∃ e ∈ vs, blk e.a k) ∨ ∃ e ∈ us, blk e.a k
structure VO (W w : World) (go N : Nat) (over : List Bool) (pa : Option Addr) (pn pc : Nat) (vs : List VP) (qa : Option Addr) (qn qc : Nat) (us : List EP) (ba : Option Addr) (bn : Nat) (busy : List Int) : Prop where
  fr : Fr none_ W w
  ov : SlAt w (some ⟨go, 0, none⟩) N N 4 1 (over.map boolc)
  vw : SlAt w pa pn pc 25 3 (vs.flatMap VP.vc)
  en : SlAt w qa qn qc 33 1 (us.map EP.ec)
  cv : pn = vs.length
  ce : qn = us.length
  bu : IntsAt w ba busy
  bl : bn = busy.length
  ev : ∀ e ∈ vs, IntsAt w e.a e.l ∧ e.n = e.l.length ∧ e.n ≤ 1000
  ee : ∀ e ∈ us, LsAt w e.a 1 (fun b => [boolc b]) e.es ∧ e.n = e.es.length
  ng : W.heap.size ≤ go
  np : ∀ k, blk pa k → W.heap.size ≤ k
  nq : ∀ k, blk qa k → W.heap.size ≤ k
  d1 : ¬ blk pa go
  d2 : ¬ blk qa go
  d3 : ∀ k, blk pa k → ¬ blk qa k
  cold : ∀ k, Cold ba vs us k → k ≠ go ∧ ¬ blk pa k ∧ ¬ blk qa k ∧ k < w.heap.size
section
variable {W w w' : World} {go N : Nat} {over : List Bool} {pa : Option Addr} {pn pc : Nat} {vs : List VP} {qa : Option Addr} {qn qc : Nat} {us : List EP} {ba : Option Addr} {bn : Nat} {busy : List Int}
theorem VO.golt (h : VO W w go N over pa pn pc vs qa qn qc us ba bn busy) : go < w.heap.size := h.ov.lt go ⟨_, rfl, rfl⟩
theorem VO.keep (h : VO W w go N over pa pn pc vs qa qn qc us ba bn busy) (f : Fr none_ w w') : VO W w' go N over pa pn pc vs qa qn qc us ba bn busy :=
  ⟨h.fr.trans f, h.ov.kept0 f, h.vw.kept0 f, h.en.kept0 f, h.cv, h.ce, h.bu.kept0 f, h.bl, fun e he => ⟨(h.ev e he).1.kept0 f, (h.ev e he).2⟩, fun e he => ⟨(h.ee e he).1.kept0 f, (h.ee e he).2⟩, h.ng, h.np, h.nq, h.d1, h.d2, h.d3, fun k hk => by
    obtain ⟨q1, q2, q3, q4⟩ := h.cold k hk
    exact ⟨q1, q2, q3, Nat.lt_of_lt_of_le q4 f.size⟩⟩
/-- A view more. -/
theorem VO.pushV (h : VO W w go N over pa pn pc vs qa qn qc us ba bn busy) (e : VP) {pa' : Option Addr} {pn' pc' : Nat} (f : Fr (blk pa) w w') (hs : SlAt w' pa' pn' pc' 25 3 (vs.flatMap VP.vc ++ [e].flatMap VP.vc)) (hb : ∀ k, blk pa' k → blk pa k ∨ w.heap.size ≤ k) (hn : pn' = pn + 1)
    (hi : IntsAt w e.a e.l) (hl : e.n = e.l.length) (h1000 : e.n ≤ 1000) (hc : ∀ k, blk e.a k → k ≠ go ∧ ¬ blk pa k ∧ ¬ blk qa k ∧ k < w.heap.size) :
    VO W w' go N over pa' pn' pc' (vs ++ [e]) qa qn qc us ba bn busy := by
  have hcold : ∀ k, Cold ba (vs ++ [e]) us k → k ≠ go ∧ ¬ blk pa k ∧ ¬ blk qa k ∧ k < w.heap.size := by
    rintro k (hk | ⟨x, hx, hk⟩ | ⟨x, hx, hk⟩)
    · exact h.cold k (Or.inl hk)
    · rcases List.mem_append.1 hx with hx | hx
      · exact h.cold k (Or.inr (Or.inl ⟨x, hx, hk⟩))
      · obtain rfl : x = e := by simpa using hx
        exact hc k hk
    · exact h.cold k (Or.inr (Or.inr ⟨x, hx, hk⟩))
  refine ⟨h.fr.step f (fun i hi e => by have := h.np i e; omega), h.ov.kept f (fun k hk e => by rw [blk_some] at hk; subst hk; exact h.d1 e), by rw [List.flatMap_append]; exact hs, h.en.kept f (fun k hk e => h.d3 k e hk), by rw [hn, h.cv]; simp, h.ce,
    h.bu.kept f (fun k hk e => (h.cold k (Or.inl hk)).2.1 e), h.bl, fun x hx => ?_, fun x hx => ⟨(h.ee x hx).1.kept f (fun k hk e => (h.cold k (Or.inr (Or.inr ⟨x, hx, hk⟩))).2.1 e), (h.ee x hx).2⟩, h.ng, fun k hk => ?_, h.nq, fun hk => ?_, h.d2, fun k hk q => ?_, fun k hk => ?_⟩
  · rcases List.mem_append.1 hx with hx | hx
    · exact ⟨(h.ev x hx).1.kept f (fun k hk e => (h.cold k (Or.inr (Or.inl ⟨x, hx, hk⟩))).2.1 e), (h.ev x hx).2⟩
    · obtain rfl : x = e := by simpa using hx
      exact ⟨hi.kept f (fun k hk q => (hc k hk).2.1 q), hl, h1000⟩
  · rcases hb k hk with q | q
    · exact h.np k q
    · exact Nat.le_trans h.fr.size q
  · rcases hb go hk with q | q
    · exact h.d1 q
    · have := h.golt; omega
  · rcases hb k hk with r | r
    · exact h.d3 k r q
    · have := h.en.lt k q; omega
  · obtain ⟨q1, q2, q3, q4⟩ := hcold k hk
    refine ⟨q1, fun q => ?_, q3, Nat.lt_of_lt_of_le q4 f.size⟩
    rcases hb k q with r | r
    · exact q2 r
    · omega
/-- What had ended: one more. -/
theorem VO.pushE (h : VO W w go N over pa pn pc vs qa qn qc us ba bn busy) (e : EP) {qa' : Option Addr} {qn' qc' : Nat} (f : Fr (blk qa) w w') (hs : SlAt w' qa' qn' qc' 33 1 (us.map EP.ec ++ [EP.ec e])) (hb : ∀ k, blk qa' k → blk qa k ∨ w.heap.size ≤ k) (hn : qn' = qn + 1)
    (hi : LsAt w e.a 1 (fun b => [boolc b]) e.es) (hl : e.n = e.es.length) (hc : ∀ k, blk e.a k → k ≠ go ∧ ¬ blk pa k ∧ ¬ blk qa k ∧ k < w.heap.size) :
    VO W w' go N over pa pn pc vs qa' qn' qc' (us ++ [e]) ba bn busy := by
  have hcold : ∀ k, Cold ba vs (us ++ [e]) k → k ≠ go ∧ ¬ blk pa k ∧ ¬ blk qa k ∧ k < w.heap.size := by
    rintro k (hk | ⟨x, hx, hk⟩ | ⟨x, hx, hk⟩)
    · exact h.cold k (Or.inl hk)
    · exact h.cold k (Or.inr (Or.inl ⟨x, hx, hk⟩))
    · rcases List.mem_append.1 hx with hx | hx
      · exact h.cold k (Or.inr (Or.inr ⟨x, hx, hk⟩))
      · obtain rfl : x = e := by simpa using hx
        exact hc k hk
  refine ⟨h.fr.step f (fun i hi e => by have := h.nq i e; omega), h.ov.kept f (fun k hk e => by rw [blk_some] at hk; subst hk; exact h.d2 e), h.vw.kept f (fun k hk e => h.d3 k hk e), by rw [List.map_append]; exact hs, h.cv, by rw [hn, h.ce]; simp,
    h.bu.kept f (fun k hk e => (h.cold k (Or.inl hk)).2.2.1 e), h.bl, fun x hx => ⟨(h.ev x hx).1.kept f (fun k hk e => (h.cold k (Or.inr (Or.inl ⟨x, hx, hk⟩))).2.2.1 e), (h.ev x hx).2⟩, fun x hx => ?_, h.ng, h.np, fun k hk => ?_, h.d1, fun hk => ?_, fun k hk q => ?_, fun k hk => ?_⟩
  · rcases List.mem_append.1 hx with hx | hx
    · exact ⟨(h.ee x hx).1.kept f (fun k hk e => (h.cold k (Or.inr (Or.inr ⟨x, hx, hk⟩))).2.2.1 e), (h.ee x hx).2⟩
    · obtain rfl : x = e := by simpa using hx
      exact ⟨hi.kept f (fun k hk q => (hc k hk).2.2.1 q), hl⟩
  · rcases hb k hk with q | q
    · exact h.nq k q
    · exact Nat.le_trans h.fr.size q
  · rcases hb go hk with q | q
    · exact h.d2 q
    · have := h.golt; omega
  · rcases hb k q with r | r
    · exact h.d3 k hk r
    · have := h.vw.lt k hk; omega
  · obtain ⟨q1, q2, q3, q4⟩ := hcold k hk
    refine ⟨q1, q2, fun q => ?_, Nat.lt_of_lt_of_le q4 f.size⟩
    rcases hb k q with r | r
    · exact q3 r
    · omega
theorem VO.setBusy (h : VO W w go N over pa pn pc vs qa qn qc us ba bn busy) {ba' : Option Addr} {bn' : Nat} {busy' : List Int} (hi : IntsAt w ba' busy') (hn : bn' = busy'.length) (hc : ∀ k, blk ba' k → k ≠ go ∧ ¬ blk pa k ∧ ¬ blk qa k ∧ k < w.heap.size) :
    VO W w go N over pa pn pc vs qa qn qc us ba' bn' busy' :=
  ⟨h.fr, h.ov, h.vw, h.en, h.cv, h.ce, hi, hn, h.ev, h.ee, h.ng, h.np, h.nq, h.d1, h.d2, h.d3, fun k hk => by
    rcases hk with hk | hk
    · exact hc k hk
    · exact h.cold k (Or.inr hk)⟩
theorem VO.setOver (h : VO W w go N over pa pn pc vs qa qn qc us ba bn busy) (j : Nat) (b : Bool) : VO W (w.setCell ⟨go, j, none⟩ (.bool b)) go N (over.set j b) pa pn pc vs qa qn qc us ba bn busy := by
  have f : Fr (one go) w (w.setCell ⟨go, j, none⟩ (.bool b)) := Fr.setCell _ _ _ _ (fun _ => rfl)
  have hs := h.ov.setAt j (.bool b)
  refine ⟨h.fr.step f (fun i hi e => by have := h.ng; unfold one at e; omega), by rw [List.map_set]; exact hs, h.vw.kept f (fun k hk e => by unfold one at e; subst e; exact h.d1 hk), h.en.kept f (fun k hk e => by unfold one at e; subst e; exact h.d2 hk), h.cv, h.ce, h.bu.kept f (fun k hk e => (h.cold k (Or.inl hk)).1 e), h.bl,
    fun x hx => ⟨(h.ev x hx).1.kept f (fun k hk e => (h.cold k (Or.inr (Or.inl ⟨x, hx, hk⟩))).1 e), (h.ev x hx).2⟩, fun x hx => ⟨(h.ee x hx).1.kept f (fun k hk e => (h.cold k (Or.inr (Or.inr ⟨x, hx, hk⟩))).1 e), (h.ee x hx).2⟩, h.ng, h.np, h.nq, h.d1, h.d2, h.d3, fun k hk => ?_⟩
  obtain ⟨q1, q2, q3, q4⟩ := h.cold k hk
  exact ⟨q1, q2, q3, Nat.lt_of_lt_of_le q4 f.size⟩
/-- A block that is new is none of these. -/
theorem VO.new (h : VO W w go N over pa pn pc vs qa qn qc us ba bn busy) {k : Nat} (hk : w.heap.size ≤ k) : k ≠ go ∧ ¬ blk pa k ∧ ¬ blk qa k :=
  ⟨fun e => by have := h.golt; omega, fun e => by have := h.vw.lt k e; omega, fun e => by have := h.en.lt k e; omega⟩
end
theorem bool_info : (Try.prog.info? 4).map (fun i => (i.zero, i.size, i.bytes)) = some (some (.bool false), 1, 1) := by kernel_rfl
theorem view_info : (Try.prog.info? 25).map (fun i => (i.zero, i.size, i.bytes)) = some (some (.agg #[.int .i64 0, .int .i64 0, .slice none 0 0]), 3, 40) := by kernel_rfl
theorem bools_info : (Try.prog.info? 33).map (fun i => (i.zero, i.size, i.bytes)) = some (some (.slice none 0 0), 1, 24) := by kernel_rfl
theorem ls_new {α : Type} (cells : α → List Value) (sz : Nat) (hsz : ∀ x, (cells x).length = sz) (w : World) (t : TypeId) (l : List α) : LsAt (w.alloc (.cells (l.flatMap cells).toArray t)) (some ⟨w.heap.size, 0, none⟩) sz cells l := by
  refine Or.inr ⟨w.heap.size, 0, rfl, by simp, fun i x hx j v hv => ?_⟩
  rw [(Row.new w (l.flatMap cells).toArray t).cell, Nat.zero_add]
  simpa using flat_cells cells sz hsz l i x hx j v hv
/-- Bytes that came in. -/
def encB (x : Int) : Value := .int .u8 x
structure TurnsIn (W : World) (a : Option Addr) (l : List Int) : Prop where
  wf : ∀ x ∈ l, 0 ≤ x ∧ x < 256
  at_ : LsAt W a 1 (fun x => [encB x]) l
theorem wf_u8 {n : Int} (h : (Lit.int .u8 n).wf = true) : 0 ≤ n ∧ n < 256 := by
  simp only [Lit.wf, Bool.and_eq_true, decide_eq_true_eq] at h
  have h1 : IntKind.u8.min = 0 := by decide
  have h2 : IntKind.u8.max = 255 := by decide
  omega
open Go.ChangeShapes in
theorem open_turns {H : Type} {enc : TypeId × Value → H} {w : World} {base : Nat} {spare : Nat → Bool} {held : Bool} {a : Option Addr} {len cap : Nat} {d : DataW H} {ps : List MemPlace}
    (h : DataW.Trod enc Try.prog w base spare held 30 (.slice a len cap) d ps) (hw : ∀ x ∈ d.weights Try.prog 30, x ≤ reachBytes) : ∃ l : List Int, l.length = len ∧ TurnsIn w a l := by
  obtain ⟨fuel, hf⟩ := h
  have hf : DataW.trod enc Try.prog w base spare held fuel 30 [.slice a len cap] = some (d, ps) := hf
  rcases open_ints Try.underlying30 Try.underlying5 (by kernel_rfl) hf with ⟨hcs, _⟩ | ⟨ad, len', cap', zs, hcs, hb, hl, hm, hz, hx, hi, hwf⟩
  · simp only [List.cons.injEq, Value.slice.injEq, and_true] at hcs
    obtain ⟨rfl, rfl, rfl⟩ := hcs
    exact ⟨[], rfl, fun _ h => by simp at h, Or.inl rfl⟩
  · simp only [List.cons.injEq, Value.slice.injEq, and_true] at hcs
    obtain ⟨rfl, rfl, rfl⟩ := hcs
    have hlz : len ≤ zs.length := by rw [hz]; split <;> omega
    refine ⟨zs.take len, by rw [List.length_take]; omega, fun x hx => wf_u8 (hwf x (List.mem_of_mem_take hx)), ?_⟩
    by_cases h0 : len = 0
    · subst h0; exact Or.inl rfl
    · have c0 := hi 0 (by omega)
      have hsp := vw_spot c0
      obtain ⟨b, o, sp⟩ := ad
      simp only at hsp
      subst hsp
      have hadd : ∀ n, (⟨b, o, none⟩ : Addr).add n = ⟨b, o + n, none⟩ := fun n => Addr.add_lit b o n
      refine Or.inr ⟨b, o, rfl, ?_, fun i x hx j v hv => ?_⟩
      · have := World.block_lt_of_cell? w _ c0
        rw [hadd] at this; exact this
      · have hj : j = 0 := by have := (List.getElem?_eq_some_iff.1 hv).1; simp at this; omega
        subst hj
        have hv' : v = encB x := by simpa using hv.symm
        subst hv'
        rw [Nat.mul_one, Nat.add_zero]
        rw [List.getElem?_take] at hx
        split at hx
        · have q := hi i ((List.getElem?_eq_some_iff.1 hx).1)
          rw [hadd, List.getD_eq_getElem?_getD, hx] at q; exact q
        · cases hx
end Go.Proofs.Ytnnomeichppkpaa
