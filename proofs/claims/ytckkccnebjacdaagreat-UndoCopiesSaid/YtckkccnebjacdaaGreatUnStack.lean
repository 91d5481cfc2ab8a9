/-
  Package undo's statements: stack: versions put on a row.
-/
import Derived.Test.YtckkccnebjacdaaGreatUnAwake
import Derived.Test.YtckkccnebjacdaaGreatMgHeld
namespace Go.Proofs.YtckkccnebjacdaaGreat
open Go.RowKit
set_option linter.unusedVariables false
set_option linter.unusedSimpArgs false
set_option maxRecDepth 100000

theorem Bag.front {W w : World} {Ts : List Thing} {X : Thing} (h : Bag W (Ts ++ [X]) w) : Bag W (X :: Ts) w := by
  refine h.pick (fun i => if i = 0 then Ts.length else i - 1) (fun i U hi => ?_) (fun i j hi hj e => ?_)
  · by_cases e : i = 0
    · subst e
      simp only [if_true]
      rw [List.getElem?_append_right (Nat.le_refl _), Nat.sub_self]
      simpa using hi
    · obtain ⟨k, rfl⟩ : ∃ k, i = k + 1 := ⟨i - 1, by omega⟩
      simp only [if_neg e]
      rw [List.getElem?_cons_succ] at hi
      rw [Nat.add_sub_cancel, List.getElem?_append_left (List.getElem?_eq_some_iff.1 hi).1]
      exact hi
  · rw [List.length_cons] at hi hj
    split at e <;> split at e <;> omega
theorem Bag.tail {W w : World} {Ts : List Thing} {X : Thing} (h : Bag W (X :: Ts) w) : Bag W Ts w :=
  h.pick (fun i => i + 1) (fun i U hi => by rw [List.getElem?_cons_succ]; exact hi) (fun i j _ _ e => by simpa using e)
theorem Bag.swap {W w : World} {Ts : List Thing} {X Y : Thing} (h : Bag W (X :: Y :: Ts) w) : Bag W (Y :: X :: Ts) w := by
  refine h.pick (fun i => if i = 0 then 1 else if i = 1 then 0 else i) (fun i U hi => ?_) (fun i j hi hj e => ?_)
  · match i with
    | 0 => exact hi
    | 1 => exact hi
    | i + 2 => exact hi
  · split at e <;> split at e <;> (try split at e) <;> (try split at e) <;> omega
theorem Bag.rot3 {W w : World} {Ts : List Thing} {X Y Z : Thing} (h : Bag W (X :: Y :: Z :: Ts) w) : Bag W (Z :: X :: Y :: Ts) w := by
  refine h.pick (fun i => if i = 0 then 2 else if i = 1 then 0 else if i = 2 then 1 else i) (fun i U hi => ?_) (fun i j hi hj e => ?_)
  · match i with
    | 0 => exact hi
    | 1 => exact hi
    | 2 => exact hi
    | i + 3 => exact hi
  · repeat' split at e
    all_goals omega
theorem Bag.pick5 {W w : World} {Ts : List Thing} {A B C D E : Thing} (h : Bag W (A :: B :: C :: D :: E :: Ts) w) : Bag W (C :: A :: E :: Ts) w := by
  refine h.pick (fun i => if i = 0 then 2 else if i = 1 then 0 else i + 2) (fun i U hi => ?_) (fun i j hi hj e => ?_)
  · match i with
    | 0 => exact hi
    | 1 => exact hi
    | i + 2 => exact hi
  · repeat' split at e
    all_goals omega
theorem SlAt.builtV (w : World) (l : List VerV) (hl : l.length ≤ 1000000) : SlAt (w.alloc (.cells (l.flatMap verL).toArray 40)) (some ⟨w.heap.size, 0, none⟩) l.length l.length 40 4 (l.flatMap verL) := by
  have hlen : (l.flatMap verL).length = l.length * 4 := by
    rw [List.length_flatMap]
    have : (l.map fun a => (verL a).length) = List.replicate l.length 4 := by
      apply List.ext_getElem
      · simp
      · intro i h1 h2; simp; rfl
    rw [this]; simp
  refine ⟨hlen, Nat.le_refl _, by unfold maxLen; omega, (fun h => by cases h), ?_⟩
  intro ad had
  cases had
  refine ⟨rfl, rfl, _, Row.new w _ 40, by simpa using hlen, ?_⟩
  rw [← hlen]
  show List.take (l.flatMap verL).length (l.flatMap verL) = _
  exact List.take_length
theorem handleInfo : (Tryz.prog.info? 32).map (fun i => (i.zero, i.size, i.bytes)) = some (some (.int .u64 0), 1, 8) := by kernel_rfl
theorem verInfo : (Tryz.prog.info? 40).map (fun i => (i.zero, i.size, i.bytes)) = some (some (.agg #[.int .i64 0, .int .i64 0, .bool false, .string ⟨#[]⟩]), 4, 40) := by kernel_rfl
theorem verL_cell (v : VerV) : ∀ u, u ∈ verL v → u.oneCell' = true := by
  intro u hu
  simp [verL, VerV.cells] at hu
  rcases hu with rfl | rfl | rfl | rfl <;> rfl
theorem hvN_one (l : List Nat) : ∀ u ∈ l.map hvN, u.oneCell' = true := by
  intro u hu
  obtain ⟨x, _, rfl⟩ := List.mem_map.1 hu
  rfl
def tVers (a : Option Addr) (n cap : Nat) (l : List VerV) : Thing := tSl a n cap 40 4 (l.flatMap verL)
def tHds (a : Option Addr) (n cap : Nat) (l : List Nat) : Thing := tSl a n cap 32 1 (l.map hvN)
/-- What stands in memory while a stack is put up: the engine, the list, the records. -/
def StkB (W : World) (x : Nat) (c : CfgV) (vl N : Nat) (t : US) (al : Option Addr) (nl cl : Nat) (l : List VerV) (ar : Option Addr) (nr cr : Nat) (hs : List Nat) (Rs : List Thing) (w : World) : Prop :=
  Bag W (tUn x c vl N t :: tVers al nl cl l :: tHds ar nr cr hs.reverse :: Rs) w
structure Stacked (vl N : Nat) (t : US) (L : List Nat) (k : Nat) (row : Nat) (v : VerV) (us : List VerV) (hs : List Nat) (top : Nat) (t' : US) : Prop where
  st : St vl (N + k) t' (hs ++ row :: L)
  stk : Stk vl t'.f 0 row v us hs top
  other : ∀ y, y ≠ row → y ∉ hs → t'.f y = t.f y
  fresh : ∀ y, y = row ∨ y ∈ hs → t.f y = none
  len : us.length + 1 = k
  rowL : row < 18446744073709551616
theorem Stacked.first {vl N : Nat} {t : US} {L : List Nat} (h : St vl N t L) (hN : N < 4096) {v : VerV} (hv : v.Fit vl) : ∃ row t', t.mkr vl v 0 = (row, 0, t') ∧ Stacked vl N t L 1 row v [] [] 0 t' := by
  obtain ⟨row, t', e, m, s, k⟩ := h.first hN hv
  refine ⟨row, t', e, s, k, fun y hy _ => by rw [m.f, updU_other _ _ hy], fun y hy => ?_, rfl, m.lt⟩
  rcases hy with rfl | hy
  · exact m.fresh
  · simp at hy
theorem Stacked.push {vl N k row top : Nat} {t t' : US} {L hs : List Nat} {v u : VerV} {us : List VerV} (h : Stacked vl N t L k row v us hs top t') (hN : N + k < 4096) (hu : u.Fit vl) :
    ∃ hd t1 t2, t'.save vl v top u = (hd, 0, t1) ∧ t1.change vl row u hd = (0, t2) ∧ hd < 18446744073709551616 ∧ Stacked vl N t L (k + 1) row u (v :: us) (hd :: hs) hd t2 := by
  obtain ⟨hd, t1, t2, e1, e2, fr, hl, _, s2, k2, ho, _⟩ := h.st.push hN h.stk hu
  have hr : hd ≠ row := fun e => by rw [e, h.stk.row] at fr; cases fr
  have hh : hd ∉ hs := fun e => by obtain ⟨n, h1, _⟩ := h.stk.chn.live hd e; rw [fr] at h1; cases h1
  refine ⟨hd, t1, t2, e1, e2, hl, s2, k2, fun y h1 h2 => ?_, fun y hy => ?_, by have := h.len; rw [List.length_cons]; omega, h.rowL⟩
  · rw [List.mem_cons, not_or] at h2
    rw [ho y h1 h2.1, h.other y h1 h2.2]
  · rcases hy with rfl | hy
    · exact h.fresh _ (Or.inl rfl)
    · rcases List.mem_cons.1 hy with rfl | hy
      · rw [← h.other y hr hh]; exact fr
      · exact h.fresh y (Or.inr hy)
theorem stk_start {W w : World} {x N vl : Nat} {c : CfgV} {t : US} {Rs : List Thing} {X : Thing} (h : Bag W (X :: tUn x c vl N t :: Rs) w) (u : VerV) : StkB W x c vl N t (some ⟨w.heap.size, 0, none⟩) 1 1 [u] none 0 0 [] Rs (w.alloc (.cells u.cells 40)) := by
  have q0 := (h.tail.addNil 32 1).front
  have q1 := (q0.add (T := tVers (some ⟨w.heap.size, 0, none⟩) 1 1 [u]) (F := blk (some ⟨w.heap.size, 0, none⟩)) (Fr.alloc none_ w (.cells ([u].flatMap verL).toArray 40)) ⟨SlAt.builtV w [u] (by simp), rfl⟩ (fun k hk => by rw [blk_some] at hk; omega)).front
  exact q1.rot3
/-- A list in memory: one more ahead of it. -/
theorem stk_ahead {W w w' : World} {x N vl n m cl cr cl' : Nat} {c : CfgV} {t : US} {Rs : List Thing} {X : Thing} {al ar al' : Option Addr} {l : List VerV} {hs : List Nat} {u : VerV} (h : Bag W (X :: tUn x c vl N t :: tVers al n cl l :: tHds ar m cr hs.reverse :: Rs) w)
    (hs' : SlAt w' al' (1 + n) cl' 40 4 (verL u ++ l.flatMap verL)) (f : Fr (blk (some ⟨w.heap.size, 0, none⟩)) (w.alloc (.cells u.cells 40)) w') (hb : ∀ k, blk al' k → blk (some ⟨w.heap.size, 0, none⟩) k ∨ (w.alloc (.cells u.cells 40)).heap.size ≤ k) :
    StkB W x c vl N t al' (n + 1) cl' (u :: l) ar m cr hs Rs w' := by
  have q1 := (h.add (T := tVers (some ⟨w.heap.size, 0, none⟩) 1 1 [u]) (F := blk (some ⟨w.heap.size, 0, none⟩)) (Fr.alloc none_ w (.cells ([u].flatMap verL).toArray 40)) ⟨SlAt.builtV w [u] (by simp), rfl⟩ (fun k hk => by rw [blk_some] at hk; omega)).front
  have q2 := q1.appended (i := 0) (n := 1) (xs := [u].flatMap verL) rfl hs' f hb
  have e : (1 + n) = n + 1 := by omega
  rw [e] at q2
  exact Bag.pick5 (show Bag W (tVers al' (n + 1) cl' (u :: l) :: X :: tUn x c vl N t :: tVers al n cl l :: tHds ar m cr hs.reverse :: Rs) w' from q2)
section
variable {W w : World} {x N vl : Nat} {c : CfgV} {t : US} {L : List Nat} {Rs : List Thing}
set_option maxHeartbeats 8000000 in
theorem stack_any (h : Bag W (tUn x c vl N t :: Rs) w) (hst : St vl N t L) (hvl : vl ≤ 256) (hN : N ≤ 200) (a : Option Addr) (cap : Nat) (l : List VerV) (hl : ∀ w', Fr none_ W w' → VersIn w' a l) (hb : l.length ≤ 100) (hb0 : 0 < l.length) :
    Calls Tryz.prog 11 #[.pointer (some ⟨x, 0, none⟩), .slice a l.length cap, .int .i64 (vl : Int)] w fun e w' => ∃ (row : Nat) (v : VerV) (us : List VerV) (hs : List Nat) (top : Nat) (t' : US) (al : Option Addr) (cl : Nat) (ar : Option Addr) (cr : Nat),
      e = .returned (.tuple #[.int .u64 (row : Int), .slice ar hs.length cr, .slice al l.length cl, .bool true]) ∧ Stacked vl N t L l.length row v us hs top t' ∧ StkB W x c vl (N + l.length) t' al l.length cl (v :: us) ar hs.length cr hs Rs w' := by
  obtain ⟨v0, hv0⟩ : ∃ v0, l[0]? = some v0 := ⟨_, List.getElem?_eq_getElem hb0⟩
  obtain ⟨g, o, rfl, hgl, hc⟩ := (hl _ h.fr).at_.get hv0
  have p0 : w.cell? ⟨g, o, none⟩ = some (.int .i64 v0.wr) := by have := hc 0 v0 hv0 0 _ rfl; simpa using this
  have p1 : w.cell? ⟨g, o + 1, none⟩ = some (.int .i64 v0.ts) := by have := hc 0 v0 hv0 1 _ rfl; simpa using this
  have p2 : w.cell? ⟨g, o + 2, none⟩ = some (.bool v0.tomb) := by have := hc 0 v0 hv0 2 _ rfl; simpa using this
  have p3 : w.cell? ⟨g, o + 3, none⟩ = some (.string v0.val) := by have := hc 0 v0 hv0 3 _ rfl; simpa using this
  have hsz := ((hl _ h.fr).ok v0 (List.mem_of_getElem? hv0)).sz
  have hpos : (0 : Int) < (l.length : Int) := by omega
  have HFIT := Lib.hid (fun w' => fit_any w' v0 hsz vl hvl)
  obtain ⟨u0, hu0⟩ : ∃ u0, u0 = v0.fitted vl := ⟨_, rfl⟩
  have hfit : u0.Fit vl := hu0 ▸ v0.fitted_fit vl
  rw [← hu0] at HFIT
  have HS := Lib.hid (Stacked.first hst (by omega) hfit)
  have HF := Lib.hid hfit
  have HL := Lib.hid hl
  have H := Lib.hid h
  unfold VerV.cells at HFIT
  clear hc hsz hu0 hfit hst hl h hv0
  go_enter Tryz.func11, Tryz.ntmps11
  go_wp2_with fail
  refine (HFIT.out _).mono ?_
  rintro e w1 ⟨rfl, f⟩
  have H1 := Lib.hid ((H.out.keep0 f).addRow u0.cells 40).front
  have c0 : (w1.alloc (.cells u0.cells 40)).cell? ⟨w1.heap.size, 0, none⟩ = some (.int .i64 u0.wr) := (H1.out.row (i := 0) rfl).cell 0
  obtain ⟨row, t1, e1, hs1⟩ := HS.out
  obtain ⟨d1, d2, d3⟩ := (verOf_row (H1.out.row (i := 0) rfl)).2
  have HM := Lib.hid (bu_mk H1.out (i := 1) (nx := 0) rfl (by unfold big; omega) u0 (by have := (VerV.umay_iff.1 HF.out.may).2.1; omega) HF.out.wr (by omega) e1)
  unfold VerV.cells at HM c0 d1 d2 d3
  have HS1 := Lib.hid hs1
  clear f e1 hs1
  go_wp2_with fail
  refine HM.out.mono ?_
  rintro e w2 ⟨rfl, h2⟩
  have h2 : Bag W (tRow w1.heap.size u0.cells 40 :: tUn x c vl (N + 1) t1 :: Rs) w2 := h2
  obtain ⟨c0, c1, c2, c3⟩ := verOf_row (h2.row (i := 0) rfl)
  have H3 := Lib.hid (stk_start h2 u0)
  unfold VerV.cells at H3
  have HSZ := Lib.hid (show l.length ≤ 100 from hb)
  clear h2 H1
  go_wp2_with fail
  go_loopw [13, 14, 15, 16] (fun ls rs tp iv wr => ∃ (k m : Nat) (v : VerV) (us : List VerV) (hs : List Nat) (top : Nat) (t' : US) (al : Option Addr) (cl : Nat) (ar : Option Addr) (cr : Nat), Hid (k ≤ l.length) ∧ Hid (m + 1 = k) ∧ ls = .slice al k cl ∧ rs = .slice ar m cr ∧ tp = .int .u64 (top : Int) ∧ iv = .int .i64 (k : Int) ∧ Hid (Stacked vl N t L k row v us hs top t') ∧ Hid (StkB W x c vl (N + k) t' al k cl (v :: us) ar m cr hs Rs wr)) (fun _ _ _ iv _ => l.length - (intOf iv).toNat)
  case atStart => exact ⟨1, 0, u0, [], [], 0, t1, some ⟨w2.heap.size, 0, none⟩, 1, none, 0, hb0, rfl, rfl, rfl, rfl, rfl, HS1.out, H3.out⟩
  case round =>
    obtain ⟨k, m, v, us, hs, top, t', al, cl, ar, cr, hk, hm, rfl, rfl, rfl, rfl, hsk, hbg⟩ := hrel
    clear HM H3 HS1 HS HFIT c0 c1 c2 c3 d1 d2 d3 p0 p1 p2 p3
    by_cases hlt : k < l.length
    · obtain ⟨q0, hq0⟩ : ∃ q0, l[k]? = some q0 := ⟨_, List.getElem?_eq_getElem hlt⟩
      have hbg0 : Fr none_ W wr := Bag.fr hbg.out
      obtain ⟨g2, o2, hg2, hgl2, hc⟩ := (HL.out _ hbg0).at_.get hq0
      cases hg2
      have p0 : wr.cell? ⟨g, o + k * 4, none⟩ = some (.int .i64 q0.wr) := hc k q0 hq0 0 _ rfl
      have p1 : wr.cell? ⟨g, o + k * 4 + 1, none⟩ = some (.int .i64 q0.ts) := hc k q0 hq0 1 _ rfl
      have p2 : wr.cell? ⟨g, o + k * 4 + 2, none⟩ = some (.bool q0.tomb) := hc k q0 hq0 2 _ rfl
      have p3 : wr.cell? ⟨g, o + k * 4 + 3, none⟩ = some (.string q0.val) := hc k q0 hq0 3 _ rfl
      have hsz := ((HL.out _ hbg0).ok q0 (List.mem_of_getElem? hq0)).sz
      have HFIT := Lib.hid (fun w' => fit_any w' q0 hsz vl hvl)
      obtain ⟨u, hu⟩ : ∃ u, u = q0.fitted vl := ⟨_, rfl⟩
      have hfit : u.Fit vl := hu ▸ q0.fitted_fit vl
      rw [← hu] at HFIT
      have HF2 := Lib.hid hfit
      obtain ⟨hd, t2, t3, e2, e3, hdl, hsk2⟩ := hsk.out.push (by have := HSZ.out; omega) hfit
      have HE2 := Lib.hid e2
      have HE3 := Lib.hid e3
      have HSK2 := Lib.hid hsk2
      have hkb : k ≤ 100 := by have := HSZ.out; omega
      have hmb : m ≤ 100 := by have := HSZ.out; have := hm.out; omega
      have hkp : 0 < k := by have := hm.out; omega
      obtain ⟨ga, rfl⟩ : ∃ ga, al = some ⟨ga, 0, none⟩ := (Bag.sl (i := 1) hbg.out rfl).isAddr (by omega)
      have HFV := Lib.hid hsk.out.stk.fit
      unfold VerV.cells at HFIT
      clear hc hsz hu hfit hq0 hbg0 e2 e3 hsk2
      go_wp2_with fail
      refine (HFIT.out _).mono ?_
      rintro e w3 ⟨rfl, f⟩
      have hb3 := ((Bag.keep0 hbg.out f).addRow u.cells 40).front
      unfold VerV.cells at hb3
      have c0 : (w3.alloc (.cells #[.int .i64 u.wr, .int .i64 u.ts, .bool u.tomb, .string u.val] 40)).cell? ⟨w3.heap.size, 0, none⟩ = some (.int .i64 u.wr) := (hb3.row (i := 0) rfl).cell 0
      have c1 : (w3.alloc (.cells #[.int .i64 u.wr, .int .i64 u.ts, .bool u.tomb, .string u.val] 40)).cell? ⟨w3.heap.size, 1, none⟩ = some (.int .i64 u.ts) := (hb3.row (i := 0) rfl).cell 1
      have c2 : (w3.alloc (.cells #[.int .i64 u.wr, .int .i64 u.ts, .bool u.tomb, .string u.val] 40)).cell? ⟨w3.heap.size, 2, none⟩ = some (.bool u.tomb) := (hb3.row (i := 0) rfl).cell 2
      have c3 : (w3.alloc (.cells #[.int .i64 u.wr, .int .i64 u.ts, .bool u.tomb, .string u.val] 40)).cell? ⟨w3.heap.size, 3, none⟩ = some (.string u.val) := (hb3.row (i := 0) rfl).cell 3
      have hsl := hb3.sl (i := 2) rfl
      have d0 : (w3.alloc (.cells #[.int .i64 u.wr, .int .i64 u.ts, .bool u.tomb, .string u.val] 40)).cell? ⟨ga, 0, none⟩ = some (.int .i64 v.wr) := hsl.cell (i := 0) rfl
      have d1 : (w3.alloc (.cells #[.int .i64 u.wr, .int .i64 u.ts, .bool u.tomb, .string u.val] 40)).cell? ⟨ga, 1, none⟩ = some (.int .i64 v.ts) := hsl.cell (i := 1) rfl
      have d2 : (w3.alloc (.cells #[.int .i64 u.wr, .int .i64 u.ts, .bool u.tomb, .string u.val] 40)).cell? ⟨ga, 2, none⟩ = some (.bool v.tomb) := hsl.cell (i := 2) rfl
      have d3 : (w3.alloc (.cells #[.int .i64 u.wr, .int .i64 u.ts, .bool u.tomb, .string u.val] 40)).cell? ⟨ga, 3, none⟩ = some (.string v.val) := hsl.cell (i := 3) rfl
      have H4 := Lib.hid hb3
      have hkp2 : (0 : Int) < (k : Int) := by omega
      clear f hb3 hsl p0 p1 p2 p3
      go_upto_region 12 with fail
      generalize w3.alloc (.cells #[.int .i64 u.wr, .int .i64 u.ts, .bool u.tomb, .string u.val] 40) = w4 at *
      generalize w3.heap.size = b17 at *
      have HS := Lib.hid (fun w' (f : Fr none_ w4 w') => bu_save (H4.out.keep0 f) (i := 1) rfl (by have := HSZ.out; unfold big; omega) v u (by have := (VerV.umay_iff.1 HFV.out.may).2.1; omega) (by have := (VerV.umay_iff.1 HF2.out.may).2.1; omega) HFV.out.wr HF2.out.wr (hsk.out.st.top_lt hsk.out.stk) HE2.out)
      unfold VerV.cells at HS
      have HC := Lib.hid (fun (w' : World) (N' : Nat) (t' : US) (f : Bag W (tRow b17 #[.int .i64 u.wr, .int .i64 u.ts, .bool u.tomb, .string u.val] 40 :: tUn x c vl N' t' :: tVers (some ⟨ga, 0, none⟩) k cl (v :: us) :: tHds ar m cr hs.reverse :: Rs) w') => show (w'.cell? ⟨b17, 0, none⟩ = some (.int .i64 u.wr) ∧ w'.cell? ⟨b17, 1, none⟩ = some (.int .i64 u.ts) ∧ w'.cell? ⟨b17, 2, none⟩ = some (.bool u.tomb) ∧ w'.cell? ⟨b17, 3, none⟩ = some (.string u.val) ∧ w'.cell? ⟨ga, 0, none⟩ = some (.int .i64 v.wr) ∧ w'.cell? ⟨ga, 1, none⟩ = some (.int .i64 v.ts) ∧ w'.cell? ⟨ga, 2, none⟩ = some (.bool v.tomb) ∧ w'.cell? ⟨ga, 3, none⟩ = some (.string v.val)) from
        ⟨(f.row (i := 0) rfl).cell 0, (f.row (i := 0) rfl).cell 1, (f.row (i := 0) rfl).cell 2, (f.row (i := 0) rfl).cell 3, (f.sl (i := 2) rfl).cell (i := 0) rfl, (f.sl (i := 2) rfl).cell (i := 1) rfl, (f.sl (i := 2) rfl).cell (i := 2) rfl, (f.sl (i := 2) rfl).cell (i := 3) rfl⟩)
      go_region_held3 (fun w' => w'.cell? ⟨b17, 0, none⟩ = some (.int .i64 u.wr) ∧ w'.cell? ⟨b17, 1, none⟩ = some (.int .i64 u.ts) ∧ w'.cell? ⟨b17, 2, none⟩ = some (.bool u.tomb) ∧ w'.cell? ⟨b17, 3, none⟩ = some (.string u.val) ∧ w'.cell? ⟨ga, 0, none⟩ = some (.int .i64 v.wr) ∧ w'.cell? ⟨ga, 1, none⟩ = some (.int .i64 v.ts) ∧ w'.cell? ⟨ga, 2, none⟩ = some (.bool v.tomb) ∧ w'.cell? ⟨ga, 3, none⟩ = some (.string v.val))
        (first | exact HC.out _ _ _ h5 | exact HC.out _ _ _ (H4.out.keep0 (Fr.drew none_ _)) | go_keep)
        (first
          | (go_at_call 24; refine (HS.out _ (Fr.drew none_ _)).mono ?_; rintro e w5 ⟨rfl, h5⟩))
      rcases HC.out _ _ _ h5 with ⟨e0, e1, e2, e3, _, _, _, _⟩
      have H5 := Lib.hid (show Bag W (tRow b17 #[.int .i64 u.wr, .int .i64 u.ts, .bool u.tomb, .string u.val] 40 :: tUn x c vl (N + k + 1) t2 :: tVers (some ⟨ga, 0, none⟩) k cl (v :: us) :: tHds ar m cr hs.reverse :: Rs) w5 from h5)
      have HCH := Lib.hid (bu_change H5.out (i := 1) rfl u (by have := (VerV.umay_iff.1 HF2.out.may).2.1; omega) HF2.out.wr hsk.out.rowL hdl HE3.out)
      unfold VerV.cells at HCH
      clear h5 c0 c1 c2 c3 d0 d1 d2 d3 HS
      go_wp2_with fail
      refine HCH.out.mono ?_
      rintro e w6 ⟨rfl, h6⟩
      have H6 := Lib.hid (show Bag W (tRow b17 #[.int .i64 u.wr, .int .i64 u.ts, .bool u.tomb, .string u.val] 40 :: tUn x c vl (N + k + 1) t3 :: tVers (some ⟨ga, 0, none⟩) k cl (v :: us) :: tHds ar m cr hs.reverse :: Rs) w6 from h6)
      have HSA := Lib.hid ((H6.out.sl (i := 3) rfl).kept0 (Fr.alloc none_ w6 (.cells [hvN hd].toArray 32)))
      have RA := Lib.hid (new_cells w6 [hvN hd] 32)
      have HVE := Lib.hid (show [hvN hd].toArray = #[.int .u64 (hd : Int)] from rfl)
      clear h6 e0 e1 e2 e3
      go_wp2_with (at_builtin; refine Stop.mk ?_)
      show wpList _ _ _ _ _ _
      rw [← HVE.out]
      refine wpAppend rfl _ _ _ rfl 32 (.int .u64 0) 1 8 Tryz.underlying33 handleInfo rfl HSA.out rfl ⟨w6.heap.size, 0, none⟩ 1 1 [hvN hd] rfl rfl RA.out (by intro u hu; simp at hu; subst hu; rfl) (by omega) (by unfold maxLen; omega) (by omega) ?_
      intro ar' cr' w7 hs7 f7 hb7
      have h7 := H6.out.appendedNew (i := 3) rfl hs7 f7 hb7
      have h7 : Bag W (tRow b17 #[.int .i64 u.wr, .int .i64 u.ts, .bool u.tomb, .string u.val] 40 :: tUn x c vl (N + k + 1) t3 :: tVers (some ⟨ga, 0, none⟩) k cl (v :: us) :: tHds ar' (m + 1) cr' (hd :: hs).reverse :: Rs) w7 := by
        unfold tHds
        rw [List.reverse_cons, List.map_append]
        exact h7
      have H7 := Lib.hid h7
      rcases verOf_row (v := u) (h7.row (i := 0) rfl) with ⟨c0, c1, c2, c3⟩
      have HSB := Lib.hid (SlAt.builtV w7 [u] (by simp))
      have HLS := Lib.hid (((h7.sl (i := 2) rfl).ls (cells := verL) (sz := 4) (fun _ => rfl) (show k = (v :: us).length from hsk.out.len.symm)).kept0 (Fr.alloc none_ w7 (.cells u.cells 40)))
      have HVU := Lib.hid (show u.cells = #[.int .i64 u.wr, .int .i64 u.ts, .bool u.tomb, .string u.val] from rfl)
      clear hs7 f7 hb7 h7
      go_wp2_with (at_builtin; refine Stop.mk ?_)
      show wpList _ _ _ _ _ _
      rw [← HVU.out]
      refine wpAppendLn rfl _ _ _ rfl 40 (.agg #[.int .i64 0, .int .i64 0, .bool false, .string ⟨#[]⟩]) 4 40 Tryz.underlying24 verInfo rfl HSB.out HLS.out (show k = (v :: us).length from hsk.out.len.symm) (fun _ => rfl) verL_cell rfl rfl (by unfold maxLen; simp; omega) (by simp; omega) ?_
      intro al' n' cl' w8 hn8 hs8 f8 hb8
      have H8 := Lib.hid (stk_ahead H7.out (u := u) (by have := hs8; rw [hn8.out] at this; simpa using this) f8 hb8)
      have HN8 := Lib.hid (show n' = k + 1 by rw [hn8.out, List.length_singleton]; omega)
      clear hs8 f8 hb8 hn8 c0 c1 c2 c3
      go_wp2_with fail
      go_roundw
      case rel => exact ⟨k + 1, m + 1, u, v :: us, hd :: hs, hd, t3, al', cl', ar', cr', hlt, congrArg (· + 1) hm.out, by rw [HN8.out], rfl, rfl, by go_num, HSK2.out, H8.out⟩
      case measure => simp [intOf]; omega
    · have hke : k = l.length := by have := hk.out; omega
      subst hke
      have hml : m = hs.length := by have := hm.out; have := hsk.out.len; have := hsk.out.stk.chn.len; omega
      subst hml
      go_wp2_with fail
      refine bodyPost_ret (v := .tuple #[.int .u64 (row : Int), .slice ar hs.length cr, .slice al l.length cl, .bool true]) (by simp [results, Tryz.results11, go_sem]) rfl ?_
      exact ⟨row, v, us, hs, top, t', al, cl, ar, cr, rfl, hsk.out, hbg.out⟩
end
theorem stack_n {W w : World} {x N vl : Nat} {c : CfgV} {t : US} {L : List Nat} {Rs : List Thing} (h : Bag W (tUn x c vl N t :: Rs) w) (hst : St vl N t L) (hvl : vl ≤ 256) (hN : N ≤ 200) (a : Option Addr) (cap : Nat) (l : List VerV) (hl : ∀ w', Fr none_ W w' → VersIn w' a l) (n : Nat) (hn : n = l.length) (hb : n ≤ 100) (hb0 : 0 < n) :
    Calls Tryz.prog 11 #[.pointer (some ⟨x, 0, none⟩), .slice a n cap, .int .i64 (vl : Int)] w fun e w' => ∃ (row : Nat) (v : VerV) (us : List VerV) (hs : List Nat) (top : Nat) (t' : US) (al : Option Addr) (cl : Nat) (ar : Option Addr) (cr : Nat),
      e = .returned (.tuple #[.int .u64 (row : Int), .slice ar hs.length cr, .slice al n cl, .bool true]) ∧ Stacked vl N t L n row v us hs top t' ∧ StkB W x c vl (N + n) t' al n cl (v :: us) ar hs.length cr hs Rs w' := by
  subst hn
  exact stack_any h hst hvl hN a cap l hl hb hb0
end Go.Proofs.YtckkccnebjacdaaGreat
