/-
  UndoBack: what is put on a row is taken off again. Of states alone; a list in memory of which less and less is left.
-/
import Derived.Test.YtckkccnebjacdaaGreatUnStack
import Derived.Test.YtckkccnebjacdaaGreatMgUnSorted
namespace Go.Proofs.YtckkccnebjacdaaGreat
open Go.RowKit
set_option linter.unusedVariables false
set_option linter.unusedSimpArgs false
set_option maxRecDepth 100000

theorem VerV.Fit.cells {vl : Nat} {u : VerV} (h : u.Fit vl) (nx : Nat) : ovCells (some (⟨u.wr.toNat, u.tomb, u.val⟩, nx)) = u.cells := by
  have := h.ver
  show (OV.mk u.wr.toNat u.tomb u.val).cells = _
  conv => rhs; rw [← this]
  rfl
def Back (vl N : Nat) (t : US) (row : Nat) (v : VerV) (us : List VerV) : Prop := ∃ hs top, St vl N t (hs ++ [row]) ∧ Stk vl t.f 0 row v us hs top
section
variable {vl N row : Nat} {t : US} {v u : VerV} {us : List VerV}
theorem Back.start {k : Nat} {hs : List Nat} {top : Nat} {t' : US} (h : Stacked vl N t [] k row v us hs top t') : Back vl (N + k) t' row v us := ⟨hs, top, h.st, h.stk⟩
theorem Back.list (h : Back vl N t row v us) (hvl : vl ≤ 256) : (t.list row).map OV.ver = v :: us := by
  obtain ⟨hs, top, s, k⟩ := h
  exact s.list hvl k s.live.zero
theorem Back.used (h : Back vl N t row v us) : t.s.used = us.length + 1 := by
  obtain ⟨hs, top, s, k⟩ := h
  rw [s.live.used, List.length_append, k.chn.len]; rfl
theorem Back.fit (h : Back vl N t row v us) : v.Fit vl := by obtain ⟨hs, top, s, k⟩ := h; exact k.fit
theorem Back.row_lt (h : Back vl N t row v us) : row < 18446744073709551616 := by obtain ⟨hs, top, s, k⟩ := h; exact s.row_lt k
theorem Back.keys (h : Back vl N t row v []) {ks : List Int} (hk : Keys t ks) : ks = [] := by
  obtain ⟨hs, top, s, k⟩ := h
  have hl : hs = [] := List.length_eq_zero_iff.1 k.chn.len.symm
  subst hl
  cases ks with
  | nil => rfl
  | cons a l =>
    have h1 := (hk.mem a).1 (by simp)
    obtain ⟨y, hy⟩ := List.exists_mem_of_ne_nil _ h1
    obtain ⟨n, h2, h3, _⟩ := s.is_.segf a y hy
    have h4 := (s.live.mem y).1 (by rw [h2]; simp)
    have h4 : y = row := by simpa using h4
    subst h4
    rw [k.row] at h2; cases h2; cases h3
theorem Back.pop (h : Back vl N t row v (u :: us)) (hvl : vl ≤ 256) : ∃ hd nx t1 t2, t.row row = some (⟨v.wr.toNat, v.tomb, v.val⟩, hd) ∧ t.record hd v.val.data.toList = some (⟨u.wr.toNat, u.tomb, u.val⟩, nx) ∧ t.change vl row u nx = (0, t1) ∧ t1.free hd = (0, t2) ∧ hd < 18446744073709551616 ∧ nx < 18446744073709551616 ∧ u.Fit vl ∧ Back vl N t2 row u us := by
  obtain ⟨hs, top, s, k⟩ := h
  obtain ⟨hd, hs', rfl⟩ : ∃ a l, hs = a :: l := by
    have := k.chn.len
    cases hs with
    | nil => cases this
    | cons a l => exact ⟨a, l, rfl⟩
  obtain ⟨e, nx, hf, hc⟩ := k.chn
  subst e
  have hu := k.fits u (by simp)
  have htop : top ∈ top :: hs' ++ [row] := by simp
  have hok := s.is_.ok _ _ hf
  have hnx : nx < 18446744073709551616 := hok.nx
  obtain ⟨t1, e1, f1, _, s1⟩ := s.change k.row (s.row_lt k) hu hnx
  have hne : top ≠ row := fun e => k.not_row (by rw [← e]; simp)
  have hlt := (s.live.pos top htop).2
  have hf1 : t1.f top = some (saveUV u nx v) := by rw [f1, updU_other _ _ hne]; exact hf
  have s2 := s1.free hlt
  have hnd := k.nd
  have hn1 : top ∉ hs' := (List.nodup_cons.1 hnd).1
  have hfil : (top :: hs' ++ [row]).filter (fun x => decide (x ≠ top)) = hs' ++ [row] := by
    rw [List.cons_append, List.filter_cons, if_neg (by simp)]
    exact List.filter_eq_self.2 (fun y hy => by
      rcases List.mem_append.1 hy with q | q
      · exact decide_eq_true (fun e => hn1 (by rw [← e]; exact q))
      · exact decide_eq_true (fun e => hne (by rw [← e]; simpa using q)))
  rw [hfil] at s2
  refine ⟨top, nx, t1, (t1.free top).2, ?_, saveRec hvl hu.may k.fit.may hf, e1, ?_, hlt, hnx, hu, hs', nx, s2, ?_⟩
  · unfold US.row; rw [k.row]; rfl
  · have : (t1.free top).1 = 0 := by unfold US.free; rw [hf1]
    rw [← this]
  · have hr : row ∉ hs' := fun e => k.not_row (by simp [e])
    rw [free_f, f1]
    refine ⟨by rw [updU_other _ _ (fun e => hne e.symm), updU_same], hc.keep (fun y hy => ?_), hu, fun x hx => k.fits x (by simp [hx]), (List.nodup_cons.1 hnd).2⟩
    rw [updU_other _ _ (fun e => hn1 (by rw [← e]; exact hy)), updU_other _ _ (fun e => hr (by rw [← e]; exact hy))]
end
theorem ver_same (u : VerV) (w : World) : (binOp .neq 40 (.agg #[.int .i64 u.wr, .int .i64 u.ts, .bool u.tomb, .string u.val]) (.agg #[.int .i64 u.wr, .int .i64 u.ts, .bool u.tomb, .string u.val])).run Tryz.prog w = .ok (.bool false) w := by
  rw [ver_ne]
  have : (@decide (u = u) (Classical.propDecidable _)) = true := @decide_eq_true _ (Classical.propDecidable _) rfl
  rw [this]; rfl
/-- A list in memory, wherever it begins. -/
def tLs (a : Option Addr) (l : List VerV) : Thing where
  at_ F w := (LsAt w a 4 verL l ∧ ∀ k, blk a k → k < w.heap.size) ∧ F = blk a
  keep F G w w' h f hn := ⟨⟨h.1.1.kept f (fun k hk => hn k (by rw [h.2]; exact hk)), fun k hk => Nat.lt_of_lt_of_le (h.1.2 k hk) f.size⟩, h.2⟩
  lt F w h k hk := h.1.2 k (by rw [← h.2]; exact hk)
theorem Bag.init {W w : World} {Ts : List Thing} {X : Thing} (h : Bag W (Ts ++ [X]) w) : Bag W Ts w := h.front.tail
theorem Bag.ls {W w : World} {Ts : List Thing} {i : Nat} {a : Option Addr} {l : List VerV} (h : Bag W Ts w) (hi : Ts[i]? = some (tLs a l)) : LsAt w a 4 verL l := by
  obtain ⟨F, h, _⟩ := h.get hi; exact h.1.1
/-- What was built reads as a list. -/
theorem Bag.toLs {W w : World} {Ts : List Thing} {i n cap : Nat} {a : Option Addr} {l : List VerV} (h : Bag W Ts w) (hi : Ts[i]? = some (tVers a n cap l)) (hn : n = l.length) : Bag W (Ts.set i (tLs a l)) w :=
  h.turn hi (fun F hF => ⟨blk a, ⟨⟨hF.1.ls (cells := verL) (sz := 4) (fun _ => rfl) hn, fun k hk => hF.1.lt k hk⟩, rfl⟩, Fr.refl _ _, fun k hk => Or.inl (by rw [hF.2]; exact hk)⟩)
/-- Less of it. -/
theorem Bag.lsLess {W w : World} {Ts : List Thing} {i : Nat} {a a' : Option Addr} {l l' : List VerV} (h : Bag W Ts w) (hi : Ts[i]? = some (tLs a l)) (hl : LsAt w a' 4 verL l') (hb : ∀ k, blk a' k → blk a k) : Bag W (Ts.set i (tLs a' l')) w :=
  h.turn hi (fun F hF => ⟨blk a', ⟨⟨hl, fun k hk => hF.1.2 k (hb k hk)⟩, rfl⟩, Fr.refl _ _, fun k hk => Or.inl (by rw [hF.2]; exact hb k hk)⟩)
section
variable {P : Program} {ops : Array Oper} {Q : Exit → Act → World → Prop} {o : Oper} {rest : List Oper} {a : Act} {w : World}
theorem wpSliceLc {α : Type} {cells : α → List Value} (hg : Region.wanted o (yielded ops a.tmps) = true) (x lo : Operand) (t : TypeId) (hop : o.op = Op.slice t x (some lo) none none) (e : TypeId) (size : Nat) (ht : P.underlying t = some (.slice e)) (hs : (P.info? e).map (·.size) = some size)
    {sa : Option Addr} {n c i : Nat} {kl : IntKind} (hx : a.eval x = .slice sa n c) (hlo : a.eval lo = .int kl (i : Int)) (hi : i ≤ n) (hc : n ≤ c) {l : List α} (hn : n = l.length) (hl : LsAt w sa size cells l)
    (hK : ∀ sa' n' c', Hid (n' = n - i) → Hid (c' = c - i) → LsAt w sa' size cells (l.drop i) → (∀ k, blk sa' k → blk sa k) → wpList P ops Q rest (a.put o.dst (.slice sa' n' c')) w) : wpList P ops Q (o :: rest) a w := by
  refine wpList_go hg fun K' hK' => ?_
  obtain ⟨inf, hinf, hsz⟩ := Option.map_eq_some_iff.1 hs
  have he : P.elem t = e := by simp [Program.elem, ht]
  have hrun : (Instr.sliceAt t (.slice sa n c) (some (.int kl (i : Int))) none none).run P w = .ok (.slice (if c = i then sa else sa.map (·.add (i * size))) (n - i) (c - i)) w := by
    rw [run_sliceAt_slice w t _ _ _ _ (by rw [ht, he]), run_slice_l w t sa n c (by rw [ht, he]) kl (i : Int) (by omega) (by omega), he]
    simp [sizeOf, typeInfo, hinf, hsz, sliced]
  unfold Oper.wp
  simp only [execOp, hop, hx, hlo, Option.map_some, Option.map_none]
  simp [hrun, Result.andThen]
  exact hK' _ _ (hK _ _ _ (Lib.hid rfl) (Lib.hid rfl) (hl.dropN i c (fun e => by omega)) blk_cut)
end
theorem bu_row {W w : World} {Ts : List Thing} {i x N vl : Nat} {c : CfgV} {t : US} (h : Bag W Ts w) (hi : Ts[i]? = some (tUn x c vl N t)) {hd : Nat} (hh : hd < 18446744073709551616) {o : Option (OV × Nat)} (ho : t.row hd = o) : Calls Tryz.prog 15 #[.pointer (some ⟨x, 0, none⟩), .int .u64 (hd : Int)] w fun e w' => e = .returned (.tuple #[.agg (ovCells o), .int .u64 (ovNx o : Int), .bool o.isSome]) ∧ Fr none_ w w' := by
  subst ho; obtain ⟨F, hc⟩ := h.un hi; exact un_row hc hh
end Go.Proofs.YtckkccnebjacdaaGreat
