/-
  The reference of layer 3: what a store into one of its rows, or of a row into the struct, leaves (plain).
-/
import Derived.Test.YtdbnopfpopeefaaRp2
import Derived.Test.YtdbnopfpopeefaaAppendS
namespace Go.Proofs.Ytdbnopfpopeefaa
open Go.RowKit
set_option linter.unusedVariables false
set_option linter.unusedSimpArgs false
set_option maxRecDepth 100000

/-- The struct at x, of three rows, whatever these hold. -/
structure RR (w : World) (x : Nat) (slot : Nat) (ba : Option Addr) (bn bc : Nat) (Bv : List Value) (ua : Option Addr) (un uc : Nat) (Uv : List Value) (ka : Option Addr) (kn kc : Nat) (Kv : List Value) : Prop where
  row : Row w x #[.int .i64 (slot : Int), .slice ba bn bc, .slice ua un uc, .slice ka kn kc] 62
  bs : SlAt w ba bn bc 9 1 Bv
  us : SlAt w ua un uc 4 1 Uv
  ks : SlAt w ka kn kc 3 1 Kv
  xb : ¬ blk ba x
  xu : ¬ blk ua x
  xk : ¬ blk ka x
  bu : ∀ k, blk ba k → ¬ blk ua k
  bk : ∀ k, blk ba k → ¬ blk ka k
  uk : ∀ k, blk ua k → ¬ blk ka k
section
variable {w w' : World} {x slot bn bc un uc kn kc : Nat} {ba ua ka a' : Option Addr} {Bv Uv Kv xs : List Value} {s : PS} {Bs : List ByteArray} {n' c' : Nat}
theorem RPAt.raw (h : RPAt w x ba ua ka bc uc kc s Bs) : RR w x s.slot ba s.slots.length bc (Bs.map Value.string) ua s.slots.length uc (usesOf s) ka s.back.length kc (s.back.reverse.map intN) :=
  ⟨h.row, h.bs, h.us, h.ks, h.xb, h.xu, h.xk, h.bu, h.bk, h.uk⟩
theorem RR.up (h : RR w x s.slot ba s.slots.length bc (Bs.map Value.string) ua s.slots.length uc (usesOf s) ka s.back.length kc (s.back.reverse.map intN)) (hv : ∀ (k : Nat) (b : List UInt8), s.slots[k]? = some (some b) → Bs[k]? = some (strOf b)) : RPAt w x ba ua ka bc uc kc s Bs :=
  ⟨h.row, h.bs, h.us, h.ks, hv, h.xb, h.xu, h.xk, h.bu, h.bk, h.uk⟩
theorem RR.kept {F : Nat → Prop} (h : RR w x slot ba bn bc Bv ua un uc Uv ka kn kc Kv) (f : Fr F w w') (hF : ∀ k, rown x ba ua ka k → ¬ F k) : RR w' x slot ba bn bc Bv ua un uc Uv ka kn kc Kv :=
  ⟨h.row.kept f (hF x (Or.inl rfl)), h.bs.kept f (fun k hk => hF k (Or.inr (Or.inl hk))), h.us.kept f (fun k hk => hF k (Or.inr (Or.inr (Or.inl hk)))), h.ks.kept f (fun k hk => hF k (Or.inr (Or.inr (Or.inr hk)))), h.xb, h.xu, h.xk, h.bu, h.bk, h.uk⟩
theorem RR.kept0 (h : RR w x slot ba bn bc Bv ua un uc Uv ka kn kc Kv) (f : Fr none_ w w') : RR w' x slot ba bn bc Bv ua un uc Uv ka kn kc Kv := h.kept f (fun _ _ e => e)
theorem RR.c0 (h : RR w x slot ba bn bc Bv ua un uc Uv ka kn kc Kv) : w.cell? ⟨x, 0, none⟩ = some (.int .i64 (slot : Int)) := (h.row.cell 0).trans rfl
theorem RR.c1 (h : RR w x slot ba bn bc Bv ua un uc Uv ka kn kc Kv) : w.cell? ⟨x, 1, none⟩ = some (.slice ba bn bc) := (h.row.cell 1).trans rfl
theorem RR.c2 (h : RR w x slot ba bn bc Bv ua un uc Uv ka kn kc Kv) : w.cell? ⟨x, 2, none⟩ = some (.slice ua un uc) := (h.row.cell 2).trans rfl
theorem RR.c3 (h : RR w x slot ba bn bc Bv ua un uc Uv ka kn kc Kv) : w.cell? ⟨x, 3, none⟩ = some (.slice ka kn kc) := (h.row.cell 3).trans rfl
theorem RR.z (h : RR w x slot ba bn bc Bv ua un uc Uv ka kn kc Kv) (i : Nat) : w.frozen? ⟨x, i, none⟩ = false := h.row.free i
theorem RR.lt (h : RR w x slot ba bn bc Bv ua un uc Uv ka kn kc Kv) : ∀ k, rown x ba ua ka k → k < w.heap.size := by
  intro k hk
  rcases hk with rfl | hk | hk | hk
  · exact h.row.lt
  · exact h.bs.lt k hk
  · exact h.us.lt k hk
  · exact h.ks.lt k hk
theorem RR.u_set {g : Nat} (h : RR w x slot ba bn bc Bv (some ⟨g, 0, none⟩) un uc Uv ka kn kc Kv) (i : Nat) (v : Value) : RR (w.setCell ⟨g, i, none⟩ v) x slot ba bn bc Bv (some ⟨g, 0, none⟩) un uc (Uv.set i v) ka kn kc Kv ∧ Fr (rown x ba (some ⟨g, 0, none⟩) ka) w (w.setCell ⟨g, i, none⟩ v) := by
  have f : Fr (one g) w (w.setCell ⟨g, i, none⟩ v) := Fr.setCell _ _ _ _ (fun _ => rfl)
  have hg : ∀ k, one g k → blk (some ⟨g, 0, none⟩) k := fun k e => (blk_some g 0 k).2 e.symm
  exact ⟨⟨h.row.kept f (fun e => h.xu (hg _ e)), h.bs.kept f (fun k hk e => h.bu k hk (hg _ e)), h.us.setAt i v, h.ks.kept f (fun k hk e => h.uk k (hg _ e) hk), h.xb, h.xu, h.xk, h.bu, h.bk, h.uk⟩, f.mono fun k _ e => Or.inr (Or.inr (Or.inl (hg _ e)))⟩
theorem RR.b_set {g : Nat} (h : RR w x slot (some ⟨g, 0, none⟩) bn bc Bv ua un uc Uv ka kn kc Kv) (i : Nat) (v : Value) : RR (w.setCell ⟨g, i, none⟩ v) x slot (some ⟨g, 0, none⟩) bn bc (Bv.set i v) ua un uc Uv ka kn kc Kv ∧ Fr (rown x (some ⟨g, 0, none⟩) ua ka) w (w.setCell ⟨g, i, none⟩ v) := by
  have f : Fr (one g) w (w.setCell ⟨g, i, none⟩ v) := Fr.setCell _ _ _ _ (fun _ => rfl)
  have hg : ∀ k, one g k → blk (some ⟨g, 0, none⟩) k := fun k e => (blk_some g 0 k).2 e.symm
  exact ⟨⟨h.row.kept f (fun e => h.xb (hg _ e)), h.bs.setAt i v, h.us.kept f (fun k hk e => h.bu k (hg _ e) hk), h.ks.kept f (fun k hk e => h.bk k (hg _ e) hk), h.xb, h.xu, h.xk, h.bu, h.bk, h.uk⟩, f.mono fun k _ e => Or.inr (Or.inl (hg _ e))⟩
/-- A new value of the field 'Back': a slice of the same row, or a row that no other field has. -/
theorem RR.k_put (h : RR w x slot ba bn bc Bv ua un uc Uv ka kn kc Kv) (hs : SlAt w a' n' c' 3 1 xs) (hb : ∀ k, blk a' k → ¬ (k = x ∨ blk ba k ∨ blk ua k)) : RR (w.setCell ⟨x, 3, none⟩ (.slice a' n' c')) x slot ba bn bc Bv ua un uc Uv a' n' c' xs ∧ Fr (rown x ba ua ka) w (w.setCell ⟨x, 3, none⟩ (.slice a' n' c')) := by
  have f : Fr (one x) w (w.setCell ⟨x, 3, none⟩ (.slice a' n' c')) := Fr.setCell _ _ _ _ (fun _ => rfl)
  have hr := h.row.set 3 (.slice a' n' c')
  exact ⟨⟨hr, h.bs.kept f (fun k hk e => h.xb (e ▸ hk)), h.us.kept f (fun k hk e => h.xu (e ▸ hk)), hs.kept f (fun k hk e => hb k hk (Or.inl e)), h.xb, h.xu, fun e => hb x e (Or.inl rfl), h.bu, fun k h1 h2 => hb k h2 (Or.inr (Or.inl h1)), fun k h1 h2 => hb k h2 (Or.inr (Or.inr h1))⟩, f.mono fun k _ e => Or.inl e⟩
theorem RR.u_put (h : RR w x slot ba bn bc Bv ua un uc Uv ka kn kc Kv) (f0 : Fr (blk ua) w w') (hs : SlAt w' a' n' c' 4 1 xs) (hb : ∀ k, blk a' k → blk ua k ∨ w.heap.size ≤ k) : RR (w'.setCell ⟨x, 2, none⟩ (.slice a' n' c')) x slot ba bn bc Bv a' n' c' xs ka kn kc Kv ∧ Fr (rown x ba ua ka) w (w'.setCell ⟨x, 2, none⟩ (.slice a' n' c')) ∧ w'.frozen? ⟨x, 2, none⟩ = false ∧ w'.cell? ⟨x, 2, none⟩ = some (.slice ua un uc) := by
  have f : Fr (one x) w' (w'.setCell ⟨x, 2, none⟩ (.slice a' n' c')) := Fr.setCell _ _ _ _ (fun _ => rfl)
  have hr0 := h.row.kept f0 h.xu
  have hr := hr0.set 2 (.slice a' n' c')
  have hlt := h.lt
  have hap : ∀ k, blk a' k → ¬ (k = x ∨ blk ba k ∨ blk ka k) := by
    intro k hk e
    rcases hb k hk with q | q
    · rcases e with rfl | e | e
      · exact h.xu q
      · exact h.bu k e q
      · exact h.uk k q e
    · rcases e with rfl | e | e
      · have := hlt k (Or.inl rfl); omega
      · have := hlt k (Or.inr (Or.inl e)); omega
      · have := hlt k (Or.inr (Or.inr (Or.inr e))); omega
  refine ⟨⟨hr, (h.bs.kept f0 (fun k hk e => h.bu k hk e)).kept f (fun k hk e => h.xb (e ▸ hk)), hs.kept f (fun k hk e => hap k hk (Or.inl e)), (h.ks.kept f0 (fun k hk e => h.uk k e hk)).kept f (fun k hk e => h.xk (e ▸ hk)), h.xb, fun e => hap x e (Or.inl rfl), h.xk, fun k h1 h2 => hap k h2 (Or.inr (Or.inl h1)), h.bk, fun k h1 h2 => hap k h1 (Or.inr (Or.inr h2))⟩, ?_, hr0.free 2, (hr0.cell 2).trans rfl⟩
  exact (f0.mono fun k _ e => Or.inr (Or.inr (Or.inl e))).trans (f.mono fun k _ e => Or.inl e)
theorem RR.b_put (h : RR w x slot ba bn bc Bv ua un uc Uv ka kn kc Kv) (f0 : Fr (blk ba) w w') (hs : SlAt w' a' n' c' 9 1 xs) (hb : ∀ k, blk a' k → blk ba k ∨ w.heap.size ≤ k) : RR (w'.setCell ⟨x, 1, none⟩ (.slice a' n' c')) x slot a' n' c' xs ua un uc Uv ka kn kc Kv ∧ Fr (rown x ba ua ka) w (w'.setCell ⟨x, 1, none⟩ (.slice a' n' c')) ∧ w'.frozen? ⟨x, 1, none⟩ = false ∧ w'.cell? ⟨x, 1, none⟩ = some (.slice ba bn bc) := by
  have f : Fr (one x) w' (w'.setCell ⟨x, 1, none⟩ (.slice a' n' c')) := Fr.setCell _ _ _ _ (fun _ => rfl)
  have hr0 := h.row.kept f0 h.xb
  have hr := hr0.set 1 (.slice a' n' c')
  have hlt := h.lt
  have hap : ∀ k, blk a' k → ¬ (k = x ∨ blk ua k ∨ blk ka k) := by
    intro k hk e
    rcases hb k hk with q | q
    · rcases e with rfl | e | e
      · exact h.xb q
      · exact h.bu k q e
      · exact h.bk k q e
    · rcases e with rfl | e | e
      · have := hlt k (Or.inl rfl); omega
      · have := hlt k (Or.inr (Or.inr (Or.inl e))); omega
      · have := hlt k (Or.inr (Or.inr (Or.inr e))); omega
  refine ⟨⟨hr, hs.kept f (fun k hk e => hap k hk (Or.inl e)), (h.us.kept f0 (fun k hk e => h.bu k e hk)).kept f (fun k hk e => h.xu (e ▸ hk)), (h.ks.kept f0 (fun k hk e => h.bk k e hk)).kept f (fun k hk e => h.xk (e ▸ hk)), fun e => hap x e (Or.inl rfl), h.xu, h.xk, fun k h1 h2 => hap k h1 (Or.inr (Or.inl h2)), fun k h1 h2 => hap k h1 (Or.inr (Or.inr h2)), h.uk⟩, ?_, hr0.free 1, (hr0.cell 1).trans rfl⟩
  exact (f0.mono fun k _ e => Or.inr (Or.inl e)).trans (f.mono fun k _ e => Or.inl e)
end

/-! the plain state -/
theorem uses_free (s : PS) (K : Nat) : usesOf (s.free K) = (usesOf s).set K (.bool false) := by unfold usesOf PS.free; rw [List.map_set]; rfl
theorem uses_write (s : PS) (K : Nat) (b : ByteArray) {old : List UInt8} (h : s.slots[K]? = some (some old)) : usesOf (s.write K b) = usesOf s := by
  unfold usesOf PS.write
  simp only
  apply List.ext_getElem?
  intro j
  rw [List.getElem?_map, List.getElem?_map, List.getElem?_set]
  by_cases e : K = j
  · subst e
    have := (List.getElem?_eq_some_iff.1 h).1
    rw [if_pos rfl, if_pos this, h]; rfl
  · rw [if_neg e]
end Go.Proofs.Ytdbnopfpopeefaa
