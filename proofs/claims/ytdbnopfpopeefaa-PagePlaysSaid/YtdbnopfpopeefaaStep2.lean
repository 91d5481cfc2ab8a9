/-
  Steps of a region that draws: make([]byte, n), string(b), s + t, a store; appends to a slice that was built empty. Nothing of the program in it.
-/
import Derived.Test.YtdbnopfpopeefaaHeld
import Derived.Test.YtdbnopfpopeefaaAppendS
namespace Go.Proofs.Ytdbnopfpopeefaa
open Go.RowKit
set_option linter.unusedVariables false
set_option linter.unusedSimpArgs false

section
variable {P : Program} {w : World} {ops : Array Oper} {o : Oper} {a : Act} {K : Act → World → Prop} {Q : Exit → Act → World → Prop} {E : Prop}
theorem stepMakeBytes (hgd : o.guard = none) (x y : Operand) (t e : TypeId) (hop : o.op = Op.makeSlice t x y) (ht : P.underlying t = some (.slice e)) (hinfo : (P.info? e).map (fun i => (i.zero, i.size, i.bytes)) = some (some (.int .u8 0), 1, 1))
    (kl kc : IntKind) (l c : Nat) (hx : a.eval x = .int kl (l : Int)) (hy : a.eval y = .int kc (c : Int)) (hlc : l ≤ c) (hc : c ≤ 281474976710656)
    (hK : ∀ w', Row w' w.heap.size ((List.replicate c (0 : UInt8)).map byteV).toArray e → Fr none_ w w' → K (a.put o.dst (.slice (some ⟨w.heap.size, 0, none⟩) l c)) w') : if Region.wanted o (yielded ops a.tmps) = true then Oper.wp P o a w K Q else E := by
  have hw : Region.wanted o (yielded ops a.tmps) = true := by simp [Region.wanted, hgd]
  rw [if_pos hw]
  obtain ⟨i, hi, hz, hsize, hby⟩ := info_parts hinfo
  have hr := run_make (P := P) w t e i (.int .u8 0) ht hi hz kl kc l c (by omega) (by omega) (by rw [hby]; omega) (by omega)
  rw [hsize] at hr
  simp only [Int.toNat_natCast, Nat.mul_one, Value.cells, made_bytes] at hr
  obtain ⟨C, hC⟩ : ∃ C, C = ((List.replicate c (0 : UInt8)).map byteV).toArray := ⟨_, rfl⟩
  rw [← hC] at hr hK
  unfold Oper.wp
  simp [execOp, hop, hx, hy, hr, Result.andThen]
  exact hK _ (Row.new w _ e) (Fr.alloc _ _ _)
theorem stepString (hgd : o.guard = none) (x : Operand) (src dst e : TypeId) (hop : o.op = Op.convert src dst x) {g : Nat} {cs : Array Value} {t : TypeId} (h : Row w g cs t) (hs : P.underlying src = some (.slice e)) (he : P.underlying e = some (.int .u8)) (hd : P.underlying dst = some .string)
    (off n c : Nat) (hx : a.eval x = .slice (some ⟨g, off, none⟩) n c) (bs : List UInt8) (hl : bs.length = n) (hb : ∀ i, i < n → cs[off + i]? = some (byteV (bs.getD i 0)))
    (hK : K (a.put o.dst (.string (strOf bs))) w) : if Region.wanted o (yielded ops a.tmps) = true then Oper.wp P o a w K Q else E := by
  have hw : Region.wanted o (yielded ops a.tmps) = true := by simp [Region.wanted, hgd]
  rw [if_pos hw]
  have hrun := run_string_row (P := P) h src dst e hs he hd off n c bs hl hb
  unfold Oper.wp
  simp [execOp, hop, hx, hrun, Result.andThen]
  exact hK
theorem stepAddStr (hgd : o.guard = none) (x y : Operand) (t t' : TypeId) (hop : o.op = Op.binOp .add t x y t') (s1 s2 : ByteArray) (hx : a.eval x = .string s1) (hy : a.eval y = .string s2) (hs : s1.size + s2.size ≤ 9223372036854775807) (s : ByteArray) (he : s1 ++ s2 = s)
    (hK : K (a.put o.dst (.string s)) w) : if Region.wanted o (yielded ops a.tmps) = true then Oper.wp P o a w K Q else E := by
  have hw : Region.wanted o (yielded ops a.tmps) = true := by simp [Region.wanted, hgd]
  rw [if_pos hw]
  have hr := run_string_add_sum (P := P) w s1 s2 hs
  unfold Oper.wp
  rw [he] at hr
  simp [execOp, hop, hx, hy, binOp_string_add, hr, eqGuard, Result.andThen]
  exact hK
end

/-- Three slices, each of new blocks, that lie apart. -/
structure Tri (w0 w : World) (e1 e2 e3 : TypeId) (a1 : Option Addr) (n1 c1 : Nat) (x1 : List Value) (a2 : Option Addr) (n2 c2 : Nat) (x2 : List Value) (a3 : Option Addr) (n3 c3 : Nat) (x3 : List Value) : Prop where
  s1 : SlAt w a1 n1 c1 e1 1 x1
  s2 : SlAt w a2 n2 c2 e2 1 x2
  s3 : SlAt w a3 n3 c3 e3 1 x3
  o1 : ∀ k, blk a1 k → w0.heap.size ≤ k
  o2 : ∀ k, blk a2 k → w0.heap.size ≤ k
  o3 : ∀ k, blk a3 k → w0.heap.size ≤ k
  d12 : ∀ k, blk a1 k → ¬ blk a2 k
  d13 : ∀ k, blk a1 k → ¬ blk a3 k
  d23 : ∀ k, blk a2 k → ¬ blk a3 k
  fr : Fr none_ w0 w
section
variable {w0 w w' : World} {e1 e2 e3 : TypeId} {a1 a2 a3 a : Option Addr} {n1 c1 n2 c2 n3 c3 n c : Nat} {x1 x2 x3 xs : List Value}
theorem Tri.start (w0 w : World) (e1 e2 e3 : TypeId) (f : Fr none_ w0 w) : Tri w0 w e1 e2 e3 none 0 0 [] none 0 0 [] none 0 0 [] :=
  ⟨SlAt.empty _ _ _, SlAt.empty _ _ _, SlAt.empty _ _ _, fun k h => absurd h (blk_none k), fun k h => absurd h (blk_none k), fun k h => absurd h (blk_none k), fun k h => absurd h (blk_none k), fun k h => absurd h (blk_none k), fun k h => absurd h (blk_none k), f⟩
theorem Tri.skip (h : Tri w0 w e1 e2 e3 a1 n1 c1 x1 a2 n2 c2 x2 a3 n3 c3 x3) (f : Fr none_ w w') : Tri w0 w' e1 e2 e3 a1 n1 c1 x1 a2 n2 c2 x2 a3 n3 c3 x3 :=
  ⟨h.s1.kept0 f, h.s2.kept0 f, h.s3.kept0 f, h.o1, h.o2, h.o3, h.d12, h.d13, h.d23, h.fr.trans f⟩
theorem Tri.to1 (h : Tri w0 w e1 e2 e3 a1 n1 c1 x1 a2 n2 c2 x2 a3 n3 c3 x3) (f : Fr (blk a1) w w') (hs : SlAt w' a n c e1 1 xs) (hb : ∀ k, blk a k → blk a1 k ∨ w.heap.size ≤ k) : Tri w0 w' e1 e2 e3 a n c xs a2 n2 c2 x2 a3 n3 c3 x3 := by
  have hz := h.fr.size
  refine ⟨hs, h.s2.kept f (fun k hk e => h.d12 k e hk), h.s3.kept f (fun k hk e => h.d13 k e hk), ?_, h.o2, h.o3, ?_, ?_, h.d23, h.fr.step f (fun i hi e => by have := h.o1 i e; omega)⟩
  · intro k hk; rcases hb k hk with q | q; exact h.o1 k q; omega
  · intro k hk e; rcases hb k hk with q | q; exact h.d12 k q e; have := h.s2.lt k e; omega
  · intro k hk e; rcases hb k hk with q | q; exact h.d13 k q e; have := h.s3.lt k e; omega
theorem Tri.to2 (h : Tri w0 w e1 e2 e3 a1 n1 c1 x1 a2 n2 c2 x2 a3 n3 c3 x3) (f : Fr (blk a2) w w') (hs : SlAt w' a n c e2 1 xs) (hb : ∀ k, blk a k → blk a2 k ∨ w.heap.size ≤ k) : Tri w0 w' e1 e2 e3 a1 n1 c1 x1 a n c xs a3 n3 c3 x3 := by
  have hz := h.fr.size
  refine ⟨h.s1.kept f (fun k hk e => h.d12 k hk e), hs, h.s3.kept f (fun k hk e => h.d23 k e hk), h.o1, ?_, h.o3, ?_, h.d13, ?_, h.fr.step f (fun i hi e => by have := h.o2 i e; omega)⟩
  · intro k hk; rcases hb k hk with q | q; exact h.o2 k q; omega
  · intro k e hk; rcases hb k hk with q | q; exact h.d12 k e q; have := h.s1.lt k e; omega
  · intro k hk e; rcases hb k hk with q | q; exact h.d23 k q e; have := h.s3.lt k e; omega
theorem Tri.to3 (h : Tri w0 w e1 e2 e3 a1 n1 c1 x1 a2 n2 c2 x2 a3 n3 c3 x3) (f : Fr (blk a3) w w') (hs : SlAt w' a n c e3 1 xs) (hb : ∀ k, blk a k → blk a3 k ∨ w.heap.size ≤ k) : Tri w0 w' e1 e2 e3 a1 n1 c1 x1 a2 n2 c2 x2 a n c xs := by
  have hz := h.fr.size
  refine ⟨h.s1.kept f (fun k hk e => h.d13 k hk e), h.s2.kept f (fun k hk e => h.d23 k hk e), hs, h.o1, h.o2, ?_, h.d12, ?_, ?_, h.fr.step f (fun i hi e => by have := h.o3 i e; omega)⟩
  · intro k hk; rcases hb k hk with q | q; exact h.o3 k q; omega
  · intro k e hk; rcases hb k hk with q | q; exact h.d13 k e q; have := h.s1.lt k e; omega
  · intro k e hk; rcases hb k hk with q | q; exact h.d23 k e q; have := h.s2.lt k e; omega
theorem new_blk (w : World) (k : Nat) (a : Option Addr) (h : blk (some ⟨w.heap.size, 0, none⟩) k) : blk a k ∨ w.heap.size ≤ k := by rw [blk_some] at h; omega
theorem Tri.b1 (h : Tri w0 w e1 e2 e3 a1 n1 c1 x1 a2 n2 c2 x2 a3 n3 c3 x3) : Tri w0 (w.alloc (.cells #[] e1)) e1 e2 e3 (some ⟨w.heap.size, 0, none⟩) 0 0 [] a2 n2 c2 x2 a3 n3 c3 x3 := h.to1 (Fr.alloc _ _ _) (SlAt.made' _ _ _) (fun k hk => new_blk w k a1 hk)
theorem Tri.b2 (h : Tri w0 w e1 e2 e3 a1 n1 c1 x1 a2 n2 c2 x2 a3 n3 c3 x3) : Tri w0 (w.alloc (.cells #[] e2)) e1 e2 e3 a1 n1 c1 x1 (some ⟨w.heap.size, 0, none⟩) 0 0 [] a3 n3 c3 x3 := h.to2 (Fr.alloc _ _ _) (SlAt.made' _ _ _) (fun k hk => new_blk w k a2 hk)
theorem Tri.b3 (h : Tri w0 w e1 e2 e3 a1 n1 c1 x1 a2 n2 c2 x2 a3 n3 c3 x3) : Tri w0 (w.alloc (.cells #[] e3)) e1 e2 e3 a1 n1 c1 x1 a2 n2 c2 x2 (some ⟨w.heap.size, 0, none⟩) 0 0 [] := h.to3 (Fr.alloc _ _ _) (SlAt.made' _ _ _) (fun k hk => new_blk w k a3 hk)
end
end Go.Proofs.Ytdbnopfpopeefaa
