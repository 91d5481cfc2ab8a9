/-
  A region that draws its order, taken operation by operation by hand: where a guard is false. Nothing of the program in it.
  append of nothing: the slice's value stays as it was. Nothing of the program in it.
  append of a slice that is known whole, of no or some elements: straight, and as a step of a region that draws. Nothing of the program in it.
  Steps of a region that draws: make([]byte, n), string(b), s + t, a store; appends to a slice that was built empty. Nothing of the program in it.
  A slice that reads as a list, each element as so many cells. Nothing of the program in it.
  append of a slice that reads as a list (its memory whosever it is) to a slice of the call's own; max and min of two Ints at a named result. Nothing of the program in it.
-/
import Derived.Test.YtckkccnebjacdaaGreatMgOwn
import Derived.Deep.RegionHeld3
import Derived.Test.YtckkccnebjacdaaGreatMgSlice
namespace Go.Proofs.YtckkccnebjacdaaGreat
open Go.RowKit
set_option linter.unusedVariables false
set_option linter.unusedSimpArgs false

section
variable {P : Program} {md : Region.Mode} {ops : Array Oper} {Q : Exit → Act → World → Prop} {S : World → Prop}
theorem held_take (i d : Nat) {oi : Oper} {v : Value} {fuel : Nat} {listed : Array Bool} {ts : Array Value} {ds : List Deferred} {w : World} (hi : ops[i]? = some oi) (hd : oi.dst = some d)
    (hs : Region.noSelect ops = true) (hf : Region.free md ops listed i = true) (hr : (Region.ready md ops listed).contains i = true)
    (hQ : ∀ c a w, Q (.panic c) (a.put oi.dst v) w → Q (.panic c) a w) (hw : Region.wanted oi (yielded ops ts) = true) (hy : ∀ w, S w → (execOp (Act.eval ⟨ts, ds⟩) oi).run P w = .ok (.value v) w) (hS : S w)
    (h : wpAnyH P md ops Q S fuel (listed.setIfInBounds i true) ⟨ts.setIfInBounds d v, ds⟩ w) : wpAnyH P md ops Q S (fuel + 1) listed ⟨ts, ds⟩ w := by
  refine wpAnyH_take hi hs hf hr hQ (Or.inl ⟨hw, hy⟩) hS ?_
  have e : Act.put ⟨ts, ds⟩ oi.dst v = ⟨ts.setIfInBounds d v, ds⟩ := by rw [hd]; rfl
  rw [e]; exact h
theorem held_skip (i d : Nat) {oi : Oper} {fuel : Nat} {listed : Array Bool} {ts : Array Value} {ds : List Deferred} {w : World} (hi : ops[i]? = some oi) (hd : oi.dst = some d)
    (hs : Region.noSelect ops = true) (hf : Region.free md ops listed i = true) (hr : (Region.ready md ops listed).contains i = true)
    (hQ : ∀ c a w, Q (.panic c) (a.put oi.dst undef) w → Q (.panic c) a w) (hw : Region.wanted oi (yielded ops ts) = false) (hS : S w)
    (h : wpAnyH P md ops Q S fuel (listed.setIfInBounds i true) ⟨ts.setIfInBounds d undef, ds⟩ w) : wpAnyH P md ops Q S (fuel + 1) listed ⟨ts, ds⟩ w := by
  refine wpAnyH_take hi hs hf hr hQ (Or.inr ⟨hw, rfl⟩) hS ?_
  have e : Act.put ⟨ts, ds⟩ oi.dst undef = ⟨ts.setIfInBounds d undef, ds⟩ := by rw [hd]; rfl
  rw [e]; exact h
end
end Go.Proofs.YtckkccnebjacdaaGreat
namespace Go.Proofs.YtckkccnebjacdaaGreat
open Go.RowKit
set_option linter.unusedVariables false
set_option linter.unusedSimpArgs false

theorem run_append_zero {P : Program} {w : World} (t ty e : TypeId) (i : TypeInfo) (ht : P.underlying t = some (.slice e)) (hi : P.info? e = some i) (a : Option Addr) (n cap : Nat) (h : n ≤ cap) (xa : Option Addr) (c : Nat) :
    (Builtin.append_ #[t, t] ty #[.slice a n cap, .slice xa 0 c]).run P w = .ok (.slice a n cap) w := by
  cases xa with
  | none => cases a <;> simp [Builtin.append_, run_underlying ht, sizeOf, typeInfo, hi, Builtin.lenOf, h, Builtin.firstCells, storeCells]
  | some xa =>
    have hf := run_firstCells_some (P := P) w i.size 0 xa 0 c [] (by simp) (by simp)
    cases a <;> simp [Builtin.append_, run_underlying ht, sizeOf, typeInfo, hi, Builtin.lenOf, h, hf, storeCells]

section arms
variable {P : Program} {w : World} {ops : Array Oper} {rest : List Oper} {o : Oper} {a : Act} {Q : Exit → Act → World → Prop}
theorem wpAppend0 (hg : Region.wanted o (yielded ops a.tmps) = true) (s x : Operand) (t : TypeId) (hop : o.op = Op.call { callee := Callee.builtin Builtin.append, args := #[s, x], argTypes := #[t, t] }) (e : TypeId) (z : Value) (size bytes : Nat) (ht : P.underlying t = some (.slice e)) (hinfo : (P.info? e).map (fun i => (i.zero, i.size, i.bytes)) = some (some z, size, bytes))
    {sa : Option Addr} {n cap : Nat} (h : n ≤ cap) (hs : a.eval s = .slice sa n cap) (xa : Option Addr) (c : Nat) (hx : a.eval x = .slice xa 0 c)
    (hK : wpList P ops Q rest (a.put o.dst (.slice sa n cap)) w) : wpList P ops Q (o :: rest) a w := by
  refine wpList_go hg fun K' hK' => ?_
  obtain ⟨i, hi, hz, hsize, hby⟩ := info_parts hinfo
  have hrun := run_append_zero (P := P) (w := w) t o.type e i ht hi sa n cap h xa c
  unfold Oper.wp
  simp [execOp, hop, resolve, invoke, builtin, hs, hx, hrun, Result.andThen]
  exact hK' _ _ hK
end arms
end Go.Proofs.YtckkccnebjacdaaGreat
namespace Go.Proofs.YtckkccnebjacdaaGreat
open Go.RowKit
set_option linter.unusedVariables false
set_option linter.unusedSimpArgs false

theorem run_append_sl {P : Program} {w : World} (t ty e : TypeId) (z : Value) (size bytes : Nat) (ht : P.underlying t = some (.slice e)) (hinfo : (P.info? e).map (fun i => (i.zero, i.size, i.bytes)) = some (some z, size, bytes))
    (hzs : z.cells.size = size) {sa xa : Option Addr} {n cap m c : Nat} {xs news : List Value} (h : SlAt w sa n cap e size xs) (h2 : SlAt w xa m c e size news) (h1 : ∀ u ∈ news, u.oneCell' = true)
    (h63 : n + m ≤ maxLen) (hbytes : (n + m) * bytes ≤ 140737488355328) :
    ∃ a' cap' w', (Builtin.append_ #[t, t] ty #[.slice sa n cap, .slice xa m c]).run P w = .ok (.slice a' (n + m) cap') w' ∧ SlAt w' a' (n + m) cap' e size (xs ++ news) ∧ Fr (blk sa) w w' ∧ (∀ k, blk a' k → blk sa k ∨ w.heap.size ≤ k) := by
  by_cases hm : m = 0
  · subst hm
    have hn : news = [] := List.eq_nil_of_length_eq_zero (by simpa using h2.1)
    subst hn
    obtain ⟨i, hi, hz, hsize, hby⟩ := info_parts hinfo
    refine ⟨sa, cap, w, run_append_zero t ty e i ht hi sa n cap h.2.1 xa c, ?_, Fr.refl _ _, fun k hk => Or.inl hk⟩
    rw [List.append_nil]; exact h
  · obtain ⟨g, rfl⟩ := h2.isAddr (by omega)
    exact run_append_at t ty e z size bytes ht hinfo hzs h ⟨g, 0, none⟩ m c news h2.1 (fun j u hu => by rw [Addr.add_lit, Nat.zero_add]; exact h2.cell hu) h1 (by omega) h63 hbytes
theorem SlAt.made' (w : World) (e : TypeId) (size : Nat) : SlAt (w.alloc (.cells #[] e)) (some ⟨w.heap.size, 0, none⟩) 0 0 e size [] := by
  refine ⟨by simp, Nat.le_refl _, Nat.zero_le _, (fun h => by cases h), ?_⟩
  intro ad had
  cases had
  exact ⟨rfl, rfl, _, Row.new w _ e, by simp, by simp⟩
theorem SlAt.one (w : World) (e : TypeId) (v : Value) : SlAt (w.alloc (.cells #[v] e)) (some ⟨w.heap.size, 0, none⟩) 1 1 e 1 [v] := by
  refine ⟨rfl, Nat.le_refl _, by simp [maxLen], (fun h => by cases h), ?_⟩
  intro ad had
  cases had
  exact ⟨rfl, rfl, _, Row.new w _ e, rfl, rfl⟩
theorem SlAt.setAt {w : World} {g n cap size : Nat} {e : TypeId} {xs : List Value} (h : SlAt w (some ⟨g, 0, none⟩) n cap e size xs) (i : Nat) (v : Value) : SlAt (w.setCell ⟨g, i, none⟩ v) (some ⟨g, 0, none⟩) n cap e size (xs.set i v) := by
  obtain ⟨h1, h2, h3, h4, h5⟩ := h
  refine ⟨by rw [List.length_set]; exact h1, h2, h3, h4, ?_⟩
  intro ad had
  cases had
  obtain ⟨q1, q2, cur, q3, q4, q5⟩ := h5 _ rfl
  refine ⟨rfl, rfl, _, q3.set i v, by rw [Array.size_setIfInBounds]; exact q4, ?_⟩
  rw [Array.toList_setIfInBounds, List.take_set, q5]
theorem SlAt.cut {w : World} {a : Option Addr} {n m cap : Nat} {e : TypeId} {xs : List Value} (h : SlAt w a n cap e 1 xs) (hm : m ≤ n) : SlAt w a m cap e 1 (xs.take m) := by
  obtain ⟨h1, h2, h3, h4, h5⟩ := h
  refine ⟨by rw [List.length_take, h1]; omega, by omega, h3, h4, ?_⟩
  intro ad had
  obtain ⟨q1, q2, cur, q3, q4, q5⟩ := h5 _ had
  refine ⟨q1, q2, cur, q3, q4, ?_⟩
  rw [← q5, List.take_take, Nat.mul_one, Nat.mul_one, Nat.min_eq_left hm]

section arms
variable {P : Program} {w : World} {ops : Array Oper} {rest : List Oper} {o : Oper} {a : Act} {Q : Exit → Act → World → Prop}
theorem wpAppendS (hg : Region.wanted o (yielded ops a.tmps) = true) (s x : Operand) (t : TypeId) (hop : o.op = Op.call { callee := Callee.builtin Builtin.append, args := #[s, x], argTypes := #[t, t] }) (e : TypeId) (z : Value) (size bytes : Nat) (ht : P.underlying t = some (.slice e)) (hinfo : (P.info? e).map (fun i => (i.zero, i.size, i.bytes)) = some (some z, size, bytes))
    (hzs : z.cells.size = size) {sa xa : Option Addr} {n cap m c : Nat} {xs news : List Value} (h : SlAt w sa n cap e size xs) (h2 : SlAt w xa m c e size news) (hs : a.eval s = .slice sa n cap) (hx : a.eval x = .slice xa m c) (h1 : ∀ u ∈ news, u.oneCell' = true)
    (h63 : n + m ≤ maxLen) (hbytes : (n + m) * bytes ≤ 140737488355328)
    (hK : ∀ a' cap' w', SlAt w' a' (n + m) cap' e size (xs ++ news) → Fr (blk sa) w w' → (∀ k, blk a' k → blk sa k ∨ w.heap.size ≤ k) → wpList P ops Q rest (a.put o.dst (.slice a' (n + m) cap')) w') : wpList P ops Q (o :: rest) a w := by
  refine wpList_go hg fun K' hK' => ?_
  obtain ⟨a', cap', w', hrun, r1, r2, r3⟩ := run_append_sl (P := P) t o.type e z size bytes ht hinfo hzs h h2 h1 h63 hbytes
  unfold Oper.wp
  simp [execOp, hop, resolve, invoke, builtin, hs, hx, hrun, Result.andThen]
  exact hK' _ _ (hK _ _ _ r1 r2 r3)
theorem stepAppendS {K : Act → World → Prop} {E : Prop} (hgd : o.guard = none) (s x : Operand) (t : TypeId) (hop : o.op = Op.call { callee := Callee.builtin Builtin.append, args := #[s, x], argTypes := #[t, t] }) (e : TypeId) (z : Value) (size bytes : Nat) (ht : P.underlying t = some (.slice e)) (hinfo : (P.info? e).map (fun i => (i.zero, i.size, i.bytes)) = some (some z, size, bytes))
    (hzs : z.cells.size = size) {sa xa : Option Addr} {n cap m c : Nat} {xs news : List Value} (h : SlAt w sa n cap e size xs) (h2 : SlAt w xa m c e size news) (hs : a.eval s = .slice sa n cap) (hx : a.eval x = .slice xa m c) (h1 : ∀ u ∈ news, u.oneCell' = true)
    (h63 : n + m ≤ maxLen) (hbytes : (n + m) * bytes ≤ 140737488355328)
    (hK : ∀ a' cap' w', SlAt w' a' (n + m) cap' e size (xs ++ news) → Fr (blk sa) w w' → (∀ k, blk a' k → blk sa k ∨ w.heap.size ≤ k) → K (a.put o.dst (.slice a' (n + m) cap')) w') : if Region.wanted o (yielded ops a.tmps) = true then Oper.wp P o a w K Q else E := by
  have hw : Region.wanted o (yielded ops a.tmps) = true := by simp [Region.wanted, hgd]
  rw [if_pos hw]
  obtain ⟨a', cap', w', hrun, r1, r2, r3⟩ := run_append_sl (P := P) t o.type e z size bytes ht hinfo hzs h h2 h1 h63 hbytes
  unfold Oper.wp
  simp [execOp, hop, resolve, invoke, builtin, hs, hx, hrun, Result.andThen]
  exact hK _ _ _ r1 r2 r3
end arms
end Go.Proofs.YtckkccnebjacdaaGreat
namespace Go.Proofs.YtckkccnebjacdaaGreat
open Go.RowKit
set_option linter.unusedVariables false
set_option linter.unusedSimpArgs false

section
variable {P : Program} {w : World} {ops : Array Oper} {o : Oper} {a : Act} {K : Act → World → Prop} {Q : Exit → Act → World → Prop} {E : Prop}
theorem stepMakeBytes (hgd : o.guard = none) (x y : Operand) (t e : TypeId) (hop : o.op = Op.makeSlice t x y) (ht : P.underlying t = some (.slice e)) (hinfo : (P.info? e).map (fun i => (i.zero, i.size, i.bytes)) = some (some (.int .u8 0), 1, 1))
    (kl kc : IntKind) (l c : Nat) (hx : a.eval x = .int kl (l : Int)) (hy : a.eval y = .int kc (c : Int)) (hlc : l ≤ c) (hc : c ≤ 281474976710656)
    (hK : ∀ w', Row w' w.heap.size ((List.replicate c (0 : UInt8)).map byteV).toArray e → Fr none_ w w' → K (a.put o.dst (.slice (some ⟨w.heap.size, 0, none⟩) l c)) w') : if Region.wanted o (yielded ops a.tmps) = true then Oper.wp P o a w K Q else E := by
  have hw : Region.wanted o (yielded ops a.tmps) = true := by simp [Region.wanted, hgd]
  rw [if_pos hw]
  obtain ⟨i, hi, hz, hsize, hby⟩ := info_parts hinfo
  have hr := run_make (P := P) w t e i (.int .u8 0) ht hi hz kl kc l c (by omega) (by omega) (by rw [hby]; omega) (by omega)
  rw [hsize] at hr
  simp only [Int.toNat_natCast, Nat.mul_one, Value.cells, made_bytes] at hr
  obtain ⟨C, hC⟩ : ∃ C, C = ((List.replicate c (0 : UInt8)).map byteV).toArray := ⟨_, rfl⟩
  rw [← hC] at hr hK
  unfold Oper.wp
  simp [execOp, hop, hx, hy, hr, Result.andThen]
  exact hK _ (Row.new w _ e) (Fr.alloc _ _ _)
theorem stepString (hgd : o.guard = none) (x : Operand) (src dst e : TypeId) (hop : o.op = Op.convert src dst x) {g : Nat} {cs : Array Value} {t : TypeId} (h : Row w g cs t) (hs : P.underlying src = some (.slice e)) (he : P.underlying e = some (.int .u8)) (hd : P.underlying dst = some .string)
    (off n c : Nat) (hx : a.eval x = .slice (some ⟨g, off, none⟩) n c) (bs : List UInt8) (hl : bs.length = n) (hb : ∀ i, i < n → cs[off + i]? = some (byteV (bs.getD i 0)))
    (hK : K (a.put o.dst (.string (strOf bs))) w) : if Region.wanted o (yielded ops a.tmps) = true then Oper.wp P o a w K Q else E := by
  have hw : Region.wanted o (yielded ops a.tmps) = true := by simp [Region.wanted, hgd]
  rw [if_pos hw]
  have hrun := run_string_row (P := P) h src dst e hs he hd off n c bs hl hb
  unfold Oper.wp
  simp [execOp, hop, hx, hrun, Result.andThen]
  exact hK
theorem stepAddStr (hgd : o.guard = none) (x y : Operand) (t t' : TypeId) (hop : o.op = Op.binOp .add t x y t') (s1 s2 : ByteArray) (hx : a.eval x = .string s1) (hy : a.eval y = .string s2) (hs : s1.size + s2.size ≤ 9223372036854775807) (s : ByteArray) (he : s1 ++ s2 = s)
    (hK : K (a.put o.dst (.string s)) w) : if Region.wanted o (yielded ops a.tmps) = true then Oper.wp P o a w K Q else E := by
  have hw : Region.wanted o (yielded ops a.tmps) = true := by simp [Region.wanted, hgd]
  rw [if_pos hw]
  have hr := run_string_add_sum (P := P) w s1 s2 hs
  unfold Oper.wp
  rw [he] at hr
  simp [execOp, hop, hx, hy, binOp_string_add, hr, eqGuard, Result.andThen]
  exact hK
end

/-- Three slices, each of new blocks, that lie apart. -/
structure Tri (w0 w : World) (e1 e2 e3 : TypeId) (a1 : Option Addr) (n1 c1 : Nat) (x1 : List Value) (a2 : Option Addr) (n2 c2 : Nat) (x2 : List Value) (a3 : Option Addr) (n3 c3 : Nat) (x3 : List Value) : Prop where
  s1 : SlAt w a1 n1 c1 e1 1 x1
  s2 : SlAt w a2 n2 c2 e2 1 x2
  s3 : SlAt w a3 n3 c3 e3 1 x3
  o1 : ∀ k, blk a1 k → w0.heap.size ≤ k
  o2 : ∀ k, blk a2 k → w0.heap.size ≤ k
  o3 : ∀ k, blk a3 k → w0.heap.size ≤ k
  d12 : ∀ k, blk a1 k → ¬ blk a2 k
  d13 : ∀ k, blk a1 k → ¬ blk a3 k
  d23 : ∀ k, blk a2 k → ¬ blk a3 k
  fr : Fr none_ w0 w
section
variable {w0 w w' : World} {e1 e2 e3 : TypeId} {a1 a2 a3 a : Option Addr} {n1 c1 n2 c2 n3 c3 n c : Nat} {x1 x2 x3 xs : List Value}
theorem Tri.start (w0 w : World) (e1 e2 e3 : TypeId) (f : Fr none_ w0 w) : Tri w0 w e1 e2 e3 none 0 0 [] none 0 0 [] none 0 0 [] :=
  ⟨SlAt.empty _ _ _, SlAt.empty _ _ _, SlAt.empty _ _ _, fun k h => absurd h (blk_none k), fun k h => absurd h (blk_none k), fun k h => absurd h (blk_none k), fun k h => absurd h (blk_none k), fun k h => absurd h (blk_none k), fun k h => absurd h (blk_none k), f⟩
theorem Tri.skip (h : Tri w0 w e1 e2 e3 a1 n1 c1 x1 a2 n2 c2 x2 a3 n3 c3 x3) (f : Fr none_ w w') : Tri w0 w' e1 e2 e3 a1 n1 c1 x1 a2 n2 c2 x2 a3 n3 c3 x3 :=
  ⟨h.s1.kept0 f, h.s2.kept0 f, h.s3.kept0 f, h.o1, h.o2, h.o3, h.d12, h.d13, h.d23, h.fr.trans f⟩
theorem Tri.to1 (h : Tri w0 w e1 e2 e3 a1 n1 c1 x1 a2 n2 c2 x2 a3 n3 c3 x3) (f : Fr (blk a1) w w') (hs : SlAt w' a n c e1 1 xs) (hb : ∀ k, blk a k → blk a1 k ∨ w.heap.size ≤ k) : Tri w0 w' e1 e2 e3 a n c xs a2 n2 c2 x2 a3 n3 c3 x3 := by
  have hz := h.fr.size
  refine ⟨hs, h.s2.kept f (fun k hk e => h.d12 k e hk), h.s3.kept f (fun k hk e => h.d13 k e hk), ?_, h.o2, h.o3, ?_, ?_, h.d23, h.fr.step f (fun i hi e => by have := h.o1 i e; omega)⟩
  · intro k hk; rcases hb k hk with q | q; exact h.o1 k q; omega
  · intro k hk e; rcases hb k hk with q | q; exact h.d12 k q e; have := h.s2.lt k e; omega
  · intro k hk e; rcases hb k hk with q | q; exact h.d13 k q e; have := h.s3.lt k e; omega
theorem Tri.to2 (h : Tri w0 w e1 e2 e3 a1 n1 c1 x1 a2 n2 c2 x2 a3 n3 c3 x3) (f : Fr (blk a2) w w') (hs : SlAt w' a n c e2 1 xs) (hb : ∀ k, blk a k → blk a2 k ∨ w.heap.size ≤ k) : Tri w0 w' e1 e2 e3 a1 n1 c1 x1 a n c xs a3 n3 c3 x3 := by
  have hz := h.fr.size
  refine ⟨h.s1.kept f (fun k hk e => h.d12 k hk e), hs, h.s3.kept f (fun k hk e => h.d23 k e hk), h.o1, ?_, h.o3, ?_, h.d13, ?_, h.fr.step f (fun i hi e => by have := h.o2 i e; omega)⟩
  · intro k hk; rcases hb k hk with q | q; exact h.o2 k q; omega
  · intro k e hk; rcases hb k hk with q | q; exact h.d12 k e q; have := h.s1.lt k e; omega
  · intro k hk e; rcases hb k hk with q | q; exact h.d23 k q e; have := h.s3.lt k e; omega
theorem Tri.to3 (h : Tri w0 w e1 e2 e3 a1 n1 c1 x1 a2 n2 c2 x2 a3 n3 c3 x3) (f : Fr (blk a3) w w') (hs : SlAt w' a n c e3 1 xs) (hb : ∀ k, blk a k → blk a3 k ∨ w.heap.size ≤ k) : Tri w0 w' e1 e2 e3 a1 n1 c1 x1 a2 n2 c2 x2 a n c xs := by
  have hz := h.fr.size
  refine ⟨h.s1.kept f (fun k hk e => h.d13 k hk e), h.s2.kept f (fun k hk e => h.d23 k hk e), hs, h.o1, h.o2, ?_, h.d12, ?_, ?_, h.fr.step f (fun i hi e => by have := h.o3 i e; omega)⟩
  · intro k hk; rcases hb k hk with q | q; exact h.o3 k q; omega
  · intro k e hk; rcases hb k hk with q | q; exact h.d13 k e q; have := h.s1.lt k e; omega
  · intro k e hk; rcases hb k hk with q | q; exact h.d23 k e q; have := h.s2.lt k e; omega
theorem new_blk (w : World) (k : Nat) (a : Option Addr) (h : blk (some ⟨w.heap.size, 0, none⟩) k) : blk a k ∨ w.heap.size ≤ k := by rw [blk_some] at h; omega
theorem Tri.b1 (h : Tri w0 w e1 e2 e3 a1 n1 c1 x1 a2 n2 c2 x2 a3 n3 c3 x3) : Tri w0 (w.alloc (.cells #[] e1)) e1 e2 e3 (some ⟨w.heap.size, 0, none⟩) 0 0 [] a2 n2 c2 x2 a3 n3 c3 x3 := h.to1 (Fr.alloc _ _ _) (SlAt.made' _ _ _) (fun k hk => new_blk w k a1 hk)
theorem Tri.b2 (h : Tri w0 w e1 e2 e3 a1 n1 c1 x1 a2 n2 c2 x2 a3 n3 c3 x3) : Tri w0 (w.alloc (.cells #[] e2)) e1 e2 e3 a1 n1 c1 x1 (some ⟨w.heap.size, 0, none⟩) 0 0 [] a3 n3 c3 x3 := h.to2 (Fr.alloc _ _ _) (SlAt.made' _ _ _) (fun k hk => new_blk w k a2 hk)
theorem Tri.b3 (h : Tri w0 w e1 e2 e3 a1 n1 c1 x1 a2 n2 c2 x2 a3 n3 c3 x3) : Tri w0 (w.alloc (.cells #[] e3)) e1 e2 e3 a1 n1 c1 x1 a2 n2 c2 x2 (some ⟨w.heap.size, 0, none⟩) 0 0 [] := h.to3 (Fr.alloc _ _ _) (SlAt.made' _ _ _) (fun k hk => new_blk w k a3 hk)
end
end Go.Proofs.YtckkccnebjacdaaGreat
namespace Go.Proofs.YtckkccnebjacdaaGreat
open Go.RowKit
set_option linter.unusedVariables false
set_option linter.unusedSimpArgs false

/-- A slice that reads as a list, each element as that many cells. -/
def LsAt {α : Type} (w : World) (a : Option Addr) (sz : Nat) (cells : α → List Value) (l : List α) : Prop :=
  l = [] ∨ ∃ b o, a = some ⟨b, o, none⟩ ∧ b < w.heap.size ∧ ∀ i x, l[i]? = some x → ∀ j v, (cells x)[j]? = some v → w.cell? ⟨b, o + i * sz + j, none⟩ = some v
theorem LsAt.kept {α : Type} {w w' : World} {a : Option Addr} {sz : Nat} {cells : α → List Value} {l : List α} {F : Nat → Prop} (h : LsAt w a sz cells l) (f : Fr F w w') (hn : ∀ k, blk a k → ¬ F k) : LsAt w' a sz cells l := by
  rcases h with h | ⟨b, o, ha, hb, hc⟩
  · exact Or.inl h
  · refine Or.inr ⟨b, o, ha, Nat.lt_of_lt_of_le hb f.size, fun i x hx j v hv => f.keepF (hn b ⟨_, ha, rfl⟩) (hc i x hx j v hv)⟩
theorem LsAt.kept0 {α : Type} {w w' : World} {a : Option Addr} {sz : Nat} {cells : α → List Value} {l : List α} (h : LsAt w a sz cells l) (f : Fr none_ w w') : LsAt w' a sz cells l := h.kept f (fun _ _ e => e)
theorem LsAt.get {α : Type} {w : World} {a : Option Addr} {sz : Nat} {cells : α → List Value} {l : List α} (h : LsAt w a sz cells l) {i : Nat} {x : α} (hx : l[i]? = some x) : ∃ b o, a = some ⟨b, o, none⟩ ∧ b < w.heap.size ∧ ∀ i x, l[i]? = some x → ∀ j v, (cells x)[j]? = some v → w.cell? ⟨b, o + i * sz + j, none⟩ = some v := by
  rcases h with h | h
  · rw [h] at hx; simp at hx
  · exact h
theorem flat_cells {α : Type} (cells : α → List Value) (sz : Nat) (hsz : ∀ x, (cells x).length = sz) : ∀ (l : List α) (i : Nat) (x : α), l[i]? = some x → ∀ j v, (cells x)[j]? = some v → (l.flatMap cells)[i * sz + j]? = some v
  | [], i, x, h => by simp at h
  | y :: r, 0, x, h => by
    intro j v hv
    simp at h; subst h
    rw [List.flatMap_cons, List.getElem?_append_left (by have := (List.getElem?_eq_some_iff.1 hv).1; omega)]
    simpa using hv
  | y :: r, i + 1, x, h => by
    intro j v hv
    have h' : r[i]? = some x := by simpa using h
    rw [List.flatMap_cons, List.getElem?_append_right (by rw [hsz, Nat.add_mul]; omega), hsz]
    have e : (i + 1) * sz + j - sz = i * sz + j := by rw [Nat.add_mul]; omega
    rw [e]
    exact flat_cells cells sz hsz r i x h' j v hv
theorem flat_one {α : Type} (enc : α → Value) (l : List α) : (l.flatMap fun x => [enc x]) = l.map enc := by
  induction l with
  | nil => rfl
  | cons x r ih => simp [List.flatMap_cons, ih]
theorem SlAt.ls1 {α : Type} {w : World} {a : Option Addr} {n cap : Nat} {e : TypeId} {enc : α → Value} {l : List α} (h : SlAt w a n cap e 1 (l.map enc)) (hn : n = l.length) : LsAt w a 1 (fun x => [enc x]) l := by
  cases l with
  | nil => exact Or.inl rfl
  | cons x r =>
    obtain ⟨g, rfl⟩ := h.isAddr (by rw [hn]; simp)
    refine Or.inr ⟨g, 0, rfl, h.lt g ⟨_, rfl, rfl⟩, fun i y hy j v hv => ?_⟩
    have hj : j = 0 := by have := (List.getElem?_eq_some_iff.1 hv).1; simp at this; omega
    subst hj
    have hv' : v = enc y := by simpa using hv.symm
    subst hv'
    rw [Nat.zero_add, Nat.mul_one, Nat.add_zero]
    exact h.cell (by rw [List.getElem?_map, hy]; rfl)
theorem SlAt.ls {α : Type} {w : World} {a : Option Addr} {n cap : Nat} {e : TypeId} {sz : Nat} {cells : α → List Value} {l : List α} (hsz : ∀ x, (cells x).length = sz) (h : SlAt w a n cap e sz (l.flatMap cells)) (hn : n = l.length) : LsAt w a sz cells l := by
  cases l with
  | nil => exact Or.inl rfl
  | cons x r =>
    obtain ⟨g, rfl⟩ := h.isAddr (by rw [hn]; simp)
    refine Or.inr ⟨g, 0, rfl, h.lt g ⟨_, rfl, rfl⟩, fun i y hy j v hv => ?_⟩
    rw [Nat.zero_add]
    exact h.cell (flat_cells cells sz hsz _ i y hy j v hv)
end Go.Proofs.YtckkccnebjacdaaGreat
namespace Go.Proofs.YtckkccnebjacdaaGreat
open Go.RowKit
set_option linter.unusedVariables false
set_option linter.unusedSimpArgs false

theorem flat_back {α : Type} (cells : α → List Value) (sz : Nat) (hsz : ∀ x, (cells x).length = sz) : ∀ (l : List α) (j : Nat) (u : Value), (l.flatMap cells)[j]? = some u → ∃ i x r, l[i]? = some x ∧ (cells x)[r]? = some u ∧ j = i * sz + r
  | [], j, u, h => by simp at h
  | y :: l, j, u, h => by
    rw [List.flatMap_cons] at h
    by_cases hj : j < sz
    · rw [List.getElem?_append_left (by rw [hsz]; exact hj)] at h
      exact ⟨0, y, j, rfl, h, by omega⟩
    · rw [List.getElem?_append_right (by rw [hsz]; omega), hsz] at h
      obtain ⟨i, x, r, h1, h2, h3⟩ := flat_back cells sz hsz l (j - sz) u h
      exact ⟨i + 1, x, r, by simpa using h1, h2, by rw [Nat.add_mul]; omega⟩
theorem run_append_ls {P : Program} {w : World} {α : Type} {cells : α → List Value} (t ty e : TypeId) (z : Value) (size bytes : Nat) (ht : P.underlying t = some (.slice e)) (hinfo : (P.info? e).map (fun i => (i.zero, i.size, i.bytes)) = some (some z, size, bytes))
    (hzs : z.cells.size = size) {sa xa : Option Addr} {n cap m c : Nat} {xs : List Value} {l : List α} (h : SlAt w sa n cap e size xs) (h2 : LsAt w xa size cells l) (hm : m = l.length) (hsz : ∀ x, (cells x).length = size) (h1 : ∀ x u, u ∈ cells x → u.oneCell' = true)
    (h63 : n + m ≤ maxLen) (hbytes : (n + m) * bytes ≤ 140737488355328) :
    ∃ a' cap' w', (Builtin.append_ #[t, t] ty #[.slice sa n cap, .slice xa m c]).run P w = .ok (.slice a' (n + m) cap') w' ∧ SlAt w' a' (n + m) cap' e size (xs ++ l.flatMap cells) ∧ Fr (blk sa) w w' ∧ (∀ k, blk a' k → blk sa k ∨ w.heap.size ≤ k) := by
  rcases h2 with h2 | ⟨b, o, rfl, hb, hc⟩
  · subst h2
    simp only [List.length_nil] at hm
    subst hm
    obtain ⟨i, hi, hz, hsize, hby⟩ := info_parts hinfo
    refine ⟨sa, cap, w, run_append_zero t ty e i ht hi sa n cap h.2.1 xa c, ?_, Fr.refl _ _, fun k hk => Or.inl hk⟩
    simpa using h
  · by_cases hl : l = []
    · subst hl
      simp only [List.length_nil] at hm
      subst hm
      obtain ⟨i, hi, hz, hsize, hby⟩ := info_parts hinfo
      refine ⟨sa, cap, w, run_append_zero t ty e i ht hi sa n cap h.2.1 _ c, ?_, Fr.refl _ _, fun k hk => Or.inl hk⟩
      simpa using h
    · have hpos : 0 < l.length := List.length_pos_iff.2 hl
      have hlen : (l.flatMap cells).length = m * size := by
        rw [hm, List.length_flatMap]
        have : (l.map fun a => (cells a).length) = List.replicate l.length size := by
          apply List.ext_getElem
          · simp
          · intro i h1 h2; simp [hsz]
        rw [this]; simp
      exact run_append_at t ty e z size bytes ht hinfo hzs h ⟨b, o, none⟩ m c (l.flatMap cells) hlen (fun j u hu => by
        obtain ⟨i, x, r, q1, q2, rfl⟩ := flat_back cells size hsz l j u hu
        rw [Addr.add_lit, ← Nat.add_assoc]
        exact hc i x q1 r u q2) (fun u hu => by
          obtain ⟨x, _, hx⟩ := List.mem_flatMap.1 hu
          exact h1 x u hx) (by omega) h63 hbytes
theorem LsAt.takeN {α : Type} {w : World} {a : Option Addr} {sz : Nat} {cells : α → List Value} {l : List α} (h : LsAt w a sz cells l) (k : Nat) : LsAt w a sz cells (l.take k) := by
  rcases h with h | ⟨b, o, ha, hb, hc⟩
  · subst h; exact Or.inl (by simp)
  · refine Or.inr ⟨b, o, ha, hb, fun i x hx => hc i x ?_⟩
    rw [List.getElem?_take] at hx
    split at hx
    · exact hx
    · cases hx
theorem LsAt.dropN {α : Type} {w : World} {a : Option Addr} {sz : Nat} {cells : α → List Value} {l : List α} (h : LsAt w a sz cells l) (k m : Nat) (hm : m = k → l.length ≤ k) : LsAt w (if m = k then a else a.map (·.add (k * sz))) sz cells (l.drop k) := by
  by_cases hmk : m = k
  · exact Or.inl (List.drop_of_length_le (hm hmk))
  · rw [if_neg hmk]
    rcases h with h | ⟨b, o, rfl, hb, hc⟩
    · subst h; exact Or.inl (by simp)
    · refine Or.inr ⟨b, o + k * sz, by simp [Addr.add_lit], hb, fun i x hx j v hv => ?_⟩
      rw [List.getElem?_drop] at hx
      have := hc (k + i) x hx j v hv
      rw [Nat.add_mul] at this
      rw [Nat.add_assoc o, this]
theorem blk_cut {a : Option Addr} {m k d : Nat} : ∀ q, blk (if m = k then a else a.map (·.add d)) q → blk a q := by
  intro q hq
  split at hq
  · exact hq
  · cases a with
    | none => obtain ⟨_, h, _⟩ := hq; cases h
    | some ad =>
      obtain ⟨ad', h, rfl⟩ := hq
      simp only [Option.map_some, Option.some.injEq] at h
      subst h
      exact ⟨ad, rfl, by unfold Addr.add; split <;> rfl⟩
theorem blk_new {B s g : Nat} {a : Option Addr} (h : ∀ k, blk a k → blk (some ⟨g, 0, none⟩) k ∨ s ≤ k) (hg : B ≤ g) (hs : B ≤ s) : ∀ k, blk a k → B ≤ k := by
  intro k hk
  rcases h k hk with q | q
  · rw [blk_some] at q; omega
  · omega
theorem run_max_I {P : Program} {w : World} (ts : Array TypeId) (t : TypeId) (k k' : IntKind) (i j m : Int) (hm : m = if i < j then j else i) : (Builtin.max_ ts t #[.int k i, .int k' j]).run P w = .ok (.int k m) w := by
  subst hm
  rw [run_max_int2]
theorem run_min_I {P : Program} {w : World} (ts : Array TypeId) (t : TypeId) (k k' : IntKind) (i j m : Int) (hm : m = if j < i then j else i) : (Builtin.min_ ts t #[.int k i, .int k' j]).run P w = .ok (.int k m) w := by
  subst hm
  rw [run_min_int2]
section arms
variable {P : Program} {w : World} {ops : Array Oper} {rest : List Oper} {o : Oper} {a : Act} {Q : Exit → Act → World → Prop}
theorem wpAppendLs {α : Type} {cells : α → List Value} (hg : Region.wanted o (yielded ops a.tmps) = true) (s x : Operand) (t : TypeId) (hop : o.op = Op.call { callee := Callee.builtin Builtin.append, args := #[s, x], argTypes := #[t, t] }) (e : TypeId) (z : Value) (size bytes : Nat) (ht : P.underlying t = some (.slice e)) (hinfo : (P.info? e).map (fun i => (i.zero, i.size, i.bytes)) = some (some z, size, bytes))
    (hzs : z.cells.size = size) {sa xa : Option Addr} {n cap m c : Nat} {xs : List Value} {l : List α} (h : SlAt w sa n cap e size xs) (h2 : LsAt w xa size cells l) (hm : m = l.length) (hsz : ∀ x, (cells x).length = size) (h1 : ∀ x u, u ∈ cells x → u.oneCell' = true) (hs : a.eval s = .slice sa n cap) (hx : a.eval x = .slice xa m c)
    (h63 : n + m ≤ maxLen) (hbytes : (n + m) * bytes ≤ 140737488355328)
    (hK : ∀ a' cap' w', SlAt w' a' (n + m) cap' e size (xs ++ l.flatMap cells) → Fr (blk sa) w w' → (∀ k, blk a' k → blk sa k ∨ w.heap.size ≤ k) → wpList P ops Q rest (a.put o.dst (.slice a' (n + m) cap')) w') : wpList P ops Q (o :: rest) a w := by
  refine wpList_go hg fun K' hK' => ?_
  obtain ⟨a', cap', w', hrun, r1, r2, r3⟩ := run_append_ls (P := P) (c := c) t o.type e z size bytes ht hinfo hzs h h2 hm hsz h1 h63 hbytes
  unfold Oper.wp
  simp [execOp, hop, resolve, invoke, builtin, hs, hx, hrun, Result.andThen]
  exact hK' _ _ (hK _ _ _ r1 r2 r3)
/-- The same, the new length under a name. -/
theorem wpAppendLn {α : Type} {cells : α → List Value} (hg : Region.wanted o (yielded ops a.tmps) = true) (s x : Operand) (t : TypeId) (hop : o.op = Op.call { callee := Callee.builtin Builtin.append, args := #[s, x], argTypes := #[t, t] }) (e : TypeId) (z : Value) (size bytes : Nat) (ht : P.underlying t = some (.slice e)) (hinfo : (P.info? e).map (fun i => (i.zero, i.size, i.bytes)) = some (some z, size, bytes))
    (hzs : z.cells.size = size) {sa xa : Option Addr} {n cap m c : Nat} {xs : List Value} {l : List α} (h : SlAt w sa n cap e size xs) (h2 : LsAt w xa size cells l) (hm : m = l.length) (hsz : ∀ x, (cells x).length = size) (h1 : ∀ x u, u ∈ cells x → u.oneCell' = true) (hs : a.eval s = .slice sa n cap) (hx : a.eval x = .slice xa m c)
    (h63 : n + m ≤ maxLen) (hbytes : (n + m) * bytes ≤ 140737488355328)
    (hK : ∀ a' n' cap' w', Hid (n' = n + m) → SlAt w' a' n' cap' e size (xs ++ l.flatMap cells) → Fr (blk sa) w w' → (∀ k, blk a' k → blk sa k ∨ w.heap.size ≤ k) → wpList P ops Q rest (a.put o.dst (.slice a' n' cap')) w') : wpList P ops Q (o :: rest) a w := by
  refine wpList_go hg fun K' hK' => ?_
  obtain ⟨a', cap', w', hrun, r1, r2, r3⟩ := run_append_ls (P := P) (c := c) t o.type e z size bytes ht hinfo hzs h h2 hm hsz h1 h63 hbytes
  unfold Oper.wp
  simp [execOp, hop, resolve, invoke, builtin, hs, hx, hrun, Result.andThen]
  exact hK' _ _ (hK _ _ _ _ (Lib.hid rfl) r1 r2 r3)
theorem at_slice {d : Option Tmp} {x : Operand} {lo hi mx : Option Operand} {t tt : TypeId} {pos : String} {af : Array Edge} {g : Option (Nat × Bool)}
    (h : wpList P ops Q (⟨d, .slice t x lo hi mx, tt, pos, af, g⟩ :: rest) a w) : wpList P ops Q (⟨d, .slice t x lo hi mx, tt, pos, af, g⟩ :: rest) a w := h
/-- s[i:], s a slice that reads as a list. -/
theorem wpSliceL {α : Type} {cells : α → List Value} (hg : Region.wanted o (yielded ops a.tmps) = true) (x lo : Operand) (t : TypeId) (hop : o.op = Op.slice t x (some lo) none none) (e : TypeId) (size : Nat) (ht : P.underlying t = some (.slice e)) (hs : (P.info? e).map (·.size) = some size)
    {sa : Option Addr} {n c i : Nat} {kl : IntKind} (hx : a.eval x = .slice sa n c) (hlo : a.eval lo = .int kl (i : Int)) (hi : i ≤ n) (hc : n ≤ c) {l : List α} (hn : n = l.length) (hl : LsAt w sa size cells l)
    (hK : ∀ sa' n' c', Hid (n' = n - i) → LsAt w sa' size cells (l.drop i) → (∀ k, blk sa' k → blk sa k) → wpList P ops Q rest (a.put o.dst (.slice sa' n' c')) w) : wpList P ops Q (o :: rest) a w := by
  refine wpList_go hg fun K' hK' => ?_
  obtain ⟨inf, hinf, hsz⟩ := Option.map_eq_some_iff.1 hs
  have he : P.elem t = e := by simp [Program.elem, ht]
  have hrun : (Instr.sliceAt t (.slice sa n c) (some (.int kl (i : Int))) none none).run P w = .ok (.slice (if c = i then sa else sa.map (·.add (i * size))) (n - i) (c - i)) w := by
    rw [run_sliceAt_slice w t _ _ _ _ (by rw [ht, he]), run_slice_l w t sa n c (by rw [ht, he]) kl (i : Int) (by omega) (by omega), he]
    simp [sizeOf, typeInfo, hinf, hsz, sliced]
  unfold Oper.wp
  simp only [execOp, hop, hx, hlo, Option.map_some, Option.map_none]
  simp [hrun, Result.andThen]
  exact hK' _ _ (hK _ _ _ (Lib.hid rfl) (hl.dropN i c (fun e => by omega)) blk_cut)
/-- s[:j], s a slice. -/
theorem wpSliceH (hg : Region.wanted o (yielded ops a.tmps) = true) (x hi : Operand) (t : TypeId) (hop : o.op = Op.slice t x none (some hi) none) (e : TypeId) (size : Nat) (ht : P.underlying t = some (.slice e)) (hs : (P.info? e).map (·.size) = some size)
    {sa : Option Addr} {n c j : Nat} {kl : IntKind} (hx : a.eval x = .slice sa n c) (hhi : a.eval hi = .int kl (j : Int)) (hj : j ≤ c)
    (hK : wpList P ops Q rest (a.put o.dst (.slice sa j c)) w) : wpList P ops Q (o :: rest) a w := by
  refine wpList_go hg fun K' hK' => ?_
  obtain ⟨inf, hinf, hsz⟩ := Option.map_eq_some_iff.1 hs
  have he : P.elem t = e := by simp [Program.elem, ht]
  have hrun : (Instr.sliceAt t (.slice sa n c) none (some (.int kl (j : Int))) none).run P w = .ok (.slice sa j c) w := by
    rw [run_sliceAt_slice w t _ _ _ _ (by rw [ht, he]), run_slice_h w t sa n c (by rw [ht, he]) kl (j : Int) (by omega) (by omega), he]
    have hid : sa.map (fun x : Addr => x.add 0) = sa := by cases sa <;> simp [Addr.add]
    simp [sizeOf, typeInfo, hinf, hsz, sliced, hid]
  unfold Oper.wp
  simp only [execOp, hop, hx, hhi, Option.map_some, Option.map_none]
  simp [hrun, Result.andThen]
  exact hK' _ _ hK
/-! the same as one step of a region that draws its order -/
theorem stepAppendLn {K : Act → World → Prop} {E : Prop} {α : Type} {cells : α → List Value} (hgd : o.guard = none) (s x : Operand) (t : TypeId) (hop : o.op = Op.call { callee := Callee.builtin Builtin.append, args := #[s, x], argTypes := #[t, t] }) (e : TypeId) (z : Value) (size bytes : Nat) (ht : P.underlying t = some (.slice e)) (hinfo : (P.info? e).map (fun i => (i.zero, i.size, i.bytes)) = some (some z, size, bytes))
    (hzs : z.cells.size = size) {sa xa : Option Addr} {n cap m c : Nat} {xs : List Value} {l : List α} (h : SlAt w sa n cap e size xs) (h2 : LsAt w xa size cells l) (hm : m = l.length) (hsz : ∀ x, (cells x).length = size) (h1 : ∀ x u, u ∈ cells x → u.oneCell' = true) (hs : a.eval s = .slice sa n cap) (hx : a.eval x = .slice xa m c)
    (h63 : n + m ≤ maxLen) (hbytes : (n + m) * bytes ≤ 140737488355328)
    (hK : ∀ a' n' cap' w', Hid (n' = n + m) → SlAt w' a' n' cap' e size (xs ++ l.flatMap cells) → Fr (blk sa) w w' → (∀ k, blk a' k → blk sa k ∨ w.heap.size ≤ k) → K (a.put o.dst (.slice a' n' cap')) w') : if Region.wanted o (yielded ops a.tmps) = true then Oper.wp P o a w K Q else E := by
  have hw : Region.wanted o (yielded ops a.tmps) = true := by simp [Region.wanted, hgd]
  rw [if_pos hw]
  obtain ⟨a', cap', w', hrun, r1, r2, r3⟩ := run_append_ls (P := P) (c := c) t o.type e z size bytes ht hinfo hzs h h2 hm hsz h1 h63 hbytes
  unfold Oper.wp
  simp [execOp, hop, resolve, invoke, builtin, hs, hx, hrun, Result.andThen]
  exact hK _ _ _ _ (Lib.hid rfl) r1 r2 r3
theorem stepSliceL {K : Act → World → Prop} {E : Prop} {α : Type} {cells : α → List Value} (hgd : o.guard = none) (x lo : Operand) (t : TypeId) (hop : o.op = Op.slice t x (some lo) none none) (e : TypeId) (size : Nat) (ht : P.underlying t = some (.slice e)) (hs : (P.info? e).map (·.size) = some size)
    {sa : Option Addr} {n c i : Nat} {kl : IntKind} (hx : a.eval x = .slice sa n c) (hlo : a.eval lo = .int kl (i : Int)) (hi : i ≤ n) (hc : n ≤ c) {l : List α} (hn : n = l.length) (hl : LsAt w sa size cells l)
    (hK : ∀ sa' n' c', Hid (n' = n - i) → LsAt w sa' size cells (l.drop i) → (∀ k, blk sa' k → blk sa k) → K (a.put o.dst (.slice sa' n' c')) w) : if Region.wanted o (yielded ops a.tmps) = true then Oper.wp P o a w K Q else E := by
  have hw : Region.wanted o (yielded ops a.tmps) = true := by simp [Region.wanted, hgd]
  rw [if_pos hw]
  obtain ⟨inf, hinf, hsz⟩ := Option.map_eq_some_iff.1 hs
  have he : P.elem t = e := by simp [Program.elem, ht]
  have hrun : (Instr.sliceAt t (.slice sa n c) (some (.int kl (i : Int))) none none).run P w = .ok (.slice (if c = i then sa else sa.map (·.add (i * size))) (n - i) (c - i)) w := by
    rw [run_sliceAt_slice w t _ _ _ _ (by rw [ht, he]), run_slice_l w t sa n c (by rw [ht, he]) kl (i : Int) (by omega) (by omega), he]
    simp [sizeOf, typeInfo, hinf, hsz, sliced]
  unfold Oper.wp
  simp only [execOp, hop, hx, hlo, Option.map_some, Option.map_none]
  simp [hrun, Result.andThen]
  exact hK _ _ _ (Lib.hid rfl) (hl.dropN i c (fun e => by omega)) blk_cut
theorem stepSliceH {K : Act → World → Prop} {E : Prop} (hgd : o.guard = none) (x hi : Operand) (t : TypeId) (hop : o.op = Op.slice t x none (some hi) none) (e : TypeId) (size : Nat) (ht : P.underlying t = some (.slice e)) (hs : (P.info? e).map (·.size) = some size)
    {sa : Option Addr} {n c j : Nat} {kl : IntKind} (hx : a.eval x = .slice sa n c) (hhi : a.eval hi = .int kl (j : Int)) (hj : j ≤ c)
    (hK : K (a.put o.dst (.slice sa j c)) w) : if Region.wanted o (yielded ops a.tmps) = true then Oper.wp P o a w K Q else E := by
  have hw : Region.wanted o (yielded ops a.tmps) = true := by simp [Region.wanted, hgd]
  rw [if_pos hw]
  obtain ⟨inf, hinf, hsz⟩ := Option.map_eq_some_iff.1 hs
  have he : P.elem t = e := by simp [Program.elem, ht]
  have hrun : (Instr.sliceAt t (.slice sa n c) none (some (.int kl (j : Int))) none).run P w = .ok (.slice sa j c) w := by
    rw [run_sliceAt_slice w t _ _ _ _ (by rw [ht, he]), run_slice_h w t sa n c (by rw [ht, he]) kl (j : Int) (by omega) (by omega), he]
    have hid : sa.map (fun x : Addr => x.add 0) = sa := by cases sa <;> simp [Addr.add]
    simp [sizeOf, typeInfo, hinf, hsz, sliced, hid]
  unfold Oper.wp
  simp only [execOp, hop, hx, hhi, Option.map_some, Option.map_none]
  simp [hrun, Result.andThen]
  exact hK
theorem wpMaxI' (hg : Region.wanted o (yielded ops a.tmps) = true) (x y : Operand) (ts : Array TypeId) (hop : o.op = Op.call { callee := Callee.builtin Builtin.max, args := #[x, y], argTypes := ts }) (k k' : IntKind) (i j m : Int) (hm : m = if i < j then j else i)
    (hx : a.eval x = .int k i) (hy : a.eval y = .int k' j) (hK : wpList P ops Q rest (a.put o.dst (.int k m)) w) : wpList P ops Q (o :: rest) a w := by
  refine wpList_go hg fun K' hK' => ?_
  unfold Oper.wp
  have hrun := run_max_I (P := P) (w := w) ts o.type k k' i j m hm
  simp [execOp, hop, resolve, invoke, builtin, hx, hy, hrun, Result.andThen]
  exact hK' _ _ hK
theorem wpMinI (hg : Region.wanted o (yielded ops a.tmps) = true) (x y : Operand) (ts : Array TypeId) (hop : o.op = Op.call { callee := Callee.builtin Builtin.min, args := #[x, y], argTypes := ts }) (k k' : IntKind) (i j m : Int) (hm : m = if j < i then j else i)
    (hx : a.eval x = .int k i) (hy : a.eval y = .int k' j) (hK : wpList P ops Q rest (a.put o.dst (.int k m)) w) : wpList P ops Q (o :: rest) a w := by
  refine wpList_go hg fun K' hK' => ?_
  unfold Oper.wp
  have hrun := run_min_I (P := P) (w := w) ts o.type k k' i j m hm
  simp [execOp, hop, resolve, invoke, builtin, hx, hy, hrun, Result.andThen]
  exact hK' _ _ hK
end arms
end Go.Proofs.YtckkccnebjacdaaGreat
