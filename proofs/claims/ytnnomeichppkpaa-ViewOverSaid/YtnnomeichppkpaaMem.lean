/-
  clear, copy of a string, string of bytes: on a row of cells that is known whole. Nothing of the program in it.
-/
import Derived.Test.YtnnomeichppkpaaMaps
import Derived.Lib.SliceRun
import Derived.Laws.CopyRow
namespace Go.Proofs.Ytnnomeichppkpaa
open Go.RowKit
set_option linter.unusedVariables false
set_option linter.unusedSimpArgs false

def byteV (b : UInt8) : Value := .int .u8 b.toNat
theorem byteV_one (b : UInt8) : (byteV b).oneCell' = true := rfl

/-- A list with others in the place of some from o on. -/
def putAt {α : Type} (l : List α) (o : Nat) (vs : List α) : List α := l.take o ++ vs ++ l.drop (o + vs.length)
theorem putAt_length {α : Type} (l : List α) (o : Nat) (vs : List α) (h : o + vs.length ≤ l.length) : (putAt l o vs).length = l.length := by
  unfold putAt; simp; omega
theorem putAt_get {α : Type} (l : List α) (o : Nat) (vs : List α) (h : o + vs.length ≤ l.length) (i : Nat) :
    (putAt l o vs)[i]? = if i < o then l[i]? else if i < o + vs.length then vs[i - o]? else l[i]? := by
  unfold putAt
  have ht : (l.take o).length = o := by simp; omega
  by_cases h1 : i < o
  · rw [if_pos h1, List.append_assoc, List.getElem?_append_left (by omega), List.getElem?_take, if_pos h1]
  · rw [if_neg h1]
    by_cases h2 : i < o + vs.length
    · rw [if_pos h2, List.append_assoc, List.getElem?_append_right (by omega), List.getElem?_append_left (by omega), ht]
    · rw [if_neg h2, List.append_assoc, List.getElem?_append_right (by omega), List.getElem?_append_right (by omega), ht, List.getElem?_drop]
      congr 1; omega
def putAtA (cs : Array Value) (o : Nat) (vs : List Value) : Array Value := (putAt cs.toList o vs).toArray

theorem putAtA_size (cs : Array Value) (o : Nat) (vs : List Value) (h : o + vs.length ≤ cs.size) : (putAtA cs o vs).size = cs.size := by
  unfold putAtA; rw [List.size_toArray, putAt_length _ _ _ (by simpa using h)]; simp
theorem putAt_nil {α : Type} (l : List α) (o : Nat) : putAt l o [] = l := by simp [putAt]

theorem run_store_row {P : Program} {w : World} {g : Nat} {cs : Array Value} {t : TypeId} (h : Row w g cs t) (o : Nat) (vs : List Value) (hl : o + vs.length ≤ cs.size) (h1 : ∀ v ∈ vs, v.oneCell' = true) :
    (storeCells ⟨g, o, none⟩ vs).run P w = .ok () (w.setRow g (putAtA cs o vs)) := by
  have := run_storeCells_at P g o t vs 0 cs w h (by omega) h1
  simpa [putAtA, putAt] using this

theorem run_clear_row {P : Program} {w : World} {g : Nat} {cs : Array Value} {t : TypeId} (h : Row w g cs t) (st e ty : TypeId) (z : Value) (ht : P.underlying st = some (.slice e)) (hv : ∀ w, (zeroValue e).run P w = .ok z w) (hz : z.cells = #[z]) (h1 : z.oneCell' = true)
    (o n c : Nat) (hn : o + n ≤ cs.size) :
    (Builtin.clear_ #[st] ty #[.slice (some ⟨g, o, none⟩) n c]).run P w = .ok (.tuple #[]) (w.setRow g (putAtA cs o (List.replicate n z))) := by
  have hzc : (Builtin.zeroCells z.cells n).toList = List.replicate n z := by
    rw [hz]
    simp [Builtin.zeroCells]
    apply List.ext_getElem
    · simp
    · intro i h1 h2
      simp [Nat.mod_one]
  have hst := run_store_row (P := P) h o (List.replicate n z) (by simpa using hn) (by intro v hv'; rw [List.eq_of_mem_replicate hv']; exact h1)
  cases n with
  | zero =>
    have e1 : putAtA cs o (List.replicate 0 z) = cs := by simp [putAtA, putAt]
    rw [e1]
    have e2 : w.setRow g cs = w := setRow_self w g cs t (0, 0) h
    rw [e2]
    simp [Builtin.clear_, run_underlying ht]
  | succ m =>
    simp [Builtin.clear_, run_underlying ht, hv, hzc, hst]

theorem run_copy_string {P : Program} {w : World} {g : Nat} {cs : Array Value} {t : TypeId} (h : Row w g cs t) (dT sT ty e : TypeId) (ht : P.underlying dT = some (.slice e)) (hs : (P.info? e).map (·.size) = some 1)
    (o n c : Nat) (s : ByteArray) (hs1 : s.size ≤ n) (hn : o + n ≤ cs.size) :
    (Builtin.copy_ #[dT, sT] ty #[.slice (some ⟨g, o, none⟩) n c, .string s]).run P w = .ok (.int .i64 s.size) (w.setRow g (putAtA cs o (s.data.toList.map byteV))) := by
  obtain ⟨i, hi, hi1⟩ := Option.map_eq_some_iff.1 hs
  have hmin : Nat.min s.size n = s.size := by show min s.size n = s.size; omega
  have hex : s.extract 0 s.size = s := by simp
  have hst := run_store_row (P := P) h o (s.data.toList.map byteV) (by simp; show o + s.size ≤ _; omega) (by intro v hv; obtain ⟨b, _, rfl⟩ := List.mem_map.1 hv; rfl)
  have hmap : (s.data.map fun b => Value.int .u8 (b.toNat : Int)).toList = s.data.toList.map byteV := by simp [byteV]
  simp [Builtin.copy_, run_underlying ht, Builtin.lenOf, hmin, sizeOf, typeInfo, hi, hi1, Builtin.firstCells, hex, goInt]
  have hst' : (storeCells ⟨g, o, none⟩ (List.map (fun b : UInt8 => Value.int IntKind.u8 (b.toNat : Int)) s.data.toList)).run P w = .ok () (w.setRow g (putAtA cs o (s.data.toList.map byteV))) := hst
  rw [List.take_of_length_le (by simp), hst']; rfl

/-- The string of a piece of bytes. -/
def strOf (bs : List UInt8) : ByteArray := ⟨bs.toArray⟩
theorem strOf_size (bs : List UInt8) : (strOf bs).size = bs.length := by simp [strOf, ByteArray.size]

theorem run_string_row {P : Program} {w : World} {g : Nat} {cs : Array Value} {t : TypeId} (h : Row w g cs t) (src dst e : TypeId) (hs : P.underlying src = some (.slice e)) (he : P.underlying e = some (.int .u8)) (hd : P.underlying dst = some .string)
    (o n c : Nat) (bs : List UInt8) (hl : bs.length = n) (hb : ∀ i, i < n → cs[o + i]? = some (byteV (bs.getD i 0))) :
    (convert src dst (.slice (some ⟨g, o, none⟩) n c)).run P w = .ok (.string (strOf bs)) w := by
  have := run_convert_bytes_arg (P := P) (w := w) src e hs he g o n c (bs.map fun b => (b.toNat : Int)) (by simp [hl]) (by
    intro i hi
    rw [h.cell, hb i hi]
    have : i < bs.length := by omega
    simp [byteV, List.getD, this]) dst hd
  rw [this]
  congr 1
  congr 1
  apply ByteArray.ext
  apply Array.ext'
  rw [strOfNums_data]
  simp [strOf, Function.comp_def]

/-! ### at the operation, for the walk -/
section arms
variable {P : Program} {w : World} {ops : Array Oper} {rest : List Oper} {o : Oper} {a : Act} {Q : Exit → Act → World → Prop}
/-- Guards: the operation that stands next is this one ('with_reducible refine at_clear ?_' fails at once at any other). -/
theorem at_clear {d : Option Tmp} {xs : Array Operand} {ts : Array TypeId} {t : TypeId} {pos : String} {af : Array Edge} {g : Option (Nat × Bool)}
    (h : wpList P ops Q (⟨d, .call ⟨.builtin .clear, xs, ts⟩, t, pos, af, g⟩ :: rest) a w) : wpList P ops Q (⟨d, .call ⟨.builtin .clear, xs, ts⟩, t, pos, af, g⟩ :: rest) a w := h
theorem at_copy {d : Option Tmp} {xs : Array Operand} {ts : Array TypeId} {t : TypeId} {pos : String} {af : Array Edge} {g : Option (Nat × Bool)}
    (h : wpList P ops Q (⟨d, .call ⟨.builtin .copy, xs, ts⟩, t, pos, af, g⟩ :: rest) a w) : wpList P ops Q (⟨d, .call ⟨.builtin .copy, xs, ts⟩, t, pos, af, g⟩ :: rest) a w := h
theorem at_storeOf (ty : TypeId) {d : Option Tmp} {x y : Operand} {t : TypeId} {pos : String} {af : Array Edge} {g : Option (Nat × Bool)}
    (h : wpList P ops Q (⟨d, .store ty x y, t, pos, af, g⟩ :: rest) a w) : wpList P ops Q (⟨d, .store ty x y, t, pos, af, g⟩ :: rest) a w := h
theorem at_slot (n : Nat) {op : Op} {t : TypeId} {pos : String} {af : Array Edge} {g : Option (Nat × Bool)}
    (h : wpList P ops Q (⟨some n, op, t, pos, af, g⟩ :: rest) a w) : wpList P ops Q (⟨some n, op, t, pos, af, g⟩ :: rest) a w := h
theorem wpValue (hg : Region.wanted o (yielded ops a.tmps) = true) (v : Value) (w' : World) (hrun : (execOp a.eval o).run P w = .ok (.value v) w') (hK : wpList P ops Q rest (a.put o.dst v) w') : wpList P ops Q (o :: rest) a w := by
  refine wpList_go hg fun K' hK' => ?_
  unfold Oper.wp
  rw [hrun]
  exact hK' _ _ hK
/-- A whole struct, or array, is stored over a whole block. -/
theorem wpStoreRow (hg : Region.wanted o (yielded ops a.tmps) = true) (x y : Operand) (ty : TypeId) (hop : o.op = Op.store ty x y) {g : Nat} {cs cs' : Array Value} {t : TypeId} (h : Row w g cs t) (hx : a.eval x = .pointer (some ⟨g, 0, none⟩)) (hy : a.eval y = .agg cs')
    (hs : (P.info? ty).map (·.size) = some cs'.size) (hl : cs'.size = cs.size) (h1 : ∀ v ∈ cs'.toList, v.oneCell' = true)
    (hK : ∀ w', Row w' g cs' t → Fr (one g) w w' → wpList P ops Q rest (a.put o.dst undef) w') : wpList P ops Q (o :: rest) a w := by
  refine wpList_go hg fun K' hK' => ?_
  obtain ⟨i, hi, hi1⟩ := Option.map_eq_some_iff.1 hs
  have hst := run_store_row (P := P) h 0 cs'.toList (by simp [hl]) h1
  have e : putAtA cs 0 cs'.toList = cs' := by
    unfold putAtA putAt
    apply Array.ext'
    simp [hl]
  rw [e] at hst
  unfold Oper.wp
  simp [execOp, hop, hx, hy, Instr.storeAt, Instr.sureAddr, storeVar, sizeOf, typeInfo, hi, hi1, Value.cells, hst, Result.andThen]
  exact hK' _ _ (hK _ (h.setRow _) (Fr.setRow h _ rfl))
theorem made_bytes (n : Nat) : madeCells #[Value.int .u8 0] n = ((List.replicate n (0 : UInt8)).map byteV).toArray := by
  apply Array.ext'
  unfold madeCells
  apply List.ext_getElem
  · simp
  · intro i h1 h2
    simp [Nat.mod_one, byteV]
/-- make([]byte, l, c). -/
theorem wpMakeBytes (hg : Region.wanted o (yielded ops a.tmps) = true) (x y : Operand) (t e : TypeId) (hop : o.op = Op.makeSlice t x y) (ht : P.underlying t = some (.slice e)) (hinfo : (P.info? e).map (fun i => (i.zero, i.size, i.bytes)) = some (some (.int .u8 0), 1, 1))
    (kl kc : IntKind) (l c : Nat) (hx : a.eval x = .int kl (l : Int)) (hy : a.eval y = .int kc (c : Int)) (hlc : l ≤ c) (hc : c ≤ 281474976710656)
    (hK : ∀ w', Row w' w.heap.size ((List.replicate c (0 : UInt8)).map byteV).toArray e → Fr none_ w w' → w'.heap.size = w.heap.size + 1 → wpList P ops Q rest (a.put o.dst (.slice (some ⟨w.heap.size, 0, none⟩) l c)) w') : wpList P ops Q (o :: rest) a w := by
  refine wpList_go hg fun K' hK' => ?_
  obtain ⟨i, hi, hz, hsize, hby⟩ := info_parts hinfo
  have hr := run_make (P := P) w t e i (.int .u8 0) ht hi hz kl kc l c (by omega) (by omega) (by rw [hby]; omega) (by omega)
  rw [hsize] at hr
  simp only [Int.toNat_natCast, Nat.mul_one, Value.cells, made_bytes] at hr
  obtain ⟨C, hC⟩ : ∃ C, C = ((List.replicate c (0 : UInt8)).map byteV).toArray := ⟨_, rfl⟩
  rw [← hC] at hr hK
  unfold Oper.wp
  simp [execOp, hop, hx, hy, hr, Result.andThen]
  exact hK' _ _ (hK _ (Row.new w _ e) (Fr.alloc _ _ _) (by simp))
/-- string(b), b a piece of a row of bytes. -/
theorem wpString (hg : Region.wanted o (yielded ops a.tmps) = true) (x : Operand) (src dst e : TypeId) (hop : o.op = Op.convert src dst x) {g : Nat} {cs : Array Value} {t : TypeId} (h : Row w g cs t) (hs : P.underlying src = some (.slice e)) (he : P.underlying e = some (.int .u8)) (hd : P.underlying dst = some .string)
    (off n c : Nat) (hx : a.eval x = .slice (some ⟨g, off, none⟩) n c) (bs : List UInt8) (hl : bs.length = n) (hb : ∀ i, i < n → cs[off + i]? = some (byteV (bs.getD i 0)))
    (hK : wpList P ops Q rest (a.put o.dst (.string (strOf bs))) w) : wpList P ops Q (o :: rest) a w := by
  refine wpList_go hg fun K' hK' => ?_
  have hrun := run_string_row (P := P) h src dst e hs he hd off n c bs hl hb
  unfold Oper.wp
  simp [execOp, hop, hx, hrun, Result.andThen]
  exact hK' _ _ hK
/-- s + t. -/
theorem wpAddStr (hg : Region.wanted o (yielded ops a.tmps) = true) (x y : Operand) (t t' : TypeId) (hop : o.op = Op.binOp .add t x y t') (s1 s2 : ByteArray) (hx : a.eval x = .string s1) (hy : a.eval y = .string s2) (hs : s1.size + s2.size ≤ 9223372036854775807) (s : ByteArray) (he : s1 ++ s2 = s)
    (hK : wpList P ops Q rest (a.put o.dst (.string s)) w) : wpList P ops Q (o :: rest) a w := by
  refine wpList_go hg fun K' hK' => ?_
  have hr := run_string_add_sum (P := P) w s1 s2 hs
  unfold Oper.wp
  rw [he] at hr
  simp [execOp, hop, hx, hy, binOp_string_add, hr, eqGuard, Result.andThen]
  exact hK' _ _ hK
/-- s == t, where it is known. -/
theorem wpEqlStr (hg : Region.wanted o (yielded ops a.tmps) = true) (x y : Operand) (t t' : TypeId) (hop : o.op = Op.binOp .eql t x y t') (s1 s2 : ByteArray) (hx : a.eval x = .string s1) (hy : a.eval y = .string s2)
    (hK : wpList P ops Q rest (a.put o.dst (.bool (decide (s1 = s2)))) w) : wpList P ops Q (o :: rest) a w := by
  refine wpList_go hg fun K' hK' => ?_
  have e : (s1.toList == s2.toList) = decide (s1 = s2) := by rw [← beq_toListBytes, bytes_beq]
  unfold Oper.wp
  simp only [execOp, hop, hx, hy, eqGuard, binOp_string_eql, e]
  simp [Result.andThen]
  exact hK' _ _ hK
theorem wpNeqStr (hg : Region.wanted o (yielded ops a.tmps) = true) (x y : Operand) (t t' : TypeId) (hop : o.op = Op.binOp .neq t x y t') (s1 s2 : ByteArray) (hx : a.eval x = .string s1) (hy : a.eval y = .string s2)
    (hK : wpList P ops Q rest (a.put o.dst (.bool (!decide (s1 = s2)))) w) : wpList P ops Q (o :: rest) a w := by
  refine wpList_go hg fun K' hK' => ?_
  have e : (s1.toList == s2.toList) = decide (s1 = s2) := by rw [← beq_toListBytes, bytes_beq]
  unfold Oper.wp
  simp only [execOp, hop, hx, hy, eqGuard, binOp_string_neq, e]
  simp [Result.andThen]
  exact hK' _ _ hK
theorem wpClear (hg : Region.wanted o (yielded ops a.tmps) = true) (x : Operand) (st : TypeId) (hop : o.op = Op.call { callee := Callee.builtin Builtin.clear, args := #[x], argTypes := #[st] }) {g : Nat} {cs : Array Value} {t : TypeId} (h : Row w g cs t) (e : TypeId) (z : Value) (ht : P.underlying st = some (.slice e)) (hv : ∀ w, (zeroValue e).run P w = .ok z w) (hz : z.cells = #[z]) (h1 : z.oneCell' = true)
    (off n c : Nat) (hx : a.eval x = .slice (some ⟨g, off, none⟩) n c) (hn : off + n ≤ cs.size)
    (hK : ∀ w', Row w' g (putAtA cs off (List.replicate n z)) t → Fr (one g) w w' → wpList P ops Q rest (a.put o.dst (.tuple #[])) w') : wpList P ops Q (o :: rest) a w := by
  refine wpList_go hg fun K' hK' => ?_
  have hrun := run_clear_row (P := P) h st e o.type z ht hv hz h1 off n c hn
  unfold Oper.wp
  simp [execOp, hop, resolve, invoke, builtin, hx, hrun, Result.andThen]
  exact hK' _ _ (hK _ (h.setRow _) (Fr.setRow h _ rfl))
theorem wpCopyStr (hg : Region.wanted o (yielded ops a.tmps) = true) (x y : Operand) (dT sT : TypeId) (hop : o.op = Op.call { callee := Callee.builtin Builtin.copy, args := #[x, y], argTypes := #[dT, sT] }) {g : Nat} {cs : Array Value} {t : TypeId} (h : Row w g cs t) (e : TypeId) (ht : P.underlying dT = some (.slice e)) (hs : (P.info? e).map (·.size) = some 1)
    (off n c : Nat) (s : ByteArray) (hx : a.eval x = .slice (some ⟨g, off, none⟩) n c) (hy : a.eval y = .string s) (hs1 : s.size ≤ n) (hn : off + n ≤ cs.size)
    (hK : ∀ w', Row w' g (putAtA cs off (s.data.toList.map byteV)) t → Fr (one g) w w' → wpList P ops Q rest (a.put o.dst (.int .i64 s.size)) w') : wpList P ops Q (o :: rest) a w := by
  refine wpList_go hg fun K' hK' => ?_
  have hrun := run_copy_string (P := P) h dT sT o.type e ht hs off n c s hs1 hn
  unfold Oper.wp
  simp [execOp, hop, resolve, invoke, builtin, hx, hy, hrun, Result.andThen]
  exact hK' _ _ (hK _ (h.setRow _) (Fr.setRow h _ rfl))
end arms
end Go.Proofs.Ytnnomeichppkpaa
