/-
  append of a slice that reads as a list (its memory whosever it is) to a slice of the call's own; max and min of two Ints at a named result. Nothing of the program in it.
-/
import Derived.Test.YtnnomeichppkpaaAppendS
import Derived.Test.YtnnomeichppkpaaLs
namespace Go.Proofs.Ytnnomeichppkpaa
open Go.RowKit
set_option linter.unusedVariables false
set_option linter.unusedSimpArgs false

theorem flat_back {α : Type} (cells : α → List Value) (sz : Nat) (hsz : ∀ x, (cells x).length = sz) : ∀ (l : List α) (j : Nat) (u : Value), (l.flatMap cells)[j]? = some u → ∃ i x r, l[i]? = some x ∧ (cells x)[r]? = some u ∧ j = i * sz + r
  | [], j, u, h => by simp at h
  | y :: l, j, u, h => by
    rw [List.flatMap_cons] at h
    by_cases hj : j < sz
    · rw [List.getElem?_append_left (by rw [hsz]; exact hj)] at h
      exact ⟨0, y, j, rfl, h, by omega⟩
    · rw [List.getElem?_append_right (by rw [hsz]; omega), hsz] at h
      obtain ⟨i, x, r, h1, h2, h3⟩ := flat_back cells sz hsz l (j - sz) u h
      exact ⟨i + 1, x, r, by simpa using h1, h2, by rw [Nat.add_mul]; omega⟩
theorem run_append_ls {P : Program} {w : World} {α : Type} {cells : α → List Value} (t ty e : TypeId) (z : Value) (size bytes : Nat) (ht : P.underlying t = some (.slice e)) (hinfo : (P.info? e).map (fun i => (i.zero, i.size, i.bytes)) = some (some z, size, bytes))
    (hzs : z.cells.size = size) {sa xa : Option Addr} {n cap m c : Nat} {xs : List Value} {l : List α} (h : SlAt w sa n cap e size xs) (h2 : LsAt w xa size cells l) (hm : m = l.length) (hsz : ∀ x, (cells x).length = size) (h1 : ∀ x u, u ∈ cells x → u.oneCell' = true)
    (h63 : n + m ≤ maxLen) (hbytes : (n + m) * bytes ≤ 140737488355328) :
    ∃ a' cap' w', (Builtin.append_ #[t, t] ty #[.slice sa n cap, .slice xa m c]).run P w = .ok (.slice a' (n + m) cap') w' ∧ SlAt w' a' (n + m) cap' e size (xs ++ l.flatMap cells) ∧ Fr (blk sa) w w' ∧ (∀ k, blk a' k → blk sa k ∨ w.heap.size ≤ k) := by
  rcases h2 with h2 | ⟨b, o, rfl, hb, hc⟩
  · subst h2
    simp only [List.length_nil] at hm
    subst hm
    obtain ⟨i, hi, hz, hsize, hby⟩ := info_parts hinfo
    refine ⟨sa, cap, w, run_append_zero t ty e i ht hi sa n cap h.2.1 xa c, ?_, Fr.refl _ _, fun k hk => Or.inl hk⟩
    simpa using h
  · by_cases hl : l = []
    · subst hl
      simp only [List.length_nil] at hm
      subst hm
      obtain ⟨i, hi, hz, hsize, hby⟩ := info_parts hinfo
      refine ⟨sa, cap, w, run_append_zero t ty e i ht hi sa n cap h.2.1 _ c, ?_, Fr.refl _ _, fun k hk => Or.inl hk⟩
      simpa using h
    · have hpos : 0 < l.length := List.length_pos_iff.2 hl
      have hlen : (l.flatMap cells).length = m * size := by
        rw [hm, List.length_flatMap]
        have : (l.map fun a => (cells a).length) = List.replicate l.length size := by
          apply List.ext_getElem
          · simp
          · intro i h1 h2; simp [hsz]
        rw [this]; simp
      exact run_append_at t ty e z size bytes ht hinfo hzs h ⟨b, o, none⟩ m c (l.flatMap cells) hlen (fun j u hu => by
        obtain ⟨i, x, r, q1, q2, rfl⟩ := flat_back cells size hsz l j u hu
        rw [Addr.add_lit, ← Nat.add_assoc]
        exact hc i x q1 r u q2) (fun u hu => by
          obtain ⟨x, _, hx⟩ := List.mem_flatMap.1 hu
          exact h1 x u hx) (by omega) h63 hbytes
theorem LsAt.takeN {α : Type} {w : World} {a : Option Addr} {sz : Nat} {cells : α → List Value} {l : List α} (h : LsAt w a sz cells l) (k : Nat) : LsAt w a sz cells (l.take k) := by
  rcases h with h | ⟨b, o, ha, hb, hc⟩
  · subst h; exact Or.inl (by simp)
  · refine Or.inr ⟨b, o, ha, hb, fun i x hx => hc i x ?_⟩
    rw [List.getElem?_take] at hx
    split at hx
    · exact hx
    · cases hx
theorem LsAt.dropN {α : Type} {w : World} {a : Option Addr} {sz : Nat} {cells : α → List Value} {l : List α} (h : LsAt w a sz cells l) (k m : Nat) (hm : m = k → l.length ≤ k) : LsAt w (if m = k then a else a.map (·.add (k * sz))) sz cells (l.drop k) := by
  by_cases hmk : m = k
  · exact Or.inl (List.drop_of_length_le (hm hmk))
  · rw [if_neg hmk]
    rcases h with h | ⟨b, o, rfl, hb, hc⟩
    · subst h; exact Or.inl (by simp)
    · refine Or.inr ⟨b, o + k * sz, by simp [Addr.add_lit], hb, fun i x hx j v hv => ?_⟩
      rw [List.getElem?_drop] at hx
      have := hc (k + i) x hx j v hv
      rw [Nat.add_mul] at this
      rw [Nat.add_assoc o, this]
theorem blk_cut {a : Option Addr} {m k d : Nat} : ∀ q, blk (if m = k then a else a.map (·.add d)) q → blk a q := by
  intro q hq
  split at hq
  · exact hq
  · cases a with
    | none => obtain ⟨_, h, _⟩ := hq; cases h
    | some ad =>
      obtain ⟨ad', h, rfl⟩ := hq
      simp only [Option.map_some, Option.some.injEq] at h
      subst h
      exact ⟨ad, rfl, by unfold Addr.add; split <;> rfl⟩
theorem blk_new {B s g : Nat} {a : Option Addr} (h : ∀ k, blk a k → blk (some ⟨g, 0, none⟩) k ∨ s ≤ k) (hg : B ≤ g) (hs : B ≤ s) : ∀ k, blk a k → B ≤ k := by
  intro k hk
  rcases h k hk with q | q
  · rw [blk_some] at q; omega
  · omega
theorem run_max_I {P : Program} {w : World} (ts : Array TypeId) (t : TypeId) (k k' : IntKind) (i j m : Int) (hm : m = if i < j then j else i) : (Builtin.max_ ts t #[.int k i, .int k' j]).run P w = .ok (.int k m) w := by
  subst hm
  rw [run_max_int2]
theorem run_min_I {P : Program} {w : World} (ts : Array TypeId) (t : TypeId) (k k' : IntKind) (i j m : Int) (hm : m = if j < i then j else i) : (Builtin.min_ ts t #[.int k i, .int k' j]).run P w = .ok (.int k m) w := by
  subst hm
  rw [run_min_int2]
section arms
variable {P : Program} {w : World} {ops : Array Oper} {rest : List Oper} {o : Oper} {a : Act} {Q : Exit → Act → World → Prop}
theorem wpAppendLs {α : Type} {cells : α → List Value} (hg : Region.wanted o (yielded ops a.tmps) = true) (s x : Operand) (t : TypeId) (hop : o.op = Op.call { callee := Callee.builtin Builtin.append, args := #[s, x], argTypes := #[t, t] }) (e : TypeId) (z : Value) (size bytes : Nat) (ht : P.underlying t = some (.slice e)) (hinfo : (P.info? e).map (fun i => (i.zero, i.size, i.bytes)) = some (some z, size, bytes))
    (hzs : z.cells.size = size) {sa xa : Option Addr} {n cap m c : Nat} {xs : List Value} {l : List α} (h : SlAt w sa n cap e size xs) (h2 : LsAt w xa size cells l) (hm : m = l.length) (hsz : ∀ x, (cells x).length = size) (h1 : ∀ x u, u ∈ cells x → u.oneCell' = true) (hs : a.eval s = .slice sa n cap) (hx : a.eval x = .slice xa m c)
    (h63 : n + m ≤ maxLen) (hbytes : (n + m) * bytes ≤ 140737488355328)
    (hK : ∀ a' cap' w', SlAt w' a' (n + m) cap' e size (xs ++ l.flatMap cells) → Fr (blk sa) w w' → (∀ k, blk a' k → blk sa k ∨ w.heap.size ≤ k) → wpList P ops Q rest (a.put o.dst (.slice a' (n + m) cap')) w') : wpList P ops Q (o :: rest) a w := by
  refine wpList_go hg fun K' hK' => ?_
  obtain ⟨a', cap', w', hrun, r1, r2, r3⟩ := run_append_ls (P := P) (c := c) t o.type e z size bytes ht hinfo hzs h h2 hm hsz h1 h63 hbytes
  unfold Oper.wp
  simp [execOp, hop, resolve, invoke, builtin, hs, hx, hrun, Result.andThen]
  exact hK' _ _ (hK _ _ _ r1 r2 r3)
/-- The same, the new length under a name. -/
theorem wpAppendLn {α : Type} {cells : α → List Value} (hg : Region.wanted o (yielded ops a.tmps) = true) (s x : Operand) (t : TypeId) (hop : o.op = Op.call { callee := Callee.builtin Builtin.append, args := #[s, x], argTypes := #[t, t] }) (e : TypeId) (z : Value) (size bytes : Nat) (ht : P.underlying t = some (.slice e)) (hinfo : (P.info? e).map (fun i => (i.zero, i.size, i.bytes)) = some (some z, size, bytes))
    (hzs : z.cells.size = size) {sa xa : Option Addr} {n cap m c : Nat} {xs : List Value} {l : List α} (h : SlAt w sa n cap e size xs) (h2 : LsAt w xa size cells l) (hm : m = l.length) (hsz : ∀ x, (cells x).length = size) (h1 : ∀ x u, u ∈ cells x → u.oneCell' = true) (hs : a.eval s = .slice sa n cap) (hx : a.eval x = .slice xa m c)
    (h63 : n + m ≤ maxLen) (hbytes : (n + m) * bytes ≤ 140737488355328)
    (hK : ∀ a' n' cap' w', Hid (n' = n + m) → SlAt w' a' n' cap' e size (xs ++ l.flatMap cells) → Fr (blk sa) w w' → (∀ k, blk a' k → blk sa k ∨ w.heap.size ≤ k) → wpList P ops Q rest (a.put o.dst (.slice a' n' cap')) w') : wpList P ops Q (o :: rest) a w := by
  refine wpList_go hg fun K' hK' => ?_
  obtain ⟨a', cap', w', hrun, r1, r2, r3⟩ := run_append_ls (P := P) (c := c) t o.type e z size bytes ht hinfo hzs h h2 hm hsz h1 h63 hbytes
  unfold Oper.wp
  simp [execOp, hop, resolve, invoke, builtin, hs, hx, hrun, Result.andThen]
  exact hK' _ _ (hK _ _ _ _ (Lib.hid rfl) r1 r2 r3)
theorem at_slice {d : Option Tmp} {x : Operand} {lo hi mx : Option Operand} {t tt : TypeId} {pos : String} {af : Array Edge} {g : Option (Nat × Bool)}
    (h : wpList P ops Q (⟨d, .slice t x lo hi mx, tt, pos, af, g⟩ :: rest) a w) : wpList P ops Q (⟨d, .slice t x lo hi mx, tt, pos, af, g⟩ :: rest) a w := h
/-- s[i:], s a slice that reads as a list. -/
theorem wpSliceL {α : Type} {cells : α → List Value} (hg : Region.wanted o (yielded ops a.tmps) = true) (x lo : Operand) (t : TypeId) (hop : o.op = Op.slice t x (some lo) none none) (e : TypeId) (size : Nat) (ht : P.underlying t = some (.slice e)) (hs : (P.info? e).map (·.size) = some size)
    {sa : Option Addr} {n c i : Nat} {kl : IntKind} (hx : a.eval x = .slice sa n c) (hlo : a.eval lo = .int kl (i : Int)) (hi : i ≤ n) (hc : n ≤ c) {l : List α} (hn : n = l.length) (hl : LsAt w sa size cells l)
    (hK : ∀ sa' n' c', Hid (n' = n - i) → LsAt w sa' size cells (l.drop i) → (∀ k, blk sa' k → blk sa k) → wpList P ops Q rest (a.put o.dst (.slice sa' n' c')) w) : wpList P ops Q (o :: rest) a w := by
  refine wpList_go hg fun K' hK' => ?_
  obtain ⟨inf, hinf, hsz⟩ := Option.map_eq_some_iff.1 hs
  have he : P.elem t = e := by simp [Program.elem, ht]
  have hrun : (Instr.sliceAt t (.slice sa n c) (some (.int kl (i : Int))) none none).run P w = .ok (.slice (if c = i then sa else sa.map (·.add (i * size))) (n - i) (c - i)) w := by
    rw [run_sliceAt_slice w t _ _ _ _ (by rw [ht, he]), run_slice_l w t sa n c (by rw [ht, he]) kl (i : Int) (by omega) (by omega), he]
    simp [sizeOf, typeInfo, hinf, hsz, sliced]
  unfold Oper.wp
  simp only [execOp, hop, hx, hlo, Option.map_some, Option.map_none]
  simp [hrun, Result.andThen]
  exact hK' _ _ (hK _ _ _ (Lib.hid rfl) (hl.dropN i c (fun e => by omega)) blk_cut)
/-- s[:j], s a slice. -/
theorem wpSliceH (hg : Region.wanted o (yielded ops a.tmps) = true) (x hi : Operand) (t : TypeId) (hop : o.op = Op.slice t x none (some hi) none) (e : TypeId) (size : Nat) (ht : P.underlying t = some (.slice e)) (hs : (P.info? e).map (·.size) = some size)
    {sa : Option Addr} {n c j : Nat} {kl : IntKind} (hx : a.eval x = .slice sa n c) (hhi : a.eval hi = .int kl (j : Int)) (hj : j ≤ c)
    (hK : wpList P ops Q rest (a.put o.dst (.slice sa j c)) w) : wpList P ops Q (o :: rest) a w := by
  refine wpList_go hg fun K' hK' => ?_
  obtain ⟨inf, hinf, hsz⟩ := Option.map_eq_some_iff.1 hs
  have he : P.elem t = e := by simp [Program.elem, ht]
  have hrun : (Instr.sliceAt t (.slice sa n c) none (some (.int kl (j : Int))) none).run P w = .ok (.slice sa j c) w := by
    rw [run_sliceAt_slice w t _ _ _ _ (by rw [ht, he]), run_slice_h w t sa n c (by rw [ht, he]) kl (j : Int) (by omega) (by omega), he]
    have hid : sa.map (fun x : Addr => x.add 0) = sa := by cases sa <;> simp [Addr.add]
    simp [sizeOf, typeInfo, hinf, hsz, sliced, hid]
  unfold Oper.wp
  simp only [execOp, hop, hx, hhi, Option.map_some, Option.map_none]
  simp [hrun, Result.andThen]
  exact hK' _ _ hK
/-! the same as one step of a region that draws its order -/
theorem stepAppendLn {K : Act → World → Prop} {E : Prop} {α : Type} {cells : α → List Value} (hgd : o.guard = none) (s x : Operand) (t : TypeId) (hop : o.op = Op.call { callee := Callee.builtin Builtin.append, args := #[s, x], argTypes := #[t, t] }) (e : TypeId) (z : Value) (size bytes : Nat) (ht : P.underlying t = some (.slice e)) (hinfo : (P.info? e).map (fun i => (i.zero, i.size, i.bytes)) = some (some z, size, bytes))
    (hzs : z.cells.size = size) {sa xa : Option Addr} {n cap m c : Nat} {xs : List Value} {l : List α} (h : SlAt w sa n cap e size xs) (h2 : LsAt w xa size cells l) (hm : m = l.length) (hsz : ∀ x, (cells x).length = size) (h1 : ∀ x u, u ∈ cells x → u.oneCell' = true) (hs : a.eval s = .slice sa n cap) (hx : a.eval x = .slice xa m c)
    (h63 : n + m ≤ maxLen) (hbytes : (n + m) * bytes ≤ 140737488355328)
    (hK : ∀ a' n' cap' w', Hid (n' = n + m) → SlAt w' a' n' cap' e size (xs ++ l.flatMap cells) → Fr (blk sa) w w' → (∀ k, blk a' k → blk sa k ∨ w.heap.size ≤ k) → K (a.put o.dst (.slice a' n' cap')) w') : if Region.wanted o (yielded ops a.tmps) = true then Oper.wp P o a w K Q else E := by
  have hw : Region.wanted o (yielded ops a.tmps) = true := by simp [Region.wanted, hgd]
  rw [if_pos hw]
  obtain ⟨a', cap', w', hrun, r1, r2, r3⟩ := run_append_ls (P := P) (c := c) t o.type e z size bytes ht hinfo hzs h h2 hm hsz h1 h63 hbytes
  unfold Oper.wp
  simp [execOp, hop, resolve, invoke, builtin, hs, hx, hrun, Result.andThen]
  exact hK _ _ _ _ (Lib.hid rfl) r1 r2 r3
theorem stepSliceL {K : Act → World → Prop} {E : Prop} {α : Type} {cells : α → List Value} (hgd : o.guard = none) (x lo : Operand) (t : TypeId) (hop : o.op = Op.slice t x (some lo) none none) (e : TypeId) (size : Nat) (ht : P.underlying t = some (.slice e)) (hs : (P.info? e).map (·.size) = some size)
    {sa : Option Addr} {n c i : Nat} {kl : IntKind} (hx : a.eval x = .slice sa n c) (hlo : a.eval lo = .int kl (i : Int)) (hi : i ≤ n) (hc : n ≤ c) {l : List α} (hn : n = l.length) (hl : LsAt w sa size cells l)
    (hK : ∀ sa' n' c', Hid (n' = n - i) → LsAt w sa' size cells (l.drop i) → (∀ k, blk sa' k → blk sa k) → K (a.put o.dst (.slice sa' n' c')) w) : if Region.wanted o (yielded ops a.tmps) = true then Oper.wp P o a w K Q else E := by
  have hw : Region.wanted o (yielded ops a.tmps) = true := by simp [Region.wanted, hgd]
  rw [if_pos hw]
  obtain ⟨inf, hinf, hsz⟩ := Option.map_eq_some_iff.1 hs
  have he : P.elem t = e := by simp [Program.elem, ht]
  have hrun : (Instr.sliceAt t (.slice sa n c) (some (.int kl (i : Int))) none none).run P w = .ok (.slice (if c = i then sa else sa.map (·.add (i * size))) (n - i) (c - i)) w := by
    rw [run_sliceAt_slice w t _ _ _ _ (by rw [ht, he]), run_slice_l w t sa n c (by rw [ht, he]) kl (i : Int) (by omega) (by omega), he]
    simp [sizeOf, typeInfo, hinf, hsz, sliced]
  unfold Oper.wp
  simp only [execOp, hop, hx, hlo, Option.map_some, Option.map_none]
  simp [hrun, Result.andThen]
  exact hK _ _ _ (Lib.hid rfl) (hl.dropN i c (fun e => by omega)) blk_cut
theorem stepSliceH {K : Act → World → Prop} {E : Prop} (hgd : o.guard = none) (x hi : Operand) (t : TypeId) (hop : o.op = Op.slice t x none (some hi) none) (e : TypeId) (size : Nat) (ht : P.underlying t = some (.slice e)) (hs : (P.info? e).map (·.size) = some size)
    {sa : Option Addr} {n c j : Nat} {kl : IntKind} (hx : a.eval x = .slice sa n c) (hhi : a.eval hi = .int kl (j : Int)) (hj : j ≤ c)
    (hK : K (a.put o.dst (.slice sa j c)) w) : if Region.wanted o (yielded ops a.tmps) = true then Oper.wp P o a w K Q else E := by
  have hw : Region.wanted o (yielded ops a.tmps) = true := by simp [Region.wanted, hgd]
  rw [if_pos hw]
  obtain ⟨inf, hinf, hsz⟩ := Option.map_eq_some_iff.1 hs
  have he : P.elem t = e := by simp [Program.elem, ht]
  have hrun : (Instr.sliceAt t (.slice sa n c) none (some (.int kl (j : Int))) none).run P w = .ok (.slice sa j c) w := by
    rw [run_sliceAt_slice w t _ _ _ _ (by rw [ht, he]), run_slice_h w t sa n c (by rw [ht, he]) kl (j : Int) (by omega) (by omega), he]
    have hid : sa.map (fun x : Addr => x.add 0) = sa := by cases sa <;> simp [Addr.add]
    simp [sizeOf, typeInfo, hinf, hsz, sliced, hid]
  unfold Oper.wp
  simp only [execOp, hop, hx, hhi, Option.map_some, Option.map_none]
  simp [hrun, Result.andThen]
  exact hK
theorem wpMaxI' (hg : Region.wanted o (yielded ops a.tmps) = true) (x y : Operand) (ts : Array TypeId) (hop : o.op = Op.call { callee := Callee.builtin Builtin.max, args := #[x, y], argTypes := ts }) (k k' : IntKind) (i j m : Int) (hm : m = if i < j then j else i)
    (hx : a.eval x = .int k i) (hy : a.eval y = .int k' j) (hK : wpList P ops Q rest (a.put o.dst (.int k m)) w) : wpList P ops Q (o :: rest) a w := by
  refine wpList_go hg fun K' hK' => ?_
  unfold Oper.wp
  have hrun := run_max_I (P := P) (w := w) ts o.type k k' i j m hm
  simp [execOp, hop, resolve, invoke, builtin, hx, hy, hrun, Result.andThen]
  exact hK' _ _ hK
theorem wpMinI (hg : Region.wanted o (yielded ops a.tmps) = true) (x y : Operand) (ts : Array TypeId) (hop : o.op = Op.call { callee := Callee.builtin Builtin.min, args := #[x, y], argTypes := ts }) (k k' : IntKind) (i j m : Int) (hm : m = if j < i then j else i)
    (hx : a.eval x = .int k i) (hy : a.eval y = .int k' j) (hK : wpList P ops Q rest (a.put o.dst (.int k m)) w) : wpList P ops Q (o :: rest) a w := by
  refine wpList_go hg fun K' hK' => ?_
  unfold Oper.wp
  have hrun := run_min_I (P := P) (w := w) ts o.type k k' i j m hm
  simp [execOp, hop, resolve, invoke, builtin, hx, hy, hrun, Result.andThen]
  exact hK' _ _ hK
end arms
end Go.Proofs.Ytnnomeichppkpaa
