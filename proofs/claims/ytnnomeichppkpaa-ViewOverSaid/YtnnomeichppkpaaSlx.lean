/-
  Slices of the call's own, and the kit's words for a row that the library's functions write: make, copy, putRow, grow. Nothing of the program in it.
-/
import Derived.Test.YtnnomeichppkpaaLs
import Derived.Test.YtnnomeichppkpaaMem
import Derived.Sort.Grow
import Derived.Laws.IdiomCopy
namespace Go.Proofs.Ytnnomeichppkpaa
open Go.RowKit Go.Sort
set_option linter.unusedVariables false
set_option linter.unusedSimpArgs false

theorem SlAt.holds {α : Type} [Inhabited α] {enc : α → Value} {w : World} {g n cap : Nat} {e : TypeId} {l : List α} (h : SlAt w (some ⟨g, 0, none⟩) n cap e 1 (l.map enc)) : Holds enc w g 0 l.toArray := by
  intro j hj
  have hj' : j < l.length := by simpa using hj
  refine ⟨?_, h.free _⟩
  rw [Nat.zero_add]
  refine h.cell ?_
  rw [List.getElem?_map, List.getElem?_eq_getElem hj', getElem!_pos l.toArray j hj]
  simp
theorem heap_putRow {α : Type} [Inhabited α] {enc : α → Value} {w : World} {g : Nat} {cur : Array Value} {e : TypeId} {fr : Nat × Nat} (h : w.heap[g]? = some (.cells cur e fr)) (q off : Nat) (d : Array α) :
    (putRow enc (Sort.ahead w q) g off d).heap[g]? = some (.cells (putCells enc off d cur) e fr) := by
  unfold putRow mapBlock
  simp only [Array.getElem?_modify, if_true, heap_ahead, h, Option.map_some]
  rfl
theorem Fr.putRow {α : Type} [Inhabited α] (enc : α → Value) (w : World) (q g off : Nat) (d : Array α) : Fr (one g) w (putRow enc (Sort.ahead w q) g off d) := by
  refine ⟨rfl, rfl, rfl, by simp, fun k hk hn => ?_⟩
  unfold Go.Sort.putRow mapBlock
  simp only [Array.getElem?_modify, heap_ahead]
  rw [if_neg (fun e => hn e.symm)]
theorem Fr.grow (w : World) (os : Array Obj) : Fr none_ w (Go.Sort.grow w os) :=
  ⟨rfl, rfl, rfl, by simp, fun k hk _ => by unfold Go.Sort.grow; simp [Array.getElem?_append, hk]⟩
theorem Fr.drewN (F : Nat → Prop) (w : World) (q : Nat) : Fr F w (w.drewN q) := ⟨rfl, rfl, rfl, Nat.le_refl _, fun _ _ _ => rfl⟩
theorem SlAt.putRow {α : Type} [Inhabited α] {enc : α → Value} {w : World} {g n cap : Nat} {e : TypeId} {xs : List Value} (h : SlAt w (some ⟨g, 0, none⟩) n cap e 1 xs) (q : Nat) (d : Array α) (hd : d.size = n) :
    SlAt (putRow enc (Sort.ahead w q) g 0 d) (some ⟨g, 0, none⟩) n cap e 1 (d.toList.map enc) := by
  obtain ⟨h1, h2, h3, h4, h5⟩ := h
  refine ⟨by simp [hd], h2, h3, (fun e => by cases e), fun ad ha => ?_⟩
  cases ha
  obtain ⟨_, _, cur, q3, q4, q5⟩ := h5 _ rfl
  refine ⟨rfl, rfl, _, heap_putRow q3 q 0 d, by simp [putCells]; omega, ?_⟩
  apply List.ext_getElem?
  intro i
  rw [List.getElem?_take, List.getElem?_map, Array.getElem?_toList, Array.getElem?_toList]
  unfold putCells
  rw [Array.getElem?_mapIdx]
  by_cases hi : i < n
  · rw [if_pos (by omega)]
    have hc : i < cur.size := by omega
    rw [Array.getElem?_eq_getElem hc, Array.getElem?_eq_getElem (by omega : i < d.size)]
    simp only [Option.map_some]
    rw [if_pos ⟨by omega, by omega⟩, Nat.sub_zero, getElem!_pos d i (by omega)]
  · rw [if_neg (by omega), Array.getElem?_eq_none (by omega)]; rfl

theorem fr_set3 {F : Nat → Prop} {w w1 : World} {b i0 i1 i2 : Nat} {v0 v1 v2 : Value} (h : Fr F w w1) (hb : F b) : Fr F w (((w1.setCell ⟨b, i0, none⟩ v0).setCell ⟨b, i1, none⟩ v1).setCell ⟨b, i2, none⟩ v2) :=
  Fr.setCell_r (Fr.setCell_r (Fr.setCell_r h ⟨b, i0, none⟩ v0 (fun _ => hb)) ⟨b, i1, none⟩ v1 (fun _ => hb)) ⟨b, i2, none⟩ v2 (fun _ => hb)
theorem keep_set3 {w1 : World} {c b i0 i1 i2 o : Nat} {v0 v1 v2 v : Value} (hc : w1.cell? ⟨c, o, none⟩ = some v) (hne : c ≠ b) : (((w1.setCell ⟨b, i0, none⟩ v0).setCell ⟨b, i1, none⟩ v1).setCell ⟨b, i2, none⟩ v2).cell? ⟨c, o, none⟩ = some v :=
  Fr.keepF (F := one b) (fr_set3 (Fr.refl _ _) rfl) (fun e => hne e) hc

/-- A slice cut to its first m elements, whatever the element. -/
theorem SlAt.cutK {w : World} {a : Option Addr} {n m cap size : Nat} {e : TypeId} {xs : List Value} (h : SlAt w a n cap e size xs) (hm : m ≤ n) : SlAt w a m cap e size (xs.take (m * size)) := by
  obtain ⟨h1, h2, h3, h4, h5⟩ := h
  have hmul : m * size ≤ n * size := Nat.mul_le_mul_right _ hm
  refine ⟨by rw [List.length_take]; omega, by omega, h3, h4, fun ad ha => ?_⟩
  obtain ⟨q1, q2, cur, q3, q4, q5⟩ := h5 ad ha
  refine ⟨q1, q2, cur, q3, q4, ?_⟩
  rw [← q5, List.take_take, Nat.min_eq_left hmul]

theorem SlAt.of_owns {w : World} {base n size : Nat} {e : TypeId} {v : Value} {xs : List Value} (h : w.ownsRow base e size v n xs) : ∃ a cap, v = .slice a n cap ∧ SlAt w a n cap e size xs ∧ ∀ k, blk a k → base ≤ k := by
  obtain ⟨h1, ⟨rfl, rfl⟩ | ⟨g, cap, cur, rfl, h2, h3, h4, h5, h6, h7⟩⟩ := h
  · exact ⟨none, 0, rfl, ⟨h1, Nat.le_refl _, Nat.zero_le _, fun _ => rfl, fun _ e => by cases e⟩, fun k hk => absurd hk (blk_none k)⟩
  · refine ⟨some ⟨g, 0, none⟩, cap, rfl, ⟨h1, h4, h5, (fun e => by cases e), fun ad had => ?_⟩, fun k hk => ?_⟩
    · cases had; exact ⟨rfl, rfl, cur, h3, h6, h7⟩
    · rw [blk_some] at hk; omega

theorem made_one (z : Value) (h : z.cells = #[z]) (n : Nat) : madeCells z.cells n = (List.replicate n z).toArray := by
  apply Array.ext'
  unfold madeCells
  rw [h]
  apply List.ext_getElem
  · simp
  · intro i h1 h2
    simp [Nat.mod_one]
section arms
variable {P : Program} {ops : Array Oper} {Q : Exit → Act → World → Prop} {rest : List Oper} {o : Oper} {a : Act} {w : World}
theorem at_make {d : Option Tmp} {x y : Operand} {t tt : TypeId} {pos : String} {af : Array Edge} {g : Option (Nat × Bool)}
    (h : wpList P ops Q (⟨d, .makeSlice t x y, tt, pos, af, g⟩ :: rest) a w) : wpList P ops Q (⟨d, .makeSlice t x y, tt, pos, af, g⟩ :: rest) a w := h
/-- make([]E, n), E's zero value of one cell. -/
theorem wpMakeZ (hg : Region.wanted o (yielded ops a.tmps) = true) (x y : Operand) (t e : TypeId) (hop : o.op = Op.makeSlice t x y) (ht : P.underlying t = some (.slice e)) (z : Value) (bytes : Nat) (hinfo : (P.info? e).map (fun i => (i.zero, i.size, i.bytes)) = some (some z, 1, bytes)) (hzc : z.cells = #[z])
    (kl kc : IntKind) (c : Nat) (hx : a.eval x = .int kl (c : Int)) (hy : a.eval y = .int kc (c : Int)) (hc : c ≤ 1000000) (hbb : bytes ≤ 1000)
    (hK : ∀ w', SlAt w' (some ⟨w.heap.size, 0, none⟩) c c e 1 (List.replicate c z) → Fr none_ w w' → w'.heap.size = w.heap.size + 1 → wpList P ops Q rest (a.put o.dst (.slice (some ⟨w.heap.size, 0, none⟩) c c)) w') : wpList P ops Q (o :: rest) a w := by
  refine wpList_go hg fun K' hK' => ?_
  obtain ⟨i, hi, hz, hsize, hby⟩ := info_parts hinfo
  have hmul : c * i.bytes ≤ 1000000 * 1000 := Nat.mul_le_mul hc (by omega)
  have hmul' : i.bytes * c ≤ 1000000 * 1000 := by rw [Nat.mul_comm]; exact hmul
  have hr := run_make (P := P) w t e i z ht hi hz kl kc c c (by omega) (by omega) (by omega) (by omega)
  rw [hsize] at hr
  simp only [Int.toNat_natCast, Nat.mul_one, made_one z hzc] at hr
  obtain ⟨C, hC⟩ : ∃ C, C = (List.replicate c z).toArray := ⟨_, rfl⟩
  rw [← hC] at hr
  unfold Oper.wp
  simp [execOp, hop, hx, hy, hr, Result.andThen]
  refine hK' _ _ (hK _ ⟨by simp, Nat.le_refl _, by simp [maxLen]; omega, fun h => (by cases h), ?_⟩ (Fr.alloc _ _ _) (by simp))
  intro ad had
  cases had
  refine ⟨rfl, rfl, _, Row.new w C e, by rw [hC]; simp, ?_⟩
  rw [hC]
  simp

theorem run_copy_ls {α : Type} {enc : α → Value} (h1 : ∀ x, (enc x).oneCell' = true) (dT sT ty e : TypeId) (ht : P.underlying dT = some (.slice e)) (hs : (P.info? e).map (·.size) = some 1) {g n cap : Nat} {xs : List Value}
    (hd : SlAt w (some ⟨g, 0, none⟩) n cap e 1 xs) {sa : Option Addr} {m mc : Nat} {l : List α} (hl : LsAt w sa 1 (fun x => [enc x]) l) (hm : m = l.length) (hn : n = l.length) :
    ∃ w', (Builtin.copy_ #[dT, sT] ty #[.slice (some ⟨g, 0, none⟩) n cap, .slice sa m mc]).run P w = .ok (.int .i64 n) w' ∧ SlAt w' (some ⟨g, 0, none⟩) n cap e 1 (l.map enc) ∧ Fr (one g) w w' := by
  obtain ⟨q1, q2, q3, q4, q5⟩ := hd
  obtain ⟨_, _, cur, c3, c4, c5⟩ := q5 _ rfl
  rcases hl with hl | ⟨b, o, rfl, hb, hc⟩
  · subst hl
    simp only [List.length_nil] at hm hn
    subst hm; subst hn
    refine ⟨w, ?_, ⟨by simp, q2, q3, q4, fun ad ha => ?_⟩, Fr.refl _ _⟩
    · exact run_copy_none w dT sT ty e _ _ _ _ _ _ ht hs rfl
    · cases ha; exact ⟨rfl, rfl, cur, c3, c4, by simp⟩
  · subst hn; subst hm
    have hcs : ∀ j v, (l.map enc)[j]? = some v → w.cell? ((⟨b, o, none⟩ : Addr).add j) = some v := by
      intro j v hv
      rw [List.getElem?_map] at hv
      obtain ⟨x, hx, rfl⟩ := Option.map_eq_some_iff.1 hv
      rw [Addr.add_lit]
      have := hc j x hx 0 _ rfl
      simpa using this
    have hr := run_copy_row (P := P) w dT sT ty e g 0 l.length cap ⟨b, o, none⟩ l.length mc cur e (l.map enc) ht hs c3 (by rw [List.length_map]; exact (Nat.min_self _).symm) hcs (by rw [List.length_map]; omega) (by
      intro v hv
      obtain ⟨x, _, rfl⟩ := List.mem_map.1 hv
      exact h1 x)
    rw [List.length_map] at hr
    refine ⟨_, hr, ⟨by simp, q2, q3, (fun e => by cases e), fun ad ha => ?_⟩, Fr.setRow c3 _ rfl⟩
    cases ha
    refine ⟨rfl, rfl, _, c3.setRow _, ?_, ?_⟩
    · simp; omega
    · simp
theorem wpCopyLs {α : Type} {enc : α → Value} (h1 : ∀ x, (enc x).oneCell' = true) (hg : Region.wanted o (yielded ops a.tmps) = true) (x y : Operand) (dT sT : TypeId) (hop : o.op = Op.call { callee := Callee.builtin Builtin.copy, args := #[x, y], argTypes := #[dT, sT] }) (e : TypeId) (ht : P.underlying dT = some (.slice e)) (hs : (P.info? e).map (·.size) = some 1) {g n cap : Nat} {xs : List Value}
    (hd : SlAt w (some ⟨g, 0, none⟩) n cap e 1 xs) (hx : a.eval x = .slice (some ⟨g, 0, none⟩) n cap) {sa : Option Addr} {m mc : Nat} (hy : a.eval y = .slice sa m mc) {l : List α} (hl : LsAt w sa 1 (fun x => [enc x]) l) (hm : m = l.length) (hn : n = l.length)
    (hK : ∀ w', SlAt w' (some ⟨g, 0, none⟩) n cap e 1 (l.map enc) → Fr (one g) w w' → wpList P ops Q rest (a.put o.dst (.int .i64 n)) w') : wpList P ops Q (o :: rest) a w := by
  obtain ⟨w', hrun, r1, r2⟩ := run_copy_ls (P := P) h1 dT sT o.type e ht hs hd (mc := mc) hl hm hn
  refine wpList_go hg fun K' hK' => ?_
  unfold Oper.wp
  simp [execOp, hop, resolve, invoke, builtin, hx, hy, hrun, Result.andThen]
  exact hK' _ _ (hK w' r1 r2)
end arms
end Go.Proofs.Ytnnomeichppkpaa
