/-
  Maps whose keys are structs: keys that the kit's reader reads ('Keyed') are compared by what they are.
  An arena's memory: 'ArenaAt w x m pa cap ps s': the block of the arena, the map of generations, the row of pages, each page; all apart.
  The key of an arena's map.
  bits.Handle, bits.Parts.
-/
import Derived.Test.YtckkccnebjacdaaGreatMgOwn
import Derived.Maps.Keyed
import Derived.DeepKeys5
import Derived.Test.YtckkccnebjacdaaGreatMgArenaAbs
import Derived.Lib.EndianBits
namespace Go.Proofs.YtckkccnebjacdaaGreat
open Go.RowKit
set_option linter.unusedVariables false
set_option linter.unusedSimpArgs false

theorem equal_keyed {P : Program} {kt : TypeId} {fs : Array Field} (hu : P.underlying kt = some (.struct fs)) (K : Go.Maps.Keyed P kt) (w : World) {x y : Value} {lx ly : Lit} (hx : keyOf P kt x = some lx) (hy : keyOf P kt y = some ly) :
    ∃ b, (Op.equal kt x y).run P w = .ok b w ∧ (b = true ↔ x = y) := by
  have h := K.find w hx [⟨y, .nilFunc, 0⟩] (by intro e he; simp at he; subst he; exact ⟨ly, hy⟩)
  have hr : (Instr.findKey kt x [⟨y, .nilFunc, 0⟩]).run P w = ((Op.equal kt x y).run P w).andThen fun b w' => .ok (if b = true then some (0, Value.nilFunc) else none) w' := by
    unfold Instr.findKey
    simp only [Sem.run_bind, run_underlying hu, Result.andThen_ok, Instr.findNow, Instr.sameNow]
    unfold Instr.findAsking
    rw [Sem.run_bind]
    congr 1
    funext b w'
    cases b <;> simp [Instr.findAsking]
  rcases h with ⟨h1, h2⟩ | ⟨j, e, h1, h2, h3⟩
  · rw [hr] at h1
    cases hq : (Op.equal kt x y).run P w with
    | ok b w' =>
      rw [hq] at h1
      simp only [Result.andThen_ok] at h1
      cases b with
      | true => simp at h1
      | false =>
        simp only [Bool.false_eq_true, if_false, Result.ok.injEq, true_and] at h1
        subst h1
        refine ⟨false, rfl, ?_⟩
        constructor
        · intro e; cases e
        · intro e; exact absurd e.symm (h2 ⟨y, .nilFunc, 0⟩ (List.mem_singleton.2 rfl))
    | _ => rw [hq] at h1; simp [Result.andThen] at h1
  · rw [hr] at h1
    cases hq : (Op.equal kt x y).run P w with
    | ok b w' =>
      rw [hq] at h1
      simp only [Result.andThen_ok] at h1
      cases b with
      | false => simp at h1
      | true =>
        simp only [if_true, Result.ok.injEq] at h1
        have hw := h1.2
        subst hw
        refine ⟨true, rfl, ?_⟩
        simp only [true_iff]
        have hj : j = 0 := by
          have := h1.1
          simp at this; omega
        subst hj
        simp at h2
        rw [← h3, ← h2]
    | _ => rw [hq] at h1; simp [Result.andThen] at h1

theorem KeyT.ofKeyed {P : Program} {kt : TypeId} {fs : Array Field} (hu : P.underlying kt = some (.struct fs)) (K : Go.Maps.Keyed P kt) {α : Type} [DecidableEq α] (ek : α → Value) (hk : ∀ a, ∃ l, keyOf P kt (ek a) = some l) (inj : ∀ a b, ek a = ek b → a = b) (hs : ∀ a, Instr.sameBits 10000 (ek a) (ek a) = true) : KeyT P kt ek where
  check := by
    intro b k w
    obtain ⟨l, hl⟩ := hk k
    exact K.check w b hl
  same := hs
  find := by
    intro k es l hkv w
    have heq : ∀ (a : α) w, (Op.equal kt (ek k) (ek a)).run P w = .ok (decide (a = k)) w := by
      intro a w
      obtain ⟨lk, hlk⟩ := hk k
      obtain ⟨la, hla⟩ := hk a
      obtain ⟨b, hb, hiff⟩ := equal_keyed hu K w hlk hla
      rw [hb]
      congr 1
      rw [Bool.eq_iff_iff, hiff]
      simp only [decide_eq_true_eq]
      exact ⟨fun e => (inj _ _ e).symm, fun e => by rw [e]⟩
    have key : ∀ (es : List MapEntry) (l : List α) (j : Nat), es.map (·.key) = l.map ek →
        (Instr.findAsking kt (ek k) es j).run P w = .ok ((l.findIdx? (fun x => decide (x = k))).bind fun i => (es[i]?).map fun e => (j + i, e.val)) w := by
      intro es
      induction es with
      | nil => intro l j h; cases l <;> simp at h; simp [Instr.findAsking]
      | cons e es ih =>
        intro l j h
        cases l with
        | nil => simp at h
        | cons x r =>
          simp only [List.map_cons, List.cons.injEq] at h
          unfold Instr.findAsking
          rw [h.1, Sem.run_bind, heq]
          simp only [Result.andThen_ok]
          rw [List.findIdx?_cons]
          by_cases hx : x = k
          · simp [hx]
          · simp only [hx, decide_false, Bool.false_eq_true, if_false]
            rw [ih r (j + 1) h.2]
            cases r.findIdx? (fun x => decide (x = k)) with
            | none => rfl
            | some i => simp [Nat.add_comm, Nat.add_left_comm]
    cases es with
    | nil =>
      cases l <;> simp at hkv
      unfold Instr.findKey
      simp [run_underlying hu, Instr.findNow]
    | cons e es =>
      have h := key (e :: es) l 0 hkv
      simp only [Nat.zero_add] at h
      rw [← h]
      unfold Instr.findKey
      simp only [Sem.run_bind, run_underlying hu, Result.andThen_ok, Instr.findNow, Instr.sameNow]
end Go.Proofs.YtckkccnebjacdaaGreat
namespace Go.Proofs.YtckkccnebjacdaaGreat
open Go.RowKit
set_option linter.unusedVariables false
set_option linter.unusedSimpArgs false
set_option maxRecDepth 100000

def place (p : Place) : Value := .agg #[.int .u16 (p.1.toNat : Int), .int .u16 (p.2.toNat : Int)]
def gen32 (g : Nat) : Value := .int .u32 (g : Int)

theorem place_inj (a b : Place) (h : place a = place b) : a = b := by
  unfold place at h
  simp only [Value.agg.injEq, Array.mk.injEq, List.cons.injEq, Value.int.injEq, true_and, and_true] at h
  obtain ⟨h1, h2⟩ := h
  have h1 : a.1.toNat = b.1.toNat := by omega
  have h2 : a.2.toNat = b.2.toNat := by omega
  exact Prod.ext (UInt16.toNat_inj.1 h1) (UInt16.toNat_inj.1 h2)
theorem place_pl {n o : Nat} (h1 : n < 65536) (h2 : o < 65536) : place (pl n o) = .agg #[.int .u16 (n : Int), .int .u16 (o : Int)] := by
  unfold place pl
  simp only [UInt16.toNat_ofNat']
  rw [Nat.mod_eq_of_lt (by omega), Nat.mod_eq_of_lt (by omega)]

/-- An arena's cells. -/
def aCells (m : Nat) (pa : Option Addr) (cap : Nat) (s : AS) : Array Value := #[.int .i64 (s.slot : Int), .slice pa s.pages.length cap, .map (some m), .int .i64 (s.used : Int), .int .i64 (s.first : Int)]

structure ArenaAt (w : World) (x m : Nat) (pa : Option Addr) (cap : Nat) (ps : List (Nat × Nat)) (s : AS) : Prop where
  row : Row w x (aCells m pa cap s) 128
  sl : SlAt w pa s.pages.length cap 122 1 (ps.map fun p => ptr p.1)
  len : ps.length = s.pages.length
  page : ∀ (i : Nat) (p : Nat × Nat) (q : PS), ps[i]? = some p → s.pages[i]? = some q → PageIs w p.1 p.2 q
  gen : MapAt w m place gen32 s.gen
  xm : x ≠ m
  pax : ∀ k, blk pa k → k ≠ x ∧ k ≠ m
  psx : ∀ (i : Nat) (p : Nat × Nat), ps[i]? = some p → p.1 ≠ x ∧ p.1 ≠ m ∧ p.2 ≠ x ∧ p.2 ≠ m ∧ ¬ blk pa p.1 ∧ ¬ blk pa p.2 ∧ p.1 ≠ p.2
  ap : ∀ (i j : Nat) (p q : Nat × Nat), ps[i]? = some p → ps[j]? = some q → i ≠ j → p.1 ≠ q.1 ∧ p.1 ≠ q.2 ∧ p.2 ≠ q.1 ∧ p.2 ≠ q.2

/-- The blocks that an arena owns. -/
def aOwn (x m : Nat) (pa : Option Addr) (ps : List (Nat × Nat)) (k : Nat) : Prop := k = x ∨ k = m ∨ blk pa k ∨ ∃ (i : Nat) (p : Nat × Nat), ps[i]? = some p ∧ (k = p.1 ∨ k = p.2)
theorem own_x {x m : Nat} {pa : Option Addr} {ps : List (Nat × Nat)} : aOwn x m pa ps x := Or.inl rfl
theorem own_m {x m : Nat} {pa : Option Addr} {ps : List (Nat × Nat)} : aOwn x m pa ps m := Or.inr (Or.inl rfl)
theorem own_pa {x m : Nat} {pa : Option Addr} {ps : List (Nat × Nat)} {k : Nat} (h : blk pa k) : aOwn x m pa ps k := Or.inr (Or.inr (Or.inl h))
theorem own_p {x m : Nat} {pa : Option Addr} {ps : List (Nat × Nat)} {i : Nat} {p : Nat × Nat} (h : ps[i]? = some p) {k : Nat} (hk : two p.1 p.2 k) : aOwn x m pa ps k := Or.inr (Or.inr (Or.inr ⟨i, p, h, hk⟩))

section
variable {w w' : World} {x m : Nat} {pa : Option Addr} {cap : Nat} {ps : List (Nat × Nat)} {s : AS}
theorem ArenaAt.kept {F : Nat → Prop} (h : ArenaAt w x m pa cap ps s) (f : Fr F w w') (hn : ∀ k, aOwn x m pa ps k → ¬ F k) : ArenaAt w' x m pa cap ps s :=
  { row := h.row.kept f (hn _ own_x), sl := h.sl.kept f (fun k hk => hn k (own_pa hk)), len := h.len,
    page := fun i p q hp hq => (h.page i p q hp hq).kept f (hn _ (own_p hp (Or.inl rfl))) (hn _ (own_p hp (Or.inr rfl))),
    gen := h.gen.kept f (hn _ own_m), xm := h.xm, pax := h.pax, psx := h.psx, ap := h.ap }
theorem ArenaAt.kept0 (h : ArenaAt w x m pa cap ps s) (f : Fr none_ w w') : ArenaAt w' x m pa cap ps s := h.kept f (fun _ _ e => e)
theorem ArenaAt.get (h : ArenaAt w x m pa cap ps s) {i : Nat} {q : PS} (hq : s.pages[i]? = some q) : ∃ p, ps[i]? = some p ∧ PageIs w p.1 p.2 q := by
  have hi : i < ps.length := by rw [h.len]; exact (List.getElem?_eq_some_iff.1 hq).1
  exact ⟨ps[i], List.getElem?_eq_getElem hi, h.page i _ q (List.getElem?_eq_getElem hi) hq⟩
theorem ArenaAt.lt (h : ArenaAt w x m pa cap ps s) : ∀ k, aOwn x m pa ps k → k < w.heap.size := by
  rintro k (rfl | rfl | hk | ⟨i, p, hp, hk⟩)
  · exact h.row.lt
  · exact h.gen.lt
  · exact h.sl.lt k hk
  · have hi := (List.getElem?_eq_some_iff.1 hp).1
    have hp' := h.page i p _ hp (List.getElem?_eq_getElem (by rw [← h.len]; exact hi))
    have := hp'.lt
    rcases hk with rfl | rfl <;> omega
theorem ArenaAt.c0 (h : ArenaAt w x m pa cap ps s) : w.cell? ⟨x, 0, none⟩ = some (.int .i64 (s.slot : Int)) := (h.row.cell 0).trans rfl
theorem ArenaAt.c1 (h : ArenaAt w x m pa cap ps s) : w.cell? ⟨x, 1, none⟩ = some (.slice pa s.pages.length cap) := (h.row.cell 1).trans rfl
theorem ArenaAt.c2 (h : ArenaAt w x m pa cap ps s) : w.cell? ⟨x, 2, none⟩ = some (.map (some m)) := (h.row.cell 2).trans rfl
theorem ArenaAt.c3 (h : ArenaAt w x m pa cap ps s) : w.cell? ⟨x, 3, none⟩ = some (.int .i64 (s.used : Int)) := (h.row.cell 3).trans rfl
theorem ArenaAt.c4 (h : ArenaAt w x m pa cap ps s) : w.cell? ⟨x, 4, none⟩ = some (.int .i64 (s.first : Int)) := (h.row.cell 4).trans rfl
theorem ArenaAt.free (h : ArenaAt w x m pa cap ps s) (i : Nat) : w.frozen? ⟨x, i, none⟩ = false := h.row.free i

/-- One page turned. -/
theorem ArenaAt.turn (h : ArenaAt w x m pa cap ps s) {i : Nat} {p : Nat × Nat} {q : PS} (hp : ps[i]? = some p) (hq : PageIs w' p.1 p.2 q) (f : Fr (two p.1 p.2) w w') (hi : i < s.pages.length) : ArenaAt w' x m pa cap ps { s with pages := s.pages.set i q } := by
  have hx := h.psx i p hp
  have hl : (s.pages.set i q).length = s.pages.length := List.length_set
  refine ⟨?_, ?_, by rw [hl]; exact h.len, ?_, h.gen.kept f (by unfold two; omega), h.xm, h.pax, h.psx, h.ap⟩
  · have := h.row.kept f (by unfold two; omega)
    unfold aCells at this ⊢
    simpa only [hl] using this
  · simp only [hl]
    exact h.sl.kept f (fun k hk e => by rcases e with rfl | rfl; exact hx.2.2.2.2.1 hk; exact hx.2.2.2.2.2.1 hk)
  · intro j p' q' hp' hq'
    by_cases e : i = j
    · subst e
      rw [hp] at hp'; cases hp'
      simp only [List.getElem?_set_self hi, Option.some.injEq] at hq'
      subst hq'; exact hq
    · simp only [List.getElem?_set_ne e] at hq'
      have ha := h.ap i j p p' hp hp' e
      exact (h.page j p' q' hp' hq').kept f (fun e => by rcases e with e | e; exact ha.1 e.symm; exact ha.2.2.1 e.symm) (fun e => by rcases e with e | e; exact ha.2.1 e.symm; exact ha.2.2.2 e.symm)
end
end Go.Proofs.YtckkccnebjacdaaGreat
namespace Go.Proofs.YtckkccnebjacdaaGreat
open Go.RowKit
set_option linter.unusedVariables false
set_option linter.unusedSimpArgs false
set_option maxRecDepth 100000

theorem place_keyType : Tryz.prog.keyType 158 = true := by kernel_rfl
theorem place_wf (a : UInt16) : (Lit.int .u16 (a.toNat : Int)).wf = true := by
  have := a.toNat_lt
  unfold Lit.wf
  simp only [Bool.and_eq_true, decide_eq_true_eq]
  exact ⟨by show (0 : Int) ≤ _; omega, by show _ ≤ (65535 : Int); omega⟩
theorem place_lits (d : Nat) (a : Place) : Tryz.prog.keyLits (d + 2) 158 [.int .u16 (a.1.toNat : Int), .int .u16 (a.2.toNat : Int)] = some [.int .u16 (a.1.toNat : Int), .int .u16 (a.2.toNat : Int)] := by
  have hc : Tryz.prog.cellsOf 158 = 2 := by kernel_rfl
  have hu : Tryz.prog.cellsOf 133 = 1 := by kernel_rfl
  have h1 := place_wf a.1
  have h2 := place_wf a.2
  unfold Program.keyLits
  rw [Tryz.underlying158]
  simp only [hc, List.length_cons, List.length_nil]
  have e : ∀ b : UInt16, (Lit.int .u16 (b.toNat : Int)).wf = true → Tryz.prog.keyLits (d + 1) 133 [.int .u16 (b.toNat : Int)] = some [.int .u16 (b.toNat : Int)] := by
    intro b hb
    unfold Program.keyLits
    rw [Tryz.underlying133]
    simp [hb]
  simp [hu, e a.1 h1, e a.2 h2]
theorem place_reads (a : Place) : ∃ l, keyOf Tryz.prog 158 (place a) = some l := by
  have hc : Tryz.prog.cellsOf 158 = 2 := by kernel_rfl
  obtain ⟨d, hd⟩ : ∃ d, Tryz.prog.types.size + 1 = d + 2 := ⟨Tryz.prog.types.size - 1, by have : 1 ≤ Tryz.prog.types.size := of_decide_eq_true (by kernel_rfl); omega⟩
  unfold keyOf place
  rw [Tryz.underlying158]
  simp only
  have hf : Value.formed Tryz.prog 158 (.agg #[.int .u16 (a.1.toNat : Int), .int .u16 (a.2.toNat : Int)]) = true := by
    unfold Value.formed
    rw [Tryz.underlying158]
    simp [hc]
  rw [place_keyType, hf, hd]
  have := place_lits d a
  refine ⟨.string (keyBytes [.int .u16 (a.1.toNat : Int), .int .u16 (a.2.toNat : Int)]), ?_⟩
  simp only [Bool.and_self, if_true, Value.cells, this, Option.map_some]
theorem place_same (a : Place) : Instr.sameBits 10000 (place a) (place a) = true := by
  unfold place
  simp [Instr.sameBits]
theorem place_keyed : Go.Maps.Keyed Tryz.prog 158 :=
  Go.Maps.Keyed.of_law (deep_law_gate (P := Tryz.prog) (k := 158) (by kernel_rfl) (of_decide_eq_true (by kernel_rfl)) (of_decide_eq_true (by kernel_rfl)) place_keyType (by rw [Tryz.underlying158]))
theorem place_key : KeyT Tryz.prog 158 place := KeyT.ofKeyed Tryz.underlying158 place_keyed place place_reads place_inj place_same
theorem zero_u32 (w : World) : (zeroValue 144).run Tryz.prog w = .ok (.int .u32 0) w := by kernel_rfl
end Go.Proofs.YtckkccnebjacdaaGreat
namespace Go.Proofs.YtckkccnebjacdaaGreat
open Go.RowKit
set_option linter.unusedVariables false
set_option linter.unusedSimpArgs false
set_option maxRecDepth 100000

theorem Parts_any (w : World) (h : Nat) (hh : h < 18446744073709551616) :
    Calls Tryz.prog 93 #[.int .u64 (h : Int)] w fun e w' => e = .returned (.tuple #[.int .u16 (hN h : Int), .int .u16 (hO h : Int), .int .u32 (hG h : Int)]) ∧ w = w' := by
  have e1 : (h : Int) / 281474976710656 = (hN h : Int) := rfl
  have e2 : IntKind.u16.wrap ((h : Int) / 4294967296) = (hO h : Int) := by rw [IntKind.wrap_u16]; unfold hO; omega
  have e3 : (h : Int) % 4294967296 = (hG h : Int) := rfl
  go_enter Tryz.func93, Tryz.ntmps93
  go_wp2
  go_ret3
  exact ⟨rfl, rfl⟩
theorem or_mk (n o g : Nat) (h1 : n < 65536) (h2 : o < 65536) (h3 : g < 4294967296) :
    bits BinOp.or IntKind.u64 (bits BinOp.or IntKind.u64 ((n : Int) * 281474976710656) ((o : Int) * 4294967296)) (g : Int) = (mkH n o g : Int) := by
  have a := bits_join .u64 64 (by decide) (fun n h0 h1 => wraps_u64 n h0 h1) 48 ((n : Int) * 281474976710656) ((o : Int) * 4294967296) (by omega) (by omega) (by omega) (by omega) (by omega) (by omega)
  rw [a]
  have b := bits_join .u64 64 (by decide) (fun n h0 h1 => wraps_u64 n h0 h1) 32 ((n : Int) * 281474976710656 + (o : Int) * 4294967296) (g : Int) (by omega) (by omega) (by omega) (by omega) (by omega) (by omega)
  rw [b]
  unfold mkH; omega
theorem Handle_any (w : World) (n o g : Nat) (h1 : n < 65536) (h2 : o < 65536) (h3 : g < 4294967296) :
    Calls Tryz.prog 126 #[.int .u16 (n : Int), .int .u16 (o : Int), .int .u32 (g : Int)] w fun e w' => e = .returned (.int .u64 (mkH n o g : Int)) ∧ w = w' := by
  have e := or_mk n o g h1 h2 h3
  go_enter Tryz.func126, Tryz.ntmps126
  go_wp2
  go_ret
  exact ⟨rfl, rfl⟩
end Go.Proofs.YtckkccnebjacdaaGreat
