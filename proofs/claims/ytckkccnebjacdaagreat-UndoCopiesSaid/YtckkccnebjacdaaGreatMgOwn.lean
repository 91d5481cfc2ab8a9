/-
  Frames and memory of the call's own: what a contract says of the world behind a call. 'Fr F w w'': of the blocks that there were, only those of F have turned. 'Row', 'MapAt': a block of cells, a map, known whole. Nothing of the program in it.
  What Go does to a map that is known whole ('MapAt'): look-up, store, delete, length; keys that are integers. Nothing of the program in it.
  clear, copy of a string, string of bytes: on a row of cells that is known whole. Nothing of the program in it.
-/
import Derived.Test.YtckkccnebjacdaaGreatRows
import Derived.WalkKit
import Derived.WalkSpells
import Derived.WalkLawsBesides
import Derived.Handy
import Derived.Lib.Hide
import Derived.Maps.OwnSet
import Derived.Lib.SliceRun
import Derived.Laws.CopyRow
namespace Go.Proofs.YtckkccnebjacdaaGreat
open Go.RowKit
set_option linter.unusedSectionVars false
set_option linter.unusedVariables false
set_option linter.unusedSimpArgs false

/-- The walk stops here. -/
def Stop (p : Prop) : Prop := p
theorem Stop.mk {p : Prop} (h : Stop p) : p := h

/-! ### frames -/
structure Fr (F : Nat → Prop) (w w' : World) : Prop where
  os : w'.os = w.os
  tape : w'.tape = w.tape
  output : w'.output = w.output
  size : w.heap.size ≤ w'.heap.size
  block : ∀ k, k < w.heap.size → ¬ F k → w'.heap[k]? = w.heap[k]?

def none_ : Nat → Prop := fun _ => False
def one (a : Nat) : Nat → Prop := fun k => k = a
def two (a b : Nat) : Nat → Prop := fun k => k = a ∨ k = b

theorem Fr.refl (F : Nat → Prop) (w : World) : Fr F w w := ⟨rfl, rfl, rfl, Nat.le_refl _, fun _ _ _ => rfl⟩
theorem Fr.trans {F : Nat → Prop} {a b c : World} (h : Fr F a b) (k : Fr F b c) : Fr F a c :=
  ⟨k.os.trans h.os, k.tape.trans h.tape, k.output.trans h.output, Nat.le_trans h.size k.size,
    fun i hi hn => (k.block i (Nat.lt_of_lt_of_le hi h.size) hn).trans (h.block i hi hn)⟩
theorem Fr.mono {F G : Nat → Prop} {w w' : World} (h : Fr F w w') (hFG : ∀ k, k < w.heap.size → F k → G k) : Fr G w w' :=
  ⟨h.os, h.tape, h.output, h.size, fun k hk hn => h.block k hk (fun hF => hn (hFG k hk hF))⟩
/-- Two steps, the second one's blocks told by the first one's world. -/
theorem Fr.step {F G : Nat → Prop} {a b c : World} (h : Fr F a b) (k : Fr G b c) (hG : ∀ i, i < a.heap.size → G i → F i) : Fr F a c :=
  ⟨k.os.trans h.os, k.tape.trans h.tape, k.output.trans h.output, Nat.le_trans h.size k.size,
    fun i hi hn => (k.block i (Nat.lt_of_lt_of_le hi h.size) (fun hg => hn (hG i hi hg))).trans (h.block i hi hn)⟩
theorem Fr.drew (F : Nat → Prop) (w : World) : Fr F w w.drew := ⟨rfl, rfl, rfl, Nat.le_refl _, fun _ _ _ => rfl⟩
theorem Fr.alloc (F : Nat → Prop) (w : World) (o : Obj) : Fr F w (w.alloc o) :=
  ⟨rfl, rfl, rfl, by simp, fun k hk _ => Below.heap_alloc w o k hk⟩
theorem Fr.setCell (F : Nat → Prop) (w : World) (a : Addr) (v : Value) (h : a.block < w.heap.size → F a.block) : Fr F w (w.setCell a v) := by
  refine ⟨rfl, rfl, rfl, by simp, fun k hk hn => ?_⟩
  by_cases e : k = a.block
  · subst e; exact absurd (h hk) hn
  · exact Below.heap_setCell w a v k e
theorem Fr.alloc_r {F : Nat → Prop} {w w1 : World} (h : Fr F w w1) (o : Obj) : Fr F w (w1.alloc o) := h.trans (Fr.alloc F w1 o)
theorem Fr.drew_r {F : Nat → Prop} {w w1 : World} (h : Fr F w w1) : Fr F w w1.drew := h.trans (Fr.drew F w1)
theorem Fr.setCell_r {F : Nat → Prop} {w w1 : World} (h : Fr F w w1) (a : Addr) (v : Value) (ha : a.block < w.heap.size → F a.block) : Fr F w (w1.setCell a v) :=
  h.step (G := one a.block) (Fr.setCell _ w1 a v (fun _ => rfl)) (fun i hi e => by unfold one at e; subst e; exact ha hi)
theorem Fr.none {F : Nat → Prop} {w w' : World} (h : Fr none_ w w') : Fr F w w' := h.mono fun _ _ hf => hf.elim
theorem Fr.below {F : Nat → Prop} {w w' : World} {B : Nat} (h : Fr F w w') (hB : B ≤ w.heap.size) (hF : ∀ k, F k → B ≤ k) : Below B w w' :=
  ⟨h.os, h.tape, h.output, h.size, fun k hk => h.block k (Nat.lt_of_lt_of_le hk hB) (fun hf => by have := hF k hf; omega)⟩
theorem Fr.of_below {w w' : World} {B : Nat} (h : Below B w w') (F : Nat → Prop) (hF : ∀ k, k < w.heap.size → B ≤ k → F k) : Fr F w w' :=
  ⟨h.os, h.tape, h.output, h.size, fun k hk hn => h.block k (by rcases Nat.lt_or_ge k B with h' | h'; exact h'; exact absurd (hF k hk h') hn)⟩
theorem Fr.grown {w w' : World} {row : Option Nat} (h : w.grownBy w' row) (F : Nat → Prop) (hF : ∀ k, row = some k → k < w.heap.size → F k) : Fr F w w' :=
  ⟨h.os, h.tape, h.output, h.size, fun k hk hn => h.block k hk (fun e => hn (hF k e.symm hk))⟩
theorem Fr.cell {F : Nat → Prop} {w w' : World} (h : Fr F w w') {p : Addr} (hp : p.block < w.heap.size) (hn : ¬ F p.block) : w'.cell? p = w.cell? p :=
  World.cell?_of_block (w := w) (h.block p.block hp hn)
theorem Fr.frozen {F : Nat → Prop} {w w' : World} (h : Fr F w w') {p : Addr} (hp : p.block < w.heap.size) (hn : ¬ F p.block) : w'.frozen? p = w.frozen? p :=
  World.frozen?_of_block (w := w) (h.block p.block hp hn)

/-- What a cell holds it holds behind a call that writes nothing that was there. -/
theorem Fr.keep {w w' : World} (h : Fr none_ w w') {p : Addr} {v : Value} (hc : w.cell? p = some v) : w'.cell? p = some v :=
  (h.cell (World.block_lt_of_cell? w p hc) (fun e => e)).trans hc
theorem Fr.keepF {F : Nat → Prop} {w w' : World} (h : Fr F w w') {p : Addr} {v : Value} (hn : ¬ F p.block) (hc : w.cell? p = some v) : w'.cell? p = some v :=
  (h.cell (World.block_lt_of_cell? w p hc) hn).trans hc

/-! ### a row of cells, known whole -/
def Row (w : World) (g : Nat) (cs : Array Value) (t : TypeId) : Prop := w.heap[g]? = some (.cells cs t (0, 0))

theorem Row.lt {w : World} {g : Nat} {cs : Array Value} {t : TypeId} (h : Row w g cs t) : g < w.heap.size := (Array.getElem?_eq_some_iff.1 h).1
theorem Row.cell {w : World} {g : Nat} {cs : Array Value} {t : TypeId} (h : Row w g cs t) (i : Nat) : w.cell? ⟨g, i, none⟩ = cs[i]? := by
  unfold Row at h; simp [World.cell?, h]
theorem Row.free {w : World} {g : Nat} {cs : Array Value} {t : TypeId} (h : Row w g cs t) (i : Nat) : w.frozen? ⟨g, i, none⟩ = false := by
  unfold Row at h; simp [World.frozen?, h]
theorem Row.drew {w : World} {g : Nat} {cs : Array Value} {t : TypeId} (h : Row w g cs t) : Row w.drew g cs t := h
theorem Row.kept {F : Nat → Prop} {w w' : World} {g : Nat} {cs : Array Value} {t : TypeId} (h : Row w g cs t) (f : Fr F w w') (hn : ¬ F g) : Row w' g cs t :=
  (f.block g h.lt hn).trans h
theorem Row.alloc {w : World} {g : Nat} {cs : Array Value} {t : TypeId} (h : Row w g cs t) (o : Obj) : Row (w.alloc o) g cs t :=
  h.kept (Fr.alloc none_ w o) (fun x => x)
theorem Row.set {w : World} {g : Nat} {cs : Array Value} {t : TypeId} (h : Row w g cs t) (i : Nat) (v : Value) :
    Row (w.setCell ⟨g, i, none⟩ v) g (cs.setIfInBounds i v) t := by
  unfold Row at h ⊢
  simp [World.setCell, Array.getElem?_modify, h]
theorem Row.set_other {w : World} {g : Nat} {cs : Array Value} {t : TypeId} (h : Row w g cs t) (b i : Nat) (v : Value) (hne : g ≠ b) :
    Row (w.setCell ⟨b, i, none⟩ v) g cs t := by
  unfold Row at h ⊢
  rw [Below.heap_setCell _ _ _ _ hne]; exact h
theorem Row.new (w : World) (cs : Array Value) (t : TypeId) : Row (w.alloc (.cells cs t)) w.heap.size cs t := by
  exact (MapKept.heap_alloc w _).1
theorem Row.setRow {w : World} {g : Nat} {cs : Array Value} {t : TypeId} (h : Row w g cs t) (cs' : Array Value) : Row (w.setRow g cs') g cs' t :=
  setRow_heap w g cs cs' t (0, 0) h
theorem Fr.setRow {F : Nat → Prop} {w : World} {g : Nat} {cs : Array Value} {t : TypeId} (_h : Row w g cs t) (cs' : Array Value) (hF : F g) : Fr F w (w.setRow g cs') := by
  refine ⟨rfl, rfl, rfl, by simp [World.setRow], fun k hk hn => ?_⟩
  have e : k ≠ g := fun e => hn (e ▸ hF)
  simp only [World.setRow, Array.getElem?_modify]
  rw [if_neg (fun h => e h.symm)]

/-! ### a map, known whole: its keys and values in the row of its entries -/
section maps
variable {K V : Type} [DecidableEq K]
def kvGet (l : List (K × V)) (k : K) : Option V := (l.find? (fun p => decide (p.1 = k))).map (·.2)
def kvPut : List (K × V) → K → V → List (K × V)
  | [], k, v => [(k, v)]
  | p :: r, k, v => if p.1 = k then (k, v) :: r else p :: kvPut r k v
def kvDel (l : List (K × V)) (k : K) : List (K × V) := l.filter (fun p => decide (p.1 ≠ k))

def MapAt (w : World) (m : Nat) (ek : K → Value) (ev : V → Value) (l : List (K × V)) : Prop :=
  ∃ es clock, w.heap[m]? = some (.map es clock) ∧ es.toList.map (fun e => (e.key, e.val)) = l.map (fun p => (ek p.1, ev p.2)) ∧
    (∀ e ∈ es.toList, e.born < clock) ∧ (es.toList.map (·.born)).Nodup ∧ (l.map (·.1)).Nodup

theorem MapAt.lt {w : World} {m : Nat} {ek : K → Value} {ev : V → Value} {l : List (K × V)} (h : MapAt w m ek ev l) : m < w.heap.size := by
  obtain ⟨es, c, hb, _⟩ := h; exact (Array.getElem?_eq_some_iff.1 hb).1
theorem MapAt.kept {F : Nat → Prop} {w w' : World} {m : Nat} {ek : K → Value} {ev : V → Value} {l : List (K × V)} (h : MapAt w m ek ev l) (f : Fr F w w') (hn : ¬ F m) : MapAt w' m ek ev l := by
  have hlt := h.lt
  obtain ⟨es, c, hb, r⟩ := h
  exact ⟨es, c, (f.block m hlt hn).trans hb, r⟩
theorem MapAt.drew {w : World} {m : Nat} {ek : K → Value} {ev : V → Value} {l : List (K × V)} (h : MapAt w m ek ev l) : MapAt w.drew m ek ev l := h
theorem MapAt.new (w : World) (ek : K → Value) (ev : V → Value) : MapAt (w.alloc (.map #[] 0)) w.heap.size ek ev [] :=
  ⟨#[], 0, (MapKept.heap_alloc w _).1, by simp, by simp, by simp, by simp⟩
theorem MapAt.nodup {w : World} {m : Nat} {ek : K → Value} {ev : V → Value} {l : List (K × V)} (h : MapAt w m ek ev l) : (l.map (·.1)).Nodup := by
  obtain ⟨_, _, _, _, _, _, h⟩ := h; exact h

/-- A key's type: keys are compared by what they are. -/
structure KeyT (P : Program) (kt : TypeId) (ek : K → Value) : Prop where
  check : ∀ (b : Bool) (k : K) (w : World), (Instr.checkKey b 10000 kt (ek k)).run P w = .ok () w
  find : ∀ (k : K) (es : List MapEntry) (l : List K), es.map (·.key) = l.map ek → ∀ w : World,
    (Instr.findKey kt (ek k) es).run P w = .ok ((l.findIdx? (fun x => decide (x = k))).bind fun i => (es[i]?).map fun e => (i, e.val)) w
  same : ∀ k : K, Instr.sameBits 10000 (ek k) (ek k) = true

end maps
end Go.Proofs.YtckkccnebjacdaaGreat
namespace Go.Proofs.YtckkccnebjacdaaGreat
open Go.RowKit
set_option linter.unusedSectionVars false
set_option linter.unusedVariables false
set_option linter.unusedSimpArgs false

section plain
variable {K V : Type} [DecidableEq K]
theorem kvGet_nil (k : K) : kvGet ([] : List (K × V)) k = none := rfl
theorem kvGet_cons (p : K × V) (r : List (K × V)) (k : K) : kvGet (p :: r) k = if p.1 = k then some p.2 else kvGet r k := by
  unfold kvGet
  rw [List.find?_cons]
  by_cases h : p.1 = k <;> simp [h]
theorem kvGet_put (l : List (K × V)) (k : K) (v : V) (x : K) : kvGet (kvPut l k v) x = if k = x then some v else kvGet l x := by
  induction l with
  | nil => simp [kvPut, kvGet_cons, kvGet_nil]
  | cons p r ih =>
    unfold kvPut
    by_cases h : p.1 = k
    · rw [if_pos h, kvGet_cons, kvGet_cons]
      by_cases e : k = x
      · simp [e]
      · have e' : p.1 ≠ x := fun q => e (h.symm.trans q)
        simp [e, e']
    · rw [if_neg h, kvGet_cons, kvGet_cons, ih]
      by_cases e : p.1 = x
      · have : k ≠ x := fun q => h (e.trans q.symm)
        simp [e, this]
      · simp [e]
theorem kvGet_del (l : List (K × V)) (k x : K) : kvGet (kvDel l k) x = if k = x then none else kvGet l x := by
  induction l with
  | nil => simp [kvDel, kvGet_nil]
  | cons p r ih =>
    unfold kvDel at ih ⊢
    by_cases h : p.1 = k
    · have hf : List.filter (fun p : K × V => decide (p.1 ≠ k)) (p :: r) = List.filter (fun p : K × V => decide (p.1 ≠ k)) r := by simp [h]
      rw [hf, ih, kvGet_cons]
      by_cases e : k = x
      · simp [e]
      · have e' : p.1 ≠ x := fun q => e (h.symm.trans q)
        simp [e, e']
    · have hf : List.filter (fun p : K × V => decide (p.1 ≠ k)) (p :: r) = p :: List.filter (fun p : K × V => decide (p.1 ≠ k)) r := by simp [h]
      rw [hf, kvGet_cons, kvGet_cons, ih]
      by_cases e : p.1 = x
      · have : k ≠ x := fun q => h (e.trans q.symm)
        simp [e, this]
      · simp [e]
theorem kvPut_keys (l : List (K × V)) (k : K) (v : V) : (kvPut l k v).map (·.1) = if (kvGet l k).isSome then l.map (·.1) else l.map (·.1) ++ [k] := by
  induction l with
  | nil => simp [kvPut, kvGet_nil]
  | cons p r ih =>
    unfold kvPut
    rw [kvGet_cons]
    by_cases h : p.1 = k
    · simp [h]
    · simp only [if_neg h, List.map_cons, ih]
      split <;> simp
theorem kvGet_none {l : List (K × V)} {k : K} : kvGet l k = none ↔ k ∉ l.map (·.1) := by
  induction l with
  | nil => simp [kvGet_nil]
  | cons p r ih =>
    rw [kvGet_cons]
    by_cases h : p.1 = k
    · simp [h]
    · simp only [if_neg h, ih, List.map_cons, List.mem_cons, not_or]
      exact ⟨fun q => ⟨fun e => h e.symm, q⟩, fun q => q.2⟩
theorem kvPut_length (l : List (K × V)) (k : K) (v : V) : (kvPut l k v).length = if (kvGet l k).isSome then l.length else l.length + 1 := by
  have h := congrArg List.length (kvPut_keys l k v)
  rw [List.length_map] at h
  rw [h]; split <;> simp
theorem kvPut_nodup {l : List (K × V)} (h : (l.map (·.1)).Nodup) (k : K) (v : V) : ((kvPut l k v).map (·.1)).Nodup := by
  rw [kvPut_keys]
  split
  · exact h
  · rename_i hn
    have hk : k ∉ l.map (·.1) := kvGet_none.1 (by simpa using hn)
    rw [List.nodup_append]
    refine ⟨h, by simp, ?_⟩
    intro a ha b hb e
    simp only [List.mem_singleton] at hb
    exact hk (hb ▸ e ▸ ha)
theorem kvDel_nodup {l : List (K × V)} (h : (l.map (·.1)).Nodup) (k : K) : ((kvDel l k).map (·.1)).Nodup := by
  have hs : ((kvDel l k).map (·.1)).Sublist (l.map (·.1)) := (List.filter_sublist (l := l)).map _
  exact hs.nodup h
theorem kvDel_length {l : List (K × V)} (h : (l.map (·.1)).Nodup) (k : K) : (kvDel l k).length = if (kvGet l k).isSome then l.length - 1 else l.length := by
  induction l with
  | nil => simp [kvDel, kvGet_nil]
  | cons p r ih =>
    simp only [List.map_cons, List.nodup_cons] at h
    have ih := ih h.2
    rw [kvGet_cons]
    unfold kvDel at ih ⊢
    by_cases e : p.1 = k
    · have hk : kvGet r k = none := kvGet_none.2 (e ▸ h.1)
      rw [hk] at ih
      simp [e] at ih ⊢
      exact ih
    · rw [if_neg e, List.filter_cons, if_pos (by simpa using e), List.length_cons, ih, List.length_cons]
      by_cases hs : (kvGet r k).isSome = true
      · have : r.length ≠ 0 := by
          intro h0
          have : r = [] := List.eq_nil_of_length_eq_zero h0
          rw [this] at hs; simp [kvGet_nil] at hs
        rw [if_pos hs, if_pos hs]; omega
      · rw [if_neg hs, if_neg hs]
end plain

section heap
variable {K V : Type} [DecidableEq K]
theorem zip_of_map {es : List MapEntry} {l : List (K × V)} {ek : K → Value} {ev : V → Value} (h : es.map (fun e => (e.key, e.val)) = l.map (fun p => (ek p.1, ev p.2))) :
    es.map (·.key) = (l.map (·.1)).map ek ∧ es.map (·.val) = (l.map (·.2)).map ev := by
  constructor
  · have := congrArg (List.map Prod.fst) h
    simpa [List.map_map, Function.comp_def] using this
  · have := congrArg (List.map Prod.snd) h
    simpa [List.map_map, Function.comp_def] using this

theorem find_get {es : List MapEntry} {l : List (K × V)} {ek : K → Value} {ev : V → Value} (h : es.map (fun e => (e.key, e.val)) = l.map (fun p => (ek p.1, ev p.2))) (k : K) :
    ((((l.map (·.1)).findIdx? (fun x => decide (x = k))).bind fun i => (es[i]?).map fun e => (i, e.val)).map (·.2)) = (kvGet l k).map ev := by
  induction l generalizing es with
  | nil =>
    simp at h; subst h; simp [kvGet_nil]
  | cons p r ih =>
    cases es with
    | nil => simp at h
    | cons e es =>
      simp only [List.map_cons, List.cons.injEq, Prod.mk.injEq] at h
      have ih := ih h.2
      rw [kvGet_cons, List.map_cons, List.findIdx?_cons]
      by_cases hk : p.1 = k
      · simp [hk, h.1.2]
      · simp only [hk, decide_false, Bool.false_eq_true, if_false]
        rw [← ih]
        cases hf : (r.map (·.1)).findIdx? (fun x => decide (x = k)) with
        | none => simp
        | some i => cases hg : es[i]? <;> simp [hg]

theorem run_lookup_at {P : Program} {w : World} {m : Nat} {ek : K → Value} {ev : V → Value} {l : List (K × V)} (h : MapAt w m ek ev l) {t kt et : TypeId} (ht : P.underlying t = some (.map kt et)) (KT : KeyT P kt ek)
    {z : Value} (hz : (zeroValue et).run P w = .ok z w) (k : K) (c : Bool) :
    (Instr.lookup t (.map (some m)) (ek k) c).run P w = .ok (if c then .tuple #[((kvGet l k).map ev).getD z, .bool (kvGet l k).isSome] else ((kvGet l k).map ev).getD z) w := by
  obtain ⟨es, clock, hb, hkv, _, _, _⟩ := h
  have hf := KT.find k es.toList (l.map (·.1)) (zip_of_map hkv).1 w
  have hg := find_get hkv k
  have hc := KT.check es.isEmpty k w
  unfold Instr.lookup
  simp only [Sem.run_bind, run_underlying ht, Result.andThen_ok]
  have hobj : (getObj m).run P w = .ok (.map es clock) w := by simp [getObj, Sem.run, hb]
  simp only [Sem.run_bind, hobj, Result.andThen_ok, Sem.run_pure, hc, hf]
  cases hr : (((l.map (·.1)).findIdx? (fun x => decide (x = k))).bind fun i => (es.toList[i]?).map fun e => (i, e.val)) with
  | none =>
    rw [hr] at hg
    have hn : kvGet l k = none := by
      cases hh : kvGet l k with
      | none => rfl
      | some v => rw [hh] at hg; simp at hg
    simp [hn, hz, Sem.run_bind]
  | some iv =>
    rw [hr] at hg
    cases hh : kvGet l k with
    | none => rw [hh] at hg; simp at hg
    | some v =>
      rw [hh] at hg
      simp at hg
      simp [hg]

theorem modify_map (es : Array MapEntry) (i : Nat) (f : MapEntry → MapEntry) {β : Type} (g : MapEntry → β) (hg : ∀ e, g (f e) = g e) : (es.modify i f).toList.map g = es.toList.map g := by
  apply List.ext_getElem?
  intro j
  simp only [List.getElem?_map, Array.toList_modify, List.getElem?_modify]
  by_cases h : i = j
  · subst h; cases es.toList[i]? <;> simp [hg]
  · simp [h]

theorem put_modify {es : List MapEntry} {l : List (K × V)} {ek : K → Value} {ev : V → Value} (h : es.map (fun e => (e.key, e.val)) = l.map (fun p => (ek p.1, ev p.2))) (k : K) (v : V) (i : Nat) (e0 : MapEntry)
    (hi : (l.map (·.1)).findIdx? (fun x => decide (x = k)) = some i) (he : es[i]? = some e0) :
    (es.modify i fun (e : MapEntry) => { e with key := ek k, val := ev v }).map (fun e => (e.key, e.val)) = (kvPut l k v).map (fun p => (ek p.1, ev p.2)) ∧ (kvGet l k).isSome = true ∧ e0.key = ek k := by
  induction l generalizing es i with
  | nil => simp at hi
  | cons p r ih =>
    cases es with
    | nil => simp at h
    | cons e es =>
      simp only [List.map_cons, List.cons.injEq, Prod.mk.injEq] at h
      rw [List.map_cons, List.findIdx?_cons] at hi
      rw [kvGet_cons]
      unfold kvPut
      by_cases hk : p.1 = k
      · simp only [hk, decide_true, if_true, Option.some.injEq] at hi
        subst hi
        simp only [List.getElem?_cons_zero, Option.some.injEq] at he
        subst he
        refine ⟨?_, by simp [hk], by rw [h.1.1, hk]⟩
        rw [if_pos hk]
        simp [h.2]
      · simp only [hk, decide_false, Bool.false_eq_true, if_false] at hi
        cases hf : (r.map (·.1)).findIdx? (fun x => decide (x = k)) with
        | none => simp [hf] at hi
        | some j =>
          simp only [hf, Option.map_some, Option.some.injEq] at hi
          subst hi
          simp only [List.getElem?_cons_succ] at he
          have ih := ih h.2 j hf he
          simp only [List.modify_succ_cons, List.map_cons, if_neg hk, ih.1, h.1.1, h.1.2]
          exact ⟨trivial, ih.2⟩

theorem put_push {es : List MapEntry} {l : List (K × V)} {ek : K → Value} {ev : V → Value} (h : es.map (fun e => (e.key, e.val)) = l.map (fun p => (ek p.1, ev p.2))) (k : K) (v : V) (b : Nat)
    (hi : kvGet l k = none) :
    (es ++ [({ key := ek k, val := ev v, born := b } : MapEntry)]).map (fun e => (e.key, e.val)) = (kvPut l k v).map (fun p => (ek p.1, ev p.2)) := by
  induction l generalizing es with
  | nil => simp at h; subst h; simp [kvPut]
  | cons p r ih =>
    cases es with
    | nil => simp at h
    | cons e es =>
      simp only [List.map_cons, List.cons.injEq, Prod.mk.injEq] at h
      rw [kvGet_cons] at hi
      by_cases hk : p.1 = k
      · simp [hk] at hi
      · rw [if_neg hk] at hi
        have ih := ih h.2 hi
        unfold kvPut
        rw [if_neg hk]
        simp only [List.cons_append, List.map_cons, ih, h.1.1, h.1.2]

theorem findIdx_get {l : List (K × V)} {k : K} : ((l.map (·.1)).findIdx? (fun x => decide (x = k))).isSome = (kvGet l k).isSome := by
  induction l with
  | nil => simp [kvGet_nil]
  | cons p r ih =>
    rw [kvGet_cons, List.map_cons, List.findIdx?_cons]
    by_cases hk : p.1 = k
    · simp [hk]
    · simp only [hk, decide_false, Bool.false_eq_true, if_false, ← ih]
      cases (r.map (·.1)).findIdx? (fun x => decide (x = k)) <;> simp

theorem findIdx_lt {l : List K} {k : K} {i : Nat} (h : l.findIdx? (fun x => decide (x = k)) = some i) : i < l.length ∧ l[i]? = some k := by
  induction l generalizing i with
  | nil => simp at h
  | cons x r ih =>
    rw [List.findIdx?_cons] at h
    by_cases hk : x = k
    · simp [hk] at h; subst h; simp [hk]
    · simp only [hk, decide_false, Bool.false_eq_true, if_false] at h
      cases hf : r.findIdx? (fun x => decide (x = k)) with
      | none => simp [hf] at h
      | some j =>
        simp [hf] at h; subst h
        have := ih hf
        exact ⟨by simp [this.1], by rw [List.getElem?_cons_succ]; exact this.2⟩

/-- What became of a map's block, of all else nothing. -/
theorem Fr.setObj {F : Nat → Prop} {w : World} {m : Nat} (o : Obj) (hF : F m) : Fr F w { w with heap := w.heap.setIfInBounds m o } := by
  refine ⟨rfl, rfl, rfl, by simp, fun k hk hn => ?_⟩
  have e : m ≠ k := fun e => hn (e ▸ hF)
  simp [Array.getElem?_setIfInBounds, e]

theorem run_update_at {P : Program} {w : World} {m : Nat} {ek : K → Value} {ev : V → Value} {l : List (K × V)} (h : MapAt w m ek ev l) {t kt et : TypeId} (ht : P.underlying t = some (.map kt et)) (KT : KeyT P kt ek) (k : K) (v : V) :
    ∃ w', (Instr.mapUpdate t (.map (some m)) (ek k) (ev v)).run P w = .ok () w' ∧ MapAt w' m ek ev (kvPut l k v) ∧ Fr (one m) w w' := by
  have hlt := h.lt
  obtain ⟨es, clock, hb, hkv, hborn, hnd, hkn⟩ := h
  have hf := KT.find k es.toList (l.map (·.1)) (zip_of_map hkv).1 w
  have hc := KT.check false k w
  have hobj : (getObj m).run P w = .ok (.map es clock) w := by simp [getObj, Sem.run, hb]
  have hset : ∀ o, (setObj m o).run P w = .ok () { w with heap := w.heap.setIfInBounds m o } := by intro o; simp [setObj, Sem.run, hb]
  have hmod : ∀ e : MapEntry, ({ e with key := ek k, val := ev v } : MapEntry).born = e.born := fun _ => rfl
  have hheap : ∀ o, ({ w with heap := w.heap.setIfInBounds m o } : World).heap[m]? = some o := by
    intro o; simp [Array.getElem?_setIfInBounds, hlt]
  unfold Instr.mapUpdate
  simp only [Sem.run_bind, run_underlying ht, Result.andThen_ok, hobj, hc, hf]
  cases hi : (l.map (·.1)).findIdx? (fun x => decide (x = k)) with
  | none =>
    have hn : kvGet l k = none := by
      have := findIdx_get (l := l) (k := k); rw [hi] at this
      cases hh : kvGet l k with
      | none => rfl
      | some _ => rw [hh] at this; simp at this
    refine ⟨_, ?_, ⟨_, _, hheap (.map (es.push { key := ek k, val := ev v, born := clock }) (clock + 1)), ?_, ?_, ?_, kvPut_nodup hkn k v⟩, Fr.setObj _ rfl⟩
    · simp [hset]
    · rw [Array.toList_push]; exact put_push hkv k v clock hn
    · intro e he
      rw [Array.toList_push, List.mem_append] at he
      rcases he with he | he
      · have := hborn e he; omega
      · simp at he; subst he; simp
    · rw [Array.toList_push, List.map_append, List.nodup_append]
      refine ⟨hnd, by simp, ?_⟩
      intro a ha b hb' e
      simp at hb'
      obtain ⟨x, hx, rfl⟩ := List.mem_map.1 ha
      have := hborn x hx; omega
  | some i =>
    have hil := findIdx_lt hi
    have hlen : es.toList.length = l.length := by
      have := congrArg List.length hkv; simpa using this
    obtain ⟨e0, he0⟩ : ∃ e0, es.toList[i]? = some e0 := by
      rw [List.getElem?_eq_some_iff.2 ⟨by rw [hlen]; simpa using hil.1, rfl⟩]; exact ⟨_, rfl⟩
    have hpm := put_modify hkv k v i e0 hi he0
    have he0' : es[i]? = some e0 := by rw [← Array.getElem?_toList]; exact he0
    refine ⟨_, ?_, ⟨_, _, hheap (.map (es.modify i fun (e : MapEntry) => { e with key := ek k, val := ev v }) clock), ?_, ?_, ?_, kvPut_nodup hkn k v⟩, Fr.setObj _ rfl⟩
    · simp [he0, he0', Instr.keyThatStays, hpm.2.2, KT.same, hset]
    · rw [Array.toList_modify]; exact hpm.1
    · intro e he
      have hmm := modify_map es i (fun (e : MapEntry) => { e with key := ek k, val := ev v }) (fun (e : MapEntry) => e.born) (fun _ => rfl)
      have : e.born ∈ es.toList.map (·.born) := by rw [← hmm]; exact List.mem_map_of_mem he
      obtain ⟨x, hx, hxe⟩ := List.mem_map.1 this
      have := hborn x hx; omega
    · rw [modify_map es i (fun (e : MapEntry) => { e with key := ek k, val := ev v }) (fun (e : MapEntry) => e.born) (fun _ => rfl)]; exact hnd

theorem del_erase {es : List MapEntry} {l : List (K × V)} {ek : K → Value} {ev : V → Value} (h : es.map (fun e => (e.key, e.val)) = l.map (fun p => (ek p.1, ev p.2))) (hn : (l.map (·.1)).Nodup) (k : K) (i : Nat)
    (hi : (l.map (·.1)).findIdx? (fun x => decide (x = k)) = some i) :
    (es.eraseIdx i).map (fun e => (e.key, e.val)) = (kvDel l k).map (fun p => (ek p.1, ev p.2)) := by
  induction l generalizing es i with
  | nil => simp at hi
  | cons p r ih =>
    cases es with
    | nil => simp at h
    | cons e es =>
      simp only [List.map_cons, List.cons.injEq, Prod.mk.injEq] at h
      simp only [List.map_cons, List.nodup_cons] at hn
      rw [List.map_cons, List.findIdx?_cons] at hi
      by_cases hk : p.1 = k
      · simp only [hk, decide_true, if_true, Option.some.injEq] at hi
        subst hi
        have hd : kvDel (p :: r) k = r := by
          unfold kvDel
          rw [List.filter_cons, if_neg (by simp [hk])]
          apply List.filter_eq_self.2
          intro q hq
          have : q.1 ∈ r.map (·.1) := List.mem_map_of_mem hq
          simp only [ne_eq, decide_not, Bool.not_eq_true', decide_eq_false_iff_not]
          intro e; exact hn.1 (hk ▸ e ▸ this)
        rw [hd]; simpa using h.2
      · simp only [hk, decide_false, Bool.false_eq_true, if_false] at hi
        cases hf : (r.map (·.1)).findIdx? (fun x => decide (x = k)) with
        | none => simp [hf] at hi
        | some j =>
          simp only [hf, Option.map_some, Option.some.injEq] at hi
          subst hi
          have ih := ih h.2 hn.2 j hf
          have hd : kvDel (p :: r) k = p :: kvDel r k := by
            unfold kvDel
            rw [List.filter_cons, if_pos (by simpa using hk)]
          rw [hd]
          simp only [List.eraseIdx_cons_succ, List.map_cons, ih, h.1.1, h.1.2]

theorem kvDel_none {l : List (K × V)} {k : K} (h : kvGet l k = none) : kvDel l k = l := by
  have h := kvGet_none.1 h
  unfold kvDel
  apply List.filter_eq_self.2
  intro q hq
  have : q.1 ∈ l.map (·.1) := List.mem_map_of_mem hq
  simp only [ne_eq, decide_not, Bool.not_eq_true', decide_eq_false_iff_not]
  intro e; exact h (e ▸ this)

theorem run_delete_at {P : Program} {w : World} {m : Nat} {ek : K → Value} {ev : V → Value} {l : List (K × V)} (h : MapAt w m ek ev l) {t kt et : TypeId} (ht : P.underlying t = some (.map kt et)) (KT : KeyT P kt ek) (k : K) (t2 ty : TypeId) :
    ∃ w', (Builtin.delete_ #[t, t2] ty #[.map (some m), ek k]).run P w = .ok (.tuple #[]) w' ∧ MapAt w' m ek ev (kvDel l k) ∧ Fr (one m) w w' := by
  have hlt := h.lt
  obtain ⟨es, clock, hb, hkv, hborn, hnd, hkn⟩ := h
  have hf := KT.find k es.toList (l.map (·.1)) (zip_of_map hkv).1 w
  have hc := KT.check es.isEmpty k w
  have hobj : (getObj m).run P w = .ok (.map es clock) w := by simp [getObj, Sem.run, hb]
  have hset : ∀ o, (setObj m o).run P w = .ok () { w with heap := w.heap.setIfInBounds m o } := by intro o; simp [setObj, Sem.run, hb]
  have hheap : ∀ o, ({ w with heap := w.heap.setIfInBounds m o } : World).heap[m]? = some o := by
    intro o; simp [Array.getElem?_setIfInBounds, hlt]
  unfold Builtin.delete_
  simp only [List.getElem?_toArray, List.getElem?_cons_zero, List.getElem?_cons_succ, Sem.run_bind, run_underlying ht, Result.andThen_ok, hobj, hc, hf]
  cases hi : (l.map (·.1)).findIdx? (fun x => decide (x = k)) with
  | none =>
    have hn : kvGet l k = none := by
      have := findIdx_get (l := l) (k := k); rw [hi] at this
      cases hh : kvGet l k with
      | none => rfl
      | some _ => rw [hh] at this; simp at this
    refine ⟨_, ?_, ⟨_, _, hheap (.map es clock), ?_, hborn, hnd, kvDel_nodup hkn k⟩, Fr.setObj _ rfl⟩
    · simp [hset]
    · rw [kvDel_none hn]; exact hkv
  | some i =>
    have hil := findIdx_lt hi
    have hlen : es.toList.length = l.length := by
      have := congrArg List.length hkv; simpa using this
    have hi' : i < es.toList.length := by rw [hlen]; simpa using hil.1
    obtain ⟨e0, he0⟩ : ∃ e0, es.toList[i]? = some e0 := ⟨_, List.getElem?_eq_some_iff.2 ⟨hi', rfl⟩⟩
    have her : (es.eraseIdxIfInBounds i).toList = es.toList.eraseIdx i := by
      unfold Array.eraseIdxIfInBounds
      rw [dif_pos (by simpa using hi')]; simp
    refine ⟨_, ?_, ⟨_, _, hheap (.map (es.eraseIdxIfInBounds i) clock), ?_, ?_, ?_, kvDel_nodup hkn k⟩, Fr.setObj _ rfl⟩
    · have he0' : es[i]? = some e0 := by rw [← Array.getElem?_toList]; exact he0
      simp [he0, he0', hset]
    · rw [her]; exact del_erase hkv hkn k i hi
    · rw [her]; intro e he; exact hborn e (List.mem_of_mem_eraseIdx he)
    · rw [her]; exact ((List.eraseIdx_sublist es.toList i).map _).nodup hnd

theorem run_len_at {P : Program} {w : World} {m : Nat} {ek : K → Value} {ev : V → Value} {l : List (K × V)} (h : MapAt w m ek ev l) {t kt et : TypeId} (ht : P.underlying t = some (.map kt et)) (ty : TypeId) :
    (Builtin.len_ #[t] ty #[.map (some m)]).run P w = .ok (.int .i64 l.length) w := by
  obtain ⟨es, clock, hb, hkv, hborn, hnd, hkn⟩ := h
  have hlen : es.size = l.length := by
    have := congrArg List.length hkv; simpa using this
  have hobj : (getObj m).run P w = .ok (.map es clock) w := by simp [getObj, Sem.run, hb]
  unfold Builtin.len_
  simp [run_underlying ht, hobj, goInt, hlen]
end heap

/-! ### keys that are integers; strings -/
theorem KeyT.int {P : Program} {kt : TypeId} {q : IntKind} (h : P.underlying kt = some (.int q)) : KeyT P kt (fun n : Int => Value.int q n) where
  check := by
    intro b k w
    unfold Instr.checkKey
    simp [run_underlying h]
  find := by
    intro k es l hkv w
    have key : ∀ (es : List MapEntry) (l : List Int) (j : Nat), es.map (·.key) = l.map (fun n : Int => Value.int q n) →
        Instr.findNow (.int q) (.int q k) es j = some ((l.findIdx? (fun x => decide (x = k))).bind fun i => (es[i]?).map fun e => (j + i, e.val)) := by
      intro es
      induction es with
      | nil => intro l j h; cases l <;> simp at h; simp [Instr.findNow]
      | cons e es ih =>
        intro l j h
        cases l with
        | nil => simp at h
        | cons x r =>
          simp only [List.map_cons, List.cons.injEq] at h
          unfold Instr.findNow
          rw [h.1]
          simp only [Instr.sameNow, if_true]
          rw [List.findIdx?_cons]
          by_cases hx : k = x
          · simp [hx]
          · have hx' : ¬ x = k := fun e => hx e.symm
            have : (k == x) = false := by simpa using hx
            rw [this, ih r (j + 1) h.2]
            simp only [hx', decide_false, Bool.false_eq_true, if_false]
            cases r.findIdx? (fun x => decide (x = k)) with
            | none => simp
            | some i => cases hg : es[i]? <;> simp [hg]; omega
    unfold Instr.findKey
    simp only [Sem.run_bind, run_underlying h, Result.andThen_ok, key es l 0 hkv]
    simp
  same := by intro k; simp [Instr.sameBits]

theorem bytes_beq (a b : ByteArray) : (a == b) = decide (a = b) := by
  have : ∀ a b : ByteArray, (a == b) = (a.data == b.data) := fun a b => rfl
  rw [this, Bool.eq_iff_iff]
  simp only [beq_iff_eq, decide_eq_true_eq]
  exact ⟨fun h => ByteArray.ext h, fun h => by rw [h]⟩

theorem KeyT.string {P : Program} {kt : TypeId} (h : P.underlying kt = some .string) : KeyT P kt (fun s : ByteArray => Value.string s) where
  check := by
    intro b k w
    unfold Instr.checkKey
    simp [run_underlying h]
  find := by
    intro k es l hkv w
    have key : ∀ (es : List MapEntry) (l : List ByteArray) (j : Nat), es.map (·.key) = l.map (fun n : ByteArray => Value.string n) →
        Instr.findNow .string (.string k) es j = some ((l.findIdx? (fun x => decide (x = k))).bind fun i => (es[i]?).map fun e => (j + i, e.val)) := by
      intro es
      induction es with
      | nil => intro l j h; cases l <;> simp at h; simp [Instr.findNow]
      | cons e es ih =>
        intro l j h
        cases l with
        | nil => simp at h
        | cons x r =>
          simp only [List.map_cons, List.cons.injEq] at h
          unfold Instr.findNow
          rw [h.1]
          simp only [Instr.sameNow]
          rw [List.findIdx?_cons]
          rw [bytes_beq]
          by_cases hx : k = x
          · simp [hx]
          · have hx' : ¬ x = k := fun e => hx e.symm
            have : decide (k = x) = false := by simpa using hx
            rw [this]
            simp only []
            rw [ih r (j + 1) h.2]
            simp only [hx', decide_false, Bool.false_eq_true, if_false]
            cases r.findIdx? (fun x => decide (x = k)) with
            | none => simp
            | some i => cases hg : es[i]? <;> simp [hg]; omega
    unfold Instr.findKey
    simp only [Sem.run_bind, run_underlying h, Result.andThen_ok, key es l 0 hkv]
    simp
  same := by intro k; simp [Instr.sameBits, bytes_beq]

/-! ### at the operation, for the walk -/
section arms
variable {K V : Type} [DecidableEq K] {P : Program} {w : World} {ops : Array Oper} {rest : List Oper} {o : Oper} {a : Act} {Q : Exit → Act → World → Prop} {m : Nat} {ek : K → Value} {ev : V → Value} {l : List (K × V)}
theorem wpList_go (hg : Region.wanted o (yielded ops a.tmps) = true) (h : ∀ K : Act → World → Prop, (∀ a w, wpList P ops Q rest a w → K a w) → o.wp P a w K Q) : wpList P ops Q (o :: rest) a w :=
  wpList_step fun K hK => by simp only [hg, if_true]; exact h K hK
theorem wpMapUpdate (hg : Region.wanted o (yielded ops a.tmps) = true) (mo xo vo : Operand) (t : TypeId) (hop : o.op = Op.mapUpdate t mo xo vo) (kt et : TypeId) (h : MapAt w m ek ev l) (ht : P.underlying t = some (.map kt et)) (KT : KeyT P kt ek) (k : K) (v : V)
    (hm : a.eval mo = .map (some m)) (hx : a.eval xo = ek k) (hv : a.eval vo = ev v)
    (hK : ∀ w', MapAt w' m ek ev (kvPut l k v) → Fr (one m) w w' → wpList P ops Q rest (a.put o.dst undef) w') : wpList P ops Q (o :: rest) a w := by
  refine wpList_go hg fun K' hK' => ?_
  obtain ⟨w', hrun, r1, r2⟩ := run_update_at h ht KT k v
  unfold Oper.wp
  simp [execOp, hop, hm, hx, hv, hrun, Result.andThen]
  exact hK' _ _ (hK w' r1 r2)
theorem wpDelete (hg : Region.wanted o (yielded ops a.tmps) = true) (mo xo : Operand) (t t2 : TypeId) (hop : o.op = Op.call { callee := Callee.builtin Builtin.delete, args := #[mo, xo], argTypes := #[t, t2] }) (kt et : TypeId) (h : MapAt w m ek ev l) (ht : P.underlying t = some (.map kt et)) (KT : KeyT P kt ek) (k : K)
    (hm : a.eval mo = .map (some m)) (hx : a.eval xo = ek k)
    (hK : ∀ w', MapAt w' m ek ev (kvDel l k) → Fr (one m) w w' → wpList P ops Q rest (a.put o.dst (.tuple #[])) w') : wpList P ops Q (o :: rest) a w := by
  refine wpList_go hg fun K' hK' => ?_
  obtain ⟨w', hrun, r1, r2⟩ := run_delete_at h ht KT k t2 o.type
  unfold Oper.wp
  simp [execOp, hop, resolve, invoke, builtin, hm, hx, hrun, Result.andThen]
  exact hK' _ _ (hK w' r1 r2)
theorem wpLookup (hg : Region.wanted o (yielded ops a.tmps) = true) (mo xo : Operand) (t : TypeId) (c : Bool) (hop : o.op = Op.lookup t mo xo c) (kt et : TypeId) (h : MapAt w m ek ev l) (ht : P.underlying t = some (.map kt et)) (KT : KeyT P kt ek) (z : Value) (hz : (zeroValue et).run P w = .ok z w) (k : K)
    (hm : a.eval mo = .map (some m)) (hx : a.eval xo = ek k)
    (hK : wpList P ops Q rest (a.put o.dst (if c then .tuple #[((kvGet l k).map ev).getD z, .bool (kvGet l k).isSome] else ((kvGet l k).map ev).getD z)) w) : wpList P ops Q (o :: rest) a w := by
  refine wpList_go hg fun K' hK' => ?_
  have hrun := run_lookup_at h ht KT hz k c
  unfold Oper.wp
  simp [execOp, hop, hm, hx, hrun, Result.andThen]
  exact hK' _ _ hK
def unitV : Unit → Value := fun _ => .agg #[]
theorem wpLookupSet {l : List (K × Unit)} (hg : Region.wanted o (yielded ops a.tmps) = true) (mo xo : Operand) (t : TypeId) (hop : o.op = Op.lookup t mo xo true) (kt et : TypeId) (h : MapAt w m ek unitV l) (ht : P.underlying t = some (.map kt et)) (KT : KeyT P kt ek) (hz : (zeroValue et).run P w = .ok (.agg #[]) w) (k : K)
    (hm : a.eval mo = .map (some m)) (hx : a.eval xo = ek k)
    (hK : wpList P ops Q rest (a.put o.dst (.tuple #[.agg #[], .bool (kvGet l k).isSome])) w) : wpList P ops Q (o :: rest) a w := by
  refine wpLookup hg mo xo t true hop kt et h ht KT _ hz k hm hx ?_
  have : ((kvGet l k).map unitV).getD (.agg #[]) = .agg #[] := by cases kvGet l k <;> rfl
  rw [this]; exact hK
end arms
end Go.Proofs.YtckkccnebjacdaaGreat
namespace Go.Proofs.YtckkccnebjacdaaGreat
open Go.RowKit
set_option linter.unusedVariables false
set_option linter.unusedSimpArgs false

def byteV (b : UInt8) : Value := .int .u8 b.toNat
theorem byteV_one (b : UInt8) : (byteV b).oneCell' = true := rfl

/-- A list with others in the place of some from o on. -/
def putAt {α : Type} (l : List α) (o : Nat) (vs : List α) : List α := l.take o ++ vs ++ l.drop (o + vs.length)
theorem putAt_length {α : Type} (l : List α) (o : Nat) (vs : List α) (h : o + vs.length ≤ l.length) : (putAt l o vs).length = l.length := by
  unfold putAt; simp; omega
theorem putAt_get {α : Type} (l : List α) (o : Nat) (vs : List α) (h : o + vs.length ≤ l.length) (i : Nat) :
    (putAt l o vs)[i]? = if i < o then l[i]? else if i < o + vs.length then vs[i - o]? else l[i]? := by
  unfold putAt
  have ht : (l.take o).length = o := by simp; omega
  by_cases h1 : i < o
  · rw [if_pos h1, List.append_assoc, List.getElem?_append_left (by omega), List.getElem?_take, if_pos h1]
  · rw [if_neg h1]
    by_cases h2 : i < o + vs.length
    · rw [if_pos h2, List.append_assoc, List.getElem?_append_right (by omega), List.getElem?_append_left (by omega), ht]
    · rw [if_neg h2, List.append_assoc, List.getElem?_append_right (by omega), List.getElem?_append_right (by omega), ht, List.getElem?_drop]
      congr 1; omega
def putAtA (cs : Array Value) (o : Nat) (vs : List Value) : Array Value := (putAt cs.toList o vs).toArray

theorem putAtA_size (cs : Array Value) (o : Nat) (vs : List Value) (h : o + vs.length ≤ cs.size) : (putAtA cs o vs).size = cs.size := by
  unfold putAtA; rw [List.size_toArray, putAt_length _ _ _ (by simpa using h)]; simp
theorem putAt_nil {α : Type} (l : List α) (o : Nat) : putAt l o [] = l := by simp [putAt]

theorem run_store_row {P : Program} {w : World} {g : Nat} {cs : Array Value} {t : TypeId} (h : Row w g cs t) (o : Nat) (vs : List Value) (hl : o + vs.length ≤ cs.size) (h1 : ∀ v ∈ vs, v.oneCell' = true) :
    (storeCells ⟨g, o, none⟩ vs).run P w = .ok () (w.setRow g (putAtA cs o vs)) := by
  have := run_storeCells_at P g o t vs 0 cs w h (by omega) h1
  simpa [putAtA, putAt] using this

theorem run_clear_row {P : Program} {w : World} {g : Nat} {cs : Array Value} {t : TypeId} (h : Row w g cs t) (st e ty : TypeId) (z : Value) (ht : P.underlying st = some (.slice e)) (hv : ∀ w, (zeroValue e).run P w = .ok z w) (hz : z.cells = #[z]) (h1 : z.oneCell' = true)
    (o n c : Nat) (hn : o + n ≤ cs.size) :
    (Builtin.clear_ #[st] ty #[.slice (some ⟨g, o, none⟩) n c]).run P w = .ok (.tuple #[]) (w.setRow g (putAtA cs o (List.replicate n z))) := by
  have hzc : (Builtin.zeroCells z.cells n).toList = List.replicate n z := by
    rw [hz]
    simp [Builtin.zeroCells]
    apply List.ext_getElem
    · simp
    · intro i h1 h2
      simp [Nat.mod_one]
  have hst := run_store_row (P := P) h o (List.replicate n z) (by simpa using hn) (by intro v hv'; rw [List.eq_of_mem_replicate hv']; exact h1)
  cases n with
  | zero =>
    have e1 : putAtA cs o (List.replicate 0 z) = cs := by simp [putAtA, putAt]
    rw [e1]
    have e2 : w.setRow g cs = w := setRow_self w g cs t (0, 0) h
    rw [e2]
    simp [Builtin.clear_, run_underlying ht]
  | succ m =>
    simp [Builtin.clear_, run_underlying ht, hv, hzc, hst]

theorem run_copy_string {P : Program} {w : World} {g : Nat} {cs : Array Value} {t : TypeId} (h : Row w g cs t) (dT sT ty e : TypeId) (ht : P.underlying dT = some (.slice e)) (hs : (P.info? e).map (·.size) = some 1)
    (o n c : Nat) (s : ByteArray) (hs1 : s.size ≤ n) (hn : o + n ≤ cs.size) :
    (Builtin.copy_ #[dT, sT] ty #[.slice (some ⟨g, o, none⟩) n c, .string s]).run P w = .ok (.int .i64 s.size) (w.setRow g (putAtA cs o (s.data.toList.map byteV))) := by
  obtain ⟨i, hi, hi1⟩ := Option.map_eq_some_iff.1 hs
  have hmin : Nat.min s.size n = s.size := by show min s.size n = s.size; omega
  have hex : s.extract 0 s.size = s := by simp
  have hst := run_store_row (P := P) h o (s.data.toList.map byteV) (by simp; show o + s.size ≤ _; omega) (by intro v hv; obtain ⟨b, _, rfl⟩ := List.mem_map.1 hv; rfl)
  have hmap : (s.data.map fun b => Value.int .u8 (b.toNat : Int)).toList = s.data.toList.map byteV := by simp [byteV]
  simp [Builtin.copy_, run_underlying ht, Builtin.lenOf, hmin, sizeOf, typeInfo, hi, hi1, Builtin.firstCells, hex, goInt]
  have hst' : (storeCells ⟨g, o, none⟩ (List.map (fun b : UInt8 => Value.int IntKind.u8 (b.toNat : Int)) s.data.toList)).run P w = .ok () (w.setRow g (putAtA cs o (s.data.toList.map byteV))) := hst
  rw [List.take_of_length_le (by simp), hst']; rfl

/-- The string of a piece of bytes. -/
def strOf (bs : List UInt8) : ByteArray := ⟨bs.toArray⟩
theorem strOf_size (bs : List UInt8) : (strOf bs).size = bs.length := by simp [strOf, ByteArray.size]

theorem run_string_row {P : Program} {w : World} {g : Nat} {cs : Array Value} {t : TypeId} (h : Row w g cs t) (src dst e : TypeId) (hs : P.underlying src = some (.slice e)) (he : P.underlying e = some (.int .u8)) (hd : P.underlying dst = some .string)
    (o n c : Nat) (bs : List UInt8) (hl : bs.length = n) (hb : ∀ i, i < n → cs[o + i]? = some (byteV (bs.getD i 0))) :
    (convert src dst (.slice (some ⟨g, o, none⟩) n c)).run P w = .ok (.string (strOf bs)) w := by
  have := run_convert_bytes_arg (P := P) (w := w) src e hs he g o n c (bs.map fun b => (b.toNat : Int)) (by simp [hl]) (by
    intro i hi
    rw [h.cell, hb i hi]
    have : i < bs.length := by omega
    simp [byteV, List.getD, this]) dst hd
  rw [this]
  congr 1
  congr 1
  apply ByteArray.ext
  apply Array.ext'
  rw [strOfNums_data]
  simp [strOf, Function.comp_def]

/-! ### at the operation, for the walk -/
section arms
variable {P : Program} {w : World} {ops : Array Oper} {rest : List Oper} {o : Oper} {a : Act} {Q : Exit → Act → World → Prop}
/-- Guards: the operation that stands next is this one ('with_reducible refine at_clear ?_' fails at once at any other). -/
theorem at_clear {d : Option Tmp} {xs : Array Operand} {ts : Array TypeId} {t : TypeId} {pos : String} {af : Array Edge} {g : Option (Nat × Bool)}
    (h : wpList P ops Q (⟨d, .call ⟨.builtin .clear, xs, ts⟩, t, pos, af, g⟩ :: rest) a w) : wpList P ops Q (⟨d, .call ⟨.builtin .clear, xs, ts⟩, t, pos, af, g⟩ :: rest) a w := h
theorem at_copy {d : Option Tmp} {xs : Array Operand} {ts : Array TypeId} {t : TypeId} {pos : String} {af : Array Edge} {g : Option (Nat × Bool)}
    (h : wpList P ops Q (⟨d, .call ⟨.builtin .copy, xs, ts⟩, t, pos, af, g⟩ :: rest) a w) : wpList P ops Q (⟨d, .call ⟨.builtin .copy, xs, ts⟩, t, pos, af, g⟩ :: rest) a w := h
theorem at_storeOf (ty : TypeId) {d : Option Tmp} {x y : Operand} {t : TypeId} {pos : String} {af : Array Edge} {g : Option (Nat × Bool)}
    (h : wpList P ops Q (⟨d, .store ty x y, t, pos, af, g⟩ :: rest) a w) : wpList P ops Q (⟨d, .store ty x y, t, pos, af, g⟩ :: rest) a w := h
theorem at_slot (n : Nat) {op : Op} {t : TypeId} {pos : String} {af : Array Edge} {g : Option (Nat × Bool)}
    (h : wpList P ops Q (⟨some n, op, t, pos, af, g⟩ :: rest) a w) : wpList P ops Q (⟨some n, op, t, pos, af, g⟩ :: rest) a w := h
theorem wpValue (hg : Region.wanted o (yielded ops a.tmps) = true) (v : Value) (w' : World) (hrun : (execOp a.eval o).run P w = .ok (.value v) w') (hK : wpList P ops Q rest (a.put o.dst v) w') : wpList P ops Q (o :: rest) a w := by
  refine wpList_go hg fun K' hK' => ?_
  unfold Oper.wp
  rw [hrun]
  exact hK' _ _ hK
/-- A whole struct, or array, is stored over a whole block. -/
theorem wpStoreRow (hg : Region.wanted o (yielded ops a.tmps) = true) (x y : Operand) (ty : TypeId) (hop : o.op = Op.store ty x y) {g : Nat} {cs cs' : Array Value} {t : TypeId} (h : Row w g cs t) (hx : a.eval x = .pointer (some ⟨g, 0, none⟩)) (hy : a.eval y = .agg cs')
    (hs : (P.info? ty).map (·.size) = some cs'.size) (hl : cs'.size = cs.size) (h1 : ∀ v ∈ cs'.toList, v.oneCell' = true)
    (hK : ∀ w', Row w' g cs' t → Fr (one g) w w' → wpList P ops Q rest (a.put o.dst undef) w') : wpList P ops Q (o :: rest) a w := by
  refine wpList_go hg fun K' hK' => ?_
  obtain ⟨i, hi, hi1⟩ := Option.map_eq_some_iff.1 hs
  have hst := run_store_row (P := P) h 0 cs'.toList (by simp [hl]) h1
  have e : putAtA cs 0 cs'.toList = cs' := by
    unfold putAtA putAt
    apply Array.ext'
    simp [hl]
  rw [e] at hst
  unfold Oper.wp
  simp [execOp, hop, hx, hy, Instr.storeAt, Instr.sureAddr, storeVar, sizeOf, typeInfo, hi, hi1, Value.cells, hst, Result.andThen]
  exact hK' _ _ (hK _ (h.setRow _) (Fr.setRow h _ rfl))
theorem made_bytes (n : Nat) : madeCells #[Value.int .u8 0] n = ((List.replicate n (0 : UInt8)).map byteV).toArray := by
  apply Array.ext'
  unfold madeCells
  apply List.ext_getElem
  · simp
  · intro i h1 h2
    simp [Nat.mod_one, byteV]
/-- make([]byte, l, c). -/
theorem wpMakeBytes (hg : Region.wanted o (yielded ops a.tmps) = true) (x y : Operand) (t e : TypeId) (hop : o.op = Op.makeSlice t x y) (ht : P.underlying t = some (.slice e)) (hinfo : (P.info? e).map (fun i => (i.zero, i.size, i.bytes)) = some (some (.int .u8 0), 1, 1))
    (kl kc : IntKind) (l c : Nat) (hx : a.eval x = .int kl (l : Int)) (hy : a.eval y = .int kc (c : Int)) (hlc : l ≤ c) (hc : c ≤ 281474976710656)
    (hK : ∀ w', Row w' w.heap.size ((List.replicate c (0 : UInt8)).map byteV).toArray e → Fr none_ w w' → w'.heap.size = w.heap.size + 1 → wpList P ops Q rest (a.put o.dst (.slice (some ⟨w.heap.size, 0, none⟩) l c)) w') : wpList P ops Q (o :: rest) a w := by
  refine wpList_go hg fun K' hK' => ?_
  obtain ⟨i, hi, hz, hsize, hby⟩ := info_parts hinfo
  have hr := run_make (P := P) w t e i (.int .u8 0) ht hi hz kl kc l c (by omega) (by omega) (by rw [hby]; omega) (by omega)
  rw [hsize] at hr
  simp only [Int.toNat_natCast, Nat.mul_one, Value.cells, made_bytes] at hr
  obtain ⟨C, hC⟩ : ∃ C, C = ((List.replicate c (0 : UInt8)).map byteV).toArray := ⟨_, rfl⟩
  rw [← hC] at hr hK
  unfold Oper.wp
  simp [execOp, hop, hx, hy, hr, Result.andThen]
  exact hK' _ _ (hK _ (Row.new w _ e) (Fr.alloc _ _ _) (by simp))
/-- string(b), b a piece of a row of bytes. -/
theorem wpString (hg : Region.wanted o (yielded ops a.tmps) = true) (x : Operand) (src dst e : TypeId) (hop : o.op = Op.convert src dst x) {g : Nat} {cs : Array Value} {t : TypeId} (h : Row w g cs t) (hs : P.underlying src = some (.slice e)) (he : P.underlying e = some (.int .u8)) (hd : P.underlying dst = some .string)
    (off n c : Nat) (hx : a.eval x = .slice (some ⟨g, off, none⟩) n c) (bs : List UInt8) (hl : bs.length = n) (hb : ∀ i, i < n → cs[off + i]? = some (byteV (bs.getD i 0)))
    (hK : wpList P ops Q rest (a.put o.dst (.string (strOf bs))) w) : wpList P ops Q (o :: rest) a w := by
  refine wpList_go hg fun K' hK' => ?_
  have hrun := run_string_row (P := P) h src dst e hs he hd off n c bs hl hb
  unfold Oper.wp
  simp [execOp, hop, hx, hrun, Result.andThen]
  exact hK' _ _ hK
/-- s + t. -/
theorem wpAddStr (hg : Region.wanted o (yielded ops a.tmps) = true) (x y : Operand) (t t' : TypeId) (hop : o.op = Op.binOp .add t x y t') (s1 s2 : ByteArray) (hx : a.eval x = .string s1) (hy : a.eval y = .string s2) (hs : s1.size + s2.size ≤ 9223372036854775807) (s : ByteArray) (he : s1 ++ s2 = s)
    (hK : wpList P ops Q rest (a.put o.dst (.string s)) w) : wpList P ops Q (o :: rest) a w := by
  refine wpList_go hg fun K' hK' => ?_
  have hr := run_string_add_sum (P := P) w s1 s2 hs
  unfold Oper.wp
  rw [he] at hr
  simp [execOp, hop, hx, hy, binOp_string_add, hr, eqGuard, Result.andThen]
  exact hK' _ _ hK
/-- s == t, where it is known. -/
theorem wpEqlStr (hg : Region.wanted o (yielded ops a.tmps) = true) (x y : Operand) (t t' : TypeId) (hop : o.op = Op.binOp .eql t x y t') (s1 s2 : ByteArray) (hx : a.eval x = .string s1) (hy : a.eval y = .string s2)
    (hK : wpList P ops Q rest (a.put o.dst (.bool (decide (s1 = s2)))) w) : wpList P ops Q (o :: rest) a w := by
  refine wpList_go hg fun K' hK' => ?_
  have e : (s1.toList == s2.toList) = decide (s1 = s2) := by rw [← beq_toListBytes, bytes_beq]
  unfold Oper.wp
  simp only [execOp, hop, hx, hy, eqGuard, binOp_string_eql, e]
  simp [Result.andThen]
  exact hK' _ _ hK
theorem wpNeqStr (hg : Region.wanted o (yielded ops a.tmps) = true) (x y : Operand) (t t' : TypeId) (hop : o.op = Op.binOp .neq t x y t') (s1 s2 : ByteArray) (hx : a.eval x = .string s1) (hy : a.eval y = .string s2)
    (hK : wpList P ops Q rest (a.put o.dst (.bool (!decide (s1 = s2)))) w) : wpList P ops Q (o :: rest) a w := by
  refine wpList_go hg fun K' hK' => ?_
  have e : (s1.toList == s2.toList) = decide (s1 = s2) := by rw [← beq_toListBytes, bytes_beq]
  unfold Oper.wp
  simp only [execOp, hop, hx, hy, eqGuard, binOp_string_neq, e]
  simp [Result.andThen]
  exact hK' _ _ hK
theorem wpClear (hg : Region.wanted o (yielded ops a.tmps) = true) (x : Operand) (st : TypeId) (hop : o.op = Op.call { callee := Callee.builtin Builtin.clear, args := #[x], argTypes := #[st] }) {g : Nat} {cs : Array Value} {t : TypeId} (h : Row w g cs t) (e : TypeId) (z : Value) (ht : P.underlying st = some (.slice e)) (hv : ∀ w, (zeroValue e).run P w = .ok z w) (hz : z.cells = #[z]) (h1 : z.oneCell' = true)
    (off n c : Nat) (hx : a.eval x = .slice (some ⟨g, off, none⟩) n c) (hn : off + n ≤ cs.size)
    (hK : ∀ w', Row w' g (putAtA cs off (List.replicate n z)) t → Fr (one g) w w' → wpList P ops Q rest (a.put o.dst (.tuple #[])) w') : wpList P ops Q (o :: rest) a w := by
  refine wpList_go hg fun K' hK' => ?_
  have hrun := run_clear_row (P := P) h st e o.type z ht hv hz h1 off n c hn
  unfold Oper.wp
  simp [execOp, hop, resolve, invoke, builtin, hx, hrun, Result.andThen]
  exact hK' _ _ (hK _ (h.setRow _) (Fr.setRow h _ rfl))
theorem wpCopyStr (hg : Region.wanted o (yielded ops a.tmps) = true) (x y : Operand) (dT sT : TypeId) (hop : o.op = Op.call { callee := Callee.builtin Builtin.copy, args := #[x, y], argTypes := #[dT, sT] }) {g : Nat} {cs : Array Value} {t : TypeId} (h : Row w g cs t) (e : TypeId) (ht : P.underlying dT = some (.slice e)) (hs : (P.info? e).map (·.size) = some 1)
    (off n c : Nat) (s : ByteArray) (hx : a.eval x = .slice (some ⟨g, off, none⟩) n c) (hy : a.eval y = .string s) (hs1 : s.size ≤ n) (hn : off + n ≤ cs.size)
    (hK : ∀ w', Row w' g (putAtA cs off (s.data.toList.map byteV)) t → Fr (one g) w w' → wpList P ops Q rest (a.put o.dst (.int .i64 s.size)) w') : wpList P ops Q (o :: rest) a w := by
  refine wpList_go hg fun K' hK' => ?_
  have hrun := run_copy_string (P := P) h dT sT o.type e ht hs off n c s hs1 hn
  unfold Oper.wp
  simp [execOp, hop, resolve, invoke, builtin, hx, hy, hrun, Result.andThen]
  exact hK' _ _ (hK _ (h.setRow _) (Fr.setRow h _ rfl))
end arms
end Go.Proofs.YtckkccnebjacdaaGreat
