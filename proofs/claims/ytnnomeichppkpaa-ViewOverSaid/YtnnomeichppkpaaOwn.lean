/-
  Frames and memory of the call's own: what a contract says of the world behind a call. 'Fr F w w'': of the blocks that there were, only those of F have turned. 'Row', 'MapAt': a block of cells, a map, known whole. Nothing of the program in it.
-/
import Derived.Test.YtnnomeichppkpaaRows
import Derived.WalkKit
import Derived.WalkSpells
import Derived.WalkLawsBesides
import Derived.Handy
import Derived.Lib.Hide
namespace Go.Proofs.Ytnnomeichppkpaa
open Go.RowKit
set_option linter.unusedSectionVars false
set_option linter.unusedVariables false
set_option linter.unusedSimpArgs false

/-- The walk stops here. -/
def Stop (p : Prop) : Prop := p
theorem Stop.mk {p : Prop} (h : Stop p) : p := h

/-! ### frames -/
structure Fr (F : Nat → Prop) (w w' : World) : Prop where
  os : w'.os = w.os
  tape : w'.tape = w.tape
  output : w'.output = w.output
  size : w.heap.size ≤ w'.heap.size
  block : ∀ k, k < w.heap.size → ¬ F k → w'.heap[k]? = w.heap[k]?

def none_ : Nat → Prop := fun _ => False
def one (a : Nat) : Nat → Prop := fun k => k = a
def two (a b : Nat) : Nat → Prop := fun k => k = a ∨ k = b

theorem Fr.refl (F : Nat → Prop) (w : World) : Fr F w w := ⟨rfl, rfl, rfl, Nat.le_refl _, fun _ _ _ => rfl⟩
theorem Fr.trans {F : Nat → Prop} {a b c : World} (h : Fr F a b) (k : Fr F b c) : Fr F a c :=
  ⟨k.os.trans h.os, k.tape.trans h.tape, k.output.trans h.output, Nat.le_trans h.size k.size,
    fun i hi hn => (k.block i (Nat.lt_of_lt_of_le hi h.size) hn).trans (h.block i hi hn)⟩
theorem Fr.mono {F G : Nat → Prop} {w w' : World} (h : Fr F w w') (hFG : ∀ k, k < w.heap.size → F k → G k) : Fr G w w' :=
  ⟨h.os, h.tape, h.output, h.size, fun k hk hn => h.block k hk (fun hF => hn (hFG k hk hF))⟩
/-- Two steps, the second one's blocks told by the first one's world. -/
theorem Fr.step {F G : Nat → Prop} {a b c : World} (h : Fr F a b) (k : Fr G b c) (hG : ∀ i, i < a.heap.size → G i → F i) : Fr F a c :=
  ⟨k.os.trans h.os, k.tape.trans h.tape, k.output.trans h.output, Nat.le_trans h.size k.size,
    fun i hi hn => (k.block i (Nat.lt_of_lt_of_le hi h.size) (fun hg => hn (hG i hi hg))).trans (h.block i hi hn)⟩
theorem Fr.drew (F : Nat → Prop) (w : World) : Fr F w w.drew := ⟨rfl, rfl, rfl, Nat.le_refl _, fun _ _ _ => rfl⟩
theorem Fr.alloc (F : Nat → Prop) (w : World) (o : Obj) : Fr F w (w.alloc o) :=
  ⟨rfl, rfl, rfl, by simp, fun k hk _ => Below.heap_alloc w o k hk⟩
theorem Fr.setCell (F : Nat → Prop) (w : World) (a : Addr) (v : Value) (h : a.block < w.heap.size → F a.block) : Fr F w (w.setCell a v) := by
  refine ⟨rfl, rfl, rfl, by simp, fun k hk hn => ?_⟩
  by_cases e : k = a.block
  · subst e; exact absurd (h hk) hn
  · exact Below.heap_setCell w a v k e
theorem Fr.alloc_r {F : Nat → Prop} {w w1 : World} (h : Fr F w w1) (o : Obj) : Fr F w (w1.alloc o) := h.trans (Fr.alloc F w1 o)
theorem Fr.drew_r {F : Nat → Prop} {w w1 : World} (h : Fr F w w1) : Fr F w w1.drew := h.trans (Fr.drew F w1)
theorem Fr.setCell_r {F : Nat → Prop} {w w1 : World} (h : Fr F w w1) (a : Addr) (v : Value) (ha : a.block < w.heap.size → F a.block) : Fr F w (w1.setCell a v) :=
  h.step (G := one a.block) (Fr.setCell _ w1 a v (fun _ => rfl)) (fun i hi e => by unfold one at e; subst e; exact ha hi)
theorem Fr.none {F : Nat → Prop} {w w' : World} (h : Fr none_ w w') : Fr F w w' := h.mono fun _ _ hf => hf.elim
theorem Fr.below {F : Nat → Prop} {w w' : World} {B : Nat} (h : Fr F w w') (hB : B ≤ w.heap.size) (hF : ∀ k, F k → B ≤ k) : Below B w w' :=
  ⟨h.os, h.tape, h.output, h.size, fun k hk => h.block k (Nat.lt_of_lt_of_le hk hB) (fun hf => by have := hF k hf; omega)⟩
theorem Fr.of_below {w w' : World} {B : Nat} (h : Below B w w') (F : Nat → Prop) (hF : ∀ k, k < w.heap.size → B ≤ k → F k) : Fr F w w' :=
  ⟨h.os, h.tape, h.output, h.size, fun k hk hn => h.block k (by rcases Nat.lt_or_ge k B with h' | h'; exact h'; exact absurd (hF k hk h') hn)⟩
theorem Fr.grown {w w' : World} {row : Option Nat} (h : w.grownBy w' row) (F : Nat → Prop) (hF : ∀ k, row = some k → k < w.heap.size → F k) : Fr F w w' :=
  ⟨h.os, h.tape, h.output, h.size, fun k hk hn => h.block k hk (fun e => hn (hF k e.symm hk))⟩
theorem Fr.cell {F : Nat → Prop} {w w' : World} (h : Fr F w w') {p : Addr} (hp : p.block < w.heap.size) (hn : ¬ F p.block) : w'.cell? p = w.cell? p :=
  World.cell?_of_block (w := w) (h.block p.block hp hn)
theorem Fr.frozen {F : Nat → Prop} {w w' : World} (h : Fr F w w') {p : Addr} (hp : p.block < w.heap.size) (hn : ¬ F p.block) : w'.frozen? p = w.frozen? p :=
  World.frozen?_of_block (w := w) (h.block p.block hp hn)

/-- What a cell holds it holds behind a call that writes nothing that was there. -/
theorem Fr.keep {w w' : World} (h : Fr none_ w w') {p : Addr} {v : Value} (hc : w.cell? p = some v) : w'.cell? p = some v :=
  (h.cell (World.block_lt_of_cell? w p hc) (fun e => e)).trans hc
theorem Fr.keepF {F : Nat → Prop} {w w' : World} (h : Fr F w w') {p : Addr} {v : Value} (hn : ¬ F p.block) (hc : w.cell? p = some v) : w'.cell? p = some v :=
  (h.cell (World.block_lt_of_cell? w p hc) hn).trans hc

/-! ### a row of cells, known whole -/
def Row (w : World) (g : Nat) (cs : Array Value) (t : TypeId) : Prop := w.heap[g]? = some (.cells cs t (0, 0))

theorem Row.lt {w : World} {g : Nat} {cs : Array Value} {t : TypeId} (h : Row w g cs t) : g < w.heap.size := (Array.getElem?_eq_some_iff.1 h).1
theorem Row.cell {w : World} {g : Nat} {cs : Array Value} {t : TypeId} (h : Row w g cs t) (i : Nat) : w.cell? ⟨g, i, none⟩ = cs[i]? := by
  unfold Row at h; simp [World.cell?, h]
theorem Row.free {w : World} {g : Nat} {cs : Array Value} {t : TypeId} (h : Row w g cs t) (i : Nat) : w.frozen? ⟨g, i, none⟩ = false := by
  unfold Row at h; simp [World.frozen?, h]
theorem Row.drew {w : World} {g : Nat} {cs : Array Value} {t : TypeId} (h : Row w g cs t) : Row w.drew g cs t := h
theorem Row.kept {F : Nat → Prop} {w w' : World} {g : Nat} {cs : Array Value} {t : TypeId} (h : Row w g cs t) (f : Fr F w w') (hn : ¬ F g) : Row w' g cs t :=
  (f.block g h.lt hn).trans h
theorem Row.alloc {w : World} {g : Nat} {cs : Array Value} {t : TypeId} (h : Row w g cs t) (o : Obj) : Row (w.alloc o) g cs t :=
  h.kept (Fr.alloc none_ w o) (fun x => x)
theorem Row.set {w : World} {g : Nat} {cs : Array Value} {t : TypeId} (h : Row w g cs t) (i : Nat) (v : Value) :
    Row (w.setCell ⟨g, i, none⟩ v) g (cs.setIfInBounds i v) t := by
  unfold Row at h ⊢
  simp [World.setCell, Array.getElem?_modify, h]
theorem Row.set_other {w : World} {g : Nat} {cs : Array Value} {t : TypeId} (h : Row w g cs t) (b i : Nat) (v : Value) (hne : g ≠ b) :
    Row (w.setCell ⟨b, i, none⟩ v) g cs t := by
  unfold Row at h ⊢
  rw [Below.heap_setCell _ _ _ _ hne]; exact h
theorem Row.new (w : World) (cs : Array Value) (t : TypeId) : Row (w.alloc (.cells cs t)) w.heap.size cs t := by
  exact (MapKept.heap_alloc w _).1
theorem Row.setRow {w : World} {g : Nat} {cs : Array Value} {t : TypeId} (h : Row w g cs t) (cs' : Array Value) : Row (w.setRow g cs') g cs' t :=
  setRow_heap w g cs cs' t (0, 0) h
theorem Fr.setRow {F : Nat → Prop} {w : World} {g : Nat} {cs : Array Value} {t : TypeId} (_h : Row w g cs t) (cs' : Array Value) (hF : F g) : Fr F w (w.setRow g cs') := by
  refine ⟨rfl, rfl, rfl, by simp [World.setRow], fun k hk hn => ?_⟩
  have e : k ≠ g := fun e => hn (e ▸ hF)
  simp only [World.setRow, Array.getElem?_modify]
  rw [if_neg (fun h => e h.symm)]

/-! ### a map, known whole: its keys and values in the row of its entries -/
section maps
variable {K V : Type} [DecidableEq K]
def kvGet (l : List (K × V)) (k : K) : Option V := (l.find? (fun p => decide (p.1 = k))).map (·.2)
def kvPut : List (K × V) → K → V → List (K × V)
  | [], k, v => [(k, v)]
  | p :: r, k, v => if p.1 = k then (k, v) :: r else p :: kvPut r k v
def kvDel (l : List (K × V)) (k : K) : List (K × V) := l.filter (fun p => decide (p.1 ≠ k))

def MapAt (w : World) (m : Nat) (ek : K → Value) (ev : V → Value) (l : List (K × V)) : Prop :=
  ∃ es clock, w.heap[m]? = some (.map es clock) ∧ es.toList.map (fun e => (e.key, e.val)) = l.map (fun p => (ek p.1, ev p.2)) ∧
    (∀ e ∈ es.toList, e.born < clock) ∧ (es.toList.map (·.born)).Nodup ∧ (l.map (·.1)).Nodup

theorem MapAt.lt {w : World} {m : Nat} {ek : K → Value} {ev : V → Value} {l : List (K × V)} (h : MapAt w m ek ev l) : m < w.heap.size := by
  obtain ⟨es, c, hb, _⟩ := h; exact (Array.getElem?_eq_some_iff.1 hb).1
theorem MapAt.kept {F : Nat → Prop} {w w' : World} {m : Nat} {ek : K → Value} {ev : V → Value} {l : List (K × V)} (h : MapAt w m ek ev l) (f : Fr F w w') (hn : ¬ F m) : MapAt w' m ek ev l := by
  have hlt := h.lt
  obtain ⟨es, c, hb, r⟩ := h
  exact ⟨es, c, (f.block m hlt hn).trans hb, r⟩
theorem MapAt.drew {w : World} {m : Nat} {ek : K → Value} {ev : V → Value} {l : List (K × V)} (h : MapAt w m ek ev l) : MapAt w.drew m ek ev l := h
theorem MapAt.new (w : World) (ek : K → Value) (ev : V → Value) : MapAt (w.alloc (.map #[] 0)) w.heap.size ek ev [] :=
  ⟨#[], 0, (MapKept.heap_alloc w _).1, by simp, by simp, by simp, by simp⟩
theorem MapAt.nodup {w : World} {m : Nat} {ek : K → Value} {ev : V → Value} {l : List (K × V)} (h : MapAt w m ek ev l) : (l.map (·.1)).Nodup := by
  obtain ⟨_, _, _, _, _, _, h⟩ := h; exact h

/-- A key's type: keys are compared by what they are. -/
structure KeyT (P : Program) (kt : TypeId) (ek : K → Value) : Prop where
  check : ∀ (b : Bool) (k : K) (w : World), (Instr.checkKey b 10000 kt (ek k)).run P w = .ok () w
  find : ∀ (k : K) (es : List MapEntry) (l : List K), es.map (·.key) = l.map ek → ∀ w : World,
    (Instr.findKey kt (ek k) es).run P w = .ok ((l.findIdx? (fun x => decide (x = k))).bind fun i => (es[i]?).map fun e => (i, e.val)) w
  same : ∀ k : K, Instr.sameBits 10000 (ek k) (ek k) = true

end maps
end Go.Proofs.Ytnnomeichppkpaa
