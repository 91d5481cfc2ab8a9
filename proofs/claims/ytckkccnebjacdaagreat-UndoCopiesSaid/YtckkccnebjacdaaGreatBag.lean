/-
  Many things in memory, each on blocks of its own, all of them new since W ('Bag'): what is done to one leaves the others. Nothing of the program in it.
-/
import Derived.Test.YtckkccnebjacdaaGreatMgSlice
namespace Go.Proofs.YtckkccnebjacdaaGreat
open Go.RowKit
set_option linter.unusedVariables false
set_option linter.unusedSimpArgs false
set_option maxRecDepth 100000

def GrowB (F F' : Nat → Prop) (w : World) : Prop := ∀ k, F' k → F k ∨ w.heap.size ≤ k
structure Thing where
  at_ : (Nat → Prop) → World → Prop
  keep : ∀ (F G : Nat → Prop) (w w' : World), at_ F w → Fr G w w' → (∀ k, F k → ¬ G k) → at_ F w'
  lt : ∀ (F : Nat → Prop) (w : World), at_ F w → ∀ k, F k → k < w.heap.size
def Bag (W : World) (Ts : List Thing) (w : World) : Prop :=
  Fr none_ W w ∧ ∃ Fs : Nat → Nat → Prop, (∀ i T, Ts[i]? = some T → T.at_ (Fs i) w ∧ ∀ k, Fs i k → W.heap.size ≤ k) ∧ ∀ i j k, i ≠ j → i < Ts.length → j < Ts.length → Fs i k → ¬ Fs j k
section
variable {W w w' : World} {Ts : List Thing}
theorem Bag.fr (h : Bag W Ts w) : Fr none_ W w := h.1
theorem Bag.start (W : World) : Bag W [] W := ⟨Fr.refl _ _, fun _ _ => False, fun i T h => by simp at h, fun i j k _ h => by simp at h⟩
theorem Bag.get (h : Bag W Ts w) {i : Nat} {T : Thing} (hi : Ts[i]? = some T) : ∃ F, T.at_ F w ∧ ∀ k, F k → W.heap.size ≤ k := by
  obtain ⟨_, Fs, h1, _⟩ := h
  exact ⟨Fs i, h1 i T hi⟩
theorem Bag.keep0 (h : Bag W Ts w) (f : Fr none_ w w') : Bag W Ts w' := by
  obtain ⟨hf, Fs, h1, h2⟩ := h
  exact ⟨hf.trans f, Fs, fun i T hi => ⟨T.keep _ _ _ _ (h1 i T hi).1 f (fun _ _ e => e), (h1 i T hi).2⟩, h2⟩
/-- One thing is turned. -/
theorem Bag.turn (h : Bag W Ts w) {i : Nat} {T T' : Thing} (hi : Ts[i]? = some T) (hT : ∀ F, T.at_ F w → ∃ F', T'.at_ F' w' ∧ Fr F w w' ∧ GrowB F F' w) : Bag W (Ts.set i T') w' := by
  obtain ⟨hf, Fs, h1, h2⟩ := h
  obtain ⟨hT1, hT2⟩ := h1 i T hi
  obtain ⟨F', q1, q2, q3⟩ := hT (Fs i) hT1
  have hil : i < Ts.length := (List.getElem?_eq_some_iff.1 hi).1
  have hold : ∀ j, j ≠ i → j < Ts.length → ∀ k, Fs j k → k < w.heap.size := fun j hj hl k hk => (Ts[j]).lt _ _ (h1 j _ (List.getElem?_eq_getElem hl)).1 k hk
  refine ⟨hf.step q2 (fun k hk e => absurd (hT2 k e) (by omega)), fun j => if j = i then F' else Fs j, fun j T2 hj => ?_, fun a b k hab ha hb hk => ?_⟩
  · by_cases e : j = i
    · subst e
      rw [List.getElem?_set_self hil] at hj
      cases hj
      simp only [if_true]
      refine ⟨q1, fun k hk => ?_⟩
      rcases q3 k hk with q | q
      · exact hT2 k q
      · exact Nat.le_trans hf.size q
    · rw [List.getElem?_set_ne (Ne.symm e)] at hj
      simp only [if_neg e]
      have hjl : j < Ts.length := (List.getElem?_eq_some_iff.1 hj).1
      exact ⟨T2.keep _ _ _ _ (h1 j T2 hj).1 q2 (fun k hk => h2 j i k e hjl hil hk), (h1 j T2 hj).2⟩
  · rw [List.length_set] at ha hb
    by_cases ea : a = i
    · subst ea
      simp only [if_true] at hk
      simp only [if_neg (Ne.symm hab)]
      rcases q3 k hk with q | q
      · exact h2 a b k hab ha hb q
      · intro hb'
        have := hold b (Ne.symm hab) hb k hb'
        omega
    · simp only [if_neg ea] at hk
      by_cases eb : b = i
      · subst eb
        simp only [if_true]
        intro hk'
        rcases q3 k hk' with q | q
        · exact h2 a b k hab ha hb hk q
        · have := hold a ea ha k hk
          omega
      · simp only [if_neg eb]
        exact h2 a b k hab ha hb hk
/-- A thing more, on new blocks. -/
theorem Bag.add (h : Bag W Ts w) {T : Thing} {F : Nat → Prop} (f : Fr none_ w w') (hT : T.at_ F w') (hn : ∀ k, F k → w.heap.size ≤ k) : Bag W (Ts ++ [T]) w' := by
  obtain ⟨hf, Fs, h1, h2⟩ := h
  have hold : ∀ j, j < Ts.length → ∀ k, Fs j k → k < w.heap.size := fun j hl k hk => (Ts[j]).lt _ _ (h1 j _ (List.getElem?_eq_getElem hl)).1 k hk
  refine ⟨hf.trans f, fun j => if j = Ts.length then F else Fs j, fun j T2 hj => ?_, fun a b k hab ha hb hk => ?_⟩
  · by_cases e : j = Ts.length
    · subst e
      simp at hj
      subst hj
      simp only [if_true]
      exact ⟨hT, fun k hk => Nat.le_trans hf.size (hn k hk)⟩
    · have hjl : j < Ts.length := by
        have := (List.getElem?_eq_some_iff.1 hj).1
        simp at this; omega
      rw [List.getElem?_append_left hjl] at hj
      simp only [if_neg e]
      exact ⟨T2.keep _ _ _ _ (h1 j T2 hj).1 f (fun _ _ e => e), (h1 j T2 hj).2⟩
  · simp only [List.length_append, List.length_cons, List.length_nil] at ha hb
    by_cases ea : a = Ts.length
    · subst ea
      simp only [if_true] at hk
      simp only [if_neg (Ne.symm hab)]
      intro hb'
      have := hold b (by omega) k hb'
      have := hn k hk
      omega
    · simp only [if_neg ea] at hk
      by_cases eb : b = Ts.length
      · subst eb
        simp only [if_true]
        intro hk'
        have := hold a (by omega) k hk
        have := hn k hk'
        omega
      · simp only [if_neg eb]
        exact h2 a b k hab (by omega) (by omega) hk
/-- Things that were made behind others. -/
theorem Bag.join {Us : List Thing} (h : Bag W Ts w) (h' : Bag w Us w') : Bag W (Ts ++ Us) w' := by
  obtain ⟨hf, Fs, h1, h2⟩ := h
  obtain ⟨hf', Gs, g1, g2⟩ := h'
  have hold : ∀ j, j < Ts.length → ∀ k, Fs j k → k < w.heap.size := fun j hl k hk => (Ts[j]).lt _ _ (h1 j _ (List.getElem?_eq_getElem hl)).1 k hk
  have hnew : ∀ j, j < Us.length → ∀ k, Gs j k → w.heap.size ≤ k := fun j hl k hk => (g1 j _ (List.getElem?_eq_getElem hl)).2 k hk
  refine ⟨hf.trans hf', fun j => if j < Ts.length then Fs j else Gs (j - Ts.length), fun j T hj => ?_, fun a b k hab ha hb hk => ?_⟩
  · by_cases e : j < Ts.length
    · rw [List.getElem?_append_left e] at hj
      simp only [if_pos e]
      exact ⟨T.keep _ _ _ _ (h1 j T hj).1 hf' (fun _ _ e => e), (h1 j T hj).2⟩
    · rw [List.getElem?_append_right (by omega)] at hj
      simp only [if_neg e]
      exact ⟨(g1 _ T hj).1, fun k hk => Nat.le_trans hf.size ((g1 _ T hj).2 k hk)⟩
  · rw [List.length_append] at ha hb
    by_cases ea : a < Ts.length
    · simp only [if_pos ea] at hk
      by_cases eb : b < Ts.length
      · simp only [if_pos eb]; exact h2 a b k hab ea eb hk
      · simp only [if_neg eb]
        intro hk'
        have := hold a ea k hk
        have := hnew _ (by omega) k hk'
        omega
    · simp only [if_neg ea] at hk
      by_cases eb : b < Ts.length
      · simp only [if_pos eb]
        intro hk'
        have := hold b eb k hk'
        have := hnew _ (by omega) k hk
        omega
      · simp only [if_neg eb]; exact g2 _ _ k (by omega) (by omega) (by omega) hk
/-- A thing is let go, or things change places: 'p' says which of the old ones each new one is. -/
theorem Bag.pick {Us : List Thing} (h : Bag W Ts w) (p : Nat → Nat) (hp : ∀ i U, Us[i]? = some U → Ts[p i]? = some U) (hi : ∀ i j, i < Us.length → j < Us.length → p i = p j → i = j) : Bag W Us w := by
  obtain ⟨hf, Fs, h1, h2⟩ := h
  have hl : ∀ i, i < Us.length → p i < Ts.length := fun i hi => (List.getElem?_eq_some_iff.1 (hp i _ (List.getElem?_eq_getElem hi))).1
  exact ⟨hf, fun i => Fs (p i), fun i U hU => h1 _ _ (hp i U hU), fun a b k hab ha hb => h2 _ _ k (fun e => hab (hi a b ha hb e)) (hl a ha) (hl b hb)⟩
/-- A call that turns one thing. -/
theorem Bag.call {P : Program} {f : FuncId} {args : Array Value} {R : Ending → Prop} (h : Bag W Ts w) {i : Nat} {T T' : Thing} (hi : Ts[i]? = some T)
    (hT : ∀ F, T.at_ F w → Calls P f args w fun e w' => R e ∧ ∃ F', T'.at_ F' w' ∧ Fr F w w' ∧ GrowB F F' w) : Calls P f args w fun e w' => R e ∧ Bag W (Ts.set i T') w' := by
  obtain ⟨F0, q0, _⟩ := h.get hi
  -- the contract at the blocks that the bag names
  obtain ⟨hf, Fs, h1, h2⟩ := h
  refine (hT (Fs i) (h1 i T hi).1).mono ?_
  rintro e w1 ⟨he, F', r1, r2, r3⟩
  refine ⟨he, ?_⟩
  -- 'turn', at these blocks
  obtain ⟨hT1, hT2⟩ := h1 i T hi
  have hil : i < Ts.length := (List.getElem?_eq_some_iff.1 hi).1
  have hold : ∀ j, j ≠ i → j < Ts.length → ∀ k, Fs j k → k < w.heap.size := fun j hj hl k hk => (Ts[j]).lt _ _ (h1 j _ (List.getElem?_eq_getElem hl)).1 k hk
  refine ⟨hf.step r2 (fun k hk e => absurd (hT2 k e) (by omega)), fun j => if j = i then F' else Fs j, fun j T2 hj => ?_, fun a b k hab ha hb hk => ?_⟩
  · by_cases e : j = i
    · subst e
      rw [List.getElem?_set_self hil] at hj
      cases hj
      simp only [if_true]
      refine ⟨r1, fun k hk => ?_⟩
      rcases r3 k hk with q | q
      · exact hT2 k q
      · exact Nat.le_trans hf.size q
    · rw [List.getElem?_set_ne (Ne.symm e)] at hj
      simp only [if_neg e]
      have hjl : j < Ts.length := (List.getElem?_eq_some_iff.1 hj).1
      exact ⟨T2.keep _ _ _ _ (h1 j T2 hj).1 r2 (fun k hk => h2 j i k e hjl hil hk), (h1 j T2 hj).2⟩
  · rw [List.length_set] at ha hb
    by_cases ea : a = i
    · subst ea
      simp only [if_true] at hk
      simp only [if_neg (Ne.symm hab)]
      rcases r3 k hk with q | q
      · exact h2 a b k hab ha hb q
      · intro hb'
        have := hold b (Ne.symm hab) hb k hb'
        omega
    · simp only [if_neg ea] at hk
      by_cases eb : b = i
      · subst eb
        simp only [if_true]
        intro hk'
        rcases r3 k hk' with q | q
        · exact h2 a b k hab ha hb hk q
        · have := hold a ea ha k hk
          omega
      · simp only [if_neg eb]
        exact h2 a b k hab ha hb hk
end
/-! ### plain things -/
def tRow (b : Nat) (cs : Array Value) (t : TypeId) : Thing where
  at_ F w := Row w b cs t ∧ F = one b
  keep F G w w' h f hn := ⟨h.1.kept f (hn b (by rw [h.2]; rfl)), h.2⟩
  lt F w h k hk := by rw [h.2] at hk; unfold one at hk; subst hk; exact h.1.lt
def tSl (a : Option Addr) (n cap : Nat) (e : TypeId) (size : Nat) (xs : List Value) : Thing where
  at_ F w := SlAt w a n cap e size xs ∧ F = blk a
  keep F G w w' h f hn := ⟨h.1.kept f (fun k hk => hn k (by rw [h.2]; exact hk)), h.2⟩
  lt F w h k hk := by rw [h.2] at hk; exact h.1.lt k hk
section
variable {W w w' : World} {Ts : List Thing}
theorem Bag.row (h : Bag W Ts w) {i b : Nat} {cs : Array Value} {t : TypeId} (hi : Ts[i]? = some (tRow b cs t)) : Row w b cs t := by
  obtain ⟨F, h, _⟩ := h.get hi; exact h.1
theorem Bag.sl (h : Bag W Ts w) {i : Nat} {a : Option Addr} {n cap : Nat} {e : TypeId} {size : Nat} {xs : List Value} (hi : Ts[i]? = some (tSl a n cap e size xs)) : SlAt w a n cap e size xs := by
  obtain ⟨F, h, _⟩ := h.get hi; exact h.1
theorem Bag.addRow (h : Bag W Ts w) (cs : Array Value) (t : TypeId) : Bag W (Ts ++ [tRow w.heap.size cs t]) (w.alloc (.cells cs t)) :=
  h.add (T := tRow w.heap.size cs t) (Fr.alloc none_ w _) ⟨Row.new w cs t, rfl⟩ (fun k hk => by unfold one at hk; omega)
theorem Bag.addNil (h : Bag W Ts w) (e : TypeId) (size : Nat) : Bag W (Ts ++ [tSl none 0 0 e size []]) w :=
  h.add (T := tSl none 0 0 e size []) (Fr.refl none_ w) ⟨SlAt.empty w e size, rfl⟩ (fun k hk => absurd hk (blk_none k))
theorem Bag.setRow (h : Bag W Ts w) {i b : Nat} {cs : Array Value} {t : TypeId} (hi : Ts[i]? = some (tRow b cs t)) (j : Nat) (v : Value) : Bag W (Ts.set i (tRow b (cs.setIfInBounds j v) t)) (w.setCell ⟨b, j, none⟩ v) :=
  h.turn hi (fun F hF => ⟨one b, ⟨hF.1.set j v, rfl⟩, by rw [hF.2]; exact Fr.setCell _ w ⟨b, j, none⟩ v (fun _ => rfl), fun k hk => Or.inl (by rw [hF.2]; exact hk)⟩)
/-- Behind an append. -/
theorem Bag.appended (h : Bag W Ts w) {i : Nat} {a a' : Option Addr} {n n' cap cap' : Nat} {e : TypeId} {size : Nat} {xs ys : List Value} (hi : Ts[i]? = some (tSl a n cap e size xs)) (hs : SlAt w' a' n' cap' e size ys) (f : Fr (blk a) w w') (hb : ∀ k, blk a' k → blk a k ∨ w.heap.size ≤ k) :
    Bag W (Ts.set i (tSl a' n' cap' e size ys)) w' :=
  h.turn hi (fun F hF => ⟨blk a', ⟨hs, rfl⟩, by rw [hF.2]; exact f, fun k hk => by rw [hF.2]; exact hb k hk⟩)
/-- The same, where what is appended was built just ahead (a new block). -/
theorem Bag.appendedNew (h : Bag W Ts w) {i : Nat} {a a' : Option Addr} {n n' cap cap' : Nat} {e : TypeId} {size : Nat} {xs ys : List Value} {o : Obj} (hi : Ts[i]? = some (tSl a n cap e size xs)) (hs : SlAt w' a' n' cap' e size ys) (f : Fr (blk a) (w.alloc o) w') (hb : ∀ k, blk a' k → blk a k ∨ (w.alloc o).heap.size ≤ k) :
    Bag W (Ts.set i (tSl a' n' cap' e size ys)) w' :=
  (h.keep0 (Fr.alloc none_ w o)).appended hi hs f hb
end
end Go.Proofs.YtckkccnebjacdaaGreat
