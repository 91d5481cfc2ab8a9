/-
  Package undo: the segments in memory: a map of slices of handles, each on a block of its own.
-/
import Derived.Test.YtckkccnebjacdaaUnShelf
import Derived.Test.YtckkccnebjacdaaMgOwn
namespace Go.Proofs.Ytckkccnebjacdaa
open Go.RowKit
set_option linter.unusedVariables false
set_option linter.unusedSimpArgs false
set_option maxRecDepth 100000

structure SgV where
  a : Option Addr
  cap : Nat
  l : List Nat
def sgEv (p : SgV) : Value := .slice p.a p.l.length p.cap
theorem kvPut_mem {K V : Type} [DecidableEq K] : ∀ {l : List (K × V)} {k : K} {v : V} {p : K × V}, (l.map (·.1)).Nodup → p ∈ kvPut l k v → p = (k, v) ∨ (p ∈ l ∧ p.1 ≠ k)
  | [], k, v, p, _, h => by
    unfold kvPut at h
    left; simpa using h
  | x :: r, k, v, p, hn, h => by
    simp only [List.map_cons, List.nodup_cons] at hn
    unfold kvPut at h
    by_cases e : x.1 = k
    · rw [if_pos e] at h
      rcases List.mem_cons.1 h with h | h
      · exact Or.inl h
      · right
        refine ⟨List.mem_cons_of_mem _ h, fun q => hn.1 ?_⟩
        rw [e, ← q]; exact List.mem_map_of_mem h
    · rw [if_neg e] at h
      rcases List.mem_cons.1 h with h | h
      · right; subst h; exact ⟨by simp, e⟩
      · rcases kvPut_mem hn.2 h with q | ⟨q1, q2⟩
        · exact Or.inl q
        · exact Or.inr ⟨List.mem_cons_of_mem _ q1, q2⟩
theorem kvDel_mem {K V : Type} [DecidableEq K] {l : List (K × V)} {k : K} {p : K × V} (h : p ∈ kvDel l k) : p ∈ l ∧ p.1 ≠ k := by
  unfold kvDel at h
  have := List.mem_filter.1 h
  exact ⟨this.1, by simpa using this.2⟩
theorem kvGet_mem {K V : Type} [DecidableEq K] {l : List (K × V)} {k : K} {v : V} (h : kvGet l k = some v) : (k, v) ∈ l := by
  unfold kvGet at h
  obtain ⟨p, hp, he⟩ := Option.map_eq_some_iff.1 h
  have h1 := List.find?_some hp
  have h2 := List.mem_of_find?_eq_some hp
  simp at h1
  obtain ⟨p1, p2⟩ := p
  simp at h1 he
  subst h1; subst he; exact h2
theorem mem_kvGet {K V : Type} [DecidableEq K] : ∀ {l : List (K × V)} {k : K} {v : V}, (l.map (·.1)).Nodup → (k, v) ∈ l → kvGet l k = some v
  | [], k, v, _, h => by simp at h
  | x :: r, k, v, hn, h => by
    simp only [List.map_cons, List.nodup_cons] at hn
    rw [kvGet_cons]
    rcases List.mem_cons.1 h with h | h
    · subst h; simp
    · have : x.1 ≠ k := fun e => hn.1 (by rw [e]; exact List.mem_map_of_mem h)
      rw [if_neg this]; exact mem_kvGet hn.2 h

/-- In memory: the map m; which slice each key has, and which handles stand there. -/
structure SegM (w : World) (m : Nat) (vs : List (Int × SgV)) : Prop where
  map : MapAt w m (Value.int .i64) sgEv vs
  sl : ∀ p ∈ vs, SlAt w p.2.a p.2.l.length p.2.cap 32 1 (p.2.l.map hvN)
  ne : ∀ p ∈ vs, p.2.l ≠ []
  apart : ∀ p ∈ vs, ∀ q ∈ vs, p.1 ≠ q.1 → ∀ k, blk p.2.a k → ¬ blk q.2.a k
  off : ∀ p ∈ vs, ¬ blk p.2.a m
def segOf (vs : List (Int × SgV)) (k : Int) : List Nat := match kvGet vs k with | some p => p.l | none => []
def segOwn (m : Nat) (vs : List (Int × SgV)) : Nat → Prop := fun k => k = m ∨ ∃ p ∈ vs, blk p.2.a k
section
variable {w w' : World} {m : Nat} {vs : List (Int × SgV)}
theorem SegM.kept {G : Nat → Prop} (h : SegM w m vs) (f : Fr G w w') (hn : ∀ k, segOwn m vs k → ¬ G k) : SegM w' m vs :=
  ⟨h.map.kept f (hn m (Or.inl rfl)), fun p hp => (h.sl p hp).kept f (fun k hk => hn k (Or.inr ⟨p, hp, hk⟩)), h.ne, h.apart, h.off⟩
theorem SegM.kept0 (h : SegM w m vs) (f : Fr none_ w w') : SegM w' m vs := h.kept f (fun _ _ e => e)
theorem SegM.lt (h : SegM w m vs) : ∀ k, segOwn m vs k → k < w.heap.size := by
  rintro k (rfl | ⟨p, hp, hk⟩)
  · exact h.map.lt
  · exact (h.sl p hp).lt k hk
theorem SegM.nodup (h : SegM w m vs) : (vs.map (·.1)).Nodup := h.map.nodup
theorem SegM.get (h : SegM w m vs) {k : Int} {p : SgV} (e : kvGet vs k = some p) : SlAt w p.a p.l.length p.cap 32 1 (p.l.map hvN) ∧ segOf vs k = p.l ∧ p.l ≠ [] ∧ ¬ blk p.a m ∧ ∀ b, blk p.a b → segOwn m vs b := by
  have hm := kvGet_mem e
  refine ⟨h.sl _ hm, by unfold segOf; rw [e], h.ne _ hm, h.off _ hm, fun b hb => Or.inr ⟨_, hm, hb⟩⟩
theorem SegM.new (w : World) : SegM (w.alloc (.map #[] 0)) w.heap.size [] :=
  ⟨MapAt.new w _ _, fun p h => by simp at h, fun p h => by simp at h, fun p h => by simp at h, fun p h => by simp at h⟩
/-- What a key's slice is, where the key has none: nil. -/
def sgGet (vs : List (Int × SgV)) (k : Int) : SgV := (kvGet vs k).getD ⟨none, 0, []⟩
theorem sgGet_l (k : Int) : (sgGet vs k).l = segOf vs k := by unfold sgGet segOf; cases kvGet vs k <;> rfl
theorem SegM.at_ (h : SegM w m vs) (k : Int) : SlAt w (sgGet vs k).a (sgGet vs k).l.length (sgGet vs k).cap 32 1 ((sgGet vs k).l.map hvN) ∧ ¬ blk (sgGet vs k).a m ∧ (∀ b, blk (sgGet vs k).a b → segOwn m vs b) ∧ (∀ q ∈ vs, q.1 ≠ k → ∀ b, blk (sgGet vs k).a b → ¬ blk q.2.a b) ∧ ((sgGet vs k).l = [] → (sgGet vs k).a = none ∧ (sgGet vs k).cap = 0) := by
  unfold sgGet
  cases e : kvGet vs k with
  | none => exact ⟨SlAt.empty _ _ _, blk_none _, fun b hb => absurd hb (blk_none b), fun q _ _ b hb => absurd hb (blk_none b), fun _ => ⟨rfl, rfl⟩⟩
  | some p =>
    have hm := kvGet_mem e
    exact ⟨h.sl _ hm, h.off _ hm, fun b hb => Or.inr ⟨_, hm, hb⟩, fun q hq hne => h.apart (k, p) hm q hq (fun e => hne e.symm), fun q => absurd q (h.ne _ hm)⟩
/-- A key's slice is another one: by what an append, or a clone, has handed back. -/
theorem SegM.put (h : SegM w m vs) {w1 w2 : World} {k : Int} {v : SgV} (f1 : Fr (blk (sgGet vs k).a) w w1) (hs : SlAt w1 v.a v.l.length v.cap 32 1 (v.l.map hvN)) (hne : v.l ≠ []) (hb : ∀ b, blk v.a b → blk (sgGet vs k).a b ∨ w.heap.size ≤ b)
    (hm : MapAt w2 m (Value.int .i64) sgEv (kvPut vs k v)) (f2 : Fr (one m) w1 w2) :
    SegM w2 m (kvPut vs k v) ∧ (∀ b, segOwn m (kvPut vs k v) b → segOwn m vs b ∨ w.heap.size ≤ b) ∧ (∀ x, segOf (kvPut vs k v) x = if k = x then v.l else segOf vs x) := by
  obtain ⟨_, o1, o2, o3, _⟩ := h.at_ k
  have hlt := h.map.lt
  have hv : ¬ blk v.a m := fun q => by
    rcases hb m q with e | e
    · exact o1 e
    · omega
  have hold : ∀ p ∈ vs, p.1 ≠ k → ∀ b, blk p.2.a b → ¬ blk v.a b := fun p hp hk b hb1 hb2 => by
    rcases hb b hb2 with e | e
    · exact o3 p hp hk b e hb1
    · have := (h.sl p hp).lt b hb1; omega
  refine ⟨⟨hm, fun p hp => ?_, fun p hp => ?_, fun p hp q hq hpq b hb1 hb2 => ?_, fun p hp => ?_⟩, fun b hb1 => ?_, fun x => ?_⟩
  · rcases kvPut_mem h.nodup hp with rfl | ⟨hp, hk⟩
    · exact hs.kept f2 (fun b hb1 e => hv (by unfold one at e; subst e; exact hb1))
    · exact ((h.sl p hp).kept f1 (fun b hb1 e => o3 p hp hk b e hb1)).kept f2 (fun b hb1 e => h.off p hp (by unfold one at e; subst e; exact hb1))
  · rcases kvPut_mem h.nodup hp with rfl | ⟨hp, _⟩
    · exact hne
    · exact h.ne p hp
  · rcases kvPut_mem h.nodup hp with rfl | ⟨hp, hk⟩
    · rcases kvPut_mem h.nodup hq with rfl | ⟨hq, hk'⟩
      · exact hpq rfl
      · exact hold q hq hk' b hb2 hb1
    · rcases kvPut_mem h.nodup hq with rfl | ⟨hq, hk'⟩
      · exact hold p hp hk b hb1 hb2
      · exact h.apart p hp q hq hpq b hb1 hb2
  · rcases kvPut_mem h.nodup hp with rfl | ⟨hp, _⟩
    · exact hv
    · exact h.off p hp
  · rcases hb1 with rfl | ⟨p, hp, hb1⟩
    · exact Or.inl (Or.inl rfl)
    · rcases kvPut_mem h.nodup hp with rfl | ⟨hp, _⟩
      · rcases hb b hb1 with e | e
        · exact Or.inl (o2 b e)
        · exact Or.inr e
      · exact Or.inl (Or.inr ⟨p, hp, hb1⟩)
  · unfold segOf
    rw [kvGet_put]
    by_cases e : k = x
    · rw [if_pos e, if_pos e]
    · rw [if_neg e, if_neg e]
/-- A key is gone. -/
theorem SegM.del (h : SegM w m vs) {w2 : World} {k : Int} (hm : MapAt w2 m (Value.int .i64) sgEv (kvDel vs k)) (f2 : Fr (one m) w w2) :
    SegM w2 m (kvDel vs k) ∧ (∀ b, segOwn m (kvDel vs k) b → segOwn m vs b) ∧ (∀ x, segOf (kvDel vs k) x = if k = x then [] else segOf vs x) := by
  refine ⟨⟨hm, fun p hp => ?_, fun p hp => h.ne p (kvDel_mem hp).1, fun p hp q hq => h.apart p (kvDel_mem hp).1 q (kvDel_mem hq).1, fun p hp => h.off p (kvDel_mem hp).1⟩, fun b hb1 => ?_, fun x => ?_⟩
  · have hp' := (kvDel_mem hp).1
    exact (h.sl p hp').kept f2 (fun b hb1 e => h.off p hp' (by unfold one at e; subst e; exact hb1))
  · rcases hb1 with rfl | ⟨p, hp, hb1⟩
    · exact Or.inl rfl
    · exact Or.inr ⟨p, (kvDel_mem hp).1, hb1⟩
  · unfold segOf
    rw [kvGet_del]
    by_cases e : k = x
    · rw [if_pos e, if_pos e]
    · rw [if_neg e, if_neg e]
theorem zero_hs (w : World) : (zeroValue 33).run Try.prog w = .ok (.slice none 0 0) w := by kernel_rfl
theorem int_keyU : KeyT Try.prog 3 (Value.int .i64) := KeyT.int Try.underlying3
theorem sg_look (vs : List (Int × SgV)) (k : Int) : ((kvGet vs k).map sgEv).getD (.slice none 0 0) = .slice (sgGet vs k).a (sgGet vs k).l.length (sgGet vs k).cap := by
  unfold sgGet sgEv
  cases kvGet vs k <;> rfl
theorem SegM.look (h : SegM w m vs) (k : Int) : (Instr.lookup 66 (.map (some m)) (.int .i64 k) false).run Try.prog w = .ok (.slice (sgGet vs k).a (sgGet vs k).l.length (sgGet vs k).cap) w := by
  have := run_lookup_at h.map Try.underlying66 int_keyU (zero_hs w) k false
  rw [this]
  simp only [Bool.false_eq_true, if_false]
  rw [sg_look]
end
end Go.Proofs.Ytckkccnebjacdaa
