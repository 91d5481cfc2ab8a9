/-
  An arena by the blocks that it owns ('Ar'), and how great its numbers get ('Upto'): for seats above layer 4 (there XArBound and XArMine hold the same).
  What an arena's Alloc, Free and Write do to its state, in one word each ('NewR', 'OldR'): for seats above layer 4 (there XArTold holds the same). Of states alone.
-/
import Derived.Test.YtckkccnebjacdaaGreatMgArenaAbs
import Derived.Test.YtckkccnebjacdaaGreatMgArenaAlloc
namespace Go.Proofs.YtckkccnebjacdaaGreat
open Go.RowKit
set_option linter.unusedVariables false
set_option linter.unusedSimpArgs false
set_option maxRecDepth 100000

/-- A state that at most N steps have come to. -/
structure Upto (N : Nat) (s : AS) : Prop where
  wf : s.WF
  used : s.used ≤ N
  gen : ∀ n o, s.genOf n o ≤ N

theorem Upto.new {slot : Nat} (h2 : 2 ≤ slot) (h3 : slot ≤ 4096) : Upto 0 (AS.new slot) :=
  ⟨⟨h2, h3, by simp [AS.new], by intro p hp; simp [AS.new] at hp, by simp [AS.new], by simp [AS.new], by intro i p hi hp; simp [AS.new] at hp, fun n o _ _ => by omega⟩, by simp [AS.new], fun n o => by unfold AS.genOf; simp [AS.new, kvGet_nil]⟩
theorem Upto.more {N M : Nat} {s : AS} (h : Upto N s) (hm : N ≤ M) : Upto M s := ⟨h.wf, by have := h.used; omega, fun n o => by have := h.gen n o; omega⟩
theorem Upto.alloc {N : Nat} {s : AS} (h : Upto N s) : Upto (N + 1) (aAlloc s).2.2 := by
  have hw := (aAlloc_wf h.wf).1
  rcases aAlloc_cases h.wf with ⟨_, _, e⟩ | ⟨f, k, q, q', h1, h2, h3, h4, h5, h6, _, h8, e⟩
  · rw [e] at hw ⊢
    exact ⟨hw, by have := h.used; simp only; omega, fun n o => by have := h.gen n o; show s.genOf n o ≤ N + 1; omega⟩
  · rw [e] at hw ⊢
    refine ⟨hw, by have := h.used; show s.used + 1 ≤ N + 1; omega, fun n o => ?_⟩
    have h9 := h.gen n o
    have h10 := h.gen f (k * s.slot)
    have : (s.giveAt f k q').genOf n o = if pl f (k * s.slot) = pl n o then s.genOf f (k * s.slot) + 1 else s.genOf n o := by
      show (kvGet (kvPut s.gen (pl f (k * s.slot)) (s.genOf f (k * s.slot) + 1)) (pl n o)).getD 0 = _
      rw [kvGet_put]
      split
      · rfl
      · rfl
    rw [this]
    split <;> omega
theorem Upto.free {N : Nat} {s : AS} (h : Upto N s) (x : Nat) : Upto N (aFree s x).2 := by
  obtain ⟨w1, w2, w3, _⟩ := aFree_all h.wf x
  refine ⟨w1, ?_, fun n o => ?_⟩
  · unfold aFree; split
    · have := h.used; simp only; omega
    · exact h.used
  · have := h.gen n o; unfold AS.genOf at this ⊢; rw [w3]; exact this
theorem Upto.write {N : Nat} {s : AS} (h : Upto N s) (x : Nat) (b : ByteArray) : Upto N (aWrite s x b).2 := by
  obtain ⟨w1, w2, w3, _⟩ := aWrite_all h.wf x b
  refine ⟨w1, ?_, fun n o => ?_⟩
  · unfold aWrite; split
    · split
      · exact h.used
      · exact h.used
    · exact h.used
  · have := h.gen n o; unfold AS.genOf at this ⊢; rw [w3]; exact this
/-- At x there is an arena of state s, that owns the blocks F. -/
def Ar (F : Nat → Prop) (w : World) (x : Nat) (s : AS) : Prop := ∃ m pa cap ps, ArenaAt w x m pa cap ps s ∧ F = aOwn x m pa ps
def Grow (F F' : Nat → Prop) (w : World) : Prop := ∀ k, F' k → F k ∨ w.heap.size ≤ k
theorem Grow.refl (F : Nat → Prop) (w : World) : Grow F F w := fun _ h => Or.inl h

section
variable {w w' : World} {F : Nat → Prop} {x : Nat} {s : AS}
theorem Ar.lt (h : Ar F w x s) : ∀ k, F k → k < w.heap.size := by
  obtain ⟨m, pa, cap, ps, h, rfl⟩ := h
  exact h.lt
theorem Ar.own (h : Ar F w x s) : F x := by
  obtain ⟨m, pa, cap, ps, h, rfl⟩ := h
  exact own_x
theorem Ar.kept {G : Nat → Prop} (h : Ar F w x s) (f : Fr G w w') (hn : ∀ k, F k → ¬ G k) : Ar F w' x s := by
  obtain ⟨m, pa, cap, ps, h, rfl⟩ := h
  exact ⟨m, pa, cap, ps, h.kept f hn, rfl⟩
theorem Ar.kept0 (h : Ar F w x s) (f : Fr none_ w w') : Ar F w' x s := h.kept f (fun _ _ e => e)

def big : Nat := 4294967295
theorem ar_alloc {N : Nat} (h : Ar F w x s) (hu : Upto N s) (hN : N < big) :
    Calls Tryz.prog 98 #[.pointer (some ⟨x, 0, none⟩)] w fun e w' => e = .returned (.tuple #[.int .u64 ((aAlloc s).1 : Int), .int .i64 ((aAlloc s).2.1 : Int)]) ∧ ∃ F', Ar F' w' x (aAlloc s).2.2 ∧ Fr F w w' ∧ Grow F F' w := by
  unfold big at hN
  obtain ⟨m, pa, cap, ps, h, rfl⟩ := h
  refine (Arena_Alloc h hu.wf (by have := hu.used; omega) (fun n o => by have := hu.gen n o; omega)).mono ?_
  rintro e w1 ⟨he, pa', cap', ps', h1, h2, h3⟩
  exact ⟨he, _, ⟨m, pa', cap', ps', h1, rfl⟩, h2, h3⟩
theorem ar_free {N : Nat} (h : Ar F w x s) (hu : Upto N s) (hN : N < big) {hd : Nat} (hh : hd < 18446744073709551616) :
    Calls Tryz.prog 60 #[.pointer (some ⟨x, 0, none⟩), .int .u64 (hd : Int)] w fun e w' => e = .returned (.int .i64 ((aFree s hd).1 : Int)) ∧ Ar F w' x (aFree s hd).2 ∧ Fr F w w' := by
  unfold big at hN
  obtain ⟨m, pa, cap, ps, h, rfl⟩ := h
  refine (Arena_Free h hu.wf hh (by have := hu.used; omega)).mono ?_
  rintro e w1 ⟨he, h1, h2⟩
  exact ⟨he, ⟨m, pa, cap, ps, h1, rfl⟩, h2⟩
theorem ar_write {N : Nat} (h : Ar F w x s) (hu : Upto N s) {hd : Nat} (hh : hd < 18446744073709551616) (b : ByteArray) :
    Calls Tryz.prog 54 #[.pointer (some ⟨x, 0, none⟩), .int .u64 (hd : Int), .string b] w fun e w' => e = .returned (.int .i64 ((aWrite s hd b).1 : Int)) ∧ Ar F w' x (aWrite s hd b).2 ∧ Fr F w w' := by
  obtain ⟨m, pa, cap, ps, h, rfl⟩ := h
  refine (Arena_Write h hu.wf hh b).mono ?_
  rintro e w1 ⟨he, h1, h2⟩
  exact ⟨he, ⟨m, pa, cap, ps, h1, rfl⟩, h2⟩
theorem ar_read {N : Nat} (h : Ar F w x s) (hu : Upto N s) {hd : Nat} (hh : hd < 18446744073709551616) :
    Calls Tryz.prog 81 #[.pointer (some ⟨x, 0, none⟩), .int .u64 (hd : Int)] w fun e w' => e = .returned (.tuple #[.string (strOf (aRead s hd).1), .int .i64 ((aRead s hd).2 : Int)]) ∧ Fr none_ w w' := by
  obtain ⟨m, pa, cap, ps, h, rfl⟩ := h
  exact Arena_Read h hh hu.wf.len
theorem ar_used (h : Ar F w x s) : Calls Tryz.prog 49 #[.pointer (some ⟨x, 0, none⟩)] w fun e w' => e = .returned (.int .i64 (s.used : Int)) ∧ w = w' := by
  obtain ⟨m, pa, cap, ps, h, rfl⟩ := h
  exact Arena_Used h
theorem ar_new (w : World) (slot : Nat) (h2 : 2 ≤ slot) (h3 : slot ≤ 4096) :
    Calls Tryz.prog 47 #[.int .i64 (slot : Int)] w fun e w' => ∃ F x, e = .returned (.tuple #[.pointer (some ⟨x, 0, none⟩), .int .i64 0]) ∧ Ar F w' x (AS.new slot) ∧ Fr none_ w w' ∧ ∀ k, F k → w.heap.size ≤ k := by
  refine (Arena_New_yes w slot h2 h3).mono ?_
  rintro e w1 ⟨x, m, he, h1, h2, h3, h4⟩
  refine ⟨_, x, he, ⟨m, none, 0, [], h1, rfl⟩, h2, ?_⟩
  rintro k (rfl | rfl | hk | ⟨i, p, hp, _⟩)
  · exact h3
  · exact h4
  · exact absurd hk (blk_none k)
  · simp at hp
/-! the same, at literal numbers -/
theorem ar_alloc_lit {N : Nat} (h : Ar F w x s) (hu : Upto N s) (hN : N < big) (r : Int) {q : Int} (hr : ((aAlloc s).1 : Int) = r) (hq : ((aAlloc s).2.1 : Int) = q) :
    Calls Tryz.prog 98 #[.pointer (some ⟨x, 0, none⟩)] w fun e w' => e = .returned (.tuple #[.int .u64 r, .int .i64 q]) ∧ ∃ F', Ar F' w' x (aAlloc s).2.2 ∧ Fr F w w' ∧ Grow F F' w := by
  subst hr; subst hq; exact ar_alloc h hu hN
theorem ar_free_lit {N : Nat} (h : Ar F w x s) (hu : Upto N s) (hN : N < big) {hd : Nat} (hh : hd < 18446744073709551616) {d q : Int} (hd' : (hd : Int) = d) (hq : ((aFree s hd).1 : Int) = q) :
    Calls Tryz.prog 60 #[.pointer (some ⟨x, 0, none⟩), .int .u64 d] w fun e w' => e = .returned (.int .i64 q) ∧ Ar F w' x (aFree s hd).2 ∧ Fr F w w' := by
  subst hd'; subst hq; exact ar_free h hu hN hh
theorem ar_write_lit {N : Nat} (h : Ar F w x s) (hu : Upto N s) {hd : Nat} (hh : hd < 18446744073709551616) (b : ByteArray) {d q : Int} (hd' : (hd : Int) = d) (hq : ((aWrite s hd b).1 : Int) = q) :
    Calls Tryz.prog 54 #[.pointer (some ⟨x, 0, none⟩), .int .u64 d, .string b] w fun e w' => e = .returned (.int .i64 q) ∧ Ar F w' x (aWrite s hd b).2 ∧ Fr F w w' := by
  subst hd'; subst hq; exact ar_write h hu hh b
theorem ar_read_lit {N : Nat} (h : Ar F w x s) (hu : Upto N s) {hd : Nat} (hh : hd < 18446744073709551616) {d q : Int} (hd' : (hd : Int) = d) (hq : ((aRead s hd).2 : Int) = q) (b : ByteArray) (hb : strOf (aRead s hd).1 = b) :
    Calls Tryz.prog 81 #[.pointer (some ⟨x, 0, none⟩), .int .u64 d] w fun e w' => e = .returned (.tuple #[.string b, .int .i64 q]) ∧ Fr none_ w w' := by
  subst hd'; subst hq; subst hb; exact ar_read h hu hh
theorem Handle_lit (w : World) (n o g : Nat) (h1 : n < 65536) (h2 : o < 65536) (h3 : g < 4294967296) {a b c d : Int} (ha : (n : Int) = a) (hb : (o : Int) = b) (hc : (g : Int) = c) (hd : (mkH n o g : Int) = d) :
    Calls Tryz.prog 126 #[.int .u16 a, .int .u16 b, .int .u32 c] w fun e w' => e = .returned (.int .u64 d) ∧ w = w' := by
  subst ha; subst hb; subst hc; subst hd; exact Handle_any w n o g h1 h2 h3
end
end Go.Proofs.YtckkccnebjacdaaGreat
namespace Go.Proofs.YtckkccnebjacdaaGreat
open Go.RowKit
set_option linter.unusedVariables false
set_option linter.unusedSimpArgs false
set_option maxRecDepth 100000

def usedAt (s : AS) (n : Nat) : Nat := ((s.pages[n]?).map PS.used).getD 0

/-- A handle more. -/
structure NewR (s : AS) (H : Nat) (t : AS) : Prop where
  lt : H < 18446744073709551616
  find : ∀ y, y < 18446744073709551616 → aFind t y = if y = H then some (zeros s.slot) else aFind s y
  was : hG H = s.genOf (hN H) (hO H) + 1
  gen : ∀ n o, n < 65536 → o < 65536 → t.genOf n o = if n = hN H ∧ o = hO H then hG H else s.genOf n o
  used : t.used = s.used + 1
  at_ : ∀ n, usedAt t n = usedAt s n + if n = hN H then 1 else 0
  fulls : ∀ n, n < hN H → usedAt t n = 4096 / s.slot
  len : hN H < t.pages.length ∧ (t.pages.length = s.pages.length ∨ t.pages.length = s.pages.length + 1 ∧ s.used = s.pages.length * (4096 / s.slot))
  off : hO H % s.slot = 0 ∧ hO H + s.slot ≤ 4096

/-- No handle more; h: what was given back, or written over. -/
structure OldR (s : AS) (h : Nat) (v : Option (Option (List UInt8))) (t : AS) : Prop where
  find : ∀ y, aFind t y = if y = h ∧ (aFind s h).isSome = true ∧ v.isSome = true then v.getD none else aFind s y
  gen : ∀ n o, t.genOf n o = s.genOf n o
  used : t.used + (if v = some none ∧ (aFind s h).isSome = true then 1 else 0) = s.used
  at_ : ∀ n, usedAt t n + (if n = hN h ∧ v = some none ∧ (aFind s h).isSome = true then 1 else 0) = usedAt s n
  len : t.pages.length = s.pages.length

theorem OldR.same {s t : AS} (hp : t.pages = s.pages) (hg : t.gen = s.gen) (hu : t.used = s.used) (h : Nat) : OldR s h none t :=
  ⟨fun y => by unfold aFind AS.genOf; rw [hp, hg]; simp, fun n o => by unfold AS.genOf; rw [hg], by simp [hu], fun n => by unfold usedAt; rw [hp]; simp, by rw [hp]⟩

theorem used_sum_full {l : List PS} {e : Nat} (h : ∀ p ∈ l, p.used = e) : (l.map PS.used).sum = l.length * e := by
  induction l with
  | nil => simp
  | cons p r ih =>
    rw [List.map_cons, List.sum_cons, ih (fun q hq => h q (List.mem_cons_of_mem _ hq)), h p (by simp), List.length_cons, Nat.add_mul]; omega

theorem aAlloc_new {N : Nat} {s : AS} (h : Upto N s) (hN' : N < 4294967295) : (aAlloc s).2.1 = 0 ∧ NewR s (aAlloc s).1 (aAlloc s).2.2 ∨ (aAlloc s).2.1 = 41 ∧ (aAlloc s).1 = 0 ∧ s.pages.length = 4096 ∧ adv s.slot s.pages s.first = 4096 ∧ (aAlloc s).2.2 = { s with first := adv s.slot s.pages s.first } := by
  have hw := h.wf
  rcases aAlloc_cases hw with ⟨h1, h2, e⟩ | ⟨f, k, q, q', h1, h2, h3, h4, h5, h6, h7, h8, e⟩
  · right; rw [e]; exact ⟨rfl, rfl, h1, h2, rfl⟩
  · left
    rw [e]
    refine ⟨rfl, ?_⟩
    obtain ⟨w1, w2, w3, w4, w5⟩ := h4.alloc h6
    rw [h5] at w2 w3 w4
    have hlo := hw.lo
    have ho : k * s.slot < 65536 := by omega
    have hgb : s.genOf f (k * s.slot) + 1 < 4294967296 := by have := h.gen f (k * s.slot); omega
    have e1 : hN (mkH f (k * s.slot) (s.genOf f (k * s.slot) + 1)) = f := hN_mk ho hgb
    have e2 : hO (mkH f (k * s.slot) (s.genOf f (k * s.slot) + 1)) = k * s.slot := hO_mk ho hgb
    have e3 : hG (mkH f (k * s.slot) (s.genOf f (k * s.slot) + 1)) = s.genOf f (k * s.slot) + 1 := hG_mk ho hgb
    have hfl := (List.getElem?_eq_some_iff.1 h3).1
    have hle := adv_le (slot := s.slot) (pages := s.pages) hw.first
    rw [← h2] at hle
    have hpg : ∀ n, (s.giveAt f k q').pages[n]? = if n = f then some q' else s.pages[n]? := by
      intro n
      show (s.grown.set f q')[n]? = _
      by_cases en : n = f
      · subst en; rw [if_pos rfl, List.getElem?_set_self hfl]
      · rw [if_neg en, List.getElem?_set_ne (Ne.symm en), h8 n en]
    have hqu : usedAt s f = q.used := by
      unfold usedAt
      by_cases el : f = s.pages.length
      · have hg : s.grown = s.pages ++ [PS.new s.slot] := by unfold AS.grown; rw [← h2, if_pos el]
        rw [hg, el, List.getElem?_append_right (Nat.le_refl _)] at h3
        simp at h3
        rw [el, List.getElem?_eq_none (Nat.le_refl _), ← h3]; rfl
      · have hg : s.grown = s.pages := by unfold AS.grown; rw [← h2, if_neg el]
        rw [hg] at h3
        rw [h3]; rfl
    have hfulls : ∀ n, n < f → ∀ p, s.pages[n]? = some p → p.used = 4096 / s.slot := by
      intro n hn p hp
      have : full s.slot p = true := by
        by_cases h9 : n < s.first
        · exact hw.fulls n p h9 hp
        · exact adv_full (slot := s.slot) (f := s.first) (by omega) (by omega) hp
      exact of_decide_eq_true this
    refine ⟨?_, fun y hy => aAlloc_find hw h1 h3 h4 h5 h6 h7 h8 hgb y hy, ?_, ?_, rfl, ?_, ?_, ?_, ?_⟩
    · unfold mkH; omega
    · rw [e1, e2, e3]
    · intro n o hn hoo
      rw [e1, e2, e3]
      exact genOf_put s _ (by omega) ho hn hoo _ rfl
    · intro n
      rw [e1]
      unfold usedAt
      rw [hpg]
      by_cases en : n = f
      · subst en
        rw [if_pos rfl, if_pos rfl]
        unfold usedAt at hqu
        rw [hqu]; exact w5
      · rw [if_neg en, if_neg en]; rfl
    · intro n hn
      rw [e1] at hn
      unfold usedAt
      rw [hpg, if_neg (by omega)]
      have hl : n < s.pages.length := by omega
      rw [List.getElem?_eq_getElem hl]
      exact hfulls n hn _ (List.getElem?_eq_getElem hl)
    · have hgl : (s.giveAt f k q').pages.length = s.grown.length := by show (s.grown.set f q').length = _; rw [List.length_set]
      rw [e1, hgl]
      refine ⟨hfl, ?_⟩
      by_cases el : f = s.pages.length
      · right
        have hg : s.grown = s.pages ++ [PS.new s.slot] := by unfold AS.grown; rw [← h2, if_pos el]
        refine ⟨by rw [hg]; simp, ?_⟩
        rw [hw.used]
        refine used_sum_full fun p hp => ?_
        obtain ⟨i, hi, rfl⟩ := List.getElem_of_mem hp
        exact hfulls i (by omega) _ (List.getElem?_eq_getElem hi)
      · left
        have hg : s.grown = s.pages := by unfold AS.grown; rw [← h2, if_neg el]
        rw [hg]
    · rw [e2]
      exact ⟨Nat.mul_mod_left _ _, w4⟩

theorem set_used {l : List PS} {i : Nat} {a b : PS} (h : l[i]? = some a) (n : Nat) : (((l.set i b)[n]?).map PS.used).getD 0 = if n = i then b.used else ((l[n]?).map PS.used).getD 0 := by
  by_cases e : n = i
  · subst e
    rw [if_pos rfl, List.getElem?_set_self (List.getElem?_eq_some_iff.1 h).1]; rfl
  · rw [if_neg e, List.getElem?_set_ne (Ne.symm e)]

theorem aFree_old {s : AS} (hw : s.WF) (h : Nat) : OldR s h (some none) (aFree s h).2 := by
  obtain ⟨w1, w2, w3, w4⟩ := aFree_all hw h
  by_cases hf : (aFind s h).isSome = true
  · obtain ⟨bs, hb⟩ := Option.isSome_iff_exists.1 hf
    obtain ⟨g1, q, g2, g3⟩ := find_parts hb
    obtain ⟨q1, q2⟩ := PS.at_some g3
    have hqw := hw.pages q (List.mem_of_getElem? g2)
    rw [hqw.2] at q1 q2
    obtain ⟨f1, f2, f3⟩ := hqw.1.free q2
    have hm := mod_set g2 (fun p => p.free (hO h / s.slot))
    have hs := sum_set g2 (q.free (hO h / s.slot))
    have hu := hw.used
    have hfe : (aFree s h).2 = { s with pages := s.pages.set (hN h) (q.free (hO h / s.slot)), used := s.used - 1, first := min s.first (hN h) } := by
      unfold aFree; rw [if_pos hf, hm]
    have hmem : 1 ≤ (s.pages.map PS.used).sum := by omega
    refine ⟨fun y => ?_, fun n o => by unfold AS.genOf; rw [w3], ?_, ?_, ?_⟩
    · rw [w4 hf y]
      by_cases e : y = h
      · rw [if_pos e, if_pos ⟨e, hf, rfl⟩]; rfl
      · rw [if_neg e, if_neg (fun q => e q.1)]
    · rw [hfe, if_pos ⟨rfl, hf⟩]
      show s.used - 1 + 1 = s.used
      omega
    · intro n
      rw [hfe]
      unfold usedAt
      show (((s.pages.set (hN h) (q.free (hO h / s.slot)))[n]?).map PS.used).getD 0 + _ = _
      rw [set_used g2]
      by_cases e : n = hN h
      · rw [if_pos e, if_pos ⟨e, rfl, hf⟩, e, g2]; exact f3
      · rw [if_neg e, if_neg (fun q => e q.1)]; rfl
    · rw [hfe]; exact List.length_set
  · have hfe : (aFree s h).2 = s := by unfold aFree; rw [if_neg hf]
    rw [hfe]
    exact ⟨fun y => by rw [if_neg (fun q => hf q.2.1)], fun _ _ => rfl, by rw [if_neg (fun q => hf q.2)]; rfl, fun n => by rw [if_neg (fun q => hf q.2.2)]; rfl, rfl⟩

theorem aWrite_old {s : AS} (hw : s.WF) (h : Nat) (b : ByteArray) : OldR s h (if b.size ≤ s.slot then some (some (newBytes s.slot b)) else none) (aWrite s h b).2 := by
  obtain ⟨w1, w2, w3, w4⟩ := aWrite_all hw h b
  have hpg : (aWrite s h b).2.used = s.used ∧ ∀ n, usedAt (aWrite s h b).2 n = usedAt s n ∧ (aWrite s h b).2.pages.length = s.pages.length := by
    unfold aWrite
    by_cases hf : (aFind s h).isSome = true
    · rw [if_pos hf]
      by_cases hb : b.size ≤ s.slot
      · rw [if_pos hb]
        refine ⟨rfl, fun n => ?_⟩
        obtain ⟨bs, hbs⟩ := Option.isSome_iff_exists.1 hf
        obtain ⟨g1, q, g2, g3⟩ := find_parts hbs
        obtain ⟨q1, q2⟩ := PS.at_some g3
        have hqw := hw.pages q (List.mem_of_getElem? g2)
        rw [hqw.2] at q1 q2
        obtain ⟨f1, f2, f3⟩ := hqw.1.write q2 b (by rw [hqw.2]; exact hb)
        have hm := mod_set g2 (fun p => p.write (hO h / s.slot) b)
        unfold usedAt
        simp only
        rw [hm, set_used g2]
        refine ⟨?_, List.length_set⟩
        by_cases e : n = hN h
        · rw [if_pos e, e, g2]; exact f3
        · rw [if_neg e]
      · rw [if_neg hb]; exact ⟨rfl, fun n => ⟨rfl, rfl⟩⟩
    · rw [if_neg hf]; exact ⟨rfl, fun n => ⟨rfl, rfl⟩⟩
  have hv : ¬ (if b.size ≤ s.slot then some (some (newBytes s.slot b)) else none) = some (none : Option (List UInt8)) := by split <;> simp
  refine ⟨fun y => ?_, fun n o => by unfold AS.genOf; rw [w3], by rw [if_neg (fun q => hv q.1)]; exact hpg.1, fun n => by rw [if_neg (fun q => hv q.2.1)]; exact (hpg.2 n).1, (hpg.2 0).2⟩
  rw [w4 y]
  by_cases hb : b.size ≤ s.slot
  · rw [if_pos hb]
    by_cases e : y = h ∧ (aFind s h).isSome = true
    · rw [if_pos ⟨e.1, e.2, hb⟩, if_pos ⟨e.1, e.2, rfl⟩]; rfl
    · rw [if_neg (fun q => e ⟨q.1, q.2.1⟩), if_neg (fun q => e ⟨q.1, q.2.1⟩)]
  · rw [if_neg hb, if_neg (fun q => hb q.2.2), if_neg (by simp)]
theorem NewR.none {s t : AS} {H : Nat} (r : NewR s H t) : aFind s H = .none := by
  unfold aFind
  rw [if_neg (by have := r.was; omega)]
theorem NewR.pos {s t : AS} {H : Nat} (r : NewR s H t) : H ≠ 0 := by
  rintro rfl
  have := r.was
  simp [hG] at this
end Go.Proofs.YtckkccnebjacdaaGreat
