/-
  ArenaPlays: the arena, the reference's, what was told, and copies, side by side (plain).
-/
import Derived.Test.YtncajdefjammiaaRa7
import Derived.Test.YtncajdefjammiaaArPair
import Derived.Test.YtncajdefjammiaaArCopyMine
import Derived.Test.YtncajdefjammiaaArWorks
namespace Go.Proofs.Ytncajdefjammiaa
open Go.RowKit
set_option linter.unusedVariables false
set_option linter.unusedSimpArgs false
set_option maxRecDepth 100000

/-- The reference at x, apart from Z. -/
def RAX (w : World) (x : Nat) (Z : Nat → Prop) (N : Nat) (s : AS) : Prop := ∃ pa pc ga gc qs G col, RAt w x pa pc ga gc qs G col Z N s
section
variable {w w' : World} {x : Nat} {Z Y F : Nat → Prop} {N M : Nat} {s s' : AS}
theorem RAX.kept (h : RAX w x Z N s) (f : Fr F w w') (hF : ∀ k, k < w.heap.size → F k → Z k) : RAX w' x Z N s := by
  obtain ⟨a, b, c, d, e, g, col, h1⟩ := h
  exact ⟨a, b, c, d, e, g, col, h1.kept (f.mono hF) (fun _ e => e)⟩
theorem RAX.kept0 (h : RAX w x Z N s) (f : Fr none_ w w') : RAX w' x Z N s := h.kept f (fun _ _ e => e.elim)
theorem RAX.more (h : RAX w x Z N s) (hY : ∀ k, Y k → Z k ∨ w.heap.size ≤ k) : RAX w x Y N s := by
  obtain ⟨a, b, c, d, e, g, col, h⟩ := h
  have hl := h.row.lt
  refine ⟨a, b, c, d, e, g, col, ⟨h.row, h.pas, h.gs, h.cx, h.ca, h.cg, fun q => ?_, fun k hk q => ?_, fun k hk q => ?_, fun i r p h1 h2 => ?_, h.gl, h.gb, h.gn, h.nn⟩⟩
  · rcases hY _ q with q | q
    · exact h.zx q
    · omega
  · rcases hY _ q with q | q
    · exact h.za k hk q
    · have := h.pas.lt k hk; omega
  · rcases hY _ q with q | q
    · exact h.zg k hk q
    · have := h.gs.lt k hk; omega
  · obtain ⟨b1, b2, b3, b4, b5, b6, b7, b8, b9⟩ := h.pg i r p h1 h2
    refine ⟨b1, b2, b3, b4, b5, b6, b7, b8, fun k hk => ⟨(b9 k hk).1, fun q => ?_⟩⟩
    rcases hY _ q with q | q
    · exact (b9 k hk).2 q
    · have := b8.lt k hk; omega
theorem RAX.weakN (h : RAX w x Z N s) (h1 : N ≤ M) (h2 : M ≤ 1000000) : RAX w x Z M s := by
  obtain ⟨a, b, c, d, e, g, col, h⟩ := h
  exact ⟨a, b, c, d, e, g, col, h.weakN h1 h2⟩
theorem rax_is (h : RAX w x Z N s) (hw : s.WF) {hd : Nat} (hh : hd < 18446744073709551616) {b : Bool} (hb : (aFind s hd).isSome = b) : Calls Try.prog 29 #[.pointer (some ⟨x, 0, none⟩), .int .u64 (hd : Int)] w fun e w' => e = .returned (.bool b) ∧ w = w' := by
  subst hb
  obtain ⟨pa, pc, ga, gc, qs, G, col, h⟩ := h
  exact Ra_Is h hw hh
theorem rax_read (h : RAX w x Z N s) (hw : s.WF) {hd : Nat} (hh : hd < 18446744073709551616) {T : ByteArray} {E : Int} (hT : strOf (aRead s hd).1 = T) (hE : ((aRead s hd).2 : Int) = E) : Calls Try.prog 33 #[.pointer (some ⟨x, 0, none⟩), .int .u64 (hd : Int)] w fun e w' => e = .returned (.tuple #[.string T, .int .i64 E]) ∧ w = w' := by
  subst hT; subst hE
  obtain ⟨pa, pc, ga, gc, qs, G, col, h⟩ := h
  exact Ra_Read h hw hh
theorem rax_used (h : RAX w x Z N s) (hw : s.WF) {u : Int} (hu : (s.used : Int) = u) : Calls Try.prog 34 #[.pointer (some ⟨x, 0, none⟩)] w fun e w' => e = .returned (.int .i64 u) ∧ w = w' := by
  subst hu
  obtain ⟨pa, pc, ga, gc, qs, G, col, h⟩ := h
  exact Ra_Used h hw
theorem rax_copy (h : RAX w x Z N s) (hw : s.WF) : Calls Try.prog 28 #[.pointer (some ⟨x, 0, none⟩)] w fun e w' => ∃ y, e = .returned (.pointer (some ⟨y, 0, none⟩)) ∧ RAX w' y (fun k => k < w.heap.size) N s ∧ Fr none_ w w' := by
  obtain ⟨pa, pc, ga, gc, qs, G, col, h⟩ := h
  refine (Ra_Copy h hw).mono ?_
  rintro e w' ⟨y, a, b, c, d, e', g, col', he, h1, h2⟩
  exact ⟨y, he, ⟨a, b, c, d, e', g, col', h1⟩, h2⟩
theorem rax_free (h : RAX w x Z N s) (hz : ∀ k, Z k → k < w.heap.size) (hw : s.WF) {hd : Nat} (hh : hd < 18446744073709551616) {E : Int} (hE : ((aFree s hd).1 : Int) = E) : Calls Try.prog 31 #[.pointer (some ⟨x, 0, none⟩), .int .u64 (hd : Int)] w fun e w' => e = .returned (.int .i64 E) ∧ RAX w' x Z N (aFree s hd).2 ∧ Fr (fun k => ¬ Z k) w w' := by
  subst hE
  obtain ⟨pa, pc, ga, gc, qs, G, col, h⟩ := h
  exact (Ra_Free h hz hw hh).mono fun e w' q => ⟨q.1, by obtain ⟨col', h'⟩ := q.2.1; exact ⟨_, _, _, _, _, _, _, h'⟩, q.2.2⟩
theorem rax_write (h : RAX w x Z N s) (hz : ∀ k, Z k → k < w.heap.size) (hw : s.WF) {hd : Nat} (hh : hd < 18446744073709551616) (b : ByteArray) {E : Int} (hE : ((aWrite s hd b).1 : Int) = E) : Calls Try.prog 32 #[.pointer (some ⟨x, 0, none⟩), .int .u64 (hd : Int), .string b] w fun e w' => e = .returned (.int .i64 E) ∧ RAX w' x Z N (aWrite s hd b).2 ∧ Fr (fun k => ¬ Z k) w w' := by
  subst hE
  obtain ⟨pa, pc, ga, gc, qs, G, col, h⟩ := h
  exact (Ra_Write h hz hw hh b).mono fun e w' q => ⟨q.1, by obtain ⟨col', h'⟩ := q.2.1; exact ⟨_, _, _, _, _, _, _, h'⟩, q.2.2⟩
theorem rax_alloc (h : RAX w x Z N s) (hz : ∀ k, Z k → k < w.heap.size) (hw : s.WF) (hg : ∀ n o, s.genOf n o < 4294967295) (hN : N < 1000000) {H E : Int} (hH : ((aAlloc s).1 : Int) = H) (hE : ((aAlloc s).2.1 : Int) = E) : Calls Try.prog 30 #[.pointer (some ⟨x, 0, none⟩)] w fun e w' => e = .returned (.tuple #[.int .u64 H, .int .i64 E]) ∧ RAX w' x Z (N + 1) (aAlloc s).2.2 ∧ Fr (fun k => ¬ Z k) w w' := by
  subst hH; subst hE
  obtain ⟨pa, pc, ga, gc, qs, G, col, h⟩ := h
  exact (Ra_Alloc h hz hw hg hN).mono fun e w' q => ⟨q.1, q.2.1, q.2.2⟩
end
theorem aAlloc_lt {N : Nat} {s : AS} (h : Upto N s) (hN : N < 4294967295) : (aAlloc s).1 < 18446744073709551616 := by
  rcases aAlloc_new h hN with ⟨_, r⟩ | ⟨_, e, _⟩
  · exact r.lt
  · rw [e]; omega

def zA (W : World) (F : Nat → Prop) (ta : Option Addr) : Nat → Prop := fun j => j < W.heap.size ∨ F j ∨ blk ta j
/-- At the head of a round. -/
structure PL (W : World) (a x : Nat) (F : Nat → Prop) (k : Nat) (s : AS) (told : List Nat) (ta : Option Addr) (tc : Nat) (w : World) : Prop where
  ar : Ar F w a s
  ra : RAX w x (zA W F ta) k s
  ts : SlAt w ta told.length tc 32 1 (told.map vH)
  up : Upto k s
  tl : ∀ h ∈ told, h < 18446744073709551616
  dT : ∀ j, F j → ¬ blk ta j
  bF : ∀ j, F j → W.heap.size ≤ j
  bT : ∀ j, blk ta j → W.heap.size ≤ j
  fr : Fr none_ W w
/-- Within a round: the arena of state sa, the reference of state sx; copies c, y of state s0; B: how many blocks there were when the round began. -/
structure PM (W : World) (a x : Nat) (F : Nat → Prop) (N : Nat) (sa sx : AS) (told : List Nat) (ta : Option Addr) (tc : Nat) (c y : Nat) (N0 : Nat) (s0 : AS) (B : Nat) (w : World) : Prop where
  ar : Ar F w a sa
  ra : RAX w x (fun j => zA W F ta j ∨ B ≤ j) N sx
  ts : SlAt w ta told.length tc 32 1 (told.map vH)
  dT : ∀ j, F j → ¬ blk ta j
  bF : ∀ j, F j → W.heap.size ≤ j
  bT : ∀ j, blk ta j → W.heap.size ≤ j
  tB : ∀ j, blk ta j → j < B
  lB : B ≤ w.heap.size
  wB : W.heap.size ≤ B
  cp : ∃ F2, Ar F2 w c s0 ∧ ∀ j, F2 j → B ≤ j ∧ ¬ F j
  yp : RAX w y (fun j => j < B) N0 s0
  fr : Fr none_ W w
/-- Behind the turn. -/
structure PE (W : World) (a x : Nat) (F : Nat → Prop) (N : Nat) (s : AS) (told : List Nat) (ta : Option Addr) (tc : Nat) (c y : Nat) (N0 : Nat) (s0 : AS) (w : World) : Prop where
  ar : Ar F w a s
  ra : RAX w x (zA W F ta) N s
  ts : SlAt w ta told.length tc 32 1 (told.map vH)
  dT : ∀ j, F j → ¬ blk ta j
  bF : ∀ j, F j → W.heap.size ≤ j
  bT : ∀ j, blk ta j → W.heap.size ≤ j
  cp : ∃ F2, Ar F2 w c s0 ∧ ∀ j, F2 j → ¬ blk ta j
  yp : ∃ Z, RAX w y Z N0 s0 ∧ ∀ j, blk ta j → Z j
  fr : Fr none_ W w
section
variable {W w w' wa : World} {a x c y N N' N0 B k : Nat} {F F' F2 : Nat → Prop} {sa sx s s' s0 : AS} {told : List Nat} {ta ta' : Option Addr} {tc tc' : Nat}
theorem PL.copies (h : PL W a x F k s told ta tc w) (hc : Ar F2 wa c s) (f1 : Fr none_ w wa) (hF2 : ∀ j, F2 j → w.heap.size ≤ j) (hy : RAX w' y (fun j => j < wa.heap.size) k s) (f2 : Fr none_ wa w') : PM W a x F k s s told ta tc c y k s w.heap.size w' := by
  have f := f1.trans f2
  have z1 := f1.size
  refine ⟨(h.ar.kept0 f), (h.ra.more (fun j hj => hj)).kept0 f, h.ts.kept0 f, h.dT, h.bF, h.bT, h.ts.lt, f.size, h.fr.size, ⟨F2, hc.kept0 f2, fun j hj => ⟨hF2 j hj, fun e => by have := h.ar.lt j e; have := hF2 j hj; omega⟩⟩, hy.more (fun j hj => Or.inl (Nat.lt_of_lt_of_le hj z1)), h.fr.trans f⟩
theorem PM.skip (h : PM W a x F N sa sx told ta tc c y N0 s0 B w) (f : Fr none_ w w') : PM W a x F N sa sx told ta tc c y N0 s0 B w' := by
  obtain ⟨F2, c1, c2⟩ := h.cp
  exact ⟨h.ar.kept0 f, h.ra.kept0 f, h.ts.kept0 f, h.dT, h.bF, h.bT, h.tB, Nat.le_trans h.lB f.size, h.wB, ⟨F2, c1.kept0 f, c2⟩, h.yp.kept0 f, h.fr.trans f⟩
theorem PM.turnA (h : PM W a x F N sa sx told ta tc c y N0 s0 B w) (hFB : ∀ j, F j → j < B) (ha : Ar F' w' a s') (f : Fr F w w') (g : Grow F F' w) : PM W a x F' N s' sx told ta tc c y N0 s0 B w' := by
  obtain ⟨F2, c1, c2⟩ := h.cp
  have hlB := h.lB
  have hwB := h.wB
  have hg : ∀ j, F' j → F j ∨ B ≤ j := fun j e => by
    rcases g j e with e | e
    · exact Or.inl e
    · exact Or.inr (Nat.le_trans hlB e)
  refine ⟨ha, ?_, h.ts.kept f (fun j hj e => h.dT j e hj), fun j e hj => ?_, fun j e => ?_, h.bT, h.tB, Nat.le_trans hlB f.size, hwB, ⟨F2, c1.kept f (fun j e1 e2 => (c2 j e1).2 e2), fun j e1 => ⟨(c2 j e1).1, fun e2 => ?_⟩⟩, h.yp.kept f (fun j _ e => hFB j e), h.fr.step f (fun i hi e => by have := h.bF i e; omega)⟩
  · refine (h.ra.kept f (fun j _ e => Or.inl (Or.inr (Or.inl e)))).more (fun j hj => Or.inl ?_)
    rcases hj with (e | e | e) | e
    · exact Or.inl (Or.inl e)
    · rcases hg j e with e | e
      · exact Or.inl (Or.inr (Or.inl e))
      · exact Or.inr e
    · exact Or.inl (Or.inr (Or.inr e))
    · exact Or.inr e
  · rcases hg j e with e | e
    · exact h.dT j e hj
    · have := h.tB j hj; omega
  · rcases hg j e with e | e
    · exact h.bF j e
    · omega
  · rcases g j e2 with e | e
    · exact (c2 j e1).2 e
    · have := c1.lt j e1; omega
/-- What the reference's turn lets be. -/
def zM (W : World) (F : Nat → Prop) (ta : Option Addr) (B : Nat) (w : World) : Nat → Prop := fun j => (zA W F ta j ∨ B ≤ j) ∧ j < w.heap.size
theorem PM.zx (h : PM W a x F N sa sx told ta tc c y N0 s0 B w) : RAX w x (zM W F ta B w) N sx := h.ra.more (fun j hj => Or.inl hj.1)
theorem PM.turnX (h : PM W a x F N sa sx told ta tc c y N0 s0 B w) (hx : RAX w' x (zM W F ta B w) N' sa) (f : Fr (fun j => ¬ zM W F ta B w j) w w') : PE W a x F N' sa told ta tc c y N0 s0 w' := by
  obtain ⟨F2, c1, c2⟩ := h.cp
  have hnot : ∀ j, j < w.heap.size → ¬ zM W F ta B w j → ¬ zA W F ta j ∧ j < B := fun j hj e => by
    constructor
    · intro q; exact e ⟨Or.inl q, hj⟩
    · exact Nat.lt_of_not_le (fun q => e ⟨Or.inr q, hj⟩)
  have f' : Fr (fun j => ¬ zA W F ta j ∧ j < B) w w' := f.mono hnot
  refine ⟨h.ar.kept f' (fun j e q => q.1 (Or.inr (Or.inl e))), hx.more (fun j hj => ?_), h.ts.kept f' (fun j e q => q.1 (Or.inr (Or.inr e))), h.dT, h.bF, h.bT, ⟨F2, c1.kept f' (fun j e q => by have := (c2 j e).1; have := q.2; omega), fun j e q => by have := (c2 j e).1; have := h.tB j q; omega⟩, ⟨_, h.yp.kept f' (fun j _ q => q.2), h.tB⟩, h.fr.step f' (fun i hi q => q.1 (Or.inl hi))⟩
  by_cases e : j < w.heap.size
  · exact Or.inl ⟨Or.inl hj, e⟩
  · rcases hj with q | q | q
    · have := h.wB; have := h.lB; omega
    · have := h.ar.lt j q; omega
    · have := h.ts.lt j q; omega
theorem PM.stay (h : PM W a x F N s s told ta tc c y N0 s0 B w) : PE W a x F N s told ta tc c y N0 s0 w := by
  obtain ⟨F2, c1, c2⟩ := h.cp
  exact ⟨h.ar, h.ra.more (fun j hj => Or.inl (Or.inl hj)), h.ts, h.dT, h.bF, h.bT, ⟨F2, c1, fun j e q => by have := (c2 j e).1; have := h.tB j q; omega⟩, ⟨_, h.yp, h.tB⟩, h.fr⟩
theorem PE.skip (h : PE W a x F N s told ta tc c y N0 s0 w) (f : Fr none_ w w') : PE W a x F N s told ta tc c y N0 s0 w' := by
  obtain ⟨F2, c1, c2⟩ := h.cp
  obtain ⟨Z, y1, y2⟩ := h.yp
  exact ⟨h.ar.kept0 f, h.ra.kept0 f, h.ts.kept0 f, h.dT, h.bF, h.bT, ⟨F2, c1.kept0 f, c2⟩, ⟨Z, y1.kept0 f, y2⟩, h.fr.trans f⟩
theorem PE.weakN (h : PE W a x F N s told ta tc c y N0 s0 w) (h1 : N ≤ N') (h2 : N' ≤ 1000000) : PE W a x F N' s told ta tc c y N0 s0 w :=
  ⟨h.ar, h.ra.weakN h1 h2, h.ts, h.dT, h.bF, h.bT, h.cp, h.yp, h.fr⟩
/-- One handle more is told. -/
theorem PE.push (h : PE W a x F N s told ta tc c y N0 s0 w) {H : Nat} (fa : Fr none_ w wa) (hs : SlAt w' ta' (told.length + 1) tc' 32 1 (told.map vH ++ [vH H])) (f : Fr (blk ta) wa w') (hb : ∀ j, blk ta' j → blk ta j ∨ wa.heap.size ≤ j) : PE W a x F N s (told ++ [H]) ta' tc' c y N0 s0 w' := by
  obtain ⟨F2, c1, c2⟩ := h.cp
  obtain ⟨Z, y1, y2⟩ := h.yp
  have fz := fa.size
  have fw := h.fr.size
  have hn : ∀ j, blk ta' j → blk ta j ∨ w.heap.size ≤ j := fun j e => by
    rcases hb j e with q | q
    · exact Or.inl q
    · right; omega
  refine ⟨(h.ar.kept0 fa).kept f (fun j e q => h.dT j e q), ?_, by rw [List.length_append, List.map_append]; exact hs, fun j e q => ?_, h.bF, fun j e => ?_, ⟨F2, (c1.kept0 fa).kept f (fun j e q => c2 j e q), fun j e q => ?_⟩, ⟨fun j => Z j ∨ (w.heap.size ≤ j), ?_, fun j e => ?_⟩, (h.fr.trans fa).step f (fun i hi e => by have := h.bT i e; omega)⟩
  · refine ((h.ra.more (Y := fun j => zA W F ta j ∨ w.heap.size ≤ j) (fun j hj => hj)).kept0 fa).kept f (fun j _ e => Or.inl (Or.inr (Or.inr e))) |>.more (fun j hj => Or.inl ?_)
    rcases hj with e | e | e
    · exact Or.inl (Or.inl e)
    · exact Or.inl (Or.inr (Or.inl e))
    · rcases hn j e with q | q
      · exact Or.inl (Or.inr (Or.inr q))
      · exact Or.inr q
  · rcases hn j q with q | q
    · exact h.dT j e q
    · have := h.ar.lt j e; omega
  · rcases hn j e with q | q
    · exact h.bT j q
    · omega
  · rcases hn j q with q | q
    · exact c2 j e q
    · have := c1.lt j e; omega
  · exact ((y1.more (Y := fun j => Z j ∨ w.heap.size ≤ j) (fun j hj => hj)).kept0 fa).kept f (fun j _ e => Or.inl (y2 j e))
  · rcases hn j e with q | q
    · exact Or.inl (y2 j q)
    · exact Or.inr q
theorem PE.next (h : PE W a x F (k + 1) s told ta tc c y N0 s0 w) (hu : Upto (k + 1) s) (ht : ∀ h ∈ told, h < 18446744073709551616) : PL W a x F (k + 1) s told ta tc w :=
  ⟨h.ar, h.ra, h.ts, hu, ht, h.dT, h.bF, h.bT, h.fr⟩
end
end Go.Proofs.Ytncajdefjammiaa
