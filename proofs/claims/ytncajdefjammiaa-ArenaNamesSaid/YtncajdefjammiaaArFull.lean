/-
  An arena of pages of one slot, filled; the example of slots of two bytes. Of states alone. And an arena's calls where all that it owns is new ('M1').
-/
import Derived.Test.YtncajdefjammiaaArAgain
namespace Go.Proofs.Ytncajdefjammiaa
open Go.RowKit
set_option linter.unusedVariables false
set_option linter.unusedSimpArgs false
set_option maxRecDepth 100000

structure FInv (i : Nat) (s : AS) : Prop where
  up : Upto i s
  slot : s.slot = 4096
  len : s.pages.length = i
  used : s.used = i
  at_ : ∀ n, n < i → usedAt s n = 1
  gen : ∀ n o, i ≤ n → n < 65536 → o < 65536 → s.genOf n o = 0
  nm : ∀ n, n < i → named s (mkH n 0 1) = true
theorem FInv.new : FInv 0 (AS.new 4096) :=
  ⟨Upto.new (by omega) (by omega), rfl, rfl, rfl, fun n h => by omega, fun n o _ _ _ => by unfold AS.genOf; simp [AS.new, kvGet_nil], fun n h => by omega⟩
theorem FInv.advs {i : Nat} {s : AS} (h : FInv i s) : adv s.slot s.pages s.first = i := by
  have hf := h.up.wf.first
  rw [h.len] at hf
  refine adv_is (i - s.first) _ _ (by omega) ?_ ?_ ?_
  · intro n p h1 h2 hp
    have := h.at_ n h2
    unfold usedAt at this
    rw [hp] at this
    have : p.used = 1 := this
    unfold full
    rw [h.slot, this]; rfl
  · intro n h1 h2; rw [h.len]; exact h2
  · intro p hp
    rw [List.getElem?_eq_none (by rw [h.len]; exact Nat.le_refl _)] at hp
    cases hp
theorem mkH_lt {n : Nat} (h : n < 65536) : mkH n 0 1 < 18446744073709551616 := by unfold mkH; omega
theorem FInv.next {i : Nat} {s : AS} (h : FInv i s) (hi : i < 4096) : (aAlloc s).1 = mkH i 0 1 ∧ (aAlloc s).2.1 = 0 ∧ FInv (i + 1) (aAlloc s).2.2 := by
  have hu := h.up.alloc
  have hslot := (aAlloc_wf h.up.wf).2
  have hadv := h.advs
  have hH : (aAlloc s).1 = mkH i 0 1 ∧ (aAlloc s).2.1 = 0 := by
    rcases aAlloc_cases h.up.wf with ⟨h1, _, _⟩ | ⟨f, k, q, q', h1, h2, h3, h4, h5, h6, h7, h8, e⟩
    · have := h.len; omega
    · obtain ⟨w1, w2, w3, w4, w5⟩ := h4.alloc h6
      rw [h5, h.slot] at w4
      have hk : k = 0 := by omega
      rw [e, h2, hadv, hk, Nat.zero_mul, h.gen i 0 (Nat.le_refl _) (by omega) (by omega)]
      exact ⟨rfl, rfl⟩
  rcases aAlloc_new h.up (by omega) with ⟨_, r⟩ | ⟨e, _⟩
  · rw [hH.1] at r
    have e1 : hN (mkH i 0 1) = i := hN_mk (by omega) (by omega)
    have e2 : hO (mkH i 0 1) = 0 := hO_mk (by omega) (by omega)
    refine ⟨hH.1, hH.2, hu, hslot.trans h.slot, ?_, by rw [r.used, h.used], ?_, ?_, ?_⟩
    · rcases r.len with ⟨l1, l2 | l2⟩
      · rw [e1, l2, h.len] at l1; omega
      · rw [l2.1, h.len]
    · intro n hn
      rw [r.at_, e1]
      by_cases en : n = i
      · have h0 : usedAt s n = 0 := by
          unfold usedAt
          rw [List.getElem?_eq_none (by rw [h.len]; omega)]; rfl
        rw [h0, if_pos en]
      · rw [if_neg en, h.at_ n (by omega)]
    · intro n o h1 h2 h3
      rw [r.gen n o h2 h3, e1, if_neg (by omega)]
      exact h.gen n o (by omega) h2 h3
    · intro n hn
      unfold named
      rw [r.find _ (mkH_lt (by omega))]
      by_cases en : n = i
      · subst en; rw [if_pos rfl]; rfl
      · rw [if_neg (fun e => by have := congrArg hN e; rw [hN_mk (by omega) (by omega), e1] at this; exact en this)]
        exact h.nm n (by omega)
  · rw [hH.2] at e; cases e
/-- All pages used: none more; what is given back comes again. -/
theorem FInv.end_ {s : AS} (h : FInv 4096 s) : aAlloc s = (0, 41, { s with first := 4096 }) ∧
    (aFree { s with first := 4096 } (mkH 7 0 1)).1 = 0 ∧ (aAlloc (aFree { s with first := 4096 } (mkH 7 0 1)).2).1 = mkH 7 0 2 ∧ (aAlloc (aFree { s with first := 4096 } (mkH 7 0 1)).2).2.1 = 0 ∧
    Upto 4097 { s with first := 4096 } ∧ (aAlloc (aFree { s with first := 4096 } (mkH 7 0 1)).2).2.2.pages.length = 4096 := by
  have hadv := h.advs
  have ha : aAlloc s = (0, 41, { s with first := 4096 }) := by
    unfold aAlloc
    simp only [hadv]
    rw [if_pos ⟨h.len.symm, h.len⟩]
  have hup : Upto 4097 { s with first := 4096 } := by
    have := h.up.alloc
    rw [ha] at this; exact this
  have hnm : named { s with first := 4096 } (mkH 7 0 1) = true := h.nm 7 (by omega)
  obtain ⟨l1, l2, l3⟩ := again_law hup (by omega) hnm
  have ha2 : (aAlloc { s with first := 4096 }).2.1 = 41 := by
    have hadv2 : adv s.slot s.pages 4096 = 4096 := by
      refine adv_here ?_
      intro p hp
      rw [List.getElem?_eq_none (by rw [h.len]; exact Nat.le_refl _)] at hp
      cases hp
    unfold aAlloc
    simp only [hadv2]
    rw [if_pos ⟨h.len.symm, h.len⟩]
  rw [if_neg (fun e => by rw [ha2] at e; cases e.1)] at l3
  refine ⟨ha, l1, l3, l2, hup, ?_⟩
  have hfr := aFree_old hup.wf (mkH 7 0 1)
  have hlen := hfr.len
  rcases aAlloc_new (hup.free (mkH 7 0 1)) (by omega) with ⟨_, r⟩ | ⟨e, _⟩
  · rcases r.len with ⟨q1, q2 | q2⟩
    · rw [q2, hlen]; exact h.len
    · have h5 := (hup.free (mkH 7 0 1)).alloc.wf.len
      have h6 := q2.1
      rw [hlen] at h6
      have : ({ s with first := 4096 } : AS).pages.length = 4096 := h.len
      omega
  · rw [l2] at e; cases e

/-! the example of slots of two bytes -/
def abcS : ByteArray := strOf [97, 98, 99]
def tw0 : AS := AS.new 2
def tw1 : AS := (aAlloc tw0).2.2
def tw2 : AS := (aWrite tw1 1 exAb).2
def tw3 : AS := (aFree tw2 1).2
theorem tw_1 : (aAlloc tw0).1 = 1 ∧ (aAlloc tw0).2.1 = 0 := by decide +kernel
theorem tw_f0 : aFree tw0 0 = (5, tw0) := free_none (by decide +kernel)
where free_none {s : AS} {h : Nat} (hn : (aFind s h).isSome = false) : aFree s h = (5, s) := by unfold aFree; rw [hn]; rfl
theorem tw_r : aFind tw1 1 = some (newBytes tw1.slot ByteArray.empty) := by decide +kernel
theorem tw_big : aWrite tw1 1 abcS = (40, tw1) := by
  unfold aWrite
  rw [if_pos (by decide +kernel), if_neg (by decide +kernel)]
theorem tw_w : (aWrite tw1 1 exAb).1 = 0 := by decide +kernel
theorem tw_f2 : aFree tw2 2 = (5, tw2) := by
  have h : (aFind tw2 2).isSome = false := by decide +kernel
  unfold aFree; rw [h]; rfl
theorem tw_f : (aFree tw2 1).1 = 0 := by decide +kernel
theorem tw_f3 : aFree tw3 1 = (5, tw3) := by
  have h : (aFind tw3 1).isSome = false := by decide +kernel
  unfold aFree; rw [h]; rfl
theorem tw_w3 : aWrite tw3 1 ByteArray.empty = (5, tw3) := by
  have h : (aFind tw3 1).isSome = false := by decide +kernel
  unfold aWrite; rw [h]; rfl
theorem tw_is : named tw0 0 = false ∧ named tw3 0 = false := by decide +kernel
theorem tw_n : tw3.pages.length = 1 ∧ tw3.used = 0 ∧ tw0.pages.length = 0 := by decide +kernel
theorem tw_u0 : Upto 0 tw0 := Upto.new (by omega) (by omega)
theorem tw_u1 : Upto 1 tw1 := tw_u0.alloc
theorem tw_u2 : Upto 1 tw2 := tw_u1.write 1 exAb
theorem tw_u3 : Upto 1 tw3 := tw_u2.free 1

/-! ### an arena all whose memory is new -/
def M1 (w0 : World) (x : Nat) (s : AS) (wr : World) : Prop := ∃ F, Ar F wr x s ∧ (∀ j, F j → w0.heap.size ≤ j) ∧ Fr none_ w0 wr
section
variable {w0 w w' : World} {x : Nat} {s : AS}
theorem M1.fr (h : M1 w0 x s w) : Fr none_ w0 w := by obtain ⟨F, h1, h2, h3⟩ := h; exact h3
theorem M1.skip (h : M1 w0 x s w) (f : Fr none_ w w') : M1 w0 x s w' := by
  obtain ⟨F, h1, h2, h3⟩ := h; exact ⟨F, h1.kept0 f, h2, h3.trans f⟩
theorem M1.turn {F F' : Nat → Prop} {t : AS} (h1 : Ar F w x s) (h2 : ∀ j, F j → w0.heap.size ≤ j) (h3 : Fr none_ w0 w) (ha : Ar F' w' x t) (f : Fr F w w') (g : Grow F F' w) : M1 w0 x t w' :=
  ⟨F', ha, fun j hj => by rcases g j hj with q | q; exact h2 j q; have := h3.size; omega, h3.step f (fun i hi e => by have := h2 i e; omega)⟩
theorem m1_new (w0 w : World) (f : Fr none_ w0 w) (slot : Nat) (h2 : 2 ≤ slot) (h3 : slot ≤ 4096) :
    Calls Try.prog 12 #[.int .i64 (slot : Int)] w fun e w' => ∃ x, e = .returned (.tuple #[.pointer (some ⟨x, 0, none⟩), .int .i64 0]) ∧ M1 w0 x (AS.new slot) w' := by
  refine (ar_new w slot h2 h3).mono ?_
  rintro e w' ⟨F, x, he, h1, hf, hF⟩
  exact ⟨x, he, F, h1, fun j hj => by have := hF j hj; have := f.size; omega, f.trans hf⟩
theorem m1_alloc {N : Nat} (h : M1 w0 x s w) (hu : Upto N s) (hN : N < big) (r : Int) {q : Int} (hr : ((aAlloc s).1 : Int) = r) (hq : ((aAlloc s).2.1 : Int) = q) :
    Calls Try.prog 23 #[.pointer (some ⟨x, 0, none⟩)] w fun e w' => e = .returned (.tuple #[.int .u64 r, .int .i64 q]) ∧ M1 w0 x (aAlloc s).2.2 w' := by
  obtain ⟨F, h1, h2, h3⟩ := h
  refine (ar_alloc_lit h1 hu hN r hr hq).mono ?_
  rintro e w' ⟨he, F', ha, f, g⟩
  exact ⟨he, M1.turn h1 h2 h3 ha f g⟩
theorem m1_free {N : Nat} (h : M1 w0 x s w) (hu : Upto N s) (hN : N < big) {hd : Nat} (hh : hd < 18446744073709551616) {d q : Int} (hd' : (hd : Int) = d) (hq : ((aFree s hd).1 : Int) = q) :
    Calls Try.prog 16 #[.pointer (some ⟨x, 0, none⟩), .int .u64 d] w fun e w' => e = .returned (.int .i64 q) ∧ M1 w0 x (aFree s hd).2 w' := by
  obtain ⟨F, h1, h2, h3⟩ := h
  refine (ar_free_lit h1 hu hN hh hd' hq).mono ?_
  rintro e w' ⟨he, ha, f⟩
  exact ⟨he, M1.turn h1 h2 h3 ha f (Grow.refl _ _)⟩
theorem m1_write {N : Nat} (h : M1 w0 x s w) (hu : Upto N s) {hd : Nat} (hh : hd < 18446744073709551616) (b : ByteArray) {d q : Int} (hd' : (hd : Int) = d) (hq : ((aWrite s hd b).1 : Int) = q) :
    Calls Try.prog 24 #[.pointer (some ⟨x, 0, none⟩), .int .u64 d, .string b] w fun e w' => e = .returned (.int .i64 q) ∧ M1 w0 x (aWrite s hd b).2 w' := by
  obtain ⟨F, h1, h2, h3⟩ := h
  refine (ar_write_lit h1 hu hh b hd' hq).mono ?_
  rintro e w' ⟨he, ha, f⟩
  exact ⟨he, M1.turn h1 h2 h3 ha f (Grow.refl _ _)⟩
theorem m1_is {N : Nat} (h : M1 w0 x s w) (hu : Upto N s) {hd : Nat} (hh : hd < 18446744073709551616) {d : Int} (hd' : (hd : Int) = d) (b : Bool) (hb : named s hd = b) :
    Calls Try.prog 14 #[.pointer (some ⟨x, 0, none⟩), .int .u64 d] w fun e w' => e = .returned (.bool b) ∧ M1 w0 x s w' := by
  subst hd'; subst hb
  obtain ⟨F, h1, h2, h3⟩ := h
  refine (ar_is h1 hu hh).mono ?_
  rintro e w' ⟨he, f⟩
  exact ⟨he, M1.skip ⟨F, h1, h2, h3⟩ f⟩
theorem m1_used (h : M1 w0 x s w) {q : Int} (hq : (s.used : Int) = q) : Calls Try.prog 21 #[.pointer (some ⟨x, 0, none⟩)] w fun e w' => e = .returned (.int .i64 q) ∧ w = w' := by
  subst hq
  obtain ⟨F, h1, h2, h3⟩ := h
  exact ar_used h1
theorem m1_pages (h : M1 w0 x s w) {q : Int} (hq : (s.pages.length : Int) = q) : Calls Try.prog 19 #[.pointer (some ⟨x, 0, none⟩)] w fun e w' => e = .returned (.int .i64 q) ∧ w = w' := by
  subst hq
  obtain ⟨F, h1, h2, h3⟩ := h
  exact ar_pages h1
theorem m1_reads {N : Nat} (h : M1 w0 x s w) (hu : Upto N s) {hd : Nat} (hh : hd < 18446744073709551616) {d : Int} (hd' : (hd : Int) = d) (b : ByteArray) (hb : b.size ≤ s.slot) (hf : aFind s hd = some (newBytes s.slot b)) :
    Calls Try.prog 18 #[.pointer (some ⟨x, 0, none⟩), .int .u64 d, .string b] w fun e w' => e = .returned (.bool true) ∧ M1 w0 x s w' := by
  subst hd'
  obtain ⟨F, h1, h2, h3⟩ := h
  refine (ar_reads h1 hu hh b hb hf).mono ?_
  rintro e w' ⟨he, f⟩
  exact ⟨he, M1.skip ⟨F, h1, h2, h3⟩ f⟩
end
end Go.Proofs.Ytncajdefjammiaa
