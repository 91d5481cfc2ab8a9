/-
  The statements' examples of layer 3 ('awake'): it is true.
-/
import Derived.Test.YtdbnopfpopeefaaPgLaw2
namespace Go.Proofs.Ytdbnopfpopeefaa
open Go.RowKit
set_option linter.unusedVariables false
set_option linter.unusedSimpArgs false
set_option maxRecDepth 100000

def aw (a b c d : Option (Option (List UInt8))) (back : List Nat) : PS := { slot := 1000, slots := a.toList ++ b.toList ++ c.toList ++ d.toList, back := back }
def z1000 : Option (Option (List UInt8)) := some (some (zeros 1000))
def gone : Option (Option (List UInt8)) := some none
def ab : List UInt8 := [97, 98] ++ zeros 998
def aw0 := PS.new 1000
def aw1 : PS := ⟨1000, [some (zeros 1000)], []⟩
def aw2 : PS := ⟨1000, [some (zeros 1000), some (zeros 1000)], []⟩
def aw3 : PS := ⟨1000, [some (zeros 1000), some (zeros 1000), some (zeros 1000)], []⟩
def aw4 : PS := ⟨1000, [some (zeros 1000), some (zeros 1000), some (zeros 1000), some (zeros 1000)], []⟩
def aw5 : PS := ⟨1000, [some (zeros 1000), none, some (zeros 1000), some (zeros 1000)], [1]⟩
def aw6 : PS := ⟨1000, [some (zeros 1000), none, some (zeros 1000), none], [3, 1]⟩
def aw7 : PS := ⟨1000, [some (zeros 1000), none, some (zeros 1000), some (zeros 1000)], [1]⟩
def aw9 : PS := ⟨1000, [some (zeros 1000), some ab, some (zeros 1000), some (zeros 1000)], []⟩
def abS : ByteArray := ⟨#[97, 98]⟩
theorem aw0_a : aw0.alloc = some (0, aw1) := rfl
theorem aw1_a : aw1.alloc = some (1, aw2) := rfl
theorem aw2_a : aw2.alloc = some (2, aw3) := rfl
theorem aw3_a : aw3.alloc = some (3, aw4) := rfl
theorem aw4_a : aw4.alloc = none := rfl
theorem aw4_f : aw4.at_ 1000 = some (zeros 1000) := rfl
theorem aw4_g : aw4.free (1000 / 1000) = aw5 := rfl
theorem aw5_f : aw5.at_ 3000 = some (zeros 1000) := rfl
theorem aw5_g : aw5.free (3000 / 1000) = aw6 := rfl
theorem aw6_a : aw6.alloc = some (3, aw7) := rfl
theorem aw7_a : aw7.alloc = some (1, aw4) := rfl
theorem aw4_w : aw4.write (1000 / 1000) abS = aw9 := rfl
theorem aw9_r : aw9.at_ 1000 = some ab := rfl
theorem aw9_f : aw9.at_ 500 = none := rfl

theorem alloc_lit {w : World} {p m : Nat} {s s' : PS} {k : Nat} (h : PageIs w p m s) (ha : s.alloc = some (k, s')) (n : Int) (hn : ((k * s.slot : Nat) : Int) = n) (P : Nat → Prop) (hp : P p ∧ P m) :
    Calls Try.prog 23 #[.pointer (some ⟨p, 0, none⟩)] w fun e w' => e = .returned (.int .u16 n) ∧ PageIs w' p m s' ∧ Fr P w w' := by
  refine (alloc_yes h ha).mono ?_
  rintro e w' ⟨he, h1, h2⟩
  refine ⟨?_, h1, h2.mono fun k _ e => by rcases e with rfl | rfl; exact hp.1; exact hp.2⟩
  rw [he, ← hn]; rfl

theorem alloc_lit_no {w : World} {p m : Nat} {s : PS} (h : PageIs w p m s) (ha : s.alloc = none) (P : Nat → Prop) :
    Calls Try.prog 23 #[.pointer (some ⟨p, 0, none⟩)] w fun e w' => e = .returned (.int .u16 9) ∧ PageIs w' p m s ∧ Fr P w w' := by
  refine (alloc_no h ha).mono ?_
  rintro e w' ⟨he, rfl⟩
  exact ⟨he, h, Fr.drew _ _⟩
theorem Alloc_lit_no {w : World} {p m : Nat} {s : PS} (h : PageIs w p m s) (ha : s.alloc = none) (P : Nat → Prop) :
    Calls Try.prog 14 #[.pointer (some ⟨p, 0, none⟩)] w fun e w' => e = .returned (.tuple #[.int .u16 0, .int .i64 41]) ∧ PageIs w' p m s ∧ Fr P w w' := by
  refine (Page_Alloc_no h ha).mono ?_
  rintro e w' ⟨he, rfl⟩
  exact ⟨he, h, Fr.drew _ _⟩
theorem free_lit {w : World} {p m : Nat} {s s' : PS} {off : Nat} {bs : List UInt8} (h : PageIs w p m s) (ha : s.at_ off = some bs) (hs : s.free (off / s.slot) = s') (n : Int) (hn : (off : Int) = n) (P : Nat → Prop) (hp : P p ∧ P m) :
    Calls Try.prog 15 #[.pointer (some ⟨p, 0, none⟩), .int .u16 n] w fun e w' => e = .returned (.int .i64 0) ∧ PageIs w' p m s' ∧ Fr P w w' := by
  subst hn
  refine (Page_Free_yes h ha).mono ?_
  rintro e w' ⟨he, h1, h2⟩
  exact ⟨he, hs ▸ h1, h2.mono fun k _ e => by rcases e with rfl | rfl; exact hp.1; exact hp.2⟩
theorem free_lit_no {w : World} {p m : Nat} {s : PS} {off : Nat} (h : PageIs w p m s) (ha : s.at_ off = none) (n : Int) (hn : (off : Int) = n) (P : Nat → Prop) :
    Calls Try.prog 15 #[.pointer (some ⟨p, 0, none⟩), .int .u16 n] w fun e w' => e = .returned (.int .i64 5) ∧ PageIs w' p m s ∧ Fr P w w' := by
  subst hn
  refine (Page_Free_no h ha).mono ?_
  rintro e w' ⟨he, h1⟩
  exact ⟨he, h.kept h1 (fun x => x) (fun x => x), h1.none⟩
theorem write_lit {w : World} {p m : Nat} {s s' : PS} {off : Nat} {bs : List UInt8} (h : PageIs w p m s) (ha : s.at_ off = some bs) (b : ByteArray) (hb : b.size ≤ s.slot) (hs : s.write (off / s.slot) b = s') (n : Int) (hn : (off : Int) = n) (P : Nat → Prop) (hp : P p ∧ P m) :
    Calls Try.prog 16 #[.pointer (some ⟨p, 0, none⟩), .int .u16 n, .string b] w fun e w' => e = .returned (.int .i64 0) ∧ PageIs w' p m s' ∧ Fr P w w' := by
  subst hn
  refine (Page_Write_yes h ha b hb).mono ?_
  rintro e w' ⟨he, h1, h2⟩
  exact ⟨he, hs ▸ h1, h2.mono fun k _ e => by unfold one at e; subst e; exact hp.1⟩
theorem read_lit {w : World} {p m : Nat} {s : PS} {off : Nat} {bs : List UInt8} (h : PageIs w p m s) (ha : s.at_ off = some bs) (n : Int) (hn : (off : Int) = n) (P : Nat → Prop) :
    Calls Try.prog 12 #[.pointer (some ⟨p, 0, none⟩), .int .u16 n] w fun e w' => e = .returned (.tuple #[.string (strOf bs), .int .i64 0]) ∧ PageIs w' p m s ∧ Fr P w w' := by
  subst hn
  refine (Page_Read_yes h ha).mono ?_
  rintro e w' ⟨he, h1⟩
  exact ⟨he, h.kept h1 (fun x => x) (fun x => x), h1.none⟩

def from_ (B : Nat) : Nat → Prop := fun k => B ≤ k
theorem u8_info : (Try.prog.info? 5).map (fun i => (i.zero, i.size, i.bytes)) = some (some (.int .u8 0), 1, 1) := by kernel_rfl
theorem made_at (n : Nat) : ∀ i, i < n → (((List.replicate n (0 : UInt8)).map byteV).toArray)[0 + i]? = some (byteV ((zeros n).getD i 0)) := by
  intro i hi
  simp [zeros, List.getD, hi]

theorem ab_size : abS.size + (strOf (zeros 998)).size ≤ 9223372036854775807 := by
  rw [strOf_size]; unfold zeros; rw [List.length_replicate]; decide
theorem ab_add : abS ++ strOf (zeros 998) = strOf ab := by
  apply ByteArray.ext
  simp [abS, strOf, ab]
theorem z998 : (zeros 998).length = 998 := List.length_replicate
attribute [local irreducible] zeros

set_option maxHeartbeats 4000000 in
theorem awake_any (w : World) :
    Calls Try.prog 10 #[] w fun e w' => e = .returned (.bool true) ∧ Fr none_ w w' := by
  have hnew := Page_New_yes w 1000 (by omega) (by omega)
  unfold ptr err at hnew
  go_enter Try.func10, Try.ntmps10
  go_wp2_with fail
  refine hnew.mono ?_
  rintro e w0 ⟨p, m, rfl, h0, f0, hp, hm⟩
  have hP : from_ w.heap.size p ∧ from_ w.heap.size m := ⟨hp, hm⟩
  clear hp hm
  go_wp2_with (first
    | (go_at_call 23; refine (alloc_lit h0 aw0_a 0 rfl _ hP).mono ?_; rintro e w1 ⟨rfl, h1, f1⟩; clear h0)
    | (go_at_call 23; refine (alloc_lit h1 aw1_a 1000 rfl _ hP).mono ?_; rintro e w2 ⟨rfl, h2, f2⟩; clear h1)
    | (go_at_call 23; refine (alloc_lit h2 aw2_a 2000 rfl _ hP).mono ?_; rintro e w3 ⟨rfl, h3, f3⟩; clear h2)
    | (go_at_call 23; refine (alloc_lit h3 aw3_a 3000 rfl _ hP).mono ?_; rintro e w4 ⟨rfl, h4, f4⟩; clear h3)
    | (go_at_call 23; refine (alloc_lit_no h4 aw4_a (from_ w.heap.size)).mono ?_; rintro e w5 ⟨rfl, h5, f5⟩; clear h4)
    | (go_at_call 14; refine (Alloc_lit_no h5 aw4_a (from_ w.heap.size)).mono ?_; rintro e w6 ⟨rfl, h6, f6⟩; clear h5)
    | (go_at_call 15; refine (free_lit h6 aw4_f aw4_g 1000 rfl _ hP).mono ?_; rintro e w7 ⟨rfl, h7, f7⟩; clear h6)
    | (go_at_call 15; refine (free_lit h7 aw5_f aw5_g 3000 rfl _ hP).mono ?_; rintro e w8 ⟨rfl, h8, f8⟩; clear h7)
    | (go_at_call 23; refine (alloc_lit h8 aw6_a 3000 rfl _ hP).mono ?_; rintro e w9 ⟨rfl, h9, f9⟩; clear h8)
    | (go_at_call 23; refine (alloc_lit h9 aw7_a 1000 rfl _ hP).mono ?_; rintro e w10 ⟨rfl, h10, f10⟩; clear h9)
    | (go_at_call 16; refine (write_lit h10 aw4_f abS (by decide) aw4_w 1000 rfl _ hP).mono ?_; rintro e w11 ⟨rfl, h11, f11⟩; clear h10)
    | (go_at_call 12; refine (read_lit h11 aw9_r 1000 rfl (from_ w.heap.size)).mono ?_; rintro e w12 ⟨rfl, h12, f12⟩; clear h11)
    | ((with_reducible refine at_slot 79 ?_); refine wpMakeBytes rfl _ _ _ 5 rfl Try.underlying43 u8_info .i64 .i64 998 998 rfl rfl (by omega) (by omega) ?_; intro w13 hr13 f13 hz13)
    | ((with_reducible refine at_slot 80 ?_); refine wpString rfl _ _ _ 5 rfl hr13 Try.underlying43 Try.underlying5 Try.underlying9 0 998 998 rfl (zeros 998) z998 (made_at 998) ?_)
    | ((with_reducible refine at_slot 81 ?_); refine wpAddStr rfl _ _ _ _ rfl abS (strOf (zeros 998)) rfl rfl ab_size (strOf ab) ab_add ?_)
    | ((with_reducible refine at_slot 82 ?_); refine wpEqlStr rfl _ _ _ _ rfl (strOf ab) (strOf ab) rfl rfl ?_; rw [decide_eq_true (rfl : strOf ab = strOf ab)]; have h13 := h12.kept f13 (fun x => x) (fun x => x))
    | (go_at_call 15; refine (free_lit_no h13 aw9_f 500 rfl (from_ w.heap.size)).mono ?_; rintro e w14 ⟨rfl, h14, f14⟩))
  go_ret
  exact ⟨rfl, by
    have g := (((((((((((f1.trans f2).trans f3).trans f4).trans f5).trans f6).trans f7).trans f8).trans f9).trans f10).trans f11).trans f12).trans (f13.none.trans f14)
    exact f0.step g (fun i hi e => by unfold from_ at e; omega)⟩
end Go.Proofs.Ytdbnopfpopeefaa
