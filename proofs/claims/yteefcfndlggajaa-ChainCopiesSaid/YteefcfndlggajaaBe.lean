/-
  Numbers as bytes, the greatest first; a version's bytes (plain; for layer 17). Nothing of the program in it.
-/
import Derived.Test.YteefcfndlggajaaMem
namespace Go.Proofs.Yteefcfndlggajaa
open Go.RowKit
set_option linter.unusedVariables false
set_option linter.unusedSimpArgs false

def be : Nat → Nat → List UInt8
  | 0, _ => []
  | k + 1, n => be k (n / 256) ++ [UInt8.ofNat n]
def beN (l : List UInt8) : Nat := l.foldl (fun a b => a * 256 + b.toNat) 0
theorem be_length (k n : Nat) : (be k n).length = k := by
  induction k generalizing n with
  | zero => rfl
  | succ k ih => unfold be; rw [List.length_append, ih]; rfl
theorem beN_snoc (l : List UInt8) (b : UInt8) : beN (l ++ [b]) = beN l * 256 + b.toNat := by unfold beN; rw [List.foldl_append]; rfl
theorem beN_be (k n : Nat) (h : n < 256 ^ k) : beN (be k n) = n := by
  induction k generalizing n with
  | zero => simp at h; subst h; rfl
  | succ k ih =>
    unfold be
    have h2 : n / 256 < 256 ^ k := by rw [Nat.pow_succ] at h; omega
    rw [beN_snoc, ih _ h2]
    have : (UInt8.ofNat n).toNat = n % 256 := by rw [UInt8.toNat_ofNat']
    rw [this]; omega
theorem be_get (k n i : Nat) (h : i < k) : (be k n)[i]? = some (UInt8.ofNat (n / 256 ^ (k - 1 - i))) := by
  induction k generalizing n with
  | zero => omega
  | succ k ih =>
    unfold be
    by_cases e : i < k
    · rw [List.getElem?_append_left (by rw [be_length]; exact e), ih _ e, Nat.div_div_eq_div_mul, ← Nat.pow_succ']
      congr 4; omega
    · have hik : i = k := by omega
      subst hik
      rw [List.getElem?_append_right (by rw [be_length]; exact Nat.le_refl _), be_length, Nat.sub_self]
      simp
theorem foldl_lt (l : List UInt8) (a : Nat) : l.foldl (fun a b => a * 256 + b.toNat) a < (a + 1) * 256 ^ l.length := by
  induction l generalizing a with
  | nil => simp
  | cons b r ih =>
    rw [List.foldl_cons, List.length_cons, Nat.pow_succ']
    have h1 := ih (a * 256 + b.toNat)
    have hb := b.toNat_lt
    have h2 : (a * 256 + b.toNat + 1) * 256 ^ r.length ≤ ((a + 1) * 256) * 256 ^ r.length := Nat.mul_le_mul_right _ (by omega)
    rw [Nat.mul_assoc] at h2
    omega
theorem beN_lt (l : List UInt8) : beN l < 256 ^ l.length := by
  have := foldl_lt l 0
  simpa [beN] using this

/-- A version in a slot: who wrote it, its stamp, the next one's handle, whether it is a tombstone, its value. -/
structure NV where
  wr : Nat
  ts : Nat
  nx : Nat
  tomb : Bool
  val : ByteArray
def NV.head (n : NV) : List UInt8 := be 8 n.wr ++ be 8 n.ts ++ be 8 n.nx ++ [if n.tomb then 1 else 0] ++ be 2 n.val.size
def NV.enc (n : NV) : List UInt8 := n.head ++ n.val.data.toList
theorem NV.head_length (n : NV) : n.head.length = 27 := by unfold NV.head; simp [be_length]
theorem NV.enc_length (n : NV) : n.enc.length = 27 + n.val.size := by unfold NV.enc; rw [List.length_append, n.head_length]; rfl
/-- The pieces of a slot that begins with a version's bytes. -/
theorem NV.pieces (n : NV) (pad : List UInt8) :
    ((n.enc ++ pad).take 8 = be 8 n.wr) ∧ (((n.enc ++ pad).drop 8).take 8 = be 8 n.ts) ∧ (((n.enc ++ pad).drop 16).take 8 = be 8 n.nx) ∧
    ((n.enc ++ pad)[24]? = some (if n.tomb then 1 else 0)) ∧ (((n.enc ++ pad).drop 25).take 2 = be 2 n.val.size) ∧ (((n.enc ++ pad).drop 27).take n.val.size = n.val.data.toList) := by
  have hv : n.val.data.toList.length = n.val.size := rfl
  unfold NV.enc NV.head
  refine ⟨?_, ?_, ?_, ?_, ?_, ?_⟩
  · simp only [List.append_assoc]
    exact List.take_left' (be_length 8 _)
  · simp only [List.append_assoc]
    rw [List.drop_left' (be_length 8 _)]
    exact List.take_left' (be_length 8 _)
  · simp only [List.append_assoc]
    have e : ∀ r : List UInt8, (be 8 n.wr ++ (be 8 n.ts ++ r)).drop 16 = r := fun r => by
      rw [← List.append_assoc]; exact List.drop_left' (by rw [List.length_append, be_length, be_length])
    rw [e]
    exact List.take_left' (be_length 8 _)
  · simp only [List.append_assoc]
    rw [List.getElem?_append_right (by rw [be_length]; omega), be_length, List.getElem?_append_right (by rw [be_length]; omega), be_length, List.getElem?_append_right (by rw [be_length]; omega), be_length]
    rfl
  · have e : ∀ r : List UInt8, ((be 8 n.wr ++ be 8 n.ts ++ be 8 n.nx ++ [if n.tomb then 1 else 0]) ++ r).drop 25 = r := fun r => List.drop_left' (by simp [be_length])
    have a : be 8 n.wr ++ be 8 n.ts ++ be 8 n.nx ++ [if n.tomb then 1 else 0] ++ be 2 n.val.size ++ n.val.data.toList ++ pad = (be 8 n.wr ++ be 8 n.ts ++ be 8 n.nx ++ [if n.tomb then 1 else 0]) ++ (be 2 n.val.size ++ (n.val.data.toList ++ pad)) := by simp only [List.append_assoc]
    rw [a, e]
    exact List.take_left' (be_length 2 _)
  · have e : ∀ r : List UInt8, ((be 8 n.wr ++ be 8 n.ts ++ be 8 n.nx ++ [if n.tomb then 1 else 0] ++ be 2 n.val.size) ++ r).drop 27 = r := fun r => List.drop_left' (by simp [be_length])
    rw [List.append_assoc _ n.val.data.toList pad, e]
    exact List.take_left' hv
end Go.Proofs.Yteefcfndlggajaa
