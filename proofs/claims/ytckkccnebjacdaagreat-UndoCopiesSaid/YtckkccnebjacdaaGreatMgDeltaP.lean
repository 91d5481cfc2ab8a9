/-
  A value told by another one (delta): what two have the same in front and behind, and that it can be told back. Nothing of the program in it.
  Package undo: what stands in a slot ('UV': a row, or a record), byte by byte; a delta's bytes. Of lists alone.
-/
import Derived.Test.YtckkccnebjacdaaGreatMgOwn
import Derived.Test.YtckkccnebjacdaaGreatMgBe
namespace Go.Proofs.YtckkccnebjacdaaGreat
set_option linter.unusedVariables false
set_option linter.unusedSimpArgs false

def preN : List UInt8 → List UInt8 → Nat
  | a :: xs, b :: ys => if a = b then preN xs ys + 1 else 0
  | _, _ => 0
theorem preN_le : ∀ a b : List UInt8, preN a b ≤ a.length ∧ preN a b ≤ b.length
  | [], b => by simp [preN]
  | a :: xs, [] => by simp [preN]
  | a :: xs, b :: ys => by
    have ih := preN_le xs ys
    unfold preN
    split
    · simp only [List.length_cons]; omega
    · simp
theorem preN_take : ∀ a b : List UInt8, a.take (preN a b) = b.take (preN a b)
  | [], b => by simp [preN]
  | a :: xs, [] => by simp [preN]
  | a :: xs, b :: ys => by
    unfold preN
    split
    · next h => subst h; rw [List.take_succ_cons, List.take_succ_cons, preN_take xs ys]
    · simp
/-- The i-th bytes are the same below preN, and not at it. -/
theorem preN_get : ∀ (a b : List UInt8) (i : Nat), i < preN a b → a[i]? = b[i]?
  | [], b, i, h => by simp [preN] at h
  | a :: xs, [], i, h => by simp [preN] at h
  | a :: xs, b :: ys, i, h => by
    unfold preN at h
    split at h
    · next e =>
      subst e
      cases i with
      | zero => rfl
      | succ i => simpa using preN_get xs ys i (by omega)
    · omega
theorem preN_stop : ∀ (a b : List UInt8), preN a b < a.length → preN a b < b.length → a[preN a b]? ≠ b[preN a b]?
  | [], b, h, _ => by simp at h
  | a :: xs, [], _, h => by simp at h
  | a :: xs, b :: ys, h1, h2 => by
    unfold preN at h1 h2 ⊢
    split
    · next e =>
      rw [if_pos e] at h1 h2
      simp only [List.length_cons] at h1 h2
      simpa using preN_stop xs ys (by omega) (by omega)
    · next e => simpa using e
def sufN (a b : List UInt8) : Nat := preN a.reverse b.reverse
theorem sufN_le (a b : List UInt8) : sufN a b ≤ a.length ∧ sufN a b ≤ b.length := by
  have := preN_le a.reverse b.reverse
  simpa [sufN] using this
theorem sufN_drop (a b : List UInt8) : a.drop (a.length - sufN a b) = b.drop (b.length - sufN a b) := by
  have h := congrArg List.reverse (preN_take a.reverse b.reverse)
  rw [List.reverse_take, List.reverse_take] at h
  simpa [sufN] using h
/-- A delta: how much is the same in front, behind, and what stands between. -/
def dMake (newer older : List UInt8) : Nat × Nat × List UInt8 :=
  let p := preN newer older
  let s := sufN (newer.drop p) (older.drop p)
  (p, s, (older.take (older.length - s)).drop p)
def dBack (newer : List UInt8) (d : Nat × Nat × List UInt8) : List UInt8 := newer.take d.1 ++ d.2.2 ++ newer.drop (newer.length - d.2.1)
theorem dMake_fits (newer older : List UInt8) : (dMake newer older).1 + (dMake newer older).2.1 ≤ newer.length ∧ (dMake newer older).1 + (dMake newer older).2.1 ≤ older.length := by
  have h1 := preN_le newer older
  have h2 := sufN_le (newer.drop (preN newer older)) (older.drop (preN newer older))
  simp only [List.length_drop] at h2
  unfold dMake
  simp only
  omega
theorem dBack_dMake (newer older : List UInt8) : dBack newer (dMake newer older) = older := by
  have hf := dMake_fits newer older
  have ht := preN_take newer older
  have hd := sufN_drop (newer.drop (preN newer older)) (older.drop (preN newer older))
  have hp := preN_le newer older
  unfold dMake at hf
  simp only at hf
  unfold dBack dMake
  simp only
  generalize preN newer older = p at *
  generalize sufN (newer.drop p) (older.drop p) = s at *
  rw [List.length_drop, List.length_drop, List.drop_drop, List.drop_drop, show p + (newer.length - p - s) = newer.length - s by omega, show p + (older.length - p - s) = older.length - s by omega] at hd
  rw [hd, ht]
  have e : older.take p = (older.take (older.length - s)).take p := by rw [List.take_take, Nat.min_eq_left (by omega)]
  rw [e, List.take_append_drop, List.take_append_drop]
end Go.Proofs.YtckkccnebjacdaaGreat
namespace Go.Proofs.YtckkccnebjacdaaGreat
set_option linter.unusedVariables false
set_option linter.unusedSimpArgs false
set_option maxRecDepth 100000

/-! ### a delta's bytes -/
def dEnc (d : Nat × Nat × List UInt8) : List UInt8 := be 2 d.1 ++ be 2 d.2.1 ++ d.2.2
/-- What Apply tells: the older value, if the delta is the newer one's. -/
def dApply (newer d : List UInt8) : Option (List UInt8) :=
  if 256 < newer.length then none else
  if d.length < 4 then none else
  if newer.length < beN (d.take 2) + beN ((d.drop 2).take 2) then none else
  if 256 < (dBack newer (beN (d.take 2), beN ((d.drop 2).take 2), d.drop 4)).length then none else
  if dEnc (dMake newer (dBack newer (beN (d.take 2), beN ((d.drop 2).take 2), d.drop 4))) = d then some (dBack newer (beN (d.take 2), beN ((d.drop 2).take 2), d.drop 4)) else none
theorem dEnc_length (d : Nat × Nat × List UInt8) : (dEnc d).length = 4 + d.2.2.length := by unfold dEnc; simp [be_length]; omega
theorem dEnc_pieces (d : Nat × Nat × List UInt8) (h1 : d.1 < 65536) (h2 : d.2.1 < 65536) : beN ((dEnc d).take 2) = d.1 ∧ beN (((dEnc d).drop 2).take 2) = d.2.1 ∧ (dEnc d).drop 4 = d.2.2 := by
  have e0 : dEnc d = be 2 d.1 ++ (be 2 d.2.1 ++ d.2.2) := by unfold dEnc; rw [List.append_assoc]
  refine ⟨?_, ?_, ?_⟩
  · rw [e0, List.take_left' (be_length 2 _), beN_be 2 _ (by omega)]
  · rw [e0, List.drop_left' (be_length 2 _), List.take_left' (be_length 2 _), beN_be 2 _ (by omega)]
  · have : (be 2 d.1 ++ be 2 d.2.1).length = 4 := by simp [be_length]
    unfold dEnc
    rw [List.drop_left' this]
theorem dMake_rest (newer older : List UInt8) : (dMake newer older).2.2.length + (dMake newer older).1 + (dMake newer older).2.1 = older.length := by
  have hf := (dMake_fits newer older).2
  have e : (dMake newer older).2.2 = (older.take (older.length - (dMake newer older).2.1)).drop (dMake newer older).1 := rfl
  rw [e, List.length_drop, List.length_take]
  omega
theorem dMake_enc_length (newer older : List UInt8) : (dEnc (dMake newer older)).length ≤ 4 + older.length := by
  rw [dEnc_length]; have := dMake_rest newer older; omega
/-- What was told by a delta comes back. -/
theorem dApply_make (newer older : List UInt8) (h1 : newer.length ≤ 256) (h2 : older.length ≤ 256) : dApply newer (dEnc (dMake newer older)) = some older := by
  have hf := dMake_fits newer older
  obtain ⟨p1, p2, p3⟩ := dEnc_pieces (dMake newer older) (by omega) (by omega)
  unfold dApply
  rw [p1, p2, p3]
  have hb : dBack newer ((dMake newer older).1, (dMake newer older).2.1, (dMake newer older).2.2) = older := dBack_dMake newer older
  rw [hb, if_neg (by omega), if_neg (by rw [dEnc_length]; omega), if_neg (by omega), if_neg (by omega), if_pos rfl]
theorem dApply_le (newer d v : List UInt8) (h : dApply newer d = some v) : v.length ≤ 256 := by
  unfold dApply at h
  repeat' split at h
  all_goals first | (cases h; done) | (cases h; exact Nat.le_of_not_lt (by assumption))

/-! ### what stands in a slot -/
structure UV where
  rcd : Bool
  wr : Nat
  tomb : Bool
  nx : Nat
  sg : Nat
  rest : ByteArray
def UV.kind (n : UV) : UInt8 := if n.rcd then 2 else 1
/-- All ahead of the rest's length. -/
def UV.nums (n : UV) : List UInt8 := [n.kind] ++ be 8 n.wr ++ [if n.tomb then 1 else 0] ++ be 8 n.nx ++ (if n.rcd then be 8 n.sg else [])
def UV.at_ (n : UV) : Nat := if n.rcd then 26 else 18
def UV.head (n : UV) : List UInt8 := n.nums ++ be 2 n.rest.size
def UV.enc (n : UV) : List UInt8 := n.head ++ n.rest.data.toList
theorem UV.nums_length (n : UV) : n.nums.length = n.at_ := by
  unfold UV.nums UV.at_
  cases n.rcd <;> simp [be_length]
theorem UV.head_length (n : UV) : n.head.length = n.at_ + 2 := by unfold UV.head; rw [List.length_append, n.nums_length, be_length]
theorem UV.enc_length (n : UV) : n.enc.length = n.at_ + 2 + n.rest.size := by unfold UV.enc; rw [List.length_append, n.head_length]; rfl
/-- The pieces of a slot that begins with these bytes. -/
structure UV.Pieces (n : UV) (l : List UInt8) : Prop where
  kind : l[0]? = some n.kind
  wr : (l.drop 1).take 8 = be 8 n.wr
  tomb : l[9]? = some (if n.tomb then 1 else 0)
  nx : (l.drop 10).take 8 = be 8 n.nx
  sg : n.rcd = true → (l.drop 18).take 8 = be 8 n.sg
  len : (l.drop n.at_).take 2 = be 2 n.rest.size
  rest : (l.drop (n.at_ + 2)).take n.rest.size = n.rest.data.toList
theorem UV.pieces (n : UV) (pad : List UInt8) : n.Pieces (n.enc ++ pad) := by
  have hv : n.rest.data.toList.length = n.rest.size := rfl
  have d1 : ∀ r : List UInt8, ([n.kind] ++ r).drop 1 = r := fun r => rfl
  have d9 : ∀ r : List UInt8, ([n.kind] ++ (be 8 n.wr ++ r)).drop 9 = r := fun r => by
    rw [← List.append_assoc]; exact List.drop_left' (by simp [be_length])
  have d10 : ∀ r : List UInt8, ([n.kind] ++ (be 8 n.wr ++ ([if n.tomb then 1 else 0] ++ r))).drop 10 = r := fun r => by
    rw [← List.append_assoc, ← List.append_assoc]; exact List.drop_left' (by simp [be_length])
  have d18 : ∀ r : List UInt8, ([n.kind] ++ (be 8 n.wr ++ ([if n.tomb then 1 else 0] ++ (be 8 n.nx ++ r)))).drop 18 = r := fun r => by
    rw [← List.append_assoc, ← List.append_assoc, ← List.append_assoc]; exact List.drop_left' (by simp [be_length])
  have e0 : n.enc ++ pad = [n.kind] ++ (be 8 n.wr ++ ([if n.tomb then 1 else 0] ++ (be 8 n.nx ++ ((if n.rcd then be 8 n.sg else []) ++ (be 2 n.rest.size ++ (n.rest.data.toList ++ pad)))))) := by
    unfold UV.enc UV.head UV.nums
    simp only [List.append_assoc]
  have e1 : n.enc ++ pad = n.nums ++ (be 2 n.rest.size ++ (n.rest.data.toList ++ pad)) := by
    unfold UV.enc UV.head
    simp only [List.append_assoc]
  have e2 : n.enc ++ pad = n.head ++ (n.rest.data.toList ++ pad) := by
    unfold UV.enc
    simp only [List.append_assoc]
  refine ⟨by rw [e0]; rfl, ?_, ?_, ?_, fun h => ?_, ?_, ?_⟩
  · rw [e0, d1]; exact List.take_left' (be_length 8 _)
  · have h9 : (n.enc ++ pad)[9]? = ((n.enc ++ pad).drop 9)[0]? := by rw [List.getElem?_drop]
    rw [h9, e0, d9]; rfl
  · rw [e0, d10]; exact List.take_left' (be_length 8 _)
  · rw [e0, d18, if_pos h]; exact List.take_left' (be_length 8 _)
  · rw [e1, List.drop_left' n.nums_length]; exact List.take_left' (be_length 2 _)
  · rw [e2, List.drop_left' n.head_length]; exact List.take_left' hv
/-- What a slot can have whose engine's values are of vl bytes at most. -/
structure UV.Ok (vl : Nat) (n : UV) : Prop where
  wr : n.wr < 9223372036854775808
  nx : n.nx < 18446744073709551616
  sg : n.sg < 9223372036854775808
  rest : n.rest.size ≤ if n.rcd then vl + 4 else vl
  row0 : n.rcd = false → n.sg = 0
theorem UV.Ok.fits {vl : Nat} {n : UV} (h : n.Ok vl) : n.at_ + 2 + n.rest.size ≤ 32 + vl := by
  have := h.rest
  unfold UV.at_
  cases hr : n.rcd <;> rw [hr] at this <;> simp at this ⊢ <;> omega
end Go.Proofs.YtckkccnebjacdaaGreat
