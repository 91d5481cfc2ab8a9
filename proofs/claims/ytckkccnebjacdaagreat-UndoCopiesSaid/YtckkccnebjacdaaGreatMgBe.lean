/-
  Numbers as bytes, the greatest first; a version's bytes (plain; for layer 17). Nothing of the program in it.
  Walks of package bits: eight bytes got and put.
  Walks of package bits: eight bytes put.
  Rows of bytes, pieces put into them; a string's bytes ([]byte(s)). Nothing of the program in it.
-/
import Derived.Test.YtckkccnebjacdaaGreatMgOwn
import Derived.Lib.EndianBits
import Derived.Laws.IdiomStrings
namespace Go.Proofs.YtckkccnebjacdaaGreat
open Go.RowKit
set_option linter.unusedVariables false
set_option linter.unusedSimpArgs false

def be : Nat → Nat → List UInt8
  | 0, _ => []
  | k + 1, n => be k (n / 256) ++ [UInt8.ofNat n]
def beN (l : List UInt8) : Nat := l.foldl (fun a b => a * 256 + b.toNat) 0
theorem be_length (k n : Nat) : (be k n).length = k := by
  induction k generalizing n with
  | zero => rfl
  | succ k ih => unfold be; rw [List.length_append, ih]; rfl
theorem beN_snoc (l : List UInt8) (b : UInt8) : beN (l ++ [b]) = beN l * 256 + b.toNat := by unfold beN; rw [List.foldl_append]; rfl
theorem beN_be (k n : Nat) (h : n < 256 ^ k) : beN (be k n) = n := by
  induction k generalizing n with
  | zero => simp at h; subst h; rfl
  | succ k ih =>
    unfold be
    have h2 : n / 256 < 256 ^ k := by rw [Nat.pow_succ] at h; omega
    rw [beN_snoc, ih _ h2]
    have : (UInt8.ofNat n).toNat = n % 256 := by rw [UInt8.toNat_ofNat']
    rw [this]; omega
theorem be_get (k n i : Nat) (h : i < k) : (be k n)[i]? = some (UInt8.ofNat (n / 256 ^ (k - 1 - i))) := by
  induction k generalizing n with
  | zero => omega
  | succ k ih =>
    unfold be
    by_cases e : i < k
    · rw [List.getElem?_append_left (by rw [be_length]; exact e), ih _ e, Nat.div_div_eq_div_mul, ← Nat.pow_succ']
      congr 4; omega
    · have hik : i = k := by omega
      subst hik
      rw [List.getElem?_append_right (by rw [be_length]; exact Nat.le_refl _), be_length, Nat.sub_self]
      simp
theorem foldl_lt (l : List UInt8) (a : Nat) : l.foldl (fun a b => a * 256 + b.toNat) a < (a + 1) * 256 ^ l.length := by
  induction l generalizing a with
  | nil => simp
  | cons b r ih =>
    rw [List.foldl_cons, List.length_cons, Nat.pow_succ']
    have h1 := ih (a * 256 + b.toNat)
    have hb := b.toNat_lt
    have h2 : (a * 256 + b.toNat + 1) * 256 ^ r.length ≤ ((a + 1) * 256) * 256 ^ r.length := Nat.mul_le_mul_right _ (by omega)
    rw [Nat.mul_assoc] at h2
    omega
theorem beN_lt (l : List UInt8) : beN l < 256 ^ l.length := by
  have := foldl_lt l 0
  simpa [beN] using this

/-- A version in a slot: who wrote it, its stamp, the next one's handle, whether it is a tombstone, its value. -/
structure NV where
  wr : Nat
  ts : Nat
  nx : Nat
  tomb : Bool
  val : ByteArray
def NV.head (n : NV) : List UInt8 := be 8 n.wr ++ be 8 n.ts ++ be 8 n.nx ++ [if n.tomb then 1 else 0] ++ be 2 n.val.size
def NV.enc (n : NV) : List UInt8 := n.head ++ n.val.data.toList
theorem NV.head_length (n : NV) : n.head.length = 27 := by unfold NV.head; simp [be_length]
theorem NV.enc_length (n : NV) : n.enc.length = 27 + n.val.size := by unfold NV.enc; rw [List.length_append, n.head_length]; rfl
/-- The pieces of a slot that begins with a version's bytes. -/
theorem NV.pieces (n : NV) (pad : List UInt8) :
    ((n.enc ++ pad).take 8 = be 8 n.wr) ∧ (((n.enc ++ pad).drop 8).take 8 = be 8 n.ts) ∧ (((n.enc ++ pad).drop 16).take 8 = be 8 n.nx) ∧
    ((n.enc ++ pad)[24]? = some (if n.tomb then 1 else 0)) ∧ (((n.enc ++ pad).drop 25).take 2 = be 2 n.val.size) ∧ (((n.enc ++ pad).drop 27).take n.val.size = n.val.data.toList) := by
  have hv : n.val.data.toList.length = n.val.size := rfl
  unfold NV.enc NV.head
  refine ⟨?_, ?_, ?_, ?_, ?_, ?_⟩
  · simp only [List.append_assoc]
    exact List.take_left' (be_length 8 _)
  · simp only [List.append_assoc]
    rw [List.drop_left' (be_length 8 _)]
    exact List.take_left' (be_length 8 _)
  · simp only [List.append_assoc]
    have e : ∀ r : List UInt8, (be 8 n.wr ++ (be 8 n.ts ++ r)).drop 16 = r := fun r => by
      rw [← List.append_assoc]; exact List.drop_left' (by rw [List.length_append, be_length, be_length])
    rw [e]
    exact List.take_left' (be_length 8 _)
  · simp only [List.append_assoc]
    rw [List.getElem?_append_right (by rw [be_length]; omega), be_length, List.getElem?_append_right (by rw [be_length]; omega), be_length, List.getElem?_append_right (by rw [be_length]; omega), be_length]
    rfl
  · have e : ∀ r : List UInt8, ((be 8 n.wr ++ be 8 n.ts ++ be 8 n.nx ++ [if n.tomb then 1 else 0]) ++ r).drop 25 = r := fun r => List.drop_left' (by simp [be_length])
    have a : be 8 n.wr ++ be 8 n.ts ++ be 8 n.nx ++ [if n.tomb then 1 else 0] ++ be 2 n.val.size ++ n.val.data.toList ++ pad = (be 8 n.wr ++ be 8 n.ts ++ be 8 n.nx ++ [if n.tomb then 1 else 0]) ++ (be 2 n.val.size ++ (n.val.data.toList ++ pad)) := by simp only [List.append_assoc]
    rw [a, e]
    exact List.take_left' (be_length 2 _)
  · have e : ∀ r : List UInt8, ((be 8 n.wr ++ be 8 n.ts ++ be 8 n.nx ++ [if n.tomb then 1 else 0] ++ be 2 n.val.size) ++ r).drop 27 = r := fun r => List.drop_left' (by simp [be_length])
    rw [List.append_assoc _ n.val.data.toList pad, e]
    exact List.take_left' hv
end Go.Proofs.YtckkccnebjacdaaGreat
namespace Go.Proofs.YtckkccnebjacdaaGreat
open Go.RowKit
set_option linter.unusedVariables false
set_option linter.unusedSimpArgs false
set_option maxRecDepth 100000

set_option maxHeartbeats 1000000 in
theorem wide64 (w : World) :
    Calls Tryz.prog 149 #[] w fun e w' => e = .returned (.int .i64 8) ∧ w = w' := by
  go_enter Tryz.func149, Tryz.ntmps149
  go_wp2
  go_rounds 9
  go_ret
  exact ⟨rfl, rfl⟩
set_option maxHeartbeats 400000 in
theorem within64 (w : World) (bk off len cap at_ : Nat) (h1 : at_ + 8 ≤ len) (hc : len ≤ cap) (hcap : cap ≤ 9223372036854775807) :
    Calls Tryz.prog 135 #[.slice (some ⟨bk, off, none⟩) len cap, .int .i64 (at_ : Int)] w fun e w' => e = .returned (.slice (some ⟨bk, off + at_, none⟩) 8 (cap - at_)) ∧ w = w' := by
  have hw1 : IntKind.i64.wrap ((len : Int) - 8) = (len : Int) - 8 := IntWalk.i64_in _ (by omega)
  have hw2 : IntKind.i64.wrap ((at_ : Int) + 8) = ((at_ + 8 : Nat) : Int) := IntWalk.i64_in _ (by omega)
  have a1 : ¬ (at_ : Int) < 0 := by omega
  have a2 : ¬ (len : Int) - 8 < (at_ : Int) := by omega
  go_enter Tryz.func135, Tryz.ntmps135
  go_wp2_with (go_at_call 149; refine (wide64 _).mono ?_; rintro e w' ⟨rfl, rfl⟩)
  go_ret
  have e : ((at_ : Int) + 8).toNat - at_ = 8 := by omega
  first
    | exact ⟨rfl, rfl⟩
    | exact ⟨congrArg (fun n => Ending.returned (.slice (some ⟨bk, off + at_, none⟩) n (cap - at_))) e, rfl⟩
    | exact ⟨congrArg (fun n => Ending.returned (.slice (some ⟨bk, off + at_, none⟩) n (cap - at_))) (by omega), rfl⟩
theorem or_step (v b : Nat) (hv : v < 72057594037927936) (hb : b < 256) : bits BinOp.or IntKind.u64 (IntKind.u64.wrap ((v : Int) * 256)) (b : Int) = ((v * 256 + b : Nat) : Int) := by
  have hw : IntKind.u64.wrap ((v : Int) * 256) = (v : Int) * 256 := by rw [IntKind.wrap_u64]; omega
  rw [hw]
  have a := bits_join .u64 64 (by decide) (fun n h0 h1 => wraps_u64 n h0 h1) 8 ((v : Int) * 256) (b : Int) (by omega) (by omega) (by omega) (by omega) (by omega) (by omega)
  rw [a]; omega
theorem pow_le7 {k : Nat} (h : k < 8) : 256 ^ k ≤ 72057594037927936 := by
  have : 256 ^ k ≤ 256 ^ 7 := Nat.pow_le_pow_right (by omega) (by omega)
  have e : (256 : Nat) ^ 7 = 72057594037927936 := by decide
  omega
set_option maxHeartbeats 1000000 in
theorem get64_in {w : World} {g : Nat} (off len cap at_ : Nat) (h1 : at_ + 8 ≤ len) (hc : len ≤ cap) (hcap : cap ≤ 9223372036854775807) (bs : List UInt8) (hl : bs.length = 8) (hb : ∀ (i : Nat) (b : UInt8), bs[i]? = some b → w.cell? ⟨g, off + at_ + i, none⟩ = some (byteV b)) :
    Calls Tryz.prog 113 #[.slice (some ⟨g, off, none⟩) len cap, .int .i64 (at_ : Int)] w fun e w' => e = .returned (.tuple #[.int .u64 (beN bs : Int), .bool true]) ∧ w = w' := by
  have GW := Lib.hid (within64 w g off len cap at_ h1 hc hcap)
  have HB := Lib.hid hb
  have HL := Lib.hid hl
  clear hb hl
  go_enter Tryz.func113, Tryz.ntmps113
  go_wp2_with fail
  refine GW.out.mono ?_
  rintro e w1 ⟨rfl, rfl⟩
  go_wp2_with fail
  go_loop [7, 15] (fun n i => ∃ k v : Nat, Hid (k ≤ 8) ∧ i = .int .i64 k ∧ n = .int .u64 v ∧ Hid (v = beN (bs.take k))) (fun _ i => 8 - (intOf i).toNat)
  case atStart => exact ⟨0, 0, Nat.zero_le _, rfl, rfl, rfl⟩
  case round =>
    obtain ⟨k, v, hk, rfl, rfl, hv⟩ := hrel
    by_cases hlt : k < 8
    · obtain ⟨b, hbk⟩ : ∃ b, bs[k]? = some b := ⟨bs[k]'(by rw [HL.out]; exact hlt), List.getElem?_eq_getElem _⟩
      have ck := HB.out k b hbk
      unfold byteV at ck
      have hvl : v < 72057594037927936 := by
        rw [hv.out]
        have a := beN_lt (bs.take k)
        rw [List.length_take, HL.out, Nat.min_eq_left (by omega)] at a
        exact Nat.lt_of_lt_of_le a (pow_le7 hlt)
      have hbl : b.toNat < 256 := b.toNat_lt
      have hor := or_step v b.toNat hvl hbl
      have hwb : IntKind.u64.wrap (b.toNat : Int) = (b.toNat : Int) := by rw [IntKind.wrap_u64]; omega
      have HS := Lib.hid (show v * 256 + b.toNat = beN (bs.take (k + 1)) by
        rw [List.take_add_one, hbk]
        show _ = beN (bs.take k ++ [b])
        rw [beN_snoc, ← hv.out])
      generalize b.toNat = bn at ck hor hwb hbl HS
      clear hbk hvl
      go_wp2_with fail
      go_round
      case rel => exact ⟨k + 1, v * 256 + bn, hlt, by go_num, by first | rfl | (rw [hor]), HS⟩
      case measure => simp [intOf]; omega
    · have hke : k = 8 := by have := hk.out; omega
      have hve : v = beN bs := by rw [hv.out, hke, List.take_of_length_le (by rw [HL.out]; exact Nat.le_refl _)]
      have HVE := Lib.hid hve
      clear hke hve
      go_wp2_with fail
      go_ret2
      exact ⟨by rw [← HVE.out]; rfl, rfl⟩
theorem get64_cells {w : World} {g : Nat} (off len cap at_ : Nat) (h1 : at_ + 8 ≤ len) (hc : len ≤ cap) (hcap : cap ≤ 9223372036854775807) (bs : List UInt8) (hl : bs.length = 8) (hb : ∀ (i : Nat) (b : UInt8), bs[i]? = some b → w.cell? ⟨g, off + at_ + i, none⟩ = some (byteV b)) :
    Calls Tryz.prog 83 #[.slice (some ⟨g, off, none⟩) len cap, .int .i64 (at_ : Int)] w fun e w' => e = .returned (.tuple #[.int .u64 (beN bs : Int), .bool true]) ∧ w = w' := by
  have GI := Lib.hid (get64_in off len cap at_ h1 hc hcap bs hl hb)
  clear hb hl
  go_enter Tryz.func83, Tryz.ntmps83
  go_wp2_with fail
  refine GI.out.mono ?_
  rintro e w1 ⟨rfl, rfl⟩
  go_wp2_with fail
  go_ret2
  exact ⟨rfl, rfl⟩
theorem get64 {w : World} {g : Nat} {cs : Array Value} {t : TypeId} (h : Row w g cs t) (off len cap at_ : Nat) (h1 : at_ + 8 ≤ len) (hc : len ≤ cap) (hcap : cap ≤ 9223372036854775807) (bs : List UInt8) (hl : bs.length = 8) (hb : ∀ (i : Nat) (b : UInt8), bs[i]? = some b → cs[off + at_ + i]? = some (byteV b)) :
    Calls Tryz.prog 83 #[.slice (some ⟨g, off, none⟩) len cap, .int .i64 (at_ : Int)] w fun e w' => e = .returned (.tuple #[.int .u64 (beN bs : Int), .bool true]) ∧ w = w' :=
  get64_cells off len cap at_ h1 hc hcap bs hl (fun i b e => (h.cell (off + at_ + i)).trans (hb i b e))
end Go.Proofs.YtckkccnebjacdaaGreat
namespace Go.Proofs.YtckkccnebjacdaaGreat
open Go.RowKit
set_option linter.unusedVariables false
set_option linter.unusedSimpArgs false
set_option maxRecDepth 100000

theorem putAt_snoc {α : Type} (l : List α) (o : Nat) (vs : List α) (v : α) (h : o + vs.length < l.length) : putAt l o (vs ++ [v]) = (putAt l o vs).set (o + vs.length) v := by
  unfold putAt
  have e1 : (l.take o).length = o := by rw [List.length_take]; omega
  have e3 : o + vs.length - (l.take o ++ vs).length = 0 := by rw [List.length_append, e1]; omega
  have e2 : l.drop (o + vs.length) = l[o + vs.length] :: l.drop (o + vs.length + 1) := List.drop_eq_getElem_cons h
  rw [List.set_append_right _ _ (by rw [List.length_append, e1]; exact Nat.le_refl _), e3, e2, List.set_cons_zero, List.length_append, List.length_singleton]
  simp [Nat.add_assoc]
theorem putAtA_snoc (cs : Array Value) (o : Nat) (vs : List Value) (v : Value) (h : o + vs.length < cs.size) : (putAtA cs o vs).setIfInBounds (o + vs.length) v = putAtA cs o (vs ++ [v]) := by
  unfold putAtA
  rw [putAt_snoc _ _ _ _ (by simpa using h)]
  apply Array.ext'
  rw [Array.toList_setIfInBounds]
theorem byte_of (n C b : Nat) (hb : b = n / C % 256) : IntKind.u8.wrap ((n : Int) / (C : Int)) = (b : Int) := by
  rw [hb, IntKind.wrap_u8, ← Int.natCast_ediv]; omega
theorem be_val (k n i : Nat) (h : i < k) : ((be k n).map byteV)[i]? = some (.int .u8 ((n / 256 ^ (k - 1 - i) % 256 : Nat) : Int)) := by
  rw [List.getElem?_map, be_get k n i h]
  simp only [Option.map_some]
  unfold byteV
  rw [UInt8.toNat_ofNat']
theorem take_snoc {α : Type} (l : List α) (k : Nat) (x : α) (h : l[k]? = some x) : l.take (k + 1) = l.take k ++ [x] := by
  rw [List.take_add_one, h]; rfl
set_option maxHeartbeats 4000000 in
theorem put64_in {w : World} {g : Nat} {cs : Array Value} {t : TypeId} (h : Row w g cs t) (off len cap at_ n : Nat) (h1 : at_ + 8 ≤ len) (hc : len ≤ cap) (hcap : cap ≤ 9223372036854775807) (hsz : off + at_ + 8 ≤ cs.size) (hn : n < 18446744073709551616) :
    Calls Tryz.prog 119 #[.slice (some ⟨g, off, none⟩) len cap, .int .i64 (at_ : Int), .int .u64 (n : Int)] w fun e w' => e = .returned (.bool true) ∧ Row w' g (putAtA cs (off + at_) ((be 8 n).map byteV)) t ∧ Fr (one g) w w' := by
  have GW := Lib.hid (within64 w g off len cap at_ h1 hc (by omega))
  have H := Lib.hid h
  have h0 : Row w g (putAtA cs (off + at_) (((be 8 n).map byteV).take 0)) t := by
    have e : putAtA cs (off + at_) (((be 8 n).map byteV).take 0) = cs := by
      unfold putAtA; rw [List.take_zero, putAt_nil]
    rw [e]; exact h
  have f0 : Fr (one g) w w := Fr.refl _ _
  have hbl : ((be 8 n).map byteV).length = 8 := by rw [List.length_map, be_length]
  have HBL := Lib.hid hbl
  have HBV := Lib.hid (fun i (hi : i < 8) => be_val 8 n i hi)
  clear h hbl
  go_enter Tryz.func119, Tryz.ntmps119
  go_wp2_with fail
  refine GW.out.mono ?_
  rintro e w1 ⟨rfl, rfl⟩
  go_wp2_with fail
  go_loopw [14] (fun i wr => ∃ k : Nat, Hid (k ≤ 8) ∧ i = .int .i64 k ∧ Hid (Row wr g (putAtA cs (off + at_) (((be 8 n).map byteV).take k)) t) ∧ Hid (Fr (one g) w wr)) (fun i _ => 8 - (intOf i).toNat)
  case atStart => exact ⟨0, Nat.zero_le _, rfl, h0, f0⟩
  case round =>
    obtain ⟨k, hk, rfl, hr, hf⟩ := hrel
    clear h0 f0
    by_cases hlt : k < 8
    · have hv := HBV.out k hlt
      have hln : (((be 8 n).map byteV).take k).length = k := by rw [List.length_take, HBL.out]; omega
      have hsz2 : (putAtA cs (off + at_) (((be 8 n).map byteV).take k)).size = cs.size := putAtA_size _ _ _ (by rw [hln]; omega)
      obtain ⟨u, hu⟩ : ∃ u, (putAtA cs (off + at_) (((be 8 n).map byteV).take k))[off + at_ + k]? = some u := ⟨_, Array.getElem?_eq_getElem (by rw [hsz2]; omega)⟩
      have ck := (hr.out.cell (off + at_ + k)).trans hu
      have zk := hr.out.free (off + at_ + k)
      obtain ⟨b, hb⟩ : ∃ b, b = n / 256 ^ (8 - 1 - k) % 256 := ⟨_, rfl⟩
      rw [← hb] at hv
      have HNX := Lib.hid (show Row (wr.setCell ⟨g, off + at_ + k, none⟩ (.int .u8 (b : Int))) g (putAtA cs (off + at_) (((be 8 n).map byteV).take (k + 1))) t from by
        have q := hr.out.set (off + at_ + k) (.int .u8 (b : Int))
        have e := putAtA_snoc cs (off + at_) (((be 8 n).map byteV).take k) (.int .u8 (b : Int)) (by rw [hln]; omega)
        rw [hln] at e
        rw [take_snoc _ _ _ hv, ← e]; exact q)
      have HF := Lib.hid (hf.out.trans (Fr.setCell (one g) wr ⟨g, off + at_ + k, none⟩ (.int .u8 (b : Int)) (fun _ => rfl)))
      clear hu hv hln hsz2 hr hf
      rcases (show k = 0 ∨ k = 1 ∨ k = 2 ∨ k = 3 ∨ k = 4 ∨ k = 5 ∨ k = 6 ∨ k = 7 by omega) with rfl | rfl | rfl | rfl | rfl | rfl | rfl | rfl
      · have hby : IntKind.u8.wrap ((n : Int) / 72057594037927936) = (b : Int) := byte_of n 72057594037927936 b (by rw [hb])
        simp only [Nat.add_zero] at ck zk
        clear hb
        go_wp2_with fail
        go_roundw
        case rel => exact ⟨1, by show _ ≤ _; omega, rfl, HNX.out, HF.out⟩
        case measure => simp [intOf]
      · have hby : IntKind.u8.wrap ((n : Int) / 281474976710656) = (b : Int) := byte_of n 281474976710656 b (by rw [hb])
        clear hb
        go_wp2_with fail
        go_roundw
        case rel => exact ⟨2, by show _ ≤ _; omega, rfl, HNX.out, HF.out⟩
        case measure => simp [intOf]
      · have hby : IntKind.u8.wrap ((n : Int) / 1099511627776) = (b : Int) := byte_of n 1099511627776 b (by rw [hb])
        clear hb
        go_wp2_with fail
        go_roundw
        case rel => exact ⟨3, by show _ ≤ _; omega, rfl, HNX.out, HF.out⟩
        case measure => simp [intOf]
      · have hby : IntKind.u8.wrap ((n : Int) / 4294967296) = (b : Int) := byte_of n 4294967296 b (by rw [hb])
        clear hb
        go_wp2_with fail
        go_roundw
        case rel => exact ⟨4, by show _ ≤ _; omega, rfl, HNX.out, HF.out⟩
        case measure => simp [intOf]
      · have hby : IntKind.u8.wrap ((n : Int) / 16777216) = (b : Int) := byte_of n 16777216 b (by rw [hb])
        clear hb
        go_wp2_with fail
        go_roundw
        case rel => exact ⟨5, by show _ ≤ _; omega, rfl, HNX.out, HF.out⟩
        case measure => simp [intOf]
      · have hby : IntKind.u8.wrap ((n : Int) / 65536) = (b : Int) := byte_of n 65536 b (by rw [hb])
        clear hb
        go_wp2_with fail
        go_roundw
        case rel => exact ⟨6, by show _ ≤ _; omega, rfl, HNX.out, HF.out⟩
        case measure => simp [intOf]
      · have hby : IntKind.u8.wrap ((n : Int) / 256) = (b : Int) := byte_of n 256 b (by rw [hb])
        clear hb
        go_wp2_with fail
        go_roundw
        case rel => exact ⟨7, by show _ ≤ _; omega, rfl, HNX.out, HF.out⟩
        case measure => simp [intOf]
      · have hb7 : (b : Int) = (n : Int) % 256 := by rw [hb]; simp
        have HX := Lib.hid (And.intro HNX.out HF.out)
        rw [hb7] at HX
        clear hb hb7 HNX HF
        go_wp2_with fail
        go_roundw
        case rel => exact ⟨8, by show _ ≤ _; omega, rfl, HX.out.1, HX.out.2⟩
        case measure => simp [intOf]
    · have hke : k = 8 := by have := hk.out; omega
      have hfin := hr.out
      rw [hke, List.take_of_length_le (by rw [HBL.out]; exact Nat.le_refl _)] at hfin
      have HFIN := Lib.hid hfin
      clear hke hfin hr
      go_wp2_with fail
      go_ret
      exact ⟨rfl, HFIN.out, hf.out⟩
theorem put64 {w : World} {g : Nat} {cs : Array Value} {t : TypeId} (h : Row w g cs t) (off len cap at_ n : Nat) (h1 : at_ + 8 ≤ len) (hc : len ≤ cap) (hcap : cap ≤ 9223372036854775807) (hsz : off + at_ + 8 ≤ cs.size) (hn : n < 18446744073709551616) :
    Calls Tryz.prog 90 #[.slice (some ⟨g, off, none⟩) len cap, .int .i64 (at_ : Int), .int .u64 (n : Int)] w fun e w' => e = .returned (.bool true) ∧ Row w' g (putAtA cs (off + at_) ((be 8 n).map byteV)) t ∧ Fr (one g) w w' := by
  have GI := Lib.hid (put64_in h off len cap at_ n h1 hc hcap hsz hn)
  clear h
  go_enter Tryz.func90, Tryz.ntmps90
  go_wp2_with fail
  refine GI.out.mono ?_
  rintro e w1 ⟨rfl, hr, hf⟩
  go_wp2_with fail
  go_ret
  exact ⟨rfl, hr, hf⟩
end Go.Proofs.YtckkccnebjacdaaGreat
namespace Go.Proofs.YtckkccnebjacdaaGreat
open Go.RowKit
set_option linter.unusedVariables false
set_option linter.unusedSimpArgs false
set_option maxRecDepth 100000

theorem putAt_mid {α : Type} (p q r vs : List α) (o : Nat) (ho : p.length = o) (h : q.length = vs.length) : putAt (p ++ (q ++ r)) o vs = p ++ (vs ++ r) := by
  subst ho
  have e1 : (p ++ (q ++ r)).take p.length = p := List.take_left' rfl
  have e2 : (p ++ (q ++ r)).drop (p.length + vs.length) = r := by
    rw [← List.append_assoc]
    exact List.drop_left' (by rw [List.length_append, h])
  unfold putAt
  rw [e1, e2, List.append_assoc]
theorem set_mid {α : Type} (p r : List α) (u v : α) (o : Nat) (ho : p.length = o) : (p ++ u :: r).set o v = p ++ v :: r := by
  subst ho
  rw [List.set_append_right _ _ (Nat.le_refl _), Nat.sub_self]; rfl
def zb : Value := byteV 0
theorem putAtA_list (L vs : List Value) (o : Nat) : putAtA L.toArray o vs = (putAt L o vs).toArray := by unfold putAtA; simp
theorem add_str (l : List UInt8) (b : ByteArray) : strOf l ++ b = strOf (l ++ b.data.toList) := by
  apply ByteArray.ext
  simp [strOf]
theorem u8i : (Tryz.prog.info? 5).map (fun i => (i.zero, i.size, i.bytes)) = some (some (.int .u8 0), 1, 1) := by kernel_rfl
theorem be2 (k : Nat) : be 2 k = [UInt8.ofNat (k / 256), UInt8.ofNat k] := by
  unfold be; unfold be; unfold be; rfl
section arms
variable {P : Program} {w : World} {ops : Array Oper} {rest : List Oper} {o : Oper} {a : Act} {Q : Exit → Act → World → Prop}
/-- []byte(s). -/
theorem wpBytesOf (hg : Region.wanted o (yielded ops a.tmps) = true) (x : Operand) (src dst e : TypeId) (hop : o.op = Op.convert src dst x) (hs : P.underlying src = some .string) (hd : P.underlying dst = some (.slice e)) (he : P.underlying e = some (.int .u8))
    (s : ByteArray) (hx : a.eval x = .string s) (hsz : s.size ≤ 1000000)
    (hK : ∀ cap w', s.size ≤ cap → cap ≤ 9223372036854775807 → (∀ (j : Nat) (b : UInt8), s.data.toList[j]? = some b → w'.cell? ⟨w.heap.size, j, none⟩ = some (byteV b)) → Fr none_ w w' → wpList P ops Q rest (a.put o.dst (.slice (some ⟨w.heap.size, 0, none⟩) s.size cap)) w') : wpList P ops Q (o :: rest) a w := by
  refine wpList_go hg fun K' hK' => ?_
  have hr := run_bytes_of_string (P := P) w src dst e s hs hd he
  have hml : s.size ≤ maxLen := by unfold maxLen; omega
  have h1 := grownCap_ge w s.size 0 e
  have h2 := grownCap_le_maxLen w s.size 0 e hml
  obtain ⟨C, hC⟩ : ∃ C, C = grownCap w s.size 0 e := ⟨_, rfl⟩
  rw [← hC] at hr h1 h2
  unfold Oper.wp
  simp [execOp, hop, hx, hr, Result.andThen]
  refine hK' _ _ (hK C _ h1 (by unfold maxLen at h2; omega) ?_ ((Fr.refl _ _).drew_r.alloc_r _))
  intro j b hj
  have hlt : j < s.data.size := by
    have := (List.getElem?_eq_some_iff.1 hj).1
    simpa using this
  have hb : (w.drew.alloc (.cells (bytesRow s C) e ((bytesRow s C).size, (bytesRow s C).size + 1))).heap[w.heap.size]? = some (.cells (bytesRow s C) e ((bytesRow s C).size, (bytesRow s C).size + 1)) := by
    show (w.heap.push _)[w.heap.size]? = _
    simp
  unfold World.cell?
  rw [hb]
  simp only [bytesRow]
  rw [Array.getElem?_append_left (by simpa using hlt)]
  rw [Array.getElem?_map]
  have : s.data[j]? = some b := by simpa using hj
  rw [this]; rfl
end arms
end Go.Proofs.YtckkccnebjacdaaGreat
