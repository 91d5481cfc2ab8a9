/-
  Package chain: New.
  Package chain: an engine in memory; Used, Free.
  Numbers as bytes, the greatest first; a version's bytes (plain; for layer 17). Nothing of the program in it.
  Walks of package bits: eight bytes got and put.
  Walks of package bits: eight bytes put.
  Package chain: a version's bytes.
-/
import Derived.Test.YteefcfndlggajaaMgTextMay
import Derived.Test.YteefcfndlggajaaArUp
import Derived.Test.YteefcfndlggajaaMgOwn
import Derived.Lib.EndianBits
namespace Go.Proofs.Yteefcfndlggajaa
open Go.RowKit
set_option linter.unusedVariables false
set_option linter.unusedSimpArgs false
set_option maxRecDepth 100000

/-- The engine's struct: its config, its arena. -/
def chainCells (c : CfgV) (a : Nat) : Array Value := #[.int .i64 c.tasks, .int .i64 c.active, .int .i64 c.keys, .int .i64 c.depth, .int .i64 c.ts, .int .i64 c.keyLen, .int .i64 c.valLen, .int .i64 c.fan, .pointer (some ⟨a, 0, none⟩)]
set_option maxHeartbeats 2000000 in
theorem Chain_New_no (w : World) (c : CfgV) (h : c.may = false) :
    Calls Try.prog 24 #[.agg c.cells] w fun e w' => e = .returned (.tuple #[.pointer none, .int .i64 1]) ∧ Fr none_ w w' := by
  have GM := Lib.hid (fun w => May_any w c)
  rw [h] at GM
  have fB := Lib.hid (Fr.alloc none_ w (.cells c.cells 23))
  obtain ⟨x0, x1, x2, x3, x4, x5, x6, x7⟩ := c
  unfold CfgV.cells at GM fB ⊢
  simp only at GM fB ⊢
  clear h
  go_enter Try.func24, Try.ntmps24
  go_wp2_with fail
  refine (GM.out _).mono ?_
  rintro e w1 ⟨rfl, f1⟩
  go_wp2_with fail
  go_ret2
  exact ⟨rfl, fB.out.trans f1⟩
set_option maxHeartbeats 2000000 in
theorem Chain_New_yes (w : World) (c : CfgV) (h : c.may = true) (vl : Nat) (hv : c.valLen = vl) (hvl : vl ≤ 256) :
    Calls Try.prog 24 #[.agg c.cells] w fun e w' => ∃ x a F, e = .returned (.tuple #[.pointer (some ⟨x, 0, none⟩), .int .i64 0]) ∧ Row w' x (chainCells c a) 78 ∧ Ar F w' a (AS.new (27 + vl)) ∧ Fr none_ w w' ∧ w.heap.size ≤ x ∧ ¬ F x ∧ ∀ k, F k → w.heap.size ≤ k := by
  have GM := Lib.hid (fun w => May_any w c)
  rw [h] at GM
  have fB := Lib.hid (Fr.alloc none_ w (.cells c.cells 23))
  have GA := Lib.hid (fun w => ar_new w (27 + vl) (by omega) (by omega))
  obtain ⟨sl, hsl⟩ : ∃ sl, sl = 27 + vl := ⟨_, rfl⟩
  have hw1 : IntKind.i64.wrap (27 + (vl : Int)) = (sl : Int) := by rw [show 27 + (vl : Int) = (sl : Int) by omega]; exact IntWalk.i64_in _ (by omega)
  rw [← hsl] at GA ⊢
  unfold chainCells
  obtain ⟨x0, x1, x2, x3, x4, x5, x6, x7⟩ := c
  simp only at hv
  subst hv
  unfold CfgV.cells at GM fB ⊢
  simp only at GM fB ⊢
  have hk6 : ∀ w1, Fr none_ (w.alloc (.cells #[.int .i64 x0, .int .i64 x1, .int .i64 x2, .int .i64 x3, .int .i64 x4, .int .i64 x5, .int .i64 (vl : Int), .int .i64 x7] 23)) w1 → ∀ (j : Nat) (v : Value), #[Value.int .i64 x0, .int .i64 x1, .int .i64 x2, .int .i64 x3, .int .i64 x4, .int .i64 x5, .int .i64 (vl : Int), .int .i64 x7][j]? = some v → w1.cell? ⟨w.heap.size, j, none⟩ = some v := fun w1 f j v hj => Fr.keep f (((Row.new w _ _).cell j).trans hj)
  have HK := Lib.hid hk6
  clear h hsl hk6
  go_enter Try.func24, Try.ntmps24
  go_wp2_with fail
  refine (GM.out _).mono ?_
  rintro e w1 ⟨rfl, f1⟩
  have c6 := HK.out _ f1 6 _ rfl
  go_wp2_with fail
  refine (GA.out _).mono ?_
  rintro e w2 ⟨F, a, rfl, ha, f2, hF⟩
  have f12 := f1.trans f2
  have k0 := HK.out _ f12 0 _ rfl
  have k1 := HK.out _ f12 1 _ rfl
  have k2 := HK.out _ f12 2 _ rfl
  have k3 := HK.out _ f12 3 _ rfl
  have k4 := HK.out _ f12 4 _ rfl
  have k5 := HK.out _ f12 5 _ rfl
  have k6 := HK.out _ f12 6 _ rfl
  have k7 := HK.out _ f12 7 _ rfl
  have HX := Lib.hid (And.intro ha (And.intro (fB.out.trans f12) (And.intro hF (fB.out.trans f1).size)))
  clear ha f1 f2 hF f12 c6
  go_wp2_with fail
  go_ret2
  obtain ⟨ha, hf, hF, hz⟩ := HX.out
  have fa := Fr.alloc none_ w2 (.cells #[.int .i64 x0, .int .i64 x1, .int .i64 x2, .int .i64 x3, .int .i64 x4, .int .i64 x5, .int .i64 (vl : Int), .int .i64 x7, .pointer (some ⟨a, 0, none⟩)] 78)
  exact ⟨_, a, F, rfl, Row.new w2 _ _, ha.kept0 fa, hf.trans fa, hf.size, fun e => Nat.lt_irrefl _ (ha.lt _ e), fun k hk => Nat.le_trans hz (hF k hk)⟩
end Go.Proofs.Yteefcfndlggajaa
namespace Go.Proofs.Yteefcfndlggajaa
open Go.RowKit
set_option linter.unusedVariables false
set_option linter.unusedSimpArgs false
set_option maxRecDepth 100000

/-- An engine at x, of a config, over an arena at a that owns the blocks F. -/
structure ChAt (w : World) (x a : Nat) (F : Nat → Prop) (c : CfgV) (s : AS) : Prop where
  row : Row w x (chainCells c a) 78
  ar : Ar F w a s
  nx : ¬ F x
section
variable {w w' : World} {x a : Nat} {F F' : Nat → Prop} {c : CfgV} {s s' : AS}
theorem ChAt.arena (h : ChAt w x a F c s) : w.cell? ⟨x, 8, none⟩ = some (.pointer (some ⟨a, 0, none⟩)) := (h.row.cell 8).trans rfl
theorem ChAt.vlen (h : ChAt w x a F c s) : w.cell? ⟨x, 6, none⟩ = some (.int .i64 c.valLen) := (h.row.cell 6).trans rfl
theorem ChAt.kept0 (h : ChAt w x a F c s) (f : Fr none_ w w') : ChAt w' x a F c s := ⟨h.row.kept f (fun e => e), h.ar.kept0 f, h.nx⟩
theorem ChAt.turn (h : ChAt w x a F c s) (ha : Ar F' w' a s') (f : Fr F w w') (g : Grow F F' w) : ChAt w' x a F' c s' := ⟨h.row.kept f h.nx, ha, fun e => by
  rcases g x e with q | q
  · exact h.nx q
  · have := h.row.lt; omega⟩
theorem Chain_Used (h : ChAt w x a F c s) : Calls Try.prog 16 #[.pointer (some ⟨x, 0, none⟩)] w fun e w' => e = .returned (.int .i64 (s.used : Int)) ∧ w = w' := by
  have GU := Lib.hid (ar_used h.ar)
  have c8 := h.arena
  clear h
  go_enter Try.func16, Try.ntmps16
  go_wp2_with fail
  refine GU.out.mono ?_
  rintro e w1 ⟨rfl, rfl⟩
  go_wp2_with fail
  go_ret
  exact ⟨rfl, rfl⟩
theorem Chain_Free {N : Nat} (h : ChAt w x a F c s) (hu : Upto N s) (hN : N < big) {hd : Nat} (hh : hd < 18446744073709551616) : Calls Try.prog 17 #[.pointer (some ⟨x, 0, none⟩), .int .u64 (hd : Int)] w fun e w' => e = .returned (.int .i64 ((aFree s hd).1 : Int)) ∧ ChAt w' x a F c (aFree s hd).2 ∧ Fr F w w' := by
  have GU := Lib.hid (ar_free h.ar hu hN hh)
  have c8 := h.arena
  have H := Lib.hid h
  clear h
  generalize (aFree s hd).2 = s1 at GU ⊢
  generalize (aFree s hd).1 = E at GU ⊢
  go_enter Try.func17, Try.ntmps17
  go_wp2_with fail
  refine GU.out.mono ?_
  rintro e w1 ⟨rfl, ha, f1⟩
  have HX := Lib.hid (And.intro ha f1)
  clear ha f1
  go_wp2_with fail
  go_ret
  exact ⟨rfl, H.out.turn HX.out.1 HX.out.2 (Grow.refl _ _), HX.out.2⟩
end
end Go.Proofs.Yteefcfndlggajaa
namespace Go.Proofs.Yteefcfndlggajaa
open Go.RowKit
set_option linter.unusedVariables false
set_option linter.unusedSimpArgs false

def be : Nat → Nat → List UInt8
  | 0, _ => []
  | k + 1, n => be k (n / 256) ++ [UInt8.ofNat n]
def beN (l : List UInt8) : Nat := l.foldl (fun a b => a * 256 + b.toNat) 0
theorem be_length (k n : Nat) : (be k n).length = k := by
  induction k generalizing n with
  | zero => rfl
  | succ k ih => unfold be; rw [List.length_append, ih]; rfl
theorem beN_snoc (l : List UInt8) (b : UInt8) : beN (l ++ [b]) = beN l * 256 + b.toNat := by unfold beN; rw [List.foldl_append]; rfl
theorem beN_be (k n : Nat) (h : n < 256 ^ k) : beN (be k n) = n := by
  induction k generalizing n with
  | zero => simp at h; subst h; rfl
  | succ k ih =>
    unfold be
    have h2 : n / 256 < 256 ^ k := by rw [Nat.pow_succ] at h; omega
    rw [beN_snoc, ih _ h2]
    have : (UInt8.ofNat n).toNat = n % 256 := by rw [UInt8.toNat_ofNat']
    rw [this]; omega
theorem be_get (k n i : Nat) (h : i < k) : (be k n)[i]? = some (UInt8.ofNat (n / 256 ^ (k - 1 - i))) := by
  induction k generalizing n with
  | zero => omega
  | succ k ih =>
    unfold be
    by_cases e : i < k
    · rw [List.getElem?_append_left (by rw [be_length]; exact e), ih _ e, Nat.div_div_eq_div_mul, ← Nat.pow_succ']
      congr 4; omega
    · have hik : i = k := by omega
      subst hik
      rw [List.getElem?_append_right (by rw [be_length]; exact Nat.le_refl _), be_length, Nat.sub_self]
      simp
theorem foldl_lt (l : List UInt8) (a : Nat) : l.foldl (fun a b => a * 256 + b.toNat) a < (a + 1) * 256 ^ l.length := by
  induction l generalizing a with
  | nil => simp
  | cons b r ih =>
    rw [List.foldl_cons, List.length_cons, Nat.pow_succ']
    have h1 := ih (a * 256 + b.toNat)
    have hb := b.toNat_lt
    have h2 : (a * 256 + b.toNat + 1) * 256 ^ r.length ≤ ((a + 1) * 256) * 256 ^ r.length := Nat.mul_le_mul_right _ (by omega)
    rw [Nat.mul_assoc] at h2
    omega
theorem beN_lt (l : List UInt8) : beN l < 256 ^ l.length := by
  have := foldl_lt l 0
  simpa [beN] using this

/-- A version in a slot: who wrote it, its stamp, the next one's handle, whether it is a tombstone, its value. -/
structure NV where
  wr : Nat
  ts : Nat
  nx : Nat
  tomb : Bool
  val : ByteArray
def NV.head (n : NV) : List UInt8 := be 8 n.wr ++ be 8 n.ts ++ be 8 n.nx ++ [if n.tomb then 1 else 0] ++ be 2 n.val.size
def NV.enc (n : NV) : List UInt8 := n.head ++ n.val.data.toList
theorem NV.head_length (n : NV) : n.head.length = 27 := by unfold NV.head; simp [be_length]
theorem NV.enc_length (n : NV) : n.enc.length = 27 + n.val.size := by unfold NV.enc; rw [List.length_append, n.head_length]; rfl
/-- The pieces of a slot that begins with a version's bytes. -/
theorem NV.pieces (n : NV) (pad : List UInt8) :
    ((n.enc ++ pad).take 8 = be 8 n.wr) ∧ (((n.enc ++ pad).drop 8).take 8 = be 8 n.ts) ∧ (((n.enc ++ pad).drop 16).take 8 = be 8 n.nx) ∧
    ((n.enc ++ pad)[24]? = some (if n.tomb then 1 else 0)) ∧ (((n.enc ++ pad).drop 25).take 2 = be 2 n.val.size) ∧ (((n.enc ++ pad).drop 27).take n.val.size = n.val.data.toList) := by
  have hv : n.val.data.toList.length = n.val.size := rfl
  unfold NV.enc NV.head
  refine ⟨?_, ?_, ?_, ?_, ?_, ?_⟩
  · simp only [List.append_assoc]
    exact List.take_left' (be_length 8 _)
  · simp only [List.append_assoc]
    rw [List.drop_left' (be_length 8 _)]
    exact List.take_left' (be_length 8 _)
  · simp only [List.append_assoc]
    have e : ∀ r : List UInt8, (be 8 n.wr ++ (be 8 n.ts ++ r)).drop 16 = r := fun r => by
      rw [← List.append_assoc]; exact List.drop_left' (by rw [List.length_append, be_length, be_length])
    rw [e]
    exact List.take_left' (be_length 8 _)
  · simp only [List.append_assoc]
    rw [List.getElem?_append_right (by rw [be_length]; omega), be_length, List.getElem?_append_right (by rw [be_length]; omega), be_length, List.getElem?_append_right (by rw [be_length]; omega), be_length]
    rfl
  · have e : ∀ r : List UInt8, ((be 8 n.wr ++ be 8 n.ts ++ be 8 n.nx ++ [if n.tomb then 1 else 0]) ++ r).drop 25 = r := fun r => List.drop_left' (by simp [be_length])
    have a : be 8 n.wr ++ be 8 n.ts ++ be 8 n.nx ++ [if n.tomb then 1 else 0] ++ be 2 n.val.size ++ n.val.data.toList ++ pad = (be 8 n.wr ++ be 8 n.ts ++ be 8 n.nx ++ [if n.tomb then 1 else 0]) ++ (be 2 n.val.size ++ (n.val.data.toList ++ pad)) := by simp only [List.append_assoc]
    rw [a, e]
    exact List.take_left' (be_length 2 _)
  · have e : ∀ r : List UInt8, ((be 8 n.wr ++ be 8 n.ts ++ be 8 n.nx ++ [if n.tomb then 1 else 0] ++ be 2 n.val.size) ++ r).drop 27 = r := fun r => List.drop_left' (by simp [be_length])
    rw [List.append_assoc _ n.val.data.toList pad, e]
    exact List.take_left' hv
end Go.Proofs.Yteefcfndlggajaa
namespace Go.Proofs.Yteefcfndlggajaa
open Go.RowKit
set_option linter.unusedVariables false
set_option linter.unusedSimpArgs false
set_option maxRecDepth 100000

set_option maxHeartbeats 1000000 in
theorem wide64 (w : World) :
    Calls Try.prog 100 #[] w fun e w' => e = .returned (.int .i64 8) ∧ w = w' := by
  go_enter Try.func100, Try.ntmps100
  go_wp2
  go_rounds 9
  go_ret
  exact ⟨rfl, rfl⟩
set_option maxHeartbeats 400000 in
theorem within64 (w : World) (bk off len cap at_ : Nat) (h1 : at_ + 8 ≤ len) (hc : len ≤ cap) (hcap : cap ≤ 9223372036854775807) :
    Calls Try.prog 87 #[.slice (some ⟨bk, off, none⟩) len cap, .int .i64 (at_ : Int)] w fun e w' => e = .returned (.slice (some ⟨bk, off + at_, none⟩) 8 (cap - at_)) ∧ w = w' := by
  have hw1 : IntKind.i64.wrap ((len : Int) - 8) = (len : Int) - 8 := IntWalk.i64_in _ (by omega)
  have hw2 : IntKind.i64.wrap ((at_ : Int) + 8) = ((at_ + 8 : Nat) : Int) := IntWalk.i64_in _ (by omega)
  have a1 : ¬ (at_ : Int) < 0 := by omega
  have a2 : ¬ (len : Int) - 8 < (at_ : Int) := by omega
  go_enter Try.func87, Try.ntmps87
  go_wp2_with (go_at_call 100; refine (wide64 _).mono ?_; rintro e w' ⟨rfl, rfl⟩)
  go_ret
  have e : ((at_ : Int) + 8).toNat - at_ = 8 := by omega
  first
    | exact ⟨rfl, rfl⟩
    | exact ⟨congrArg (fun n => Ending.returned (.slice (some ⟨bk, off + at_, none⟩) n (cap - at_))) e, rfl⟩
    | exact ⟨congrArg (fun n => Ending.returned (.slice (some ⟨bk, off + at_, none⟩) n (cap - at_))) (by omega), rfl⟩
theorem or_step (v b : Nat) (hv : v < 72057594037927936) (hb : b < 256) : bits BinOp.or IntKind.u64 (IntKind.u64.wrap ((v : Int) * 256)) (b : Int) = ((v * 256 + b : Nat) : Int) := by
  have hw : IntKind.u64.wrap ((v : Int) * 256) = (v : Int) * 256 := by rw [IntKind.wrap_u64]; omega
  rw [hw]
  have a := bits_join .u64 64 (by decide) (fun n h0 h1 => wraps_u64 n h0 h1) 8 ((v : Int) * 256) (b : Int) (by omega) (by omega) (by omega) (by omega) (by omega) (by omega)
  rw [a]; omega
theorem pow_le7 {k : Nat} (h : k < 8) : 256 ^ k ≤ 72057594037927936 := by
  have : 256 ^ k ≤ 256 ^ 7 := Nat.pow_le_pow_right (by omega) (by omega)
  have e : (256 : Nat) ^ 7 = 72057594037927936 := by decide
  omega
set_option maxHeartbeats 1000000 in
theorem get64_in {w : World} {g : Nat} (off len cap at_ : Nat) (h1 : at_ + 8 ≤ len) (hc : len ≤ cap) (hcap : cap ≤ 9223372036854775807) (bs : List UInt8) (hl : bs.length = 8) (hb : ∀ (i : Nat) (b : UInt8), bs[i]? = some b → w.cell? ⟨g, off + at_ + i, none⟩ = some (byteV b)) :
    Calls Try.prog 63 #[.slice (some ⟨g, off, none⟩) len cap, .int .i64 (at_ : Int)] w fun e w' => e = .returned (.tuple #[.int .u64 (beN bs : Int), .bool true]) ∧ w = w' := by
  have GW := Lib.hid (within64 w g off len cap at_ h1 hc hcap)
  have HB := Lib.hid hb
  have HL := Lib.hid hl
  clear hb hl
  go_enter Try.func63, Try.ntmps63
  go_wp2_with fail
  refine GW.out.mono ?_
  rintro e w1 ⟨rfl, rfl⟩
  go_wp2_with fail
  go_loop [7, 15] (fun n i => ∃ k v : Nat, Hid (k ≤ 8) ∧ i = .int .i64 k ∧ n = .int .u64 v ∧ Hid (v = beN (bs.take k))) (fun _ i => 8 - (intOf i).toNat)
  case atStart => exact ⟨0, 0, Nat.zero_le _, rfl, rfl, rfl⟩
  case round =>
    obtain ⟨k, v, hk, rfl, rfl, hv⟩ := hrel
    by_cases hlt : k < 8
    · obtain ⟨b, hbk⟩ : ∃ b, bs[k]? = some b := ⟨bs[k]'(by rw [HL.out]; exact hlt), List.getElem?_eq_getElem _⟩
      have ck := HB.out k b hbk
      unfold byteV at ck
      have hvl : v < 72057594037927936 := by
        rw [hv.out]
        have a := beN_lt (bs.take k)
        rw [List.length_take, HL.out, Nat.min_eq_left (by omega)] at a
        exact Nat.lt_of_lt_of_le a (pow_le7 hlt)
      have hbl : b.toNat < 256 := b.toNat_lt
      have hor := or_step v b.toNat hvl hbl
      have hwb : IntKind.u64.wrap (b.toNat : Int) = (b.toNat : Int) := by rw [IntKind.wrap_u64]; omega
      have HS := Lib.hid (show v * 256 + b.toNat = beN (bs.take (k + 1)) by
        rw [List.take_add_one, hbk]
        show _ = beN (bs.take k ++ [b])
        rw [beN_snoc, ← hv.out])
      generalize b.toNat = bn at ck hor hwb hbl HS
      clear hbk hvl
      go_wp2_with fail
      go_round
      case rel => exact ⟨k + 1, v * 256 + bn, hlt, by go_num, by first | rfl | (rw [hor]), HS⟩
      case measure => simp [intOf]; omega
    · have hke : k = 8 := by have := hk.out; omega
      have hve : v = beN bs := by rw [hv.out, hke, List.take_of_length_le (by rw [HL.out]; exact Nat.le_refl _)]
      have HVE := Lib.hid hve
      clear hke hve
      go_wp2_with fail
      go_ret2
      exact ⟨by rw [← HVE.out]; rfl, rfl⟩
theorem get64_cells {w : World} {g : Nat} (off len cap at_ : Nat) (h1 : at_ + 8 ≤ len) (hc : len ≤ cap) (hcap : cap ≤ 9223372036854775807) (bs : List UInt8) (hl : bs.length = 8) (hb : ∀ (i : Nat) (b : UInt8), bs[i]? = some b → w.cell? ⟨g, off + at_ + i, none⟩ = some (byteV b)) :
    Calls Try.prog 33 #[.slice (some ⟨g, off, none⟩) len cap, .int .i64 (at_ : Int)] w fun e w' => e = .returned (.tuple #[.int .u64 (beN bs : Int), .bool true]) ∧ w = w' := by
  have GI := Lib.hid (get64_in off len cap at_ h1 hc hcap bs hl hb)
  clear hb hl
  go_enter Try.func33, Try.ntmps33
  go_wp2_with fail
  refine GI.out.mono ?_
  rintro e w1 ⟨rfl, rfl⟩
  go_wp2_with fail
  go_ret2
  exact ⟨rfl, rfl⟩
theorem get64 {w : World} {g : Nat} {cs : Array Value} {t : TypeId} (h : Row w g cs t) (off len cap at_ : Nat) (h1 : at_ + 8 ≤ len) (hc : len ≤ cap) (hcap : cap ≤ 9223372036854775807) (bs : List UInt8) (hl : bs.length = 8) (hb : ∀ (i : Nat) (b : UInt8), bs[i]? = some b → cs[off + at_ + i]? = some (byteV b)) :
    Calls Try.prog 33 #[.slice (some ⟨g, off, none⟩) len cap, .int .i64 (at_ : Int)] w fun e w' => e = .returned (.tuple #[.int .u64 (beN bs : Int), .bool true]) ∧ w = w' :=
  get64_cells off len cap at_ h1 hc hcap bs hl (fun i b e => (h.cell (off + at_ + i)).trans (hb i b e))
end Go.Proofs.Yteefcfndlggajaa
namespace Go.Proofs.Yteefcfndlggajaa
open Go.RowKit
set_option linter.unusedVariables false
set_option linter.unusedSimpArgs false
set_option maxRecDepth 100000

theorem putAt_snoc {α : Type} (l : List α) (o : Nat) (vs : List α) (v : α) (h : o + vs.length < l.length) : putAt l o (vs ++ [v]) = (putAt l o vs).set (o + vs.length) v := by
  unfold putAt
  have e1 : (l.take o).length = o := by rw [List.length_take]; omega
  have e3 : o + vs.length - (l.take o ++ vs).length = 0 := by rw [List.length_append, e1]; omega
  have e2 : l.drop (o + vs.length) = l[o + vs.length] :: l.drop (o + vs.length + 1) := List.drop_eq_getElem_cons h
  rw [List.set_append_right _ _ (by rw [List.length_append, e1]; exact Nat.le_refl _), e3, e2, List.set_cons_zero, List.length_append, List.length_singleton]
  simp [Nat.add_assoc]
theorem putAtA_snoc (cs : Array Value) (o : Nat) (vs : List Value) (v : Value) (h : o + vs.length < cs.size) : (putAtA cs o vs).setIfInBounds (o + vs.length) v = putAtA cs o (vs ++ [v]) := by
  unfold putAtA
  rw [putAt_snoc _ _ _ _ (by simpa using h)]
  apply Array.ext'
  rw [Array.toList_setIfInBounds]
theorem byte_of (n C b : Nat) (hb : b = n / C % 256) : IntKind.u8.wrap ((n : Int) / (C : Int)) = (b : Int) := by
  rw [hb, IntKind.wrap_u8, ← Int.natCast_ediv]; omega
theorem be_val (k n i : Nat) (h : i < k) : ((be k n).map byteV)[i]? = some (.int .u8 ((n / 256 ^ (k - 1 - i) % 256 : Nat) : Int)) := by
  rw [List.getElem?_map, be_get k n i h]
  simp only [Option.map_some]
  unfold byteV
  rw [UInt8.toNat_ofNat']
theorem take_snoc {α : Type} (l : List α) (k : Nat) (x : α) (h : l[k]? = some x) : l.take (k + 1) = l.take k ++ [x] := by
  rw [List.take_add_one, h]; rfl
set_option maxHeartbeats 4000000 in
theorem put64_in {w : World} {g : Nat} {cs : Array Value} {t : TypeId} (h : Row w g cs t) (off len cap at_ n : Nat) (h1 : at_ + 8 ≤ len) (hc : len ≤ cap) (hcap : cap ≤ 1000000) (hsz : off + at_ + 8 ≤ cs.size) (hn : n < 18446744073709551616) :
    Calls Try.prog 91 #[.slice (some ⟨g, off, none⟩) len cap, .int .i64 (at_ : Int), .int .u64 (n : Int)] w fun e w' => e = .returned (.bool true) ∧ Row w' g (putAtA cs (off + at_) ((be 8 n).map byteV)) t ∧ Fr (one g) w w' := by
  have GW := Lib.hid (within64 w g off len cap at_ h1 hc (by omega))
  have H := Lib.hid h
  have h0 : Row w g (putAtA cs (off + at_) (((be 8 n).map byteV).take 0)) t := by
    have e : putAtA cs (off + at_) (((be 8 n).map byteV).take 0) = cs := by
      unfold putAtA; rw [List.take_zero, putAt_nil]
    rw [e]; exact h
  have f0 : Fr (one g) w w := Fr.refl _ _
  have hbl : ((be 8 n).map byteV).length = 8 := by rw [List.length_map, be_length]
  have HBL := Lib.hid hbl
  have HBV := Lib.hid (fun i (hi : i < 8) => be_val 8 n i hi)
  clear h hbl
  go_enter Try.func91, Try.ntmps91
  go_wp2_with fail
  refine GW.out.mono ?_
  rintro e w1 ⟨rfl, rfl⟩
  go_wp2_with fail
  go_loopw [14] (fun i wr => ∃ k : Nat, Hid (k ≤ 8) ∧ i = .int .i64 k ∧ Hid (Row wr g (putAtA cs (off + at_) (((be 8 n).map byteV).take k)) t) ∧ Hid (Fr (one g) w wr)) (fun i _ => 8 - (intOf i).toNat)
  case atStart => exact ⟨0, Nat.zero_le _, rfl, h0, f0⟩
  case round =>
    obtain ⟨k, hk, rfl, hr, hf⟩ := hrel
    clear h0 f0
    by_cases hlt : k < 8
    · have hv := HBV.out k hlt
      have hln : (((be 8 n).map byteV).take k).length = k := by rw [List.length_take, HBL.out]; omega
      have hsz2 : (putAtA cs (off + at_) (((be 8 n).map byteV).take k)).size = cs.size := putAtA_size _ _ _ (by rw [hln]; omega)
      obtain ⟨u, hu⟩ : ∃ u, (putAtA cs (off + at_) (((be 8 n).map byteV).take k))[off + at_ + k]? = some u := ⟨_, Array.getElem?_eq_getElem (by rw [hsz2]; omega)⟩
      have ck := (hr.out.cell (off + at_ + k)).trans hu
      have zk := hr.out.free (off + at_ + k)
      obtain ⟨b, hb⟩ : ∃ b, b = n / 256 ^ (8 - 1 - k) % 256 := ⟨_, rfl⟩
      rw [← hb] at hv
      have HNX := Lib.hid (show Row (wr.setCell ⟨g, off + at_ + k, none⟩ (.int .u8 (b : Int))) g (putAtA cs (off + at_) (((be 8 n).map byteV).take (k + 1))) t from by
        have q := hr.out.set (off + at_ + k) (.int .u8 (b : Int))
        have e := putAtA_snoc cs (off + at_) (((be 8 n).map byteV).take k) (.int .u8 (b : Int)) (by rw [hln]; omega)
        rw [hln] at e
        rw [take_snoc _ _ _ hv, ← e]; exact q)
      have HF := Lib.hid (hf.out.trans (Fr.setCell (one g) wr ⟨g, off + at_ + k, none⟩ (.int .u8 (b : Int)) (fun _ => rfl)))
      clear hu hv hln hsz2 hr hf
      rcases (show k = 0 ∨ k = 1 ∨ k = 2 ∨ k = 3 ∨ k = 4 ∨ k = 5 ∨ k = 6 ∨ k = 7 by omega) with rfl | rfl | rfl | rfl | rfl | rfl | rfl | rfl
      · have hby : IntKind.u8.wrap ((n : Int) / 72057594037927936) = (b : Int) := byte_of n 72057594037927936 b (by rw [hb])
        simp only [Nat.add_zero] at ck zk
        clear hb
        go_wp2_with fail
        go_roundw
        case rel => exact ⟨1, by show _ ≤ _; omega, rfl, HNX.out, HF.out⟩
        case measure => simp [intOf]
      · have hby : IntKind.u8.wrap ((n : Int) / 281474976710656) = (b : Int) := byte_of n 281474976710656 b (by rw [hb])
        clear hb
        go_wp2_with fail
        go_roundw
        case rel => exact ⟨2, by show _ ≤ _; omega, rfl, HNX.out, HF.out⟩
        case measure => simp [intOf]
      · have hby : IntKind.u8.wrap ((n : Int) / 1099511627776) = (b : Int) := byte_of n 1099511627776 b (by rw [hb])
        clear hb
        go_wp2_with fail
        go_roundw
        case rel => exact ⟨3, by show _ ≤ _; omega, rfl, HNX.out, HF.out⟩
        case measure => simp [intOf]
      · have hby : IntKind.u8.wrap ((n : Int) / 4294967296) = (b : Int) := byte_of n 4294967296 b (by rw [hb])
        clear hb
        go_wp2_with fail
        go_roundw
        case rel => exact ⟨4, by show _ ≤ _; omega, rfl, HNX.out, HF.out⟩
        case measure => simp [intOf]
      · have hby : IntKind.u8.wrap ((n : Int) / 16777216) = (b : Int) := byte_of n 16777216 b (by rw [hb])
        clear hb
        go_wp2_with fail
        go_roundw
        case rel => exact ⟨5, by show _ ≤ _; omega, rfl, HNX.out, HF.out⟩
        case measure => simp [intOf]
      · have hby : IntKind.u8.wrap ((n : Int) / 65536) = (b : Int) := byte_of n 65536 b (by rw [hb])
        clear hb
        go_wp2_with fail
        go_roundw
        case rel => exact ⟨6, by show _ ≤ _; omega, rfl, HNX.out, HF.out⟩
        case measure => simp [intOf]
      · have hby : IntKind.u8.wrap ((n : Int) / 256) = (b : Int) := byte_of n 256 b (by rw [hb])
        clear hb
        go_wp2_with fail
        go_roundw
        case rel => exact ⟨7, by show _ ≤ _; omega, rfl, HNX.out, HF.out⟩
        case measure => simp [intOf]
      · have hb7 : (b : Int) = (n : Int) % 256 := by rw [hb]; simp
        have HX := Lib.hid (And.intro HNX.out HF.out)
        rw [hb7] at HX
        clear hb hb7 HNX HF
        go_wp2_with fail
        go_roundw
        case rel => exact ⟨8, by show _ ≤ _; omega, rfl, HX.out.1, HX.out.2⟩
        case measure => simp [intOf]
    · have hke : k = 8 := by have := hk.out; omega
      have hfin := hr.out
      rw [hke, List.take_of_length_le (by rw [HBL.out]; exact Nat.le_refl _)] at hfin
      have HFIN := Lib.hid hfin
      clear hke hfin hr
      go_wp2_with fail
      go_ret
      exact ⟨rfl, HFIN.out, hf.out⟩
theorem put64 {w : World} {g : Nat} {cs : Array Value} {t : TypeId} (h : Row w g cs t) (off len cap at_ n : Nat) (h1 : at_ + 8 ≤ len) (hc : len ≤ cap) (hcap : cap ≤ 1000000) (hsz : off + at_ + 8 ≤ cs.size) (hn : n < 18446744073709551616) :
    Calls Try.prog 75 #[.slice (some ⟨g, off, none⟩) len cap, .int .i64 (at_ : Int), .int .u64 (n : Int)] w fun e w' => e = .returned (.bool true) ∧ Row w' g (putAtA cs (off + at_) ((be 8 n).map byteV)) t ∧ Fr (one g) w w' := by
  have GI := Lib.hid (put64_in h off len cap at_ n h1 hc hcap hsz hn)
  clear h
  go_enter Try.func75, Try.ntmps75
  go_wp2_with fail
  refine GI.out.mono ?_
  rintro e w1 ⟨rfl, hr, hf⟩
  go_wp2_with fail
  go_ret
  exact ⟨rfl, hr, hf⟩
end Go.Proofs.Yteefcfndlggajaa
namespace Go.Proofs.Yteefcfndlggajaa
open Go.RowKit
set_option linter.unusedVariables false
set_option linter.unusedSimpArgs false
set_option maxRecDepth 100000

theorem putAt_mid {α : Type} (p q r vs : List α) (o : Nat) (ho : p.length = o) (h : q.length = vs.length) : putAt (p ++ (q ++ r)) o vs = p ++ (vs ++ r) := by
  subst ho
  have e1 : (p ++ (q ++ r)).take p.length = p := List.take_left' rfl
  have e2 : (p ++ (q ++ r)).drop (p.length + vs.length) = r := by
    rw [← List.append_assoc]
    exact List.drop_left' (by rw [List.length_append, h])
  unfold putAt
  rw [e1, e2, List.append_assoc]
theorem set_mid {α : Type} (p r : List α) (u v : α) (o : Nat) (ho : p.length = o) : (p ++ u :: r).set o v = p ++ v :: r := by
  subst ho
  rw [List.set_append_right _ _ (Nat.le_refl _), Nat.sub_self]; rfl
def zb : Value := byteV 0
theorem zrow (sz : Nat) : ((List.replicate (27 + sz) (0 : UInt8)).map byteV) = [] ++ (List.replicate 8 zb ++ (List.replicate 8 zb ++ (List.replicate 8 zb ++ (zb :: zb :: zb :: List.replicate sz zb)))) := by
  rw [List.map_replicate, show 27 + sz = 8 + (8 + (8 + (sz + 1 + 1 + 1))) by omega]
  show List.replicate _ zb = _
  rw [← List.replicate_append_replicate, ← List.replicate_append_replicate, ← List.replicate_append_replicate, List.replicate_succ, List.replicate_succ, List.replicate_succ]
  rfl
theorem putAtA_list (L vs : List Value) (o : Nat) : putAtA L.toArray o vs = (putAt L o vs).toArray := by unfold putAtA; simp
/-- The row behind three numbers. -/
theorem three_put (a b c : List Value) (ha : a.length = 8) (hb : b.length = 8) (hc : c.length = 8) (sz : Nat) :
    putAtA (putAtA (putAtA ((List.replicate (27 + sz) (0 : UInt8)).map byteV).toArray 0 a) 8 b) 16 c = ((a ++ (b ++ c)) ++ (zb :: zb :: zb :: List.replicate sz zb)).toArray := by
  have s1 : putAtA ((List.replicate (27 + sz) (0 : UInt8)).map byteV).toArray 0 a = (a ++ (List.replicate 8 zb ++ (List.replicate 8 zb ++ (zb :: zb :: zb :: List.replicate sz zb)))).toArray := by
    rw [zrow, putAtA_list, putAt_mid [] _ _ a 0 rfl (by simp [ha])]; rfl
  have s2 : putAtA (a ++ (List.replicate 8 zb ++ (List.replicate 8 zb ++ (zb :: zb :: zb :: List.replicate sz zb)))).toArray 8 b = ((a ++ b) ++ (List.replicate 8 zb ++ (zb :: zb :: zb :: List.replicate sz zb))).toArray := by
    rw [putAtA_list, putAt_mid a _ _ b 8 ha (by simp [hb]), List.append_assoc]
  rw [s1, s2, putAtA_list, putAt_mid (a ++ b) _ _ c 16 (by simp [ha, hb]) (by simp [hc])]
  simp [List.append_assoc]
theorem add_str (l : List UInt8) (b : ByteArray) : strOf l ++ b = strOf (l ++ b.data.toList) := by
  apply ByteArray.ext
  simp [strOf]
theorem u8i : (Try.prog.info? 5).map (fun i => (i.zero, i.size, i.bytes)) = some (some (.int .u8 0), 1, 1) := by kernel_rfl
def NV.node (n : NV) : Value := .agg #[.int .i64 (n.wr : Int), .int .i64 (n.ts : Int), .bool n.tomb, .string n.val, .int .u64 (n.nx : Int)]
/-- The row behind all. -/
def NV.row (n : NV) : List Value := (be 8 n.wr).map byteV ++ ((be 8 n.ts).map byteV ++ (be 8 n.nx).map byteV)
theorem NV.row_length (n : NV) : n.row.length = 24 := by unfold NV.row; simp [be_length]
theorem NV.head_row (n : NV) (u0 u1 u2 : UInt8) (h0 : u0 = if n.tomb then 1 else 0) (h12 : [u1, u2] = be 2 n.val.size) : n.head.map byteV = n.row ++ [byteV u0, byteV u1, byteV u2] := by
  unfold NV.head NV.row
  rw [← h12, ← h0]
  simp [List.append_assoc]
theorem mid25 (p r : List Value) (u v z : Value) (h : p.length = 24) : (p ++ (u :: v :: z :: r))[25]? = some v := by rw [List.getElem?_append_right (by omega), h]; rfl
theorem mid26 (p r : List Value) (u v z : Value) (h : p.length = 24) : (p ++ (u :: v :: z :: r))[26]? = some z := by rw [List.getElem?_append_right (by omega), h]; rfl
theorem be2 (k : Nat) : be 2 k = [UInt8.ofNat (k / 256), UInt8.ofNat k] := by
  unfold be; unfold be; unfold be; rfl
theorem head_at (n : NV) : ∀ i, i < 27 → (((n.head.map byteV) ++ List.replicate n.val.size zb).toArray)[0 + i]? = some (byteV (n.head.getD i 0)) := by
  intro i hi
  have hl := n.head_length
  rw [Nat.zero_add, List.getElem?_toArray, List.getElem?_append_left (by rw [List.length_map]; omega), List.getElem?_map, List.getElem?_eq_getElem (by omega)]
  simp [List.getD, hl, hi]
theorem row_end (n : NV) (u0 : UInt8) (h0 : u0 = if n.tomb then 1 else 0) (hv : n.val.size ≤ 65535) {w : World} {g : Nat} {t : TypeId}
    (q : Row w g (((n.row ++ (byteV u0 :: zb :: zb :: List.replicate n.val.size zb)).toArray.setIfInBounds 25 (.int .u8 ((n.val.size : Int) / 256))).setIfInBounds 26 (.int .u8 ((n.val.size : Int) % 256))) t) : Row w g ((n.head.map byteV) ++ List.replicate n.val.size zb).toArray t := by
  have e1 : (n.row ++ (byteV u0 :: zb :: zb :: List.replicate n.val.size zb)).set 25 (.int .u8 ((n.val.size : Int) / 256)) = n.row ++ (byteV u0 :: .int .u8 ((n.val.size : Int) / 256) :: zb :: List.replicate n.val.size zb) := by
    have := set_mid (n.row ++ [byteV u0]) (zb :: List.replicate n.val.size zb) zb (.int .u8 ((n.val.size : Int) / 256)) 25 (by rw [List.length_append, n.row_length]; rfl)
    simpa [List.append_assoc] using this
  have e2 : (n.row ++ (byteV u0 :: .int .u8 ((n.val.size : Int) / 256) :: zb :: List.replicate n.val.size zb)).set 26 (.int .u8 ((n.val.size : Int) % 256)) = n.row ++ (byteV u0 :: .int .u8 ((n.val.size : Int) / 256) :: .int .u8 ((n.val.size : Int) % 256) :: List.replicate n.val.size zb) := by
    have := set_mid (n.row ++ [byteV u0, .int .u8 ((n.val.size : Int) / 256)]) (List.replicate n.val.size zb) zb (.int .u8 ((n.val.size : Int) % 256)) 26 (by rw [List.length_append, n.row_length]; rfl)
    simpa [List.append_assoc] using this
  simp only [List.setIfInBounds_toArray] at q
  rw [e1, e2] at q
  have b1 : byteV (UInt8.ofNat (n.val.size / 256)) = .int .u8 ((n.val.size : Int) / 256) := by
    unfold byteV; rw [UInt8.toNat_ofNat']; congr 1; omega
  have b2 : byteV (UInt8.ofNat n.val.size) = .int .u8 ((n.val.size : Int) % 256) := by
    unfold byteV; rw [UInt8.toNat_ofNat']; rfl
  rw [n.head_row u0 _ _ h0 (be2 n.val.size).symm, b1, b2]
  simpa [List.append_assoc] using q
set_option maxHeartbeats 4000000 in
theorem Chain_bytes (w : World) (v0 : Value) (n : NV) (h1 : n.wr < 9223372036854775808) (h2 : n.ts < 9223372036854775808) (h3 : n.nx < 18446744073709551616) (hv : n.val.size ≤ 65535) :
    Calls Try.prog 47 #[v0, .agg #[.int .i64 (n.wr : Int), .int .i64 (n.ts : Int), .bool n.tomb, .string n.val, .int .u64 (n.nx : Int)]] w fun e w' => e = .returned (.string (strOf n.enc)) ∧ Fr none_ w w' := by
  have hadd := add_str n.head n.val
  have hsz : (strOf n.head).size + n.val.size ≤ 9223372036854775807 := by rw [strOf_size, n.head_length]; omega
  have HADD := Lib.hid hadd
  obtain ⟨sz, hsze⟩ : ∃ sz, sz = n.val.size := ⟨_, rfl⟩
  obtain ⟨cN, hcN⟩ : ∃ cN, cN = 27 + n.val.size := ⟨_, rfl⟩
  have HCN := Lib.hid hcN
  have w1' : IntKind.i64.wrap (27 + (n.val.size : Int)) = (cN : Int) := by rw [show 27 + (n.val.size : Int) = (cN : Int) by omega]; exact IntWalk.i64_in _ (by omega)
  have hc27 : 27 ≤ cN := by omega
  have hcb : cN ≤ 1000000 := by omega
  clear hcN hsze
  have wu1 : IntKind.u64.wrap (n.wr : Int) = (n.wr : Int) := by rw [IntKind.wrap_u64]; omega
  have wu2 : IntKind.u64.wrap (n.ts : Int) = (n.ts : Int) := by rw [IntKind.wrap_u64]; omega
  have wu3 : IntKind.u16.wrap (n.val.size : Int) = (n.val.size : Int) := by rw [IntKind.wrap_u16]; omega
  obtain ⟨g, hg⟩ : ∃ g, g = w.heap.size + 1 := ⟨_, rfl⟩
  have hgs : (w.alloc (.cells #[.int .i64 (n.wr : Int), .int .i64 (n.ts : Int), .bool n.tomb, .string n.val, .int .u64 (n.nx : Int)] 36)).heap.size = g := by rw [hg]; simp
  have HB := Lib.hid (show ∀ w', Fr (one g) (w.alloc (.cells #[.int .i64 (n.wr : Int), .int .i64 (n.ts : Int), .bool n.tomb, .string n.val, .int .u64 (n.nx : Int)] 36)) w' → w'.cell? ⟨w.heap.size, 0, none⟩ = some (.int .i64 (n.wr : Int)) ∧ w'.cell? ⟨w.heap.size, 1, none⟩ = some (.int .i64 (n.ts : Int)) ∧ w'.cell? ⟨w.heap.size, 2, none⟩ = some (.bool n.tomb) ∧ w'.cell? ⟨w.heap.size, 3, none⟩ = some (.string n.val) ∧ w'.cell? ⟨w.heap.size, 4, none⟩ = some (.int .u64 (n.nx : Int)) from fun w' f => by
    have hne : ¬ one g w.heap.size := fun e => by unfold one at e; omega
    exact ⟨f.keepF hne (by simp), f.keepF hne (by simp), f.keepF hne (by simp), f.keepF hne (by simp), f.keepF hne (by simp)⟩)
  have HFA := Lib.hid (Fr.alloc none_ w (.cells #[.int .i64 (n.wr : Int), .int .i64 (n.ts : Int), .bool n.tomb, .string n.val, .int .u64 (n.nx : Int)] 36))
  have HGW := Lib.hid (show w.heap.size ≤ g by omega)
  clear hg
  go_enter Try.func47, Try.ntmps47
  go_wp2_with ((with_reducible refine at_slot 11 ?_); refine wpMakeBytes rfl _ _ _ 5 rfl Try.underlying80 u8i .i64 .i64 27 cN rfl rfl (by omega) (by omega) ?_; intro w2 hrow f2 hs2; clear hs2; rw [hgs] at hrow; obtain ⟨k0, k1, k2, k3, k4⟩ := HB.out _ f2.none)
  have F2 := Lib.hid f2
  have R2 := Lib.hid hrow
  clear hrow f2
  refine (put64 R2.out 0 27 cN 0 n.wr (by omega) (by omega) (by omega) (by simp; omega) (by omega)).mono ?_
  rintro e w3 ⟨rfl, hr3, f3⟩
  have F3 := Lib.hid (F2.out.none.trans f3)
  have R3 := Lib.hid hr3
  obtain ⟨k0, k1, k2, k3, k4⟩ := HB.out _ F3.out
  clear hr3 f3 R2 F2
  have sz0 : (((List.replicate cN (0 : UInt8)).map byteV).toArray).size = cN := by simp
  have sz1 := putAtA_size (((List.replicate cN (0 : UInt8)).map byteV).toArray) (0 + 0) ((be 8 n.wr).map byteV) (by rw [sz0, List.length_map, be_length]; omega)
  rw [sz0] at sz1
  have SZ1 := Lib.hid sz1
  clear sz0 sz1
  go_wp2_with fail
  refine (put64 R3.out 0 27 cN 8 n.ts (by omega) (by omega) (by omega) (by rw [SZ1.out]; omega) (by omega)).mono ?_
  rintro e w4 ⟨rfl, hr4, f4⟩
  have F4 := Lib.hid (F3.out.trans f4)
  have R4 := Lib.hid hr4
  have sz2 := putAtA_size _ (0 + 8) ((be 8 n.ts).map byteV) (by rw [SZ1.out, List.length_map, be_length]; omega)
  rw [SZ1.out] at sz2
  have SZ2 := Lib.hid sz2
  obtain ⟨m0, m1, m2, m3, m4⟩ := HB.out _ F4.out
  clear hr4 f4 R3 F3 k0 k1 k2 k3 k4 sz2
  go_wp2_with fail
  refine (put64 R4.out 0 27 cN 16 n.nx (by omega) (by omega) (by omega) (by rw [SZ2.out]; omega) h3).mono ?_
  rintro e w5 ⟨rfl, hr5, f5⟩
  have F5 := Lib.hid (F4.out.trans f5)
  have hr5' : Row w5 g (n.row ++ (zb :: zb :: zb :: List.replicate n.val.size zb)).toArray 5 := by
    have e := three_put ((be 8 n.wr).map byteV) ((be 8 n.ts).map byteV) ((be 8 n.nx).map byteV) (by simp [be_length]) (by simp [be_length]) (by simp [be_length]) n.val.size
    rw [← HCN.out] at e
    simp only [Nat.zero_add] at hr5
    rw [e] at hr5
    exact hr5
  have R5 := Lib.hid hr5'
  obtain ⟨k0, k1, k2, k3, k4⟩ := HB.out _ F5.out
  clear hr5 f5 R4 F4 m0 m1 m2 m3 m4 hr5'
  cases hT : n.tomb with
  | true =>
    rw [hT] at k2
    have c24 : w5.cell? ⟨g, 24, none⟩ = some zb := (R5.out.cell 24).trans (by simp [NV.row_length])
    have z24 := R5.out.free 24
    have R6 := Lib.hid (show Row (w5.setCell ⟨g, 24, none⟩ (.int .u8 1)) g (n.row ++ (byteV 1 :: zb :: zb :: List.replicate n.val.size zb)).toArray 5 from by
      have q := R5.out.set 24 (.int .u8 1)
      rw [List.setIfInBounds_toArray, set_mid _ _ _ _ 24 n.row_length] at q
      exact q)
    have F6 := Lib.hid (F5.out.trans (Fr.setCell (one g) w5 ⟨g, 24, none⟩ (.int .u8 1) (fun _ => rfl)))
    obtain ⟨j0, j1, j2, j3, j4⟩ := HB.out _ F6.out
    have q25 : (w5.setCell ⟨g, 24, none⟩ (.int .u8 1)).cell? ⟨g, 0 + (25 : Int).toNat, none⟩ = some zb := (R6.out.cell 25).trans (by rw [List.getElem?_toArray]; exact mid25 _ _ _ _ _ n.row_length)
    have q26 : (w5.setCell ⟨g, 24, none⟩ (.int .u8 1)).cell? ⟨g, 0 + (25 : Int).toNat + 1, none⟩ = some zb := (R6.out.cell 26).trans (by rw [List.getElem?_toArray]; exact mid26 _ _ _ _ _ n.row_length)
    have P16 := Lib.hid (put16 (w5.setCell ⟨g, 24, none⟩ (.int .u8 1)) g 0 27 cN 25 (n.val.size : Int) (by omega) (by omega) (by omega) (by omega) zb zb q25 q26 (R6.out.free _) (R6.out.free _) (by omega) (by omega))
    clear q25 q26
    go_wp2_with fail
    refine P16.out.mono ?_
    rintro e w7 ⟨rfl, hw7⟩
    have hw7' : w7 = ((w5.setCell ⟨g, 24, none⟩ (.int .u8 1)).setCell ⟨g, 25, none⟩ (.int .u8 ((n.val.size : Int) / 256))).setCell ⟨g, 26, none⟩ (.int .u8 ((n.val.size : Int) % 256)) := hw7
    have R7 := Lib.hid (show Row w7 g ((n.head.map byteV) ++ List.replicate n.val.size zb).toArray 5 from by
      have q := (R6.out.set 25 (.int .u8 ((n.val.size : Int) / 256))).set 26 (.int .u8 ((n.val.size : Int) % 256))
      rw [← hw7'] at q
      exact row_end n 1 (by rw [hT]; rfl) hv q)
    have F7 := Lib.hid (show Fr (one g) _ w7 from by rw [hw7']; exact (F6.out.trans (Fr.setCell (one g) _ ⟨g, 25, none⟩ _ (fun _ => rfl))).trans (Fr.setCell (one g) _ ⟨g, 26, none⟩ _ (fun _ => rfl)))
    obtain ⟨o0, o1, o2, o3, o4⟩ := HB.out _ F7.out
    clear hw7 hw7' j0 j1 j2 j3 j4 k0 k1 k2 k3 k4
    go_wp2_with (first
      | ((with_reducible refine at_slot 41 ?_); refine wpString rfl _ _ _ 5 rfl R7.out Try.underlying80 Try.underlying5 Try.underlying9 0 27 cN rfl n.head n.head_length (head_at n) ?_)
      | ((with_reducible refine at_slot 45 ?_); refine wpAddStr rfl _ _ _ _ rfl (strOf n.head) n.val rfl rfl hsz _ hadd ?_))
    go_ret
    exact ⟨rfl, HFA.out.step F7.out (fun i hi e => by have := HGW.out; unfold one at e; omega)⟩
  | false =>
    rw [hT] at k2
    obtain ⟨j0, j1, j2, j3, j4⟩ := HB.out _ F5.out
    have q25 : w5.cell? ⟨g, 0 + (25 : Int).toNat, none⟩ = some zb := (R5.out.cell 25).trans (by rw [List.getElem?_toArray]; exact mid25 _ _ _ _ _ n.row_length)
    have q26 : w5.cell? ⟨g, 0 + (25 : Int).toNat + 1, none⟩ = some zb := (R5.out.cell 26).trans (by rw [List.getElem?_toArray]; exact mid26 _ _ _ _ _ n.row_length)
    have P16 := Lib.hid (put16 w5 g 0 27 cN 25 (n.val.size : Int) (by omega) (by omega) (by omega) (by omega) zb zb q25 q26 (R5.out.free _) (R5.out.free _) (by omega) (by omega))
    clear q25 q26
    go_wp2_with fail
    refine P16.out.mono ?_
    rintro e w7 ⟨rfl, hw7⟩
    have hw7' : w7 = (w5.setCell ⟨g, 25, none⟩ (.int .u8 ((n.val.size : Int) / 256))).setCell ⟨g, 26, none⟩ (.int .u8 ((n.val.size : Int) % 256)) := hw7
    have R7 := Lib.hid (show Row w7 g ((n.head.map byteV) ++ List.replicate n.val.size zb).toArray 5 from by
      have q := (R5.out.set 25 (.int .u8 ((n.val.size : Int) / 256))).set 26 (.int .u8 ((n.val.size : Int) % 256))
      rw [← hw7'] at q
      exact row_end n 0 (by rw [hT]; rfl) hv q)
    have F7 := Lib.hid (show Fr (one g) _ w7 from by rw [hw7']; exact (F5.out.trans (Fr.setCell (one g) _ ⟨g, 25, none⟩ _ (fun _ => rfl))).trans (Fr.setCell (one g) _ ⟨g, 26, none⟩ _ (fun _ => rfl)))
    obtain ⟨o0, o1, o2, o3, o4⟩ := HB.out _ F7.out
    clear hw7 hw7' j0 j1 j2 j3 j4 k0 k1 k2 k3 k4
    go_wp2_with (first
      | ((with_reducible refine at_slot 41 ?_); refine wpString rfl _ _ _ 5 rfl R7.out Try.underlying80 Try.underlying5 Try.underlying9 0 27 cN rfl n.head n.head_length (head_at n) ?_)
      | ((with_reducible refine at_slot 45 ?_); refine wpAddStr rfl _ _ _ _ rfl (strOf n.head) n.val rfl rfl hsz _ hadd ?_))
    go_ret
    exact ⟨rfl, HFA.out.step F7.out (fun i hi e => by have := HGW.out; unfold one at e; omega)⟩
end Go.Proofs.Yteefcfndlggajaa
