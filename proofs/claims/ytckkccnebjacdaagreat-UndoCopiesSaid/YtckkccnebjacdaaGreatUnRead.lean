/-
  Package undo: read: what stands in a slot.
-/
import Derived.Test.YtckkccnebjacdaaGreatUnBytes
import Derived.Test.YtckkccnebjacdaaGreatMgArUp
import Derived.Test.YtckkccnebjacdaaGreatMgDelta
import Derived.Deep.QuietTactic
import Derived.BigQuiet
import Derived.Deep.RegionHeld3
import Derived.StillTailTactics
import Derived.Deep.DeepCutAuto
import Derived.Deep.CutBlock
namespace Go.Proofs.YtckkccnebjacdaaGreat
open Go.RowKit
set_option linter.unusedVariables false
set_option linter.unusedSimpArgs false
set_option maxRecDepth 100000

theorem read_number {w : World} {q1 q2 g : Nat} (len cap k : Nat) (hk : k + 8 ≤ len) (hc : len ≤ cap) (hcap : cap ≤ 9223372036854775807) (hb : w.cell? ⟨q1, 0, none⟩ = some (.slice (some ⟨g, 0, none⟩) len cap)) (ha : w.cell? ⟨q2, 0, none⟩ = some (.int .i64 (k : Int))) (hf : w.frozen? ⟨q2, 0, none⟩ = false)
    (n : Nat) (hn : n < 18446744073709551616) (hbs : ∀ (i : Nat) (b : UInt8), (be 8 n)[i]? = some b → w.cell? ⟨g, 0 + k + i, none⟩ = some (byteV b)) {k8 : Int} (hk8 : ((k + 8 : Nat) : Int) = k8) :
    Calls Tryz.prog 82 #[.pointer (some ⟨q1, 0, none⟩), .pointer (some ⟨q2, 0, none⟩)] w fun e w' => e = .returned (.int .u64 (n : Int)) ∧ w' = w.setCell ⟨q2, 0, none⟩ (.int .i64 k8) := by
  have G := get64_cells (w := w) (g := g) 0 len cap k hk hc hcap (be 8 n) (be_length 8 _) hbs
  rw [beN_be 8 n (by omega)] at G
  have GG := Lib.hid G
  have hw : IntKind.i64.wrap ((k : Int) + 8) = k8 := by rw [show (k : Int) + 8 = k8 by omega]; exact IntWalk.i64_in _ (by omega)
  clear G hbs
  go_enter Tryz.func82, Tryz.ntmps82
  go_wp2_with fail
  refine GG.out.mono ?_
  rintro e w1 ⟨rfl, rfl⟩
  go_wp2_with fail
  go_ret
  exact ⟨rfl, rfl⟩
def slotZero : Array Value := #[.int .u8 0, .int .u8 0, .int .u64 0, .int .u64 0, .int .u64 0, .string ⟨#[]⟩]
theorem six_cells {w : World} {b : Nat} {u0 u1 u2 u3 u4 u5 : Value} {t : TypeId} (h : Row w b #[u0, u1, u2, u3, u4, u5] t) : w.cell? ⟨b, 0, none⟩ = some u0 ∧ w.cell? ⟨b, 1, none⟩ = some u1 ∧ w.cell? ⟨b, 2, none⟩ = some u2 ∧ w.cell? ⟨b, 3, none⟩ = some u3 ∧ w.cell? ⟨b, 4, none⟩ = some u4 ∧ w.cell? ⟨b, 5, none⟩ = some u5 :=
  ⟨h.cell 0, h.cell 1, h.cell 2, h.cell 3, h.cell 4, h.cell 5⟩
set_option maxHeartbeats 4000000 in
/-- Nothing of that kind. -/
theorem Undo_read_no {w : World} {x a N : Nat} {F : Nat → Prop} {s : AS} (hcx : w.cell? ⟨x, 8, none⟩ = some (.pointer (some ⟨a, 0, none⟩))) (har : Ar F w a s) (hu : Upto N s) {hd : Nat} (hh : hd < 18446744073709551616) (kind : UInt8)
    (hf : ∀ l, aFind s hd = some l → ∃ b r, l = b :: r ∧ b ≠ kind ∧ l.length ≤ 1000000) :
    Calls Tryz.prog 50 #[.pointer (some ⟨x, 0, none⟩), .int .u64 (hd : Int), byteV kind] w fun e w' => e = .returned (.tuple #[.agg slotZero, .bool false]) ∧ Fr none_ w w' := by
  have fA := Fr.alloc none_ w (.cells slotZero 87)
  have c8 := fA.keep hcx
  have har' := har.kept0 fA
  have RA := Lib.hid (Row.new w slotZero 87)
  have FA := Lib.hid fA
  unfold slotZero at c8 har'
  cases e : aFind s hd with
  | none =>
    have er : aRead s hd = ([], 5) := by unfold aRead; rw [e]
    have GR := Lib.hid (ar_read_lit har' hu hh (d := (hd : Int)) (q := 5) rfl (by rw [er]; rfl) ⟨#[]⟩ (by rw [er]; rfl))
    clear har har' hu hf hcx fA e er
    go_enter Tryz.func50, Tryz.ntmps50
    go_wp2_with fail
    refine GR.out.mono ?_
    rintro e w1 ⟨rfl, f1⟩
    have HF := Lib.hid f1
    have HR := Lib.hid (RA.out.kept f1 (fun e => e))
    clear f1
    go_wp2_with ((with_reducible refine at_storeOf 87 ?_); refine wpStoreRow rfl _ _ _ rfl HR.out rfl rfl (by kernel_rfl) rfl (by simp [slotZero, Value.oneCell']) ?_; intro w2 R2 f2; obtain ⟨c0, c1, c2, c3, c4, c5⟩ := six_cells R2; have F2 := Lib.hid f2; clear f2 R2)
    refine bodyPost_ret (v := .tuple #[.agg slotZero, .bool false]) (by simp [results, Tryz.results50, go_sem, c0, c1, c2, c3, c4, c5, slotZero]) rfl ⟨rfl, ?_⟩
    exact (FA.out.trans HF.out).step F2.out (fun i hi e => by unfold one at e; omega)
  | some l =>
    obtain ⟨b, r, rfl, hbk, hlen⟩ := hf l e
    have er : aRead s hd = (b :: r, 0) := by unfold aRead; rw [e]
    have GR := Lib.hid (ar_read_lit har' hu hh (d := (hd : Int)) (q := 0) rfl (by rw [er]; rfl) (strOf (b :: r)) (by rw [er]))
    have hS : (0 : Int) < ((strOf (b :: r)).size : Int) := by rw [strOf_size, List.length_cons]; omega
    have h0 : ∃ h : 0 < (strOf (b :: r)).size, (strOf (b :: r))[0] = b := ⟨by rw [strOf_size]; simp, rfl⟩
    obtain ⟨S, hSe⟩ : ∃ S, S = strOf (b :: r) := ⟨_, rfl⟩
    rw [← hSe] at GR hS h0
    obtain ⟨h0l, h0e⟩ := h0
    have hb1 := b.toNat_lt
    have hb2 := kind.toNat_lt
    have hne : ¬ (b.toNat : Int) = (kind.toNat : Int) := fun q => hbk (UInt8.toNat_inj.1 (by omega))
    have hne2 : ¬ (S[0].toNat : Int) = (kind.toNat : Int) := by rw [h0e]; exact hne
    unfold byteV
    clear har har' hu hf hcx fA e er hSe hlen
    go_enter Tryz.func50, Tryz.ntmps50
    go_wp2_with fail
    refine GR.out.mono ?_
    rintro e w1 ⟨rfl, f1⟩
    have HF := Lib.hid f1
    have HR := Lib.hid (RA.out.kept f1 (fun e => e))
    clear f1
    go_wp2_with ((with_reducible refine at_storeOf 87 ?_); refine wpStoreRow rfl _ _ _ rfl HR.out rfl rfl (by kernel_rfl) rfl (by simp [slotZero, Value.oneCell']) ?_; intro w2 R2 f2; obtain ⟨c0, c1, c2, c3, c4, c5⟩ := six_cells R2; have F2 := Lib.hid f2; clear f2 R2)
    refine bodyPost_ret (v := .tuple #[.agg slotZero, .bool false]) (by simp [results, Tryz.results50, go_sem, c0, c1, c2, c3, c4, c5, slotZero]) rfl ⟨rfl, ?_⟩
    exact (FA.out.trans HF.out).step F2.out (fun i hi e => by unfold one at e; omega)
theorem piece_at (l p : List UInt8) (k m : Nat) (h : (l.drop k).take m = p) (i : Nat) (b : UInt8) (hb : p[i]? = some b) : l[k + i]? = some b := by
  rw [← h, List.getElem?_take] at hb
  split at hb
  · rw [List.getElem?_drop] at hb; exact hb
  · cases hb
/-- Between the numbers that read reads: the slice of bytes, where it stands, the slot that is filled. -/
structure RdC (w0 : World) (res g1 q1 b13 cap k : Nat) (S : ByteArray) (cs : Array Value) (W : World) : Prop where
  res : Row W res slotZero 87
  sl : Row W q1 #[.slice (some ⟨g1, 0, none⟩) S.size cap] 106
  at_ : Row W (q1 + 1) #[.int .i64 (k : Int)] 3
  slot : Row W b13 cs 87
  bytes : ∀ (j : Nat) (b : UInt8), S.data.toList[j]? = some b → W.cell? ⟨g1, j, none⟩ = some (byteV b)
  fr : Fr none_ w0 W
section
variable {w0 W W' : World} {res g1 q1 b13 cap k : Nat} {S : ByteArray} {cs : Array Value}
/-- Where the blocks lie. -/
structure RdN (w0 : World) (res g1 q1 b13 cap : Nat) (S : ByteArray) : Prop where
  r : w0.heap.size ≤ res
  g : res < g1
  q : g1 < q1
  b : b13 = q1 + 2
  c : S.size ≤ cap
  c2 : cap ≤ 9223372036854775807
theorem RdC.setAt (h : RdC w0 res g1 q1 b13 cap k S cs W) (n : RdN w0 res g1 q1 b13 cap S) (k' : Nat) {v : Int} (hv : (k' : Int) = v) : RdC w0 res g1 q1 b13 cap k' S cs (W.setCell ⟨q1 + 1, 0, none⟩ (.int .i64 v)) := by
  subst hv
  have := n.r; have := n.g; have := n.q; have := n.b
  have f := Fr.setCell (one (q1 + 1)) W ⟨q1 + 1, 0, none⟩ (.int .i64 (k' : Int)) (fun _ => rfl)
  exact ⟨h.res.kept f (fun e => by unfold one at e; omega), h.sl.kept f (fun e => by unfold one at e; omega), h.at_.set 0 _, h.slot.kept f (fun e => by unfold one at e; omega), fun j b hb => f.keepF (fun e => by unfold one at e; simp at e; omega) (h.bytes j b hb), h.fr.step f (fun i hi e => by unfold one at e; omega)⟩
theorem RdC.setField (h : RdC w0 res g1 q1 b13 cap k S cs W) (n : RdN w0 res g1 q1 b13 cap S) (i : Nat) (v : Value) : RdC w0 res g1 q1 b13 cap k S (cs.setIfInBounds i v) (W.setCell ⟨b13, i, none⟩ v) := by
  have := n.r; have := n.g; have := n.q; have := n.b
  have f := Fr.setCell (one b13) W ⟨b13, i, none⟩ v (fun _ => rfl)
  exact ⟨h.res.kept f (fun e => by unfold one at e; omega), h.sl.kept f (fun e => by unfold one at e; omega), h.at_.kept f (fun e => by unfold one at e; omega), h.slot.set i v, fun j b hb => f.keepF (fun e => by unfold one at e; simp at e; omega) (h.bytes j b hb), h.fr.step f (fun i hi e => by unfold one at e; omega)⟩
theorem RdC.number (h : RdC w0 res g1 q1 b13 cap k S cs W) (n : RdN w0 res g1 q1 b13 cap S) (hk : k + 8 ≤ S.size) (m : Nat) (hm : m < 18446744073709551616) (hbs : ∀ (i : Nat) (b : UInt8), (be 8 m)[i]? = some b → S.data.toList[k + i]? = some b) (k' : Nat) (hk' : k' = k + 8) :
    Calls Tryz.prog 82 #[.pointer (some ⟨q1, 0, none⟩), .pointer (some ⟨q1 + 1, 0, none⟩)] W fun e w' => e = .returned (.int .u64 (m : Int)) ∧ RdC w0 res g1 q1 b13 cap k' S cs w' := by
  refine (read_number (w := W) (q1 := q1) (q2 := q1 + 1) (g := g1) S.size cap k hk n.c n.c2 (h.sl.cell 0) (h.at_.cell 0) (h.at_.free 0) m hm (fun i b hb => by rw [Nat.zero_add]; exact h.bytes _ _ (hbs i b hb)) rfl).mono ?_
  rintro e w' ⟨he, rfl⟩
  subst hk'
  exact ⟨he, h.setAt n (k + 8) rfl⟩
end
theorem six_set (W : World) (b : Nat) (v0 v1 v2 v3 v4 v5 : Value) : Fr (one b) W ((((((W.setCell ⟨b, 0, none⟩ v0).setCell ⟨b, 1, none⟩ v1).setCell ⟨b, 2, none⟩ v2).setCell ⟨b, 3, none⟩ v3).setCell ⟨b, 4, none⟩ v4).setCell ⟨b, 5, none⟩ v5) :=
  ((((((Fr.setCell (one b) W ⟨b, 0, none⟩ v0 (fun _ => rfl)).setCell_r ⟨b, 1, none⟩ v1 (fun _ => rfl)).setCell_r ⟨b, 2, none⟩ v2 (fun _ => rfl)).setCell_r ⟨b, 3, none⟩ v3 (fun _ => rfl)).setCell_r ⟨b, 4, none⟩ v4 (fun _ => rfl)).setCell_r ⟨b, 5, none⟩ v5 (fun _ => rfl))
theorem six_keep {W : World} {b k i : Nat} {v0 v1 v2 v3 v4 v5 v : Value} (h : ¬ k = b) (hc : W.cell? ⟨k, i, none⟩ = some v) : ((((((W.setCell ⟨b, 0, none⟩ v0).setCell ⟨b, 1, none⟩ v1).setCell ⟨b, 2, none⟩ v2).setCell ⟨b, 3, none⟩ v3).setCell ⟨b, 4, none⟩ v4).setCell ⟨b, 5, none⟩ v5).cell? ⟨k, i, none⟩ = some v :=
  (six_set W b v0 v1 v2 v3 v4 v5).keepF (fun e => h e) hc
set_option maxHeartbeats 8000000 in
theorem Undo_read_yes {w : World} {x a N vl : Nat} {F : Nat → Prop} {s : AS} (hcx : w.cell? ⟨x, 8, none⟩ = some (.pointer (some ⟨a, 0, none⟩))) (har : Ar F w a s) (hu : Upto N s) {hd : Nat} (hh : hd < 18446744073709551616) (n : UV) (hn : n.Ok vl) (hvl : vl ≤ 256) (pad : List UInt8) (hp : pad.length ≤ 1000) (hf : aFind s hd = some (n.enc ++ pad)) :
    Calls Tryz.prog 50 #[.pointer (some ⟨x, 0, none⟩), .int .u64 (hd : Int), byteV n.kind] w fun e w' => e = .returned (.tuple #[.agg n.cells, .bool true]) ∧ Fr none_ w w' := by
  have fA := Fr.alloc none_ w (.cells slotZero 87)
  have c8 := fA.keep hcx
  have har' := har.kept0 fA
  have RA := Lib.hid (Row.new w slotZero 87)
  have FA := Lib.hid fA
  unfold slotZero at c8 har'
  have er : aRead s hd = (n.enc ++ pad, 0) := by unfold aRead; rw [hf]
  have GR := Lib.hid (ar_read_lit har' hu hh (d := (hd : Int)) (q := 0) rfl (by rw [er]; rfl) (strOf (n.enc ++ pad)) (by rw [er]))
  obtain ⟨p0, p1, p2, p3, p4, p5, p6⟩ := n.pieces pad
  obtain ⟨A, hA⟩ : ∃ A, A = n.at_ := ⟨_, rfl⟩
  have hA2 : A ≤ 26 := by rw [hA]; unfold UV.at_; split <;> omega
  obtain ⟨L, hL⟩ : ∃ L, L = n.enc ++ pad := ⟨_, rfl⟩
  have hLl : L.length = A + 2 + n.rest.size + pad.length := by rw [hL, List.length_append, n.enc_length, hA]
  have hA18 : 18 ≤ A := by rw [hA]; unfold UV.at_; split <;> omega
  have hrs : n.rest.size ≤ 260 := by have := hn.rest; split at this <;> omega
  obtain ⟨S, hSe⟩ : ∃ S, S = strOf (n.enc ++ pad) := ⟨_, rfl⟩
  have hSd : S.data.toList = L := by rw [hSe, hL]; rfl
  have hSs : S.size = A + 2 + n.rest.size + pad.length := by rw [hSe, strOf_size, ← hL, hLl]
  rw [← hL] at p0 p1 p2 p3 p4 p5 p6
  rw [← hA] at p5 p6
  rw [← hSe] at GR
  obtain ⟨h0l, h0e⟩ := byte_at (s := S) (i := 0) (b := n.kind) (by rw [hSd]; exact p0)
  have hS : (0 : Int) < (S.size : Int) := by omega
  have heq0 : (S[0].toNat : Int) = (n.kind.toNat : Int) := by rw [h0e]
  have P1 := Lib.hid (fun i b hb => piece_at L (be 8 n.wr) 1 8 p1 i b hb)
  have P2 := Lib.hid p2
  have P3 := Lib.hid (fun i b hb => piece_at L (be 8 n.nx) 10 8 p3 i b hb)
  have P4 := Lib.hid (fun h i b hb => piece_at L (be 8 n.sg) 18 8 (p4 h) i b hb)
  have P5 := Lib.hid (fun i b hb => piece_at L (be 2 n.rest.size) A 2 p5 i b hb)
  have P6 := Lib.hid p6
  have HSD := Lib.hid hSd
  have HSS := Lib.hid hSs
  have HA := Lib.hid hA
  have HB := Lib.hid (And.intro hA2 (And.intro hA18 hrs))
  obtain ⟨sz, hsz⟩ : ∃ sz, sz = S.size := ⟨_, rfl⟩
  have HSZ := Lib.hid hsz
  have hsz1 : sz ≤ 1000000 ∧ 20 ≤ sz := by omega
  have NOK := Lib.hid hn
  have HSG := Lib.hid hn.row0
  unfold byteV
  clear har har' hu hf hcx fA er hSe hL hLl hA2 hA18 hrs hSd hSs hsz hn p0 p1 p2 p3 p4 p5 p6 hA hp
  go_enter Tryz.func50, Tryz.ntmps50
  go_wp2_with fail
  refine GR.out.mono ?_
  rintro e w1 ⟨rfl, f1⟩
  have F1 := Lib.hid (FA.out.trans f1)
  have R1 := Lib.hid (RA.out.kept f1 (fun e => e))
  clear f1
  go_upto_region 7 with ((with_reducible refine at_slot 35 ?_); refine wpBytesOf rfl _ _ _ 5 rfl Tryz.underlying9 Tryz.underlying106 Tryz.underlying5 S rfl (by have := HSZ.out; omega) ?_; intro cap w2 hcap hcap2 hcells f2)
  have f02 := F1.out.trans f2
  have f24 : Fr none_ w2 ((w2.alloc (.cells #[.slice (some ⟨w1.heap.size, 0, none⟩) S.size cap] 106)).alloc (.cells #[.int .i64 1] 3)) := (Fr.alloc none_ w2 _).alloc_r _
  have rq : Row ((w2.alloc (.cells #[.slice (some ⟨w1.heap.size, 0, none⟩) S.size cap] 106)).alloc (.cells #[.int .i64 1] 3)) w2.heap.size #[.slice (some ⟨w1.heap.size, 0, none⟩) S.size cap] 106 := (Row.new w2 _ _).alloc _
  have ra : Row ((w2.alloc (.cells #[.slice (some ⟨w1.heap.size, 0, none⟩) S.size cap] 106)).alloc (.cells #[.int .i64 1] 3)) (w2.heap.size + 1) #[.int .i64 1] 3 := by
    have := Row.new (w2.alloc (.cells #[.slice (some ⟨w1.heap.size, 0, none⟩) S.size cap] 106)) #[.int .i64 1] 3
    rwa [World.size_alloc] at this
  have hsz4 : ((w2.alloc (.cells #[.slice (some ⟨w1.heap.size, 0, none⟩) S.size cap] 106)).alloc (.cells #[.int .i64 1] 3)).heap.size = w2.heap.size + 2 := by simp
  have h12 : w1.heap.size < w2.heap.size := by
    obtain ⟨b, hb⟩ : ∃ b, S.data.toList[0]? = some b := ⟨S.data.toList[0]'(by show 0 < S.size; omega), List.getElem?_eq_getElem _⟩
    exact World.block_lt_of_cell? w2 _ (hcells 0 b hb)
  have hr2 := R1.out.kept f2 (fun e => e)
  obtain ⟨w4, hw4⟩ : ∃ w4, w4 = ((w2.alloc (.cells #[.slice (some ⟨w1.heap.size, 0, none⟩) S.size cap] 106)).alloc (.cells #[.int .i64 1] 3)) := ⟨_, rfl⟩
  rw [← hw4] at f24 rq ra hsz4 ⊢
  have hcells4 : ∀ (j : Nat) (b : UInt8), S.data.toList[j]? = some b → w4.cell? ⟨w1.heap.size, j, none⟩ = some (byteV b) := fun j b hb => f24.keep (hcells j b hb)
  have f04 := f02.trans f24
  have hr4 := hr2.kept f24 (fun e => e)
  have hres : w.heap.size < w1.heap.size := R1.out.lt
  have RN := Lib.hid (show RdN w w.heap.size w1.heap.size w2.heap.size (w2.heap.size + 2) cap S from ⟨Nat.le_refl _, hres, h12, rfl, hcap, hcap2⟩)
  -- the slot is made ahead of the number, or behind it
  obtain ⟨u9, hu9⟩ : ∃ u9, u9 = n.tb := ⟨_, rfl⟩
  clear f02 hr2 hcells f2 hcap hcap2 h12 hres R1 F1 GR
  go_cut [13] (fun v wx => v = .pointer (some ⟨w2.heap.size + 2, 0, none⟩) ∧ RdC w w.heap.size w1.heap.size w2.heap.size (w2.heap.size + 2) cap 9 S #[byteV n.kind, byteV n.tb, .int .u64 (n.wr : Int), .int .u64 0, .int .u64 0, .string ⟨#[]⟩] wx)
  case first =>
    have d0 : w4.cell? ⟨w2.heap.size, 0, none⟩ = some (.slice (some ⟨w1.heap.size, 0, none⟩) S.size cap) := rq.cell 0
    have hb9 : S.data.toList[9]? = some n.tb := by rw [HSD.out]; exact P2.out
    have b9 : w4.cell? ⟨w1.heap.size, 9, none⟩ = some (.int .u8 (n.tb.toNat : Int)) := hcells4 9 _ hb9
    have l9 : (9 : Int) < (S.size : Int) := by have := HSS.out; have := HB.out; omega
    have l9' : 9 ≤ S.size := by omega
    have ne1 : ¬ w1.heap.size = w2.heap.size + 1 := by have := RN.out.q; omega
    have NUM := Lib.hid (show ∀ W, Fr none_ w4 W → Calls Tryz.prog 82 #[.pointer (some ⟨w2.heap.size, 0, none⟩), .pointer (some ⟨w2.heap.size + 1, 0, none⟩)] W fun e w' => e = .returned (.int .u64 (n.wr : Int)) ∧ w'.cell? ⟨w2.heap.size, 0, none⟩ = some (.slice (some ⟨w1.heap.size, 0, none⟩) S.size cap) ∧ w'.cell? ⟨w1.heap.size, 9, none⟩ = some (.int .u8 (n.tb.toNat : Int)) ∧ w' = W.setCell ⟨w2.heap.size + 1, 0, none⟩ (.int .i64 9) from fun W f => by
      refine (read_number S.size cap 1 (by have := HSS.out; have := HB.out; omega) RN.out.c RN.out.c2 (f.keep d0) ((ra.kept f (fun e => e)).cell 0) ((ra.kept f (fun e => e)).free 0) n.wr (by have := NOK.out.wr; omega) (fun i b hb => by rw [Nat.zero_add]; exact f.keep (hcells4 _ _ (by rw [HSD.out]; exact P1.out i b hb))) (k8 := 9) rfl).mono ?_
      rintro e w' ⟨he, rfl⟩
      have fs := f.none.trans (Fr.setCell (one (w2.heap.size + 1)) W ⟨w2.heap.size + 1, 0, none⟩ (.int .i64 9) (fun _ => rfl))
      exact ⟨he, fs.keepF (fun e => by unfold one at e; simp at e) d0, fs.keepF (fun e => ne1 e) b9, rfl⟩)
    have NUMB := Lib.hid (show ∀ W, Fr none_ w4 W → Row W w4.heap.size slotZero 87 → Calls Tryz.prog 82 #[.pointer (some ⟨w2.heap.size, 0, none⟩), .pointer (some ⟨w2.heap.size + 1, 0, none⟩)] W fun e w' => e = .returned (.int .u64 (n.wr : Int)) ∧ w'.cell? ⟨w2.heap.size, 0, none⟩ = some (.slice (some ⟨w1.heap.size, 0, none⟩) S.size cap) ∧ w'.cell? ⟨w1.heap.size, 9, none⟩ = some (.int .u8 (n.tb.toNat : Int)) ∧ w' = W.setCell ⟨w2.heap.size + 1, 0, none⟩ (.int .i64 9) ∧ w'.cell? ⟨w4.heap.size, 0, none⟩ = some (.int .u8 0) ∧ w'.cell? ⟨w4.heap.size, 1, none⟩ = some (.int .u8 0) ∧ w'.cell? ⟨w4.heap.size, 2, none⟩ = some (.int .u64 0) ∧ w'.cell? ⟨w4.heap.size, 3, none⟩ = some (.int .u64 0) ∧ w'.cell? ⟨w4.heap.size, 4, none⟩ = some (.int .u64 0) ∧ w'.cell? ⟨w4.heap.size, 5, none⟩ = some (.string ⟨#[]⟩) ∧ w'.frozen? ⟨w4.heap.size, 0, none⟩ = false ∧ w'.frozen? ⟨w4.heap.size, 1, none⟩ = false ∧ w'.frozen? ⟨w4.heap.size, 2, none⟩ = false ∧ w'.frozen? ⟨w4.heap.size, 3, none⟩ = false ∧ w'.frozen? ⟨w4.heap.size, 4, none⟩ = false ∧ w'.frozen? ⟨w4.heap.size, 5, none⟩ = false from fun W f hr => by
      refine (NUM.out W f).mono ?_
      rintro e w' ⟨he, h1, h2, rfl⟩
      have r := hr.set_other (w2.heap.size + 1) 0 (.int .i64 9) (by omega)
      exact ⟨he, h1, h2, rfl, r.cell 0, r.cell 1, r.cell 2, r.cell 3, r.cell 4, r.cell 5, r.free 0, r.free 1, r.free 2, r.free 3, r.free 4, r.free 5⟩)
    have FINA := Lib.hid (show ∀ W, Fr none_ w4 W → W.heap.size = w4.heap.size → RdC w w.heap.size w1.heap.size w2.heap.size (w2.heap.size + 2) cap 9 S #[.int .u8 (n.kind.toNat : Int), .int .u8 (n.tb.toNat : Int), .int .u64 (n.wr : Int), .int .u64 0, .int .u64 0, .string ⟨#[]⟩] ((W.setCell ⟨w2.heap.size + 1, 0, none⟩ (.int .i64 9)).alloc (.cells #[.int .u8 (n.kind.toNat : Int), .int .u8 (n.tb.toNat : Int), .int .u64 (n.wr : Int), .int .u64 0, .int .u64 0, .string ⟨#[]⟩] 87)) from fun W f hz => by
      have e : (W.setCell ⟨w2.heap.size + 1, 0, none⟩ (.int .i64 9)).heap.size = w2.heap.size + 2 := by simp [hz, hsz4]
      have fs : Fr (one (w2.heap.size + 1)) W ((W.setCell ⟨w2.heap.size + 1, 0, none⟩ (.int .i64 9)).alloc (.cells #[.int .u8 (n.kind.toNat : Int), .int .u8 (n.tb.toNat : Int), .int .u64 (n.wr : Int), .int .u64 0, .int .u64 0, .string ⟨#[]⟩] 87)) := (Fr.setCell (one (w2.heap.size + 1)) W ⟨w2.heap.size + 1, 0, none⟩ (.int .i64 9) (fun _ => rfl)).alloc_r _
      have r := Row.new (W.setCell ⟨w2.heap.size + 1, 0, none⟩ (.int .i64 9)) #[.int .u8 (n.kind.toNat : Int), .int .u8 (n.tb.toNat : Int), .int .u64 (n.wr : Int), .int .u64 0, .int .u64 0, .string ⟨#[]⟩] 87
      rw [e] at r
      have := RN.out.g; have := RN.out.q
      refine ⟨(hr4.kept f (fun e => e)).kept fs (fun e => by unfold one at e; omega), (rq.kept f (fun e => e)).kept fs (fun e => by unfold one at e; omega), ?_, r, fun j b hb => fs.keepF (fun e => by unfold one at e; simp at e; omega) (f.keep (hcells4 j b hb)), (f04.trans f).step fs (fun i hi e => by unfold one at e; omega)⟩
      exact ((ra.kept f (fun e => e)).set 0 _).alloc _)
    have FINB := Lib.hid (show ∀ W, Fr none_ w4 W → Row W w4.heap.size slotZero 87 → RdC w w.heap.size w1.heap.size w2.heap.size (w2.heap.size + 2) cap 9 S #[.int .u8 (n.kind.toNat : Int), .int .u8 (n.tb.toNat : Int), .int .u64 (n.wr : Int), .int .u64 0, .int .u64 0, .string ⟨#[]⟩] ((((((((W.setCell ⟨w2.heap.size + 1, 0, none⟩ (.int .i64 9)).setCell ⟨w4.heap.size, 0, none⟩ (.int .u8 (n.kind.toNat : Int))).setCell ⟨w4.heap.size, 1, none⟩ (.int .u8 (n.tb.toNat : Int))).setCell ⟨w4.heap.size, 2, none⟩ (.int .u64 (n.wr : Int))).setCell ⟨w4.heap.size, 3, none⟩ (.int .u64 0)).setCell ⟨w4.heap.size, 4, none⟩ (.int .u64 0)).setCell ⟨w4.heap.size, 5, none⟩ (.string ⟨#[]⟩))) from fun W f hr => by
      have h0 := RdC.setAt (k := 1) (b13 := w2.heap.size + 2) ⟨hr4.kept f (fun e => e), rq.kept f (fun e => e), ra.kept f (fun e => e), (by rw [← hsz4]; exact hr), fun j b hb => f.keep (hcells4 j b hb), f04.trans f⟩ RN.out 9 rfl
      rw [hsz4]
      exact (((((h0.setField RN.out 0 _).setField RN.out 1 _).setField RN.out 2 _).setField RN.out 3 _).setField RN.out 4 _).setField RN.out 5 _)
    have HSZ4 := Lib.hid hsz4
    clear rq ra hr4 hcells4 f04 hsz4 f24 hw4 hb9 hu9 h0e h0l heq0 hS hsz1 c8
    unfold slotZero at NUMB
    have nq : ¬ w2.heap.size = w4.heap.size := by rw [HSZ4.out]; omega
    have nr : ¬ w1.heap.size = w4.heap.size := by rw [HSZ4.out]; have := RN.out.q; omega
    go_region_held3 (fun w' => w'.cell? ⟨w2.heap.size, 0, none⟩ = some (.slice (some ⟨w1.heap.size, 0, none⟩) S.size cap) ∧ w'.cell? ⟨w1.heap.size, 9, none⟩ = some (.int .u8 (n.tb.toNat : Int)))
      (first | (go_split_ands; with_reducible exact ⟨d9, k9⟩) | (go_split_ands; with_reducible exact ⟨d0, b9⟩) | (go_split_ands; with_reducible exact ⟨(Fr.alloc none_ _ _).keep (by assumption), (Fr.alloc none_ _ _).keep (by assumption)⟩) | (go_split_ands; with_reducible exact ⟨six_keep nq (by assumption), six_keep nr (by assumption)⟩) | go_keep)
      (first | (go_at_call 82; (with_reducible refine Calls.mono (NUM.out _ ?_) ?_); (focus (first | (with_reducible exact Fr.refl none_ w4) | (with_reducible exact Fr.drew none_ w4))); rintro e w9 ⟨rfl, d9, k9, hw9⟩; have HW9 := Lib.hid hw9; clear hw9; skip) | (go_at_call 82; (with_reducible refine Calls.mono (NUMB.out _ ?_ ?_) ?_); (focus (repeat' first | (with_reducible exact Fr.refl none_ _) | (with_reducible refine Fr.drew_r ?_) | (with_reducible refine Fr.alloc_r ?_ _))); (focus (repeat' first | (with_reducible exact Row.new w4 _ _) | (with_reducible refine Row.drew ?_) | exact Row.new w4.drew _ _)); rintro e w9 ⟨rfl, d9, k9, hw9, j0, j1, j2, j3, j4, j5, z0, z1, z2, z3, z4, z5⟩; have HW9 := Lib.hid hw9; clear hw9; skip))
    · clear NUM NUMB
      go_wp2_with fail
      go_meet
      have e9 : w9.heap.size = w2.heap.size + 2 := by rw [HW9.out]; simp [HSZ4.out]
      refine ⟨by rw [← e9], ?_⟩
      rw [HW9.out]
      exact FINA.out w4.drew (Fr.drew none_ w4) rfl
    · clear NUM NUMB
      go_wp2_with fail
      go_meet
      refine ⟨by rw [← HSZ4.out], ?_⟩
      rw [HW9.out]
      first | exact FINB.out _ ((Fr.alloc none_ w4 _).drew_r) (Row.new w4 _ _).drew | exact FINB.out _ ((Fr.drew none_ w4).alloc_r _) (Row.new w4.drew _ _)
  case rest =>
    obtain ⟨rfl, C1⟩ := hcut
    have HN := Lib.hid (show n.wr < 9223372036854775808 ∧ n.nx < 18446744073709551616 ∧ n.sg < 9223372036854775808 from ⟨NOK.out.wr, NOK.out.nx, NOK.out.sg⟩)
    have a1 := C1.at_.cell 0
    have z1 := C1.at_.free 0
    have C2 := Lib.hid (C1.setAt RN.out 10 (v := 10) rfl)
    have N2 := Lib.hid (C2.out.number RN.out (by have := HSS.out; have := HB.out; omega) n.nx HN.out.2.1 (fun i b hb => by rw [HSD.out]; exact P3.out i b hb) 18 rfl)
    clear rq ra hr4 hcells4 f04 hsz4 f24 hw4 hu9 h0e h0l heq0 hS hsz1 c8 C1
    clear NOK
    go_wp2_with fail
    refine N2.out.mono ?_
    rintro e w5 ⟨rfl, C3⟩
    have a3 := C3.at_.cell 0
    have k3 := C3.slot.cell 3
    have z3 := C3.slot.free 3
    have C4 := Lib.hid (C3.setField RN.out 3 (.int .u64 (n.nx : Int)))
    clear C3 a1 z1 N2 C2
    cases hrc : n.rcd with
    | true =>
      have hk := kind_yes hrc
      have hkn : (n.kind.toNat : Int) = 2 := by rw [hk]; rfl
      have HAT := Lib.hid (show A = 26 by rw [HA.out]; unfold UV.at_; rw [hrc]; rfl)
      have HRC := Lib.hid hrc
      have N4 := Lib.hid (C4.out.number RN.out (by have := HSS.out; have := HAT.out; omega) n.sg (by have := HN.out.2.2; omega) (fun i b hb => by rw [HSD.out]; exact P4.out HRC.out i b hb) 26 rfl)
      clear hk hrc
      go_wp2_with fail
      refine N4.out.mono ?_
      rintro e w6 ⟨rfl, C5⟩
      have k5 := C5.slot.cell 4
      have z5 := C5.slot.free 4
      have C6 := Lib.hid (C5.setField RN.out 4 (.int .u64 (n.sg : Int)))
      have HCE := Lib.hid (show ((((#[byteV n.kind, byteV n.tb, .int .u64 (n.wr : Int), .int .u64 0, .int .u64 0, .string ⟨#[]⟩] : Array Value).setIfInBounds 3 (.int .u64 (n.nx : Int))).setIfInBounds 4 (.int .u64 (n.sg : Int))).setIfInBounds 5 (.string n.rest)) = n.cells from rfl)
      clear C5 N4 a3 k3 z3
      have ak := C6.out.at_.cell 0
      have bk := C6.out.sl.cell 0
      have q5 := C6.out.slot.cell 5
      have y5 := C6.out.slot.free 5
      have hv : n.rest.size ≤ 260 := HB.out.2.2
      have m0 : (be 2 n.rest.size)[0]? = some (UInt8.ofNat (n.rest.size / 256)) := by rw [be2]; rfl
      have m1 : (be 2 n.rest.size)[1]? = some (UInt8.ofNat n.rest.size) := by rw [be2]; rfl
      have v0 : byteV (UInt8.ofNat (n.rest.size / 256)) = .int .u8 ((n.rest.size / 256 : Nat) : Int) := by unfold byteV; rw [UInt8.toNat_ofNat']; congr 2; omega
      have v1 : byteV (UInt8.ofNat n.rest.size) = .int .u8 ((n.rest.size % 256 : Nat) : Int) := by unfold byteV; rw [UInt8.toNat_ofNat']
      have hlen := HSS.out
      have hat := HAT.out
      have g16 := get16 _ w1.heap.size 0 S.size cap 26 ((n.rest.size / 256 : Nat) : Int) ((n.rest.size % 256 : Nat) : Int) (by omega) (by omega) RN.out.c RN.out.c2 ((C6.out.bytes (0 + 26) _ (by rw [HSD.out, Nat.zero_add]; have := P5.out 0 _ m0; rw [hat] at this; exact this)).trans (by rw [v0])) ((C6.out.bytes (0 + 26 + 1) _ (by rw [HSD.out, Nat.zero_add]; have := P5.out 1 _ m1; rw [hat] at this; exact this)).trans (by rw [v1])) (by omega) (by omega) (by omega) (by omega)
      rw [show ((n.rest.size / 256 : Nat) : Int) * 256 + ((n.rest.size % 256 : Nat) : Int) = (n.rest.size : Int) by omega] at g16
      have G16 := Lib.hid g16
      clear g16 m0 m1 v0 v1 hlen hat
      go_wp2_with fail
      refine G16.out.mono ?_
      rintro e w7 ⟨rfl, rfl⟩
      have C7 := Lib.hid (C6.out.setField RN.out 5 (.string n.rest))
      have hext : S.extract (26 + 2) (26 + 2 + n.rest.size) = n.rest := by
        apply ByteArray.ext
        apply Array.ext'
        rw [ByteArray.data_extract, Array.toList_extract, List.extract_eq_take_drop, HSD.out]
        have := P6.out
        rw [HAT.out] at this
        rw [Nat.add_sub_cancel_left]; exact this
      have wi3 : IntKind.i64.wrap (n.rest.size : Int) = (n.rest.size : Int) := IntWalk.i64_in _ (by omega)
      have wi4 : IntKind.i64.wrap (28 + (n.rest.size : Int)) = 28 + (n.rest.size : Int) := IntWalk.i64_in _ (by omega)
      have s1 : 0 ≤ 28 + (n.rest.size : Int) := by omega
      have s2 : 28 + (n.rest.size : Int) ≤ (S.size : Int) := by have := HSS.out; have := HAT.out; omega
      have s3 : (28 : Int) ≤ 28 + (n.rest.size : Int) := by omega
      have ex : S.extract 28 (28 + (n.rest.size : Int)).toNat = n.rest := by rw [show (28 + (n.rest.size : Int)).toNat = 26 + 2 + n.rest.size by omega]; exact hext
      obtain ⟨c0, c1, c2, c3, c4, c5⟩ := six_cells C7.out.slot
      have R7 := Lib.hid C7.out.res
      have FIN7 := Lib.hid (show ∀ W, Row W w.heap.size n.cells 87 → W.cell? ⟨w.heap.size, 0, none⟩ = some (.int .u8 (n.kind.toNat : Int)) ∧ W.cell? ⟨w.heap.size, 1, none⟩ = some (.int .u8 (n.tb.toNat : Int)) ∧ W.cell? ⟨w.heap.size, 2, none⟩ = some (.int .u64 (n.wr : Int)) ∧ W.cell? ⟨w.heap.size, 3, none⟩ = some (.int .u64 (n.nx : Int)) ∧ W.cell? ⟨w.heap.size, 4, none⟩ = some (.int .u64 (n.sg : Int)) ∧ W.cell? ⟨w.heap.size, 5, none⟩ = some (.string n.rest) from fun W r => ⟨r.cell 0, r.cell 1, r.cell 2, r.cell 3, r.cell 4, r.cell 5⟩)
      have HVE := Lib.hid (show n.cells = #[.int .u8 (n.kind.toNat : Int), .int .u8 (n.tb.toNat : Int), .int .u64 (n.wr : Int), .int .u64 (n.nx : Int), .int .u64 (n.sg : Int), .string n.rest] from rfl)
      clear hext G16 hv
      go_wp2_with ((with_reducible refine at_storeOf 87 ?_); refine wpStoreRow (cs' := n.cells) rfl _ _ _ rfl R7.out rfl (by first | rfl | (rw [← HCE.out]; rfl)) (by kernel_rfl) rfl (by rw [HVE.out]; simp [Value.oneCell']) ?_; intro w8 R8 f8; obtain ⟨b0, b1, b2, b3, b4, b5⟩ := FIN7.out _ R8; have F8 := Lib.hid f8; clear f8 R8)
      refine bodyPost_ret (v := .tuple #[.agg n.cells, .bool true]) (by simp [results, Tryz.results50, go_sem, b0, b1, b2, b3, b4, b5, HVE.out]) rfl ⟨rfl, ?_⟩
      exact C7.out.fr.step F8.out (fun i hi e => by unfold one at e; omega)
    | false =>
      have hk := kind_no hrc
      have hkn : (n.kind.toNat : Int) = 1 := by rw [hk]; rfl
      have HAT := Lib.hid (show A = 18 by rw [HA.out]; unfold UV.at_; rw [hrc]; rfl)
      have HRC := Lib.hid hrc
      have C6 := Lib.hid C4.out
      have HCE := Lib.hid (show (((#[byteV n.kind, byteV n.tb, .int .u64 (n.wr : Int), .int .u64 0, .int .u64 0, .string ⟨#[]⟩] : Array Value).setIfInBounds 3 (.int .u64 (n.nx : Int))).setIfInBounds 5 (.string n.rest)) = n.cells by unfold UV.cells; rw [HSG.out hrc]; rfl)
      clear hk hrc
      have ak := C6.out.at_.cell 0
      have bk := C6.out.sl.cell 0
      have q5 := C6.out.slot.cell 5
      have y5 := C6.out.slot.free 5
      have hv : n.rest.size ≤ 260 := HB.out.2.2
      have m0 : (be 2 n.rest.size)[0]? = some (UInt8.ofNat (n.rest.size / 256)) := by rw [be2]; rfl
      have m1 : (be 2 n.rest.size)[1]? = some (UInt8.ofNat n.rest.size) := by rw [be2]; rfl
      have v0 : byteV (UInt8.ofNat (n.rest.size / 256)) = .int .u8 ((n.rest.size / 256 : Nat) : Int) := by unfold byteV; rw [UInt8.toNat_ofNat']; congr 2; omega
      have v1 : byteV (UInt8.ofNat n.rest.size) = .int .u8 ((n.rest.size % 256 : Nat) : Int) := by unfold byteV; rw [UInt8.toNat_ofNat']
      have hlen := HSS.out
      have hat := HAT.out
      have g16 := get16 _ w1.heap.size 0 S.size cap 18 ((n.rest.size / 256 : Nat) : Int) ((n.rest.size % 256 : Nat) : Int) (by omega) (by omega) RN.out.c RN.out.c2 ((C6.out.bytes (0 + 18) _ (by rw [HSD.out, Nat.zero_add]; have := P5.out 0 _ m0; rw [hat] at this; exact this)).trans (by rw [v0])) ((C6.out.bytes (0 + 18 + 1) _ (by rw [HSD.out, Nat.zero_add]; have := P5.out 1 _ m1; rw [hat] at this; exact this)).trans (by rw [v1])) (by omega) (by omega) (by omega) (by omega)
      rw [show ((n.rest.size / 256 : Nat) : Int) * 256 + ((n.rest.size % 256 : Nat) : Int) = (n.rest.size : Int) by omega] at g16
      have G16 := Lib.hid g16
      clear g16 m0 m1 v0 v1 hlen hat
      go_wp2_with fail
      refine G16.out.mono ?_
      rintro e w7 ⟨rfl, rfl⟩
      have C7 := Lib.hid (C6.out.setField RN.out 5 (.string n.rest))
      have hext : S.extract (18 + 2) (18 + 2 + n.rest.size) = n.rest := by
        apply ByteArray.ext
        apply Array.ext'
        rw [ByteArray.data_extract, Array.toList_extract, List.extract_eq_take_drop, HSD.out]
        have := P6.out
        rw [HAT.out] at this
        rw [Nat.add_sub_cancel_left]; exact this
      have wi3 : IntKind.i64.wrap (n.rest.size : Int) = (n.rest.size : Int) := IntWalk.i64_in _ (by omega)
      have wi4 : IntKind.i64.wrap (20 + (n.rest.size : Int)) = 20 + (n.rest.size : Int) := IntWalk.i64_in _ (by omega)
      have s1 : 0 ≤ 20 + (n.rest.size : Int) := by omega
      have s2 : 20 + (n.rest.size : Int) ≤ (S.size : Int) := by have := HSS.out; have := HAT.out; omega
      have s3 : (20 : Int) ≤ 20 + (n.rest.size : Int) := by omega
      have ex : S.extract 20 (20 + (n.rest.size : Int)).toNat = n.rest := by rw [show (20 + (n.rest.size : Int)).toNat = 18 + 2 + n.rest.size by omega]; exact hext
      obtain ⟨c0, c1, c2, c3, c4, c5⟩ := six_cells C7.out.slot
      have R7 := Lib.hid C7.out.res
      have FIN7 := Lib.hid (show ∀ W, Row W w.heap.size n.cells 87 → W.cell? ⟨w.heap.size, 0, none⟩ = some (.int .u8 (n.kind.toNat : Int)) ∧ W.cell? ⟨w.heap.size, 1, none⟩ = some (.int .u8 (n.tb.toNat : Int)) ∧ W.cell? ⟨w.heap.size, 2, none⟩ = some (.int .u64 (n.wr : Int)) ∧ W.cell? ⟨w.heap.size, 3, none⟩ = some (.int .u64 (n.nx : Int)) ∧ W.cell? ⟨w.heap.size, 4, none⟩ = some (.int .u64 (n.sg : Int)) ∧ W.cell? ⟨w.heap.size, 5, none⟩ = some (.string n.rest) from fun W r => ⟨r.cell 0, r.cell 1, r.cell 2, r.cell 3, r.cell 4, r.cell 5⟩)
      have HVE := Lib.hid (show n.cells = #[.int .u8 (n.kind.toNat : Int), .int .u8 (n.tb.toNat : Int), .int .u64 (n.wr : Int), .int .u64 (n.nx : Int), .int .u64 (n.sg : Int), .string n.rest] from rfl)
      clear hext G16 hv
      go_wp2_with ((with_reducible refine at_storeOf 87 ?_); refine wpStoreRow (cs' := n.cells) rfl _ _ _ rfl R7.out rfl (by first | rfl | (rw [← HCE.out]; rfl)) (by kernel_rfl) rfl (by rw [HVE.out]; simp [Value.oneCell']) ?_; intro w8 R8 f8; obtain ⟨b0, b1, b2, b3, b4, b5⟩ := FIN7.out _ R8; have F8 := Lib.hid f8; clear f8 R8)
      refine bodyPost_ret (v := .tuple #[.agg n.cells, .bool true]) (by simp [results, Tryz.results50, go_sem, b0, b1, b2, b3, b4, b5, HVE.out]) rfl ⟨rfl, ?_⟩
      exact C7.out.fr.step F8.out (fun i hi e => by unfold one at e; omega)
end Go.Proofs.YtckkccnebjacdaaGreat
