/-
  Package chain: a version's bytes.
-/
import Derived.Test.YteefcfndlggajaaBits64
import Derived.Test.YteefcfndlggajaaBits
namespace Go.Proofs.Yteefcfndlggajaa
open Go.RowKit
set_option linter.unusedVariables false
set_option linter.unusedSimpArgs false
set_option maxRecDepth 100000

theorem putAt_mid {α : Type} (p q r vs : List α) (o : Nat) (ho : p.length = o) (h : q.length = vs.length) : putAt (p ++ (q ++ r)) o vs = p ++ (vs ++ r) := by
  subst ho
  have e1 : (p ++ (q ++ r)).take p.length = p := List.take_left' rfl
  have e2 : (p ++ (q ++ r)).drop (p.length + vs.length) = r := by
    rw [← List.append_assoc]
    exact List.drop_left' (by rw [List.length_append, h])
  unfold putAt
  rw [e1, e2, List.append_assoc]
theorem set_mid {α : Type} (p r : List α) (u v : α) (o : Nat) (ho : p.length = o) : (p ++ u :: r).set o v = p ++ v :: r := by
  subst ho
  rw [List.set_append_right _ _ (Nat.le_refl _), Nat.sub_self]; rfl
def zb : Value := byteV 0
theorem zrow (sz : Nat) : ((List.replicate (27 + sz) (0 : UInt8)).map byteV) = [] ++ (List.replicate 8 zb ++ (List.replicate 8 zb ++ (List.replicate 8 zb ++ (zb :: zb :: zb :: List.replicate sz zb)))) := by
  rw [List.map_replicate, show 27 + sz = 8 + (8 + (8 + (sz + 1 + 1 + 1))) by omega]
  show List.replicate _ zb = _
  rw [← List.replicate_append_replicate, ← List.replicate_append_replicate, ← List.replicate_append_replicate, List.replicate_succ, List.replicate_succ, List.replicate_succ]
  rfl
theorem putAtA_list (L vs : List Value) (o : Nat) : putAtA L.toArray o vs = (putAt L o vs).toArray := by unfold putAtA; simp
/-- The row behind three numbers. -/
theorem three_put (a b c : List Value) (ha : a.length = 8) (hb : b.length = 8) (hc : c.length = 8) (sz : Nat) :
    putAtA (putAtA (putAtA ((List.replicate (27 + sz) (0 : UInt8)).map byteV).toArray 0 a) 8 b) 16 c = ((a ++ (b ++ c)) ++ (zb :: zb :: zb :: List.replicate sz zb)).toArray := by
  have s1 : putAtA ((List.replicate (27 + sz) (0 : UInt8)).map byteV).toArray 0 a = (a ++ (List.replicate 8 zb ++ (List.replicate 8 zb ++ (zb :: zb :: zb :: List.replicate sz zb)))).toArray := by
    rw [zrow, putAtA_list, putAt_mid [] _ _ a 0 rfl (by simp [ha])]; rfl
  have s2 : putAtA (a ++ (List.replicate 8 zb ++ (List.replicate 8 zb ++ (zb :: zb :: zb :: List.replicate sz zb)))).toArray 8 b = ((a ++ b) ++ (List.replicate 8 zb ++ (zb :: zb :: zb :: List.replicate sz zb))).toArray := by
    rw [putAtA_list, putAt_mid a _ _ b 8 ha (by simp [hb]), List.append_assoc]
  rw [s1, s2, putAtA_list, putAt_mid (a ++ b) _ _ c 16 (by simp [ha, hb]) (by simp [hc])]
  simp [List.append_assoc]
theorem add_str (l : List UInt8) (b : ByteArray) : strOf l ++ b = strOf (l ++ b.data.toList) := by
  apply ByteArray.ext
  simp [strOf]
theorem u8i : (Try.prog.info? 5).map (fun i => (i.zero, i.size, i.bytes)) = some (some (.int .u8 0), 1, 1) := by kernel_rfl
def NV.node (n : NV) : Value := .agg #[.int .i64 (n.wr : Int), .int .i64 (n.ts : Int), .bool n.tomb, .string n.val, .int .u64 (n.nx : Int)]
/-- The row behind all. -/
def NV.row (n : NV) : List Value := (be 8 n.wr).map byteV ++ ((be 8 n.ts).map byteV ++ (be 8 n.nx).map byteV)
theorem NV.row_length (n : NV) : n.row.length = 24 := by unfold NV.row; simp [be_length]
theorem NV.head_row (n : NV) (u0 u1 u2 : UInt8) (h0 : u0 = if n.tomb then 1 else 0) (h12 : [u1, u2] = be 2 n.val.size) : n.head.map byteV = n.row ++ [byteV u0, byteV u1, byteV u2] := by
  unfold NV.head NV.row
  rw [← h12, ← h0]
  simp [List.append_assoc]
theorem mid25 (p r : List Value) (u v z : Value) (h : p.length = 24) : (p ++ (u :: v :: z :: r))[25]? = some v := by rw [List.getElem?_append_right (by omega), h]; rfl
theorem mid26 (p r : List Value) (u v z : Value) (h : p.length = 24) : (p ++ (u :: v :: z :: r))[26]? = some z := by rw [List.getElem?_append_right (by omega), h]; rfl
theorem be2 (k : Nat) : be 2 k = [UInt8.ofNat (k / 256), UInt8.ofNat k] := by
  unfold be; unfold be; unfold be; rfl
theorem head_at (n : NV) : ∀ i, i < 27 → (((n.head.map byteV) ++ List.replicate n.val.size zb).toArray)[0 + i]? = some (byteV (n.head.getD i 0)) := by
  intro i hi
  have hl := n.head_length
  rw [Nat.zero_add, List.getElem?_toArray, List.getElem?_append_left (by rw [List.length_map]; omega), List.getElem?_map, List.getElem?_eq_getElem (by omega)]
  simp [List.getD, hl, hi]
theorem row_end (n : NV) (u0 : UInt8) (h0 : u0 = if n.tomb then 1 else 0) (hv : n.val.size ≤ 65535) {w : World} {g : Nat} {t : TypeId}
    (q : Row w g (((n.row ++ (byteV u0 :: zb :: zb :: List.replicate n.val.size zb)).toArray.setIfInBounds 25 (.int .u8 ((n.val.size : Int) / 256))).setIfInBounds 26 (.int .u8 ((n.val.size : Int) % 256))) t) : Row w g ((n.head.map byteV) ++ List.replicate n.val.size zb).toArray t := by
  have e1 : (n.row ++ (byteV u0 :: zb :: zb :: List.replicate n.val.size zb)).set 25 (.int .u8 ((n.val.size : Int) / 256)) = n.row ++ (byteV u0 :: .int .u8 ((n.val.size : Int) / 256) :: zb :: List.replicate n.val.size zb) := by
    have := set_mid (n.row ++ [byteV u0]) (zb :: List.replicate n.val.size zb) zb (.int .u8 ((n.val.size : Int) / 256)) 25 (by rw [List.length_append, n.row_length]; rfl)
    simpa [List.append_assoc] using this
  have e2 : (n.row ++ (byteV u0 :: .int .u8 ((n.val.size : Int) / 256) :: zb :: List.replicate n.val.size zb)).set 26 (.int .u8 ((n.val.size : Int) % 256)) = n.row ++ (byteV u0 :: .int .u8 ((n.val.size : Int) / 256) :: .int .u8 ((n.val.size : Int) % 256) :: List.replicate n.val.size zb) := by
    have := set_mid (n.row ++ [byteV u0, .int .u8 ((n.val.size : Int) / 256)]) (List.replicate n.val.size zb) zb (.int .u8 ((n.val.size : Int) % 256)) 26 (by rw [List.length_append, n.row_length]; rfl)
    simpa [List.append_assoc] using this
  simp only [List.setIfInBounds_toArray] at q
  rw [e1, e2] at q
  have b1 : byteV (UInt8.ofNat (n.val.size / 256)) = .int .u8 ((n.val.size : Int) / 256) := by
    unfold byteV; rw [UInt8.toNat_ofNat']; congr 1; omega
  have b2 : byteV (UInt8.ofNat n.val.size) = .int .u8 ((n.val.size : Int) % 256) := by
    unfold byteV; rw [UInt8.toNat_ofNat']; rfl
  rw [n.head_row u0 _ _ h0 (be2 n.val.size).symm, b1, b2]
  simpa [List.append_assoc] using q
set_option maxHeartbeats 4000000 in
theorem Chain_bytes (w : World) (v0 : Value) (n : NV) (h1 : n.wr < 9223372036854775808) (h2 : n.ts < 9223372036854775808) (h3 : n.nx < 18446744073709551616) (hv : n.val.size ≤ 65535) :
    Calls Try.prog 47 #[v0, .agg #[.int .i64 (n.wr : Int), .int .i64 (n.ts : Int), .bool n.tomb, .string n.val, .int .u64 (n.nx : Int)]] w fun e w' => e = .returned (.string (strOf n.enc)) ∧ Fr none_ w w' := by
  have hadd := add_str n.head n.val
  have hsz : (strOf n.head).size + n.val.size ≤ 9223372036854775807 := by rw [strOf_size, n.head_length]; omega
  have HADD := Lib.hid hadd
  obtain ⟨sz, hsze⟩ : ∃ sz, sz = n.val.size := ⟨_, rfl⟩
  obtain ⟨cN, hcN⟩ : ∃ cN, cN = 27 + n.val.size := ⟨_, rfl⟩
  have HCN := Lib.hid hcN
  have w1' : IntKind.i64.wrap (27 + (n.val.size : Int)) = (cN : Int) := by rw [show 27 + (n.val.size : Int) = (cN : Int) by omega]; exact IntWalk.i64_in _ (by omega)
  have hc27 : 27 ≤ cN := by omega
  have hcb : cN ≤ 1000000 := by omega
  clear hcN hsze
  have wu1 : IntKind.u64.wrap (n.wr : Int) = (n.wr : Int) := by rw [IntKind.wrap_u64]; omega
  have wu2 : IntKind.u64.wrap (n.ts : Int) = (n.ts : Int) := by rw [IntKind.wrap_u64]; omega
  have wu3 : IntKind.u16.wrap (n.val.size : Int) = (n.val.size : Int) := by rw [IntKind.wrap_u16]; omega
  obtain ⟨g, hg⟩ : ∃ g, g = w.heap.size + 1 := ⟨_, rfl⟩
  have hgs : (w.alloc (.cells #[.int .i64 (n.wr : Int), .int .i64 (n.ts : Int), .bool n.tomb, .string n.val, .int .u64 (n.nx : Int)] 36)).heap.size = g := by rw [hg]; simp
  have HB := Lib.hid (show ∀ w', Fr (one g) (w.alloc (.cells #[.int .i64 (n.wr : Int), .int .i64 (n.ts : Int), .bool n.tomb, .string n.val, .int .u64 (n.nx : Int)] 36)) w' → w'.cell? ⟨w.heap.size, 0, none⟩ = some (.int .i64 (n.wr : Int)) ∧ w'.cell? ⟨w.heap.size, 1, none⟩ = some (.int .i64 (n.ts : Int)) ∧ w'.cell? ⟨w.heap.size, 2, none⟩ = some (.bool n.tomb) ∧ w'.cell? ⟨w.heap.size, 3, none⟩ = some (.string n.val) ∧ w'.cell? ⟨w.heap.size, 4, none⟩ = some (.int .u64 (n.nx : Int)) from fun w' f => by
    have hne : ¬ one g w.heap.size := fun e => by unfold one at e; omega
    exact ⟨f.keepF hne (by simp), f.keepF hne (by simp), f.keepF hne (by simp), f.keepF hne (by simp), f.keepF hne (by simp)⟩)
  have HFA := Lib.hid (Fr.alloc none_ w (.cells #[.int .i64 (n.wr : Int), .int .i64 (n.ts : Int), .bool n.tomb, .string n.val, .int .u64 (n.nx : Int)] 36))
  have HGW := Lib.hid (show w.heap.size ≤ g by omega)
  clear hg
  go_enter Try.func47, Try.ntmps47
  go_wp2_with ((with_reducible refine at_slot 11 ?_); refine wpMakeBytes rfl _ _ _ 5 rfl Try.underlying80 u8i .i64 .i64 27 cN rfl rfl (by omega) (by omega) ?_; intro w2 hrow f2 hs2; clear hs2; rw [hgs] at hrow; obtain ⟨k0, k1, k2, k3, k4⟩ := HB.out _ f2.none)
  have F2 := Lib.hid f2
  have R2 := Lib.hid hrow
  clear hrow f2
  refine (put64 R2.out 0 27 cN 0 n.wr (by omega) (by omega) (by omega) (by simp; omega) (by omega)).mono ?_
  rintro e w3 ⟨rfl, hr3, f3⟩
  have F3 := Lib.hid (F2.out.none.trans f3)
  have R3 := Lib.hid hr3
  obtain ⟨k0, k1, k2, k3, k4⟩ := HB.out _ F3.out
  clear hr3 f3 R2 F2
  have sz0 : (((List.replicate cN (0 : UInt8)).map byteV).toArray).size = cN := by simp
  have sz1 := putAtA_size (((List.replicate cN (0 : UInt8)).map byteV).toArray) (0 + 0) ((be 8 n.wr).map byteV) (by rw [sz0, List.length_map, be_length]; omega)
  rw [sz0] at sz1
  have SZ1 := Lib.hid sz1
  clear sz0 sz1
  go_wp2_with fail
  refine (put64 R3.out 0 27 cN 8 n.ts (by omega) (by omega) (by omega) (by rw [SZ1.out]; omega) (by omega)).mono ?_
  rintro e w4 ⟨rfl, hr4, f4⟩
  have F4 := Lib.hid (F3.out.trans f4)
  have R4 := Lib.hid hr4
  have sz2 := putAtA_size _ (0 + 8) ((be 8 n.ts).map byteV) (by rw [SZ1.out, List.length_map, be_length]; omega)
  rw [SZ1.out] at sz2
  have SZ2 := Lib.hid sz2
  obtain ⟨m0, m1, m2, m3, m4⟩ := HB.out _ F4.out
  clear hr4 f4 R3 F3 k0 k1 k2 k3 k4 sz2
  go_wp2_with fail
  refine (put64 R4.out 0 27 cN 16 n.nx (by omega) (by omega) (by omega) (by rw [SZ2.out]; omega) h3).mono ?_
  rintro e w5 ⟨rfl, hr5, f5⟩
  have F5 := Lib.hid (F4.out.trans f5)
  have hr5' : Row w5 g (n.row ++ (zb :: zb :: zb :: List.replicate n.val.size zb)).toArray 5 := by
    have e := three_put ((be 8 n.wr).map byteV) ((be 8 n.ts).map byteV) ((be 8 n.nx).map byteV) (by simp [be_length]) (by simp [be_length]) (by simp [be_length]) n.val.size
    rw [← HCN.out] at e
    simp only [Nat.zero_add] at hr5
    rw [e] at hr5
    exact hr5
  have R5 := Lib.hid hr5'
  obtain ⟨k0, k1, k2, k3, k4⟩ := HB.out _ F5.out
  clear hr5 f5 R4 F4 m0 m1 m2 m3 m4 hr5'
  cases hT : n.tomb with
  | true =>
    rw [hT] at k2
    have c24 : w5.cell? ⟨g, 24, none⟩ = some zb := (R5.out.cell 24).trans (by simp [NV.row_length])
    have z24 := R5.out.free 24
    have R6 := Lib.hid (show Row (w5.setCell ⟨g, 24, none⟩ (.int .u8 1)) g (n.row ++ (byteV 1 :: zb :: zb :: List.replicate n.val.size zb)).toArray 5 from by
      have q := R5.out.set 24 (.int .u8 1)
      rw [List.setIfInBounds_toArray, set_mid _ _ _ _ 24 n.row_length] at q
      exact q)
    have F6 := Lib.hid (F5.out.trans (Fr.setCell (one g) w5 ⟨g, 24, none⟩ (.int .u8 1) (fun _ => rfl)))
    obtain ⟨j0, j1, j2, j3, j4⟩ := HB.out _ F6.out
    have q25 : (w5.setCell ⟨g, 24, none⟩ (.int .u8 1)).cell? ⟨g, 0 + (25 : Int).toNat, none⟩ = some zb := (R6.out.cell 25).trans (by rw [List.getElem?_toArray]; exact mid25 _ _ _ _ _ n.row_length)
    have q26 : (w5.setCell ⟨g, 24, none⟩ (.int .u8 1)).cell? ⟨g, 0 + (25 : Int).toNat + 1, none⟩ = some zb := (R6.out.cell 26).trans (by rw [List.getElem?_toArray]; exact mid26 _ _ _ _ _ n.row_length)
    have P16 := Lib.hid (put16 (w5.setCell ⟨g, 24, none⟩ (.int .u8 1)) g 0 27 cN 25 (n.val.size : Int) (by omega) (by omega) (by omega) (by omega) zb zb q25 q26 (R6.out.free _) (R6.out.free _) (by omega) (by omega))
    clear q25 q26
    go_wp2_with fail
    refine P16.out.mono ?_
    rintro e w7 ⟨rfl, hw7⟩
    have hw7' : w7 = ((w5.setCell ⟨g, 24, none⟩ (.int .u8 1)).setCell ⟨g, 25, none⟩ (.int .u8 ((n.val.size : Int) / 256))).setCell ⟨g, 26, none⟩ (.int .u8 ((n.val.size : Int) % 256)) := hw7
    have R7 := Lib.hid (show Row w7 g ((n.head.map byteV) ++ List.replicate n.val.size zb).toArray 5 from by
      have q := (R6.out.set 25 (.int .u8 ((n.val.size : Int) / 256))).set 26 (.int .u8 ((n.val.size : Int) % 256))
      rw [← hw7'] at q
      exact row_end n 1 (by rw [hT]; rfl) hv q)
    have F7 := Lib.hid (show Fr (one g) _ w7 from by rw [hw7']; exact (F6.out.trans (Fr.setCell (one g) _ ⟨g, 25, none⟩ _ (fun _ => rfl))).trans (Fr.setCell (one g) _ ⟨g, 26, none⟩ _ (fun _ => rfl)))
    obtain ⟨o0, o1, o2, o3, o4⟩ := HB.out _ F7.out
    clear hw7 hw7' j0 j1 j2 j3 j4 k0 k1 k2 k3 k4
    go_wp2_with (first
      | ((with_reducible refine at_slot 41 ?_); refine wpString rfl _ _ _ 5 rfl R7.out Try.underlying80 Try.underlying5 Try.underlying9 0 27 cN rfl n.head n.head_length (head_at n) ?_)
      | ((with_reducible refine at_slot 45 ?_); refine wpAddStr rfl _ _ _ _ rfl (strOf n.head) n.val rfl rfl hsz _ hadd ?_))
    go_ret
    exact ⟨rfl, HFA.out.step F7.out (fun i hi e => by have := HGW.out; unfold one at e; omega)⟩
  | false =>
    rw [hT] at k2
    obtain ⟨j0, j1, j2, j3, j4⟩ := HB.out _ F5.out
    have q25 : w5.cell? ⟨g, 0 + (25 : Int).toNat, none⟩ = some zb := (R5.out.cell 25).trans (by rw [List.getElem?_toArray]; exact mid25 _ _ _ _ _ n.row_length)
    have q26 : w5.cell? ⟨g, 0 + (25 : Int).toNat + 1, none⟩ = some zb := (R5.out.cell 26).trans (by rw [List.getElem?_toArray]; exact mid26 _ _ _ _ _ n.row_length)
    have P16 := Lib.hid (put16 w5 g 0 27 cN 25 (n.val.size : Int) (by omega) (by omega) (by omega) (by omega) zb zb q25 q26 (R5.out.free _) (R5.out.free _) (by omega) (by omega))
    clear q25 q26
    go_wp2_with fail
    refine P16.out.mono ?_
    rintro e w7 ⟨rfl, hw7⟩
    have hw7' : w7 = (w5.setCell ⟨g, 25, none⟩ (.int .u8 ((n.val.size : Int) / 256))).setCell ⟨g, 26, none⟩ (.int .u8 ((n.val.size : Int) % 256)) := hw7
    have R7 := Lib.hid (show Row w7 g ((n.head.map byteV) ++ List.replicate n.val.size zb).toArray 5 from by
      have q := (R5.out.set 25 (.int .u8 ((n.val.size : Int) / 256))).set 26 (.int .u8 ((n.val.size : Int) % 256))
      rw [← hw7'] at q
      exact row_end n 0 (by rw [hT]; rfl) hv q)
    have F7 := Lib.hid (show Fr (one g) _ w7 from by rw [hw7']; exact (F5.out.trans (Fr.setCell (one g) _ ⟨g, 25, none⟩ _ (fun _ => rfl))).trans (Fr.setCell (one g) _ ⟨g, 26, none⟩ _ (fun _ => rfl)))
    obtain ⟨o0, o1, o2, o3, o4⟩ := HB.out _ F7.out
    clear hw7 hw7' j0 j1 j2 j3 j4 k0 k1 k2 k3 k4
    go_wp2_with (first
      | ((with_reducible refine at_slot 41 ?_); refine wpString rfl _ _ _ 5 rfl R7.out Try.underlying80 Try.underlying5 Try.underlying9 0 27 cN rfl n.head n.head_length (head_at n) ?_)
      | ((with_reducible refine at_slot 45 ?_); refine wpAddStr rfl _ _ _ _ rfl (strOf n.head) n.val rfl rfl hsz _ hadd ?_))
    go_ret
    exact ⟨rfl, HFA.out.step F7.out (fun i hi e => by have := HGW.out; unfold one at e; omega)⟩
end Go.Proofs.Yteefcfndlggajaa
