/-
  Package undo: a slot's bytes.
-/
import Derived.Test.YtckkccnebjacdaaGreatUnS
import Derived.Test.YtckkccnebjacdaaGreatAppZ
import Derived.Test.YtckkccnebjacdaaGreatMgBe
import Derived.Test.YtckkccnebjacdaaGreatMgTextMay
import Derived.Test.YtckkccnebjacdaaGreatMgRange
namespace Go.Proofs.YtckkccnebjacdaaGreat
open Go.RowKit
set_option linter.unusedVariables false
set_option linter.unusedSimpArgs false
set_option maxRecDepth 100000

/-- The bytes that were written so far: a slice of bytes in a cell of its own (the block q); its row is new since S. -/
def BsAt (S q : Nat) (w : World) (bs : List UInt8) : Prop :=
  ∃ g cap, Row w q #[.slice (some ⟨g, 0, none⟩) bs.length cap] 106 ∧ SlAt w (some ⟨g, 0, none⟩) bs.length cap 5 1 (bs.map byteV) ∧ g ≠ q ∧ S ≤ g
theorem set_last (xs : List Value) (o : Nat) (vs : List Value) (m : Nat) (h : xs.length = o) (hv : vs.length = m) (z : Value) : putAt (xs ++ List.replicate m z) o vs = xs ++ vs := by
  have := putAt_mid xs (List.replicate m z) [] vs o h (by simp [hv])
  simpa using this
set_option maxHeartbeats 2000000 in
theorem number_how {S q : Nat} {w : World} {bs : List UInt8} (h : BsAt S q w bs) (hl : bs.length ≤ 100) (n : Nat) (hn : n < 18446744073709551616) (hS : S ≤ w.heap.size) (hq : S ≤ q) :
    Calls Tryz.prog 89 #[.int .u64 (n : Int), .pointer (some ⟨q, 0, none⟩)] w fun e w' => e = .returned (.tuple #[]) ∧ BsAt S q w' (bs ++ be 8 n) ∧ Fr (fun k => S ≤ k) w w' := by
  obtain ⟨g, cap, hr, hs, hgq, hSg⟩ := h
  obtain ⟨L, hL⟩ : ∃ L, L = bs.length := ⟨_, rfl⟩
  rw [← hL] at hr hs
  have c0 : w.cell? ⟨q, 0, none⟩ = some (.slice (some ⟨g, 0, none⟩) L cap) := hr.cell 0
  have z0 := hr.free 0
  have HR := Lib.hid hr
  have HS := Lib.hid hs
  have HL := Lib.hid hL
  have HLT := Lib.hid hr.lt
  clear hr hs hL
  go_enter Tryz.func89, Tryz.ntmps89
  go_wp2_with ((with_reducible refine at_slot 7 ?_); refine wpAppendZ rfl _ _ _ _ rfl 5 (.int .u8 0) 1 Tryz.underlying106 Tryz.underlying3 u8i rfl rfl HS.out 8 rfl rfl (by omega) (by have := HL.out; unfold maxLen; omega) (by have := HL.out; omega) ?_; intro a' N cap' w2 hN hs2 f2 hb2; have R2 := Lib.hid (HR.out.kept f2 (fun e => hgq e.symm)); have z2 := R2.out.free 0; have c2 : w2.cell? ⟨q, 0, none⟩ = some (.slice (some ⟨g, 0, none⟩) L cap) := R2.out.cell 0; have S2 := Lib.hid hs2; have F2 := Lib.hid f2; have B2 := Lib.hid hb2; clear hs2 f2 hb2 c0 z0)
  have hN' := hN.out
  have hL' := HL.out
  obtain ⟨g', rfl⟩ := S2.out.isAddr (by omega)
  obtain ⟨s1, s2, s3, _, s5⟩ := S2.out
  obtain ⟨_, _, cur, r3, r4, r5⟩ := s5 _ rfl
  simp only [Nat.mul_one] at s1 r4 r5
  have hgq' : g' ≠ q := fun e => by
    rcases B2.out g' ((blk_some _ _ _).2 rfl) with q1 | q1
    · exact hgq (q1.symm.trans e)
    · have := HLT.out; omega
  have hSg' : S ≤ g' := by
    rcases B2.out g' ((blk_some _ _ _).2 rfl) with q1 | q1
    · omega
    · omega
  have r6 := r3.set_other q 0 (.slice (some ⟨g', 0, none⟩) N cap') hgq'
  have hq6 := R2.out.set 0 (.slice (some ⟨g', 0, none⟩) N cap')
  have HP := Lib.hid (put64 r6 0 N cap' L n (by omega) s2 (by unfold maxLen at s3; omega) (by omega) hn)
  have hcur : cur.toList.length = cap' := by rw [Array.length_toList]; exact r4
  have HC := Lib.hid (show ∀ vs : List Value, vs.length = 8 → (putAtA cur (0 + L) vs).size = cap' ∧ (putAtA cur (0 + L) vs).toList.take N = bs.map byteV ++ vs by
    intro vs hv
    refine ⟨by rw [putAtA_size _ _ _ (by omega), r4], ?_⟩
    unfold putAtA putAt
    have h1 : cur.toList.take L = bs.map byteV := by
      have : cur.toList.take L = (cur.toList.take N).take L := by rw [List.take_take, Nat.min_eq_left (by omega)]
      rw [this, r5]
      exact List.take_left' (by simp [hL'])
    rw [Nat.zero_add, h1]
    exact List.take_left' (by simp [hv]; omega))
  have HQ6 := Lib.hid hq6
  have F6 := Lib.hid (F2.out.mono (G := fun k => S ≤ k) fun k _ e => by unfold one at e; omega)
  have HB := Lib.hid (show S ≤ g' ∧ g' ≠ q ∧ N = L + 8 ∧ L = bs.length ∧ N ≤ cap' ∧ cap' ≤ maxLen ∧ (bs.map byteV).length = L from ⟨hSg', hgq', hN', hL', s2, s3, by simp [hL']⟩)
  clear r6 hq6 hcur s1 s2 s3 s5 r3 r4 r5 hN' hL' hN c2 z2 hgq' hSg'
  refine HP.out.mono ?_
  rintro e w3 ⟨rfl, hr3, f3⟩
  have R3 := Lib.hid hr3
  have F3 := Lib.hid f3
  clear hr3 f3
  go_wp2_with fail
  first | go_end0 | refine bodyPost_ret (results_none rfl _ _ _) rfl ?_
  obtain ⟨q1, q2, q3, q4, q5, q6, q7⟩ := HB.out
  obtain ⟨d1, d2⟩ := HC.out ((be 8 n).map byteV) (by simp [be_length])
  have hlen : (bs ++ be 8 n).length = N := by rw [List.length_append, be_length]; omega
  refine ⟨rfl, ⟨g', cap', ?_, ⟨?_, ?_, q6, (fun h => by cases h), ?_⟩, q2, q1⟩, ?_⟩
  · rw [hlen]; exact HQ6.out.kept F3.out (fun e => q2 e.symm)
  · rw [List.length_map, Nat.mul_one]
  · rw [hlen]; exact q5
  · intro ad had
    cases had
    refine ⟨rfl, rfl, _, R3.out, by rw [d1, Nat.mul_one], ?_⟩
    rw [hlen, Nat.mul_one, d2, List.map_append]
  · refine F6.out.trans ?_
    have fq : Fr (fun k => S ≤ k) w2 (w2.setCell ⟨q, 0, none⟩ (.slice (some ⟨g', 0, none⟩) N cap')) := Fr.setCell _ _ _ _ (fun _ => hq)
    exact fq.trans (F3.out.mono fun k _ e => by unfold one at e; omega)
def UV.tb (n : UV) : UInt8 := if n.tomb then 1 else 0
def UV.cells (n : UV) : Array Value := #[byteV n.kind, byteV n.tb, .int .u64 (n.wr : Int), .int .u64 (n.nx : Int), .int .u64 (n.sg : Int), .string n.rest]
theorem kind_yes {n : UV} (h : n.rcd = true) : n.kind = 2 := by unfold UV.kind; rw [h]; rfl
theorem kind_no {n : UV} (h : n.rcd = false) : n.kind = 1 := by unfold UV.kind; rw [h]; rfl
/-- Behind an append of so many bytes, and the store of what it hands back. -/
theorem BsAt.grown {S q g cap : Nat} {w w1 : World} {bs news : List UInt8} {N : Nat} (hr : Row w q #[.slice (some ⟨g, 0, none⟩) N cap] 106) (hN : N = bs.length) (hgq : g ≠ q) (hSg : S ≤ g) (hS : S ≤ w.heap.size) (hq : S ≤ q)
    {a' : Option Addr} {cap' m : Nat} (hm : m = news.length) (hm0 : 0 < m) (hs : SlAt w1 a' (N + m) cap' 5 1 (bs.map byteV ++ news.map byteV)) (f : Fr (blk (some ⟨g, 0, none⟩)) w w1) (hb : ∀ k, blk a' k → blk (some ⟨g, 0, none⟩) k ∨ w.heap.size ≤ k) :
    BsAt S q (w1.setCell ⟨q, 0, none⟩ (.slice a' (N + m) cap')) (bs ++ news) ∧ Fr (fun k => S ≤ k) w (w1.setCell ⟨q, 0, none⟩ (.slice a' (N + m) cap')) := by
  have hlt := hr.lt
  have hr1 := hr.kept f (fun e => hgq ((blk_some _ _ _).1 e))
  have hlen : (bs ++ news).length = N + m := by rw [List.length_append, hN, hm]
  obtain ⟨g', rfl⟩ := hs.isAddr (by omega)
  have hgg : g' = g ∨ w.heap.size ≤ g' := by
    rcases hb g' ((blk_some _ _ _).2 rfl) with q1 | q1
    · left; exact ((blk_some _ _ _).1 q1).symm
    · right; exact q1
  refine ⟨⟨g', cap', ?_, ?_, ?_, ?_⟩, ?_⟩
  · rw [hlen]; exact hr1.set 0 _
  · rw [hlen, List.map_append]
    exact hs.kept (Fr.setCell (one q) w1 ⟨q, 0, none⟩ _ (fun _ => rfl)) (fun k hk e => by
      rw [blk_some] at hk; unfold one at e
      rcases hgg with q1 | q1
      · exact hgq (by omega)
      · omega)
  · rcases hgg with q1 | q1
    · omega
    · omega
  · omega
  · exact (f.mono (G := fun k => S ≤ k) fun k _ e => by rw [blk_some] at e; omega).trans (Fr.setCell _ w1 ⟨q, 0, none⟩ _ (fun _ => hq))
set_option maxHeartbeats 8000000 in
theorem Slot_bytes (w : World) (n : UV) (h1 : n.wr < 18446744073709551616) (h2 : n.nx < 18446744073709551616) (h3 : n.sg < 18446744073709551616) (hv : n.rest.size ≤ 65535) :
    Calls Tryz.prog 56 #[.agg n.cells] w fun e w' => e = .returned (.string (strOf n.enc)) ∧ Fr none_ w w' := by
  obtain ⟨s0, hs0⟩ : ∃ s0, s0 = w.heap.size := ⟨_, rfl⟩
  have fb := Fr.alloc none_ w (.cells n.cells 87)
  have rb : Row (w.alloc (.cells n.cells 87)) s0 n.cells 87 := by rw [hs0]; exact Row.new w _ _
  have hsz : (w.alloc (.cells n.cells 87)).heap.size = s0 + 1 := by simp [hs0]
  have HB := Lib.hid (show ∀ w', Fr (fun k => s0 + 1 ≤ k) (w.alloc (.cells n.cells 87)) w' → w'.cell? ⟨s0, 0, none⟩ = some (byteV n.kind) ∧ w'.cell? ⟨s0, 1, none⟩ = some (byteV n.tb) ∧ w'.cell? ⟨s0, 2, none⟩ = some (.int .u64 (n.wr : Int)) ∧ w'.cell? ⟨s0, 3, none⟩ = some (.int .u64 (n.nx : Int)) ∧ w'.cell? ⟨s0, 4, none⟩ = some (.int .u64 (n.sg : Int)) ∧ w'.cell? ⟨s0, 5, none⟩ = some (.string n.rest) from fun w' f => by
    have r := rb.kept f (by omega)
    exact ⟨r.cell 0, r.cell 1, r.cell 2, r.cell 3, r.cell 4, r.cell 5⟩)
  --GEN
  unfold UV.cells at fb rb hsz HB ⊢
  unfold byteV at fb rb hsz HB ⊢
  subst hs0
  have FB := Lib.hid fb
  obtain ⟨c0, c1, c2, c3, c4, c5⟩ := HB.out _ (Fr.refl _ _)
  obtain ⟨wb, hwb⟩ : ∃ wb, wb = (w.alloc (.cells #[.int .u8 (n.kind.toNat : Int), .int .u8 (n.tb.toNat : Int), .int .u64 (n.wr : Int), .int .u64 (n.nx : Int), .int .u64 (n.sg : Int), .string n.rest] 87)) := ⟨_, rfl⟩
  rw [← hwb] at HB hsz
  have HFB := Lib.hid (show Fr none_ w wb by rw [hwb]; exact FB.out)
  have hB0 : BsAt (w.heap.size + 1) (w.heap.size + 1 + 1) ((wb.alloc (.cells #[.int .u8 (n.kind.toNat : Int)] 5)).alloc (.cells #[.slice (some ⟨w.heap.size + 1, 0, none⟩) 1 1] 106)) [n.kind] := by
    have ra := Row.new wb #[.int .u8 (n.kind.toNat : Int)] 5
    rw [hsz] at ra
    have rc := Row.new (wb.alloc (.cells #[.int .u8 (n.kind.toNat : Int)] 5)) #[.slice (some ⟨w.heap.size + 1, 0, none⟩) 1 1] 106
    rw [World.size_alloc, hsz] at rc
    refine ⟨w.heap.size + 1, 1, rc, ⟨rfl, Nat.le_refl _, by unfold maxLen; simp, (fun h => by cases h), fun ad had => ?_⟩, by omega, Nat.le_refl _⟩
    cases had
    exact ⟨rfl, rfl, _, ra.alloc _, rfl, rfl⟩
  have f0 : Fr (fun k => w.heap.size + 1 ≤ k) wb ((wb.alloc (.cells #[.int .u8 (n.kind.toNat : Int)] 5)).alloc (.cells #[.slice (some ⟨w.heap.size + 1, 0, none⟩) 1 1] 106)) := (Fr.alloc _ wb _).alloc_r _
  have N1 := Lib.hid (number_how hB0 (by simp) n.wr h1 (by simp; omega) (by omega))
  have HF0 := Lib.hid f0
  have HWB := Lib.hid hwb
  clear fb rb hB0 f0 hwb hsz FB
  go_enter Tryz.func56, Tryz.ntmps56
  go_wp2_with fail
  rw [← HWB.out]
  refine N1.out.mono ?_
  rintro e w1 ⟨rfl, hb1, f1⟩
  have F1 := Lib.hid (HF0.out.trans f1)
  have SZ1 := Lib.hid (show w.heap.size + 1 ≤ w1.heap.size by have := F1.out.size; have := HFB.out; have q : wb.heap.size = w.heap.size + 1 := (by rw [HWB.out]; simp); omega)
  obtain ⟨g1, cap1, hr1, hs1, hg1, hS1⟩ := hb1
  have hl1 : ([n.kind] ++ be 8 n.wr).length = 9 := by rw [List.length_append, be_length]; rfl
  rw [hl1] at hr1 hs1
  have e1 : w1.cell? ⟨w.heap.size + 1 + 1, 0, none⟩ = some (.slice (some ⟨g1, 0, none⟩) 9 cap1) := hr1.cell 0
  have HR1 := Lib.hid hr1
  have HS1 := Lib.hid hs1
  obtain ⟨d10, d11, d12, d13, d14, d15⟩ := HB.out _ F1.out
  clear hr1 hs1 f1 N1 HF0 c0 c1 c2 c3 c4 c5 hl1
  have RT := Lib.hid (new_cells w1 [byteV n.tb] 5)
  go_wp2_with ((with_reducible refine at_slot 18 ?_); refine wpAppend rfl _ _ _ rfl 5 (.int .u8 0) 1 1 Tryz.underlying106 u8i rfl (HS1.out.kept0 (Fr.alloc none_ w1 (.cells #[.int .u8 (n.tb.toNat : Int)] 5))) rfl ⟨w1.heap.size, 0, none⟩ 1 1 [byteV n.tb] rfl rfl RT.out (by simp [byteV, Value.oneCell']) (by omega) (by unfold maxLen; omega) (by omega) ?_; intro a2 cap2 w2 hs2 f2 hb2; have F2' := Lib.hid (((Fr.alloc none_ w1 (.cells #[.int .u8 (n.tb.toNat : Int)] 5)).none).trans f2); have hr2 := HR1.out.kept F2'.out (fun e => hg1 ((blk_some _ _ _).1 e)); have e2 : w2.cell? ⟨w.heap.size + 1 + 1, 0, none⟩ = some (.slice (some ⟨g1, 0, none⟩) 9 cap1) := hr2.cell 0; have z2 := hr2.free 0; have B2 := Lib.hid (BsAt.grown (m := 1) (news := [n.tb]) HR1.out (by rw [List.length_append, be_length]; rfl) hg1 hS1 SZ1.out (by omega) rfl (by simp) hs2 F2'.out (fun k hk => (hb2 k hk).imp id (fun q => Nat.le_trans (by simp) q))); have F3 := Lib.hid (F1.out.trans B2.out.2); obtain ⟨d30, d31, d32, d33, d34, d35⟩ := HB.out _ F3.out; clear hs2 f2 hb2 hr2 e1)
  obtain ⟨hb3, f3⟩ := B2.out
  have SZ3 := Lib.hid (Nat.le_trans SZ1.out f3.size)
  have N3 := Lib.hid (number_how hb3 (by simp [be_length]) n.nx h2 SZ3.out (by omega))
  clear hb3 f3 B2 d10 d11 d12 d13 d14 d15 RT e2 z2
  go_wp2_with fail
  refine N3.out.mono ?_
  rintro e w4 ⟨rfl, hb4, f4⟩
  have F4 := Lib.hid (F3.out.trans f4)
  have SZ4 := Lib.hid (Nat.le_trans SZ3.out f4.size)
  have HB4 := Lib.hid hb4
  clear hb4 f4 N3 d30 d31 d32 d33 d34 d35
  obtain ⟨d40, d41, d42, d43, d44, d45⟩ := HB.out _ F4.out
  cases hrc : n.rcd with
  | true =>
    have hk := kind_yes hrc
    have hkn : (n.kind.toNat : Int) = 2 := by rw [hk]; rfl
    rw [hkn] at d40
    have N4 := Lib.hid (number_how HB4.out (by simp [be_length]) n.sg h3 SZ4.out (by omega))
    have HRC := Lib.hid hrc
    clear hk hkn hrc
    go_wp2_with fail
    refine N4.out.mono ?_
    rintro e w5 ⟨rfl, hb5, f5⟩
    have F5 := Lib.hid (F4.out.trans f5)
    have SZ5 := Lib.hid (Nat.le_trans SZ4.out f5.size)
    have HNM := Lib.hid (show ((([n.kind] ++ be 8 n.wr) ++ [n.tb]) ++ be 8 n.nx) ++ be 8 n.sg = n.nums by
      show _ = [n.kind] ++ be 8 n.wr ++ [n.tb] ++ be 8 n.nx ++ (if n.rcd = true then be 8 n.sg else [])
      rw [HRC.out, if_pos rfl])
    have HAT := Lib.hid (show n.at_ = 26 by unfold UV.at_; rw [HRC.out]; rfl)
    rw [HNM.out] at hb5
    clear f5 N4 d40 d41 d42 d43 d44 d45
    obtain ⟨d50, d51, d52, d53, d54, d55⟩ := HB.out _ F5.out
    obtain ⟨g5, cap5, hr5, hs5, hg5, hS5⟩ := hb5
    rw [n.nums_length, HAT.out] at hr5 hs5
    have e5 : w5.cell? ⟨w.heap.size + 1 + 1, 0, none⟩ = some (.slice (some ⟨g5, 0, none⟩) 26 cap5) := hr5.cell 0
    have HR5 := Lib.hid hr5
    have HS5 := Lib.hid hs5
    clear hr5 hs5
    have RZ := Lib.hid (new_cells w5 [byteV 0, byteV 0] 5)
    have hwl : IntKind.u16.wrap (n.rest.size : Int) = (n.rest.size : Int) := by rw [IntKind.wrap_u16]; omega
    go_wp2_with ((with_reducible refine at_slot 34 ?_); refine wpAppend rfl _ _ _ rfl 5 (.int .u8 0) 1 1 Tryz.underlying106 u8i rfl (HS5.out.kept0 (Fr.alloc none_ w5 (.cells #[.int .u8 0, .int .u8 0] 5))) rfl ⟨w5.heap.size, 0, none⟩ 2 2 [byteV 0, byteV 0] rfl rfl RZ.out (by simp [byteV, Value.oneCell']) (by omega) (by unfold maxLen; omega) (by omega) ?_; intro a6 cap6 w6 hs6 f6 hb6; have F6' := Lib.hid (((Fr.alloc none_ w5 (.cells #[.int .u8 0, .int .u8 0] 5)).none).trans f6); have hr6 := HR5.out.kept F6'.out (fun e => hg5 ((blk_some _ _ _).1 e)); have e6 : w6.cell? ⟨w.heap.size + 1 + 1, 0, none⟩ = some (.slice (some ⟨g5, 0, none⟩) 26 cap5) := hr6.cell 0; have z6 := hr6.free 0; have B6 := Lib.hid (BsAt.grown (m := 2) (news := [0, 0]) HR5.out (by rw [n.nums_length, HAT.out]) hg5 hS5 SZ5.out (by omega) rfl (by simp) hs6 F6'.out (fun k hk => (hb6 k hk).imp id (fun q => Nat.le_trans (by simp) q))); obtain ⟨g7, rfl⟩ := hs6.isAddr (by omega); have HS6 := Lib.hid hs6; have F7 := Lib.hid (F5.out.trans B6.out.2); obtain ⟨k0, k1, k2, k3, k4, k5⟩ := HB.out _ F7.out; have R7 := Lib.hid ((HR5.out.kept F6'.out (fun e => hg5 ((blk_some _ _ _).1 e))).set 0 (.slice (some ⟨g7, 0, none⟩) (26 + 2) cap6)); have e7 : (w6.setCell ⟨w.heap.size + 1 + 1, 0, none⟩ (.slice (some ⟨g7, 0, none⟩) (26 + 2) cap6)).cell? ⟨w.heap.size + 1 + 1, 0, none⟩ = some (.slice (some ⟨g7, 0, none⟩) (26 + 2) cap6) := R7.out.cell 0; clear hs6 f6 hb6 hr6 e5)
    obtain ⟨hb7, f7⟩ := B6.out
    obtain ⟨g8, cap8, hr8, hs8, hg8, hS8⟩ := hb7
    have hc8 := hr8.cell 0
    rw [R7.out.cell 0] at hc8
    have hc8' : Value.slice (some ⟨g7, 0, none⟩) (26 + 2) cap6 = Value.slice (some ⟨g8, 0, none⟩) (n.nums ++ [0, 0]).length cap8 := by simpa using hc8
    simp only [Value.slice.injEq, Option.some.injEq, Addr.mk.injEq, and_true] at hc8'
    obtain ⟨rfl, hn8, rfl⟩ := hc8'
    rw [← hn8] at hs8
    obtain ⟨s1, s2, s3, _, s5⟩ := hs8
    obtain ⟨_, _, cur, r3, r4, r5⟩ := s5 _ rfl
    simp only [Nat.mul_one] at s1 r4 r5
    have hcl : cur.toList.length = cap6 := by rw [Array.length_toList]; exact r4
    have hg : ∀ j (u : UInt8), (n.nums ++ [0, 0])[j]? = some u → cur[j]? = some (byteV u) := fun j u hj => by
      have hlt : j < 26 + 2 := by have := (List.getElem?_eq_some_iff.1 hj).1; rw [List.length_append, n.nums_length, HAT.out] at this; simpa using this
      have : (cur.toList.take (26 + 2))[j]? = some (byteV u) := by rw [r5, List.getElem?_map, hj]; rfl
      rw [List.getElem?_take, if_pos hlt] at this
      simpa using this
    have hnl : n.nums.length = 26 := by rw [n.nums_length, HAT.out]
    have q0 := hg 26 0 (by rw [List.getElem?_append_right (by omega), hnl]; rfl)
    have q1 := hg (26 + 1) 0 (by rw [List.getElem?_append_right (by omega), hnl]; rfl)
    have P16 := Lib.hid (put16 _ g7 0 (26 + 2) cap6 26 (n.rest.size : Int) (by omega) (by omega) s2 (by unfold maxLen at s3; omega) _ _ ((r3.cell (0 + 26)).trans (by rw [Nat.zero_add]; exact q0)) ((r3.cell (0 + 26 + 1)).trans (by rw [Nat.zero_add]; exact q1)) (r3.free _) (r3.free _) (by omega) (by omega))
    have r9 := (r3.set 26 (.int .u8 ((n.rest.size : Int) / 256))).set (26 + 1) (.int .u8 ((n.rest.size : Int) % 256))
    have h1 := fun j (hj : j < 26) => (show (((cur.setIfInBounds 26 (.int .u8 ((n.rest.size : Int) / 256))).setIfInBounds (26 + 1) (.int .u8 ((n.rest.size : Int) % 256))))[j]? = cur[j]? by
      rw [Array.getElem?_setIfInBounds, if_neg (by omega), Array.getElem?_setIfInBounds, if_neg (by omega)])
    have b1 : byteV (UInt8.ofNat (n.rest.size / 256)) = .int .u8 ((n.rest.size : Int) / 256) := by
      unfold byteV; rw [UInt8.toNat_ofNat']; congr 1; omega
    have b2 : byteV (UInt8.ofNat n.rest.size) = .int .u8 ((n.rest.size : Int) % 256) := by
      unfold byteV; rw [UInt8.toNat_ofNat']; rfl
    have hh2 : n.head = n.nums ++ [UInt8.ofNat (n.rest.size / 256), UInt8.ofNat n.rest.size] := by unfold UV.head; rw [be2]
    have hhl : n.head.length = 26 + 2 := by rw [n.head_length, HAT.out]
    have HCELL := Lib.hid (show ∀ i, i < 26 + 2 → (((cur.setIfInBounds 26 (.int .u8 ((n.rest.size : Int) / 256))).setIfInBounds (26 + 1) (.int .u8 ((n.rest.size : Int) % 256))))[0 + i]? = some (byteV (n.head.getD i 0)) from fun i hi => by
      rw [Nat.zero_add]
      rcases Nat.lt_or_ge i 26 with q | q
      · rw [h1 i q, hg i n.nums[i] (by rw [List.getElem?_append_left (by omega)]; exact List.getElem?_eq_getElem (by omega))]
        rw [hh2]
        simp [List.getD, List.getElem?_append_left (show i < n.nums.length by omega), List.getElem?_eq_getElem (show i < n.nums.length by omega)]
      · rcases (show i = 26 ∨ i = 26 + 1 by omega) with rfl | rfl
        · rw [Array.getElem?_setIfInBounds, if_neg (by omega), Array.getElem?_setIfInBounds, if_pos rfl, if_pos (by omega), hh2]
          simp only [List.getD]
          rw [List.getElem?_append_right (by omega), hnl, ← b1]; rfl
        · rw [Array.getElem?_setIfInBounds, if_pos rfl, if_pos (by rw [Array.size_setIfInBounds]; omega), hh2]
          simp only [List.getD]
          rw [List.getElem?_append_right (by omega), hnl, ← b2]; rfl)
    have R9 := Lib.hid r9
    have HNE := Lib.hid hg8
    have HHL := Lib.hid hhl
    have HK5 := Lib.hid (And.intro s2 hS8)
    have HF7 := Lib.hid f7
    clear r9 r3 r4 r5 hcl hg hnl q0 q1 h1 b1 b2 hh2 hhl s1 s2 s3 s5 hr8 hc8 hn8 hg8 hS8 f7 d50 d51 d52 d53 d54 d55
    refine P16.out.mono ?_
    rintro e w9 ⟨rfl, hw9⟩
    have hw9' : w9 = ((w6.setCell ⟨w.heap.size + 1 + 1, 0, none⟩ (.slice (some ⟨g7, 0, none⟩) (26 + 2) cap6)).setCell ⟨g7, 26, none⟩ (.int .u8 ((n.rest.size : Int) / 256))).setCell ⟨g7, 26 + 1, none⟩ (.int .u8 ((n.rest.size : Int) % 256)) := hw9
    have r9 : Row w9 g7 ((cur.setIfInBounds 26 (.int .u8 ((n.rest.size : Int) / 256))).setIfInBounds (26 + 1) (.int .u8 ((n.rest.size : Int) % 256))) 5 := by rw [hw9']; exact R9.out
    have f9 : Fr (fun k => w.heap.size + 1 ≤ k) wb w9 := by
      rw [hw9']
      exact (F7.out.trans (Fr.setCell _ _ ⟨g7, 26, none⟩ _ (fun _ => HK5.out.2))).trans (Fr.setCell _ _ ⟨g7, 26 + 1, none⟩ _ (fun _ => HK5.out.2))
    obtain ⟨j0, j1, j2, j3, j4, j5⟩ := HB.out _ f9
    have e9 : w9.cell? ⟨w.heap.size + 1 + 1, 0, none⟩ = some (.slice (some ⟨g7, 0, none⟩) (26 + 2) cap6) := by
      rw [hw9']
      refine Eq.trans ?_ (R7.out.cell 0)
      rw [((R7.out.set_other g7 26 _ (fun e => HNE.out e.symm)).set_other g7 (26 + 1) _ (fun e => HNE.out e.symm)).cell 0, (R7.out).cell 0]
    have F9 := Lib.hid f9
    have R10 := Lib.hid r9
    have hadd := add_str n.head n.rest
    have hsum : (strOf n.head).size + n.rest.size ≤ 9223372036854775807 := by rw [strOf_size, HHL.out]; omega
    clear hw9 hw9' r9 f9 k0 k1 k2 k3 k4 k5
    go_wp2_with (first
      | ((with_reducible refine at_slot 43 ?_); refine wpString rfl _ _ _ 5 rfl R10.out Tryz.underlying106 Tryz.underlying5 Tryz.underlying9 0 (26 + 2) cap6 rfl n.head HHL.out HCELL.out ?_)
      | ((with_reducible refine at_slot 46 ?_); refine wpAddStr rfl _ _ _ _ rfl (strOf n.head) n.rest rfl rfl hsum _ hadd ?_))
    go_ret
    exact ⟨rfl, HFB.out.step F9.out (fun i hi e => by omega)⟩
  | false =>
    have hk := kind_no hrc
    have hkn : (n.kind.toNat : Int) = 1 := by rw [hk]; rfl
    rw [hkn] at d40
    have HRC := Lib.hid hrc
    have F5 := Lib.hid F4.out
    have SZ5 := Lib.hid SZ4.out
    have HNM := Lib.hid (show ((([n.kind] ++ be 8 n.wr) ++ [n.tb]) ++ be 8 n.nx) = n.nums by
      show _ = [n.kind] ++ be 8 n.wr ++ [n.tb] ++ be 8 n.nx ++ (if n.rcd = true then be 8 n.sg else [])
      rw [HRC.out, if_neg (show ¬ (false = true) by simp), List.append_nil])
    have HAT := Lib.hid (show n.at_ = 18 by unfold UV.at_; rw [HRC.out]; rfl)
    have hb5 := HB4.out
    rw [HNM.out] at hb5
    have w5e : w4 = w4 := rfl
    clear hk hkn hrc
    obtain ⟨g5, cap5, hr5, hs5, hg5, hS5⟩ := hb5
    rw [n.nums_length, HAT.out] at hr5 hs5
    have e5 : w4.cell? ⟨w.heap.size + 1 + 1, 0, none⟩ = some (.slice (some ⟨g5, 0, none⟩) 18 cap5) := hr5.cell 0
    have HR5 := Lib.hid hr5
    have HS5 := Lib.hid hs5
    clear hr5 hs5
    have RZ := Lib.hid (new_cells w4 [byteV 0, byteV 0] 5)
    have hwl : IntKind.u16.wrap (n.rest.size : Int) = (n.rest.size : Int) := by rw [IntKind.wrap_u16]; omega
    go_wp2_with ((with_reducible refine at_slot 34 ?_); refine wpAppend rfl _ _ _ rfl 5 (.int .u8 0) 1 1 Tryz.underlying106 u8i rfl (HS5.out.kept0 (Fr.alloc none_ w4 (.cells #[.int .u8 0, .int .u8 0] 5))) rfl ⟨w4.heap.size, 0, none⟩ 2 2 [byteV 0, byteV 0] rfl rfl RZ.out (by simp [byteV, Value.oneCell']) (by omega) (by unfold maxLen; omega) (by omega) ?_; intro a6 cap6 w6 hs6 f6 hb6; have F6' := Lib.hid (((Fr.alloc none_ w4 (.cells #[.int .u8 0, .int .u8 0] 5)).none).trans f6); have hr6 := HR5.out.kept F6'.out (fun e => hg5 ((blk_some _ _ _).1 e)); have e6 : w6.cell? ⟨w.heap.size + 1 + 1, 0, none⟩ = some (.slice (some ⟨g5, 0, none⟩) 18 cap5) := hr6.cell 0; have z6 := hr6.free 0; have B6 := Lib.hid (BsAt.grown (m := 2) (news := [0, 0]) HR5.out (by rw [n.nums_length, HAT.out]) hg5 hS5 SZ5.out (by omega) rfl (by simp) hs6 F6'.out (fun k hk => (hb6 k hk).imp id (fun q => Nat.le_trans (by simp) q))); obtain ⟨g7, rfl⟩ := hs6.isAddr (by omega); have HS6 := Lib.hid hs6; have F7 := Lib.hid (F5.out.trans B6.out.2); obtain ⟨k0, k1, k2, k3, k4, k5⟩ := HB.out _ F7.out; have R7 := Lib.hid ((HR5.out.kept F6'.out (fun e => hg5 ((blk_some _ _ _).1 e))).set 0 (.slice (some ⟨g7, 0, none⟩) (18 + 2) cap6)); have e7 : (w6.setCell ⟨w.heap.size + 1 + 1, 0, none⟩ (.slice (some ⟨g7, 0, none⟩) (18 + 2) cap6)).cell? ⟨w.heap.size + 1 + 1, 0, none⟩ = some (.slice (some ⟨g7, 0, none⟩) (18 + 2) cap6) := R7.out.cell 0; clear hs6 f6 hb6 hr6 e5)
    obtain ⟨hb7, f7⟩ := B6.out
    obtain ⟨g8, cap8, hr8, hs8, hg8, hS8⟩ := hb7
    have hc8 := hr8.cell 0
    rw [R7.out.cell 0] at hc8
    have hc8' : Value.slice (some ⟨g7, 0, none⟩) (18 + 2) cap6 = Value.slice (some ⟨g8, 0, none⟩) (n.nums ++ [0, 0]).length cap8 := by simpa using hc8
    simp only [Value.slice.injEq, Option.some.injEq, Addr.mk.injEq, and_true] at hc8'
    obtain ⟨rfl, hn8, rfl⟩ := hc8'
    rw [← hn8] at hs8
    obtain ⟨s1, s2, s3, _, s5⟩ := hs8
    obtain ⟨_, _, cur, r3, r4, r5⟩ := s5 _ rfl
    simp only [Nat.mul_one] at s1 r4 r5
    have hcl : cur.toList.length = cap6 := by rw [Array.length_toList]; exact r4
    have hg : ∀ j (u : UInt8), (n.nums ++ [0, 0])[j]? = some u → cur[j]? = some (byteV u) := fun j u hj => by
      have hlt : j < 18 + 2 := by have := (List.getElem?_eq_some_iff.1 hj).1; rw [List.length_append, n.nums_length, HAT.out] at this; simpa using this
      have : (cur.toList.take (18 + 2))[j]? = some (byteV u) := by rw [r5, List.getElem?_map, hj]; rfl
      rw [List.getElem?_take, if_pos hlt] at this
      simpa using this
    have hnl : n.nums.length = 18 := by rw [n.nums_length, HAT.out]
    have q0 := hg 18 0 (by rw [List.getElem?_append_right (by omega), hnl]; rfl)
    have q1 := hg (18 + 1) 0 (by rw [List.getElem?_append_right (by omega), hnl]; rfl)
    have P16 := Lib.hid (put16 _ g7 0 (18 + 2) cap6 18 (n.rest.size : Int) (by omega) (by omega) s2 (by unfold maxLen at s3; omega) _ _ ((r3.cell (0 + 18)).trans (by rw [Nat.zero_add]; exact q0)) ((r3.cell (0 + 18 + 1)).trans (by rw [Nat.zero_add]; exact q1)) (r3.free _) (r3.free _) (by omega) (by omega))
    have r9 := (r3.set 18 (.int .u8 ((n.rest.size : Int) / 256))).set (18 + 1) (.int .u8 ((n.rest.size : Int) % 256))
    have h1 := fun j (hj : j < 18) => (show (((cur.setIfInBounds 18 (.int .u8 ((n.rest.size : Int) / 256))).setIfInBounds (18 + 1) (.int .u8 ((n.rest.size : Int) % 256))))[j]? = cur[j]? by
      rw [Array.getElem?_setIfInBounds, if_neg (by omega), Array.getElem?_setIfInBounds, if_neg (by omega)])
    have b1 : byteV (UInt8.ofNat (n.rest.size / 256)) = .int .u8 ((n.rest.size : Int) / 256) := by
      unfold byteV; rw [UInt8.toNat_ofNat']; congr 1; omega
    have b2 : byteV (UInt8.ofNat n.rest.size) = .int .u8 ((n.rest.size : Int) % 256) := by
      unfold byteV; rw [UInt8.toNat_ofNat']; rfl
    have hh2 : n.head = n.nums ++ [UInt8.ofNat (n.rest.size / 256), UInt8.ofNat n.rest.size] := by unfold UV.head; rw [be2]
    have hhl : n.head.length = 18 + 2 := by rw [n.head_length, HAT.out]
    have HCELL := Lib.hid (show ∀ i, i < 18 + 2 → (((cur.setIfInBounds 18 (.int .u8 ((n.rest.size : Int) / 256))).setIfInBounds (18 + 1) (.int .u8 ((n.rest.size : Int) % 256))))[0 + i]? = some (byteV (n.head.getD i 0)) from fun i hi => by
      rw [Nat.zero_add]
      rcases Nat.lt_or_ge i 18 with q | q
      · rw [h1 i q, hg i n.nums[i] (by rw [List.getElem?_append_left (by omega)]; exact List.getElem?_eq_getElem (by omega))]
        rw [hh2]
        simp [List.getD, List.getElem?_append_left (show i < n.nums.length by omega), List.getElem?_eq_getElem (show i < n.nums.length by omega)]
      · rcases (show i = 18 ∨ i = 18 + 1 by omega) with rfl | rfl
        · rw [Array.getElem?_setIfInBounds, if_neg (by omega), Array.getElem?_setIfInBounds, if_pos rfl, if_pos (by omega), hh2]
          simp only [List.getD]
          rw [List.getElem?_append_right (by omega), hnl, ← b1]; rfl
        · rw [Array.getElem?_setIfInBounds, if_pos rfl, if_pos (by rw [Array.size_setIfInBounds]; omega), hh2]
          simp only [List.getD]
          rw [List.getElem?_append_right (by omega), hnl, ← b2]; rfl)
    have R9 := Lib.hid r9
    have HNE := Lib.hid hg8
    have HHL := Lib.hid hhl
    have HK5 := Lib.hid (And.intro s2 hS8)
    have HF7 := Lib.hid f7
    clear r9 r3 r4 r5 hcl hg hnl q0 q1 h1 b1 b2 hh2 hhl s1 s2 s3 s5 hr8 hc8 hn8 hg8 hS8 f7 d40 d41 d42 d43 d44 d45
    refine P16.out.mono ?_
    rintro e w9 ⟨rfl, hw9⟩
    have hw9' : w9 = ((w6.setCell ⟨w.heap.size + 1 + 1, 0, none⟩ (.slice (some ⟨g7, 0, none⟩) (18 + 2) cap6)).setCell ⟨g7, 18, none⟩ (.int .u8 ((n.rest.size : Int) / 256))).setCell ⟨g7, 18 + 1, none⟩ (.int .u8 ((n.rest.size : Int) % 256)) := hw9
    have r9 : Row w9 g7 ((cur.setIfInBounds 18 (.int .u8 ((n.rest.size : Int) / 256))).setIfInBounds (18 + 1) (.int .u8 ((n.rest.size : Int) % 256))) 5 := by rw [hw9']; exact R9.out
    have f9 : Fr (fun k => w.heap.size + 1 ≤ k) wb w9 := by
      rw [hw9']
      exact (F7.out.trans (Fr.setCell _ _ ⟨g7, 18, none⟩ _ (fun _ => HK5.out.2))).trans (Fr.setCell _ _ ⟨g7, 18 + 1, none⟩ _ (fun _ => HK5.out.2))
    obtain ⟨j0, j1, j2, j3, j4, j5⟩ := HB.out _ f9
    have e9 : w9.cell? ⟨w.heap.size + 1 + 1, 0, none⟩ = some (.slice (some ⟨g7, 0, none⟩) (18 + 2) cap6) := by
      rw [hw9']
      refine Eq.trans ?_ (R7.out.cell 0)
      rw [((R7.out.set_other g7 18 _ (fun e => HNE.out e.symm)).set_other g7 (18 + 1) _ (fun e => HNE.out e.symm)).cell 0, (R7.out).cell 0]
    have F9 := Lib.hid f9
    have R10 := Lib.hid r9
    have hadd := add_str n.head n.rest
    have hsum : (strOf n.head).size + n.rest.size ≤ 9223372036854775807 := by rw [strOf_size, HHL.out]; omega
    clear hw9 hw9' r9 f9 k0 k1 k2 k3 k4 k5
    go_wp2_with (first
      | ((with_reducible refine at_slot 43 ?_); refine wpString rfl _ _ _ 5 rfl R10.out Tryz.underlying106 Tryz.underlying5 Tryz.underlying9 0 (18 + 2) cap6 rfl n.head HHL.out HCELL.out ?_)
      | ((with_reducible refine at_slot 46 ?_); refine wpAddStr rfl _ _ _ _ rfl (strOf n.head) n.rest rfl rfl hsum _ hadd ?_))
    go_ret
    exact ⟨rfl, HFB.out.step F9.out (fun i hi e => by omega)⟩
end Go.Proofs.YtckkccnebjacdaaGreat
