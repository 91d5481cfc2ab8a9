/-
  The reference of layer 3: Write.
-/
import Derived.Test.YtncajdefjammiaaRp
import Derived.Test.YtncajdefjammiaaAppendS
namespace Go.Proofs.Ytncajdefjammiaa
open Go.RowKit
set_option linter.unusedVariables false
set_option linter.unusedSimpArgs false
set_option maxRecDepth 100000

section
variable {w w' : World} {x : Nat} {ba ua ka : Option Addr} {bc uc kc : Nat} {s : PS} {Bs : List ByteArray}
theorem Rp_Write_no (h : RPAt w x ba ua ka bc uc kc s Bs) (hw : s.WF) (off : Nat) (ho : off < 65536) (b : ByteArray) (ha : s.at_ off = none) :
    Calls Try.prog 53 #[.pointer (some ⟨x, 0, none⟩), .int .u16 (off : Int), .string b] w fun e w' => e = .returned (.int .i64 5) ∧ w = w' := by
  have G := Lib.hid (Rp_place h hw off ho)
  rw [ha] at G
  simp only [Option.isSome_none] at G
  generalize placeOf s off = K at G
  clear h ha hw
  go_enter Try.func53, Try.ntmps53
  go_wp2_with fail
  refine G.out.mono ?_
  rintro e w1 ⟨rfl, rfl⟩
  go_wp2_with fail
  go_ret
  exact ⟨rfl, rfl⟩
theorem Rp_Write_big (h : RPAt w x ba ua ka bc uc kc s Bs) (hw : s.WF) (off : Nat) (ho : off < 65536) (b : ByteArray) {bs : List UInt8} (ha : s.at_ off = some bs) (hb : s.slot < b.size) :
    Calls Try.prog 53 #[.pointer (some ⟨x, 0, none⟩), .int .u16 (off : Int), .string b] w fun e w' => e = .returned (.int .i64 40) ∧ w = w' := by
  have G := Lib.hid (Rp_place h hw off ho)
  rw [ha] at G
  simp only [Option.isSome_some] at G
  generalize placeOf s off = K at G
  have c0 := h.c0
  have hg : (s.slot : Int) < (b.size : Int) := by omega
  generalize s.slot = sl at c0 hg hb
  generalize hbz : b.size = bz at hg hb
  clear h ha hw
  go_enter Try.func53, Try.ntmps53
  go_wp2_with fail
  refine G.out.mono ?_
  rintro e w1 ⟨rfl, rfl⟩
  go_wp2_with fail
  go_ret
  exact ⟨rfl, rfl⟩
theorem pad_add (b : ByteArray) (n : Nat) : b ++ strOf (zeros n) = strOf (b.data.toList ++ zeros n) := by
  apply ByteArray.ext
  simp [strOf]
set_option maxHeartbeats 4000000 in
theorem Rp_Write_yes (h : RPAt w x ba ua ka bc uc kc s Bs) (hw : s.WF) (off : Nat) (ho : off < 65536) (b : ByteArray) {bs : List UInt8} (ha : s.at_ off = some bs) (hb : b.size ≤ s.slot) :
    Calls Try.prog 53 #[.pointer (some ⟨x, 0, none⟩), .int .u16 (off : Int), .string b] w fun e w' => e = .returned (.int .i64 0) ∧ RPost w x ba ua ka (s.write (off / s.slot) b) w' := by
    have G := Lib.hid (Rp_place h hw off ho)
    have HH := Lib.hid h
    have hpl : placeOf s off = off / s.slot := by unfold placeOf; rw [ha]; rfl
    rw [ha, hpl] at G
    simp only [Option.isSome_some] at G
    have hk := (PS.at_some ha).2
    have hlt := (List.getElem?_eq_some_iff.1 hk).1
    have hhi := hw.hi
    generalize off / s.slot = K at G hk hlt ⊢
    obtain ⟨g, rfl⟩ := h.bs.isAddr (by omega)
    have hKl : K < (Bs.map Value.string).length := by rw [h.bs.1]; omega
    have cb0 := h.bs.cell (i := K) (List.getElem?_eq_getElem hKl)
    have c0 := h.c0
    have c1 := h.c1
    have R0 := Lib.hid h.raw
    have HK := Lib.hid hk
    obtain ⟨sl, hsl⟩ : ∃ sl, sl = s.slot := ⟨_, rfl⟩
    obtain ⟨n, hn⟩ : ∃ n, n = s.slots.length := ⟨_, rfl⟩
    obtain ⟨bz, hbz⟩ : ∃ bz, bz = b.size := ⟨_, rfl⟩
    obtain ⟨D, hD⟩ : ∃ D, D = sl - bz := ⟨_, rfl⟩
    have hbv : ∃ v, v = (Bs.map Value.string)[K] := ⟨_, rfl⟩
    obtain ⟨bv, hbv⟩ := hbv
    rw [← hbv] at cb0
    rw [← hsl] at c0 hb hhi
    rw [← hn] at c1 hlt
    rw [← hbz] at hb
    have hng : ¬ (sl : Int) < (b.size : Int) := by omega
    have hd1 : IntKind.i64.wrap ((sl : Int) - (b.size : Int)) = (D : Int) := by rw [← hbz, show (sl : Int) - (bz : Int) = (D : Int) by omega]; exact IntWalk.i64_in _ (by omega)
    have hd2 : wrap64 ((sl : Int) - (b.size : Int)) = (D : Int) := by rw [← hbz, show (sl : Int) - (bz : Int) = (D : Int) by omega]; unfold wrap64; omega
    have hdb : D ≤ 4096 := by omega
    have hadd := pad_add b D
    have hsum : b.size + (strOf (zeros D)).size ≤ 9223372036854775807 := by rw [strOf_size]; unfold zeros; rw [List.length_replicate]; omega
    have HSL := Lib.hid (And.intro hsl (And.intro hn (And.intro hbz hD)))
    have hgx : g ≠ x := fun e => h.xb ((blk_some g 0 x).2 e)
    clear h hw ha hpl hk hsl hn hD hbv hKl hbz hb
    have hS : ∀ w', Fr none_ w w' → (Fr (one g) w w' ∧ w'.cell? ⟨x, 0, none⟩ = some (.int .i64 (sl : Int)) ∧ w'.cell? ⟨x, 1, none⟩ = some (.slice (some ⟨g, 0, none⟩) n bc)) := fun w' f => ⟨f.none, Fr.keep f c0, Fr.keep f c1⟩
    go_enter Try.func53, Try.ntmps53
    go_wp2_with fail
    refine G.out.mono ?_
    rintro e w1 ⟨rfl, rfl⟩
    clear G
    go_wp2_with fail
    refine wp_region_held_drew (S := fun w' => Fr (one g) w w' ∧ w'.cell? ⟨x, 0, none⟩ = some (.int .i64 (sl : Int)) ∧ w'.cell? ⟨x, 1, none⟩ = some (.slice (some ⟨g, 0, none⟩) n bc)) (by kernel_rfl) (hS _ (Fr.drew _ _)) (fun hHeld => ?_)
    refine held_take 0 24 (v := ?_) rfl rfl (by kernel_rfl) (by kernel_rfl) (by kernel_rfl) (fun _ _ _ h => h) (by rfl) ?xy0 (by assumption) ?_
    case xy0 => (intro w hSw; (try dsimp only at hSw); go_simp; try (with_reducible rfl))
    try simp only [List.setIfInBounds_toArray, List.set_cons_zero, List.set_cons_succ]
    refine held_take 1 25 (v := ?_) rfl rfl (by kernel_rfl) (by kernel_rfl) (by kernel_rfl) (fun _ _ _ h => h) (by rfl) ?xy1 (by assumption) ?_
    case xy1 => (intro w hSw; (try dsimp only at hSw); go_simp; try (with_reducible rfl))
    try simp only [List.setIfInBounds_toArray, List.set_cons_zero, List.set_cons_succ]
    refine held_take 2 26 (v := ?_) rfl rfl (by kernel_rfl) (by kernel_rfl) (by kernel_rfl) (fun _ _ _ h => h) (by rfl) ?xy2 (by assumption) ?_
    case xy2 => (intro w hSw; (try dsimp only at hSw); go_simp; try (with_reducible rfl))
    try simp only [List.setIfInBounds_toArray, List.set_cons_zero, List.set_cons_succ]
    refine held_take 3 27 (v := ?_) rfl rfl (by kernel_rfl) (by kernel_rfl) (by kernel_rfl) (fun _ _ _ h => h) (by rfl) ?xy3 (by assumption) ?_
    case xy3 => (intro w hSw; (try dsimp only at hSw); go_simp; try (with_reducible rfl))
    try simp only [List.setIfInBounds_toArray, List.set_cons_zero, List.set_cons_succ]
    refine held_take 4 28 (v := ?_) rfl rfl (by kernel_rfl) (by kernel_rfl) (by kernel_rfl) (fun _ _ _ h => h) (by rfl) ?xy4 (by assumption) ?_
    case xy4 => (intro w hSw; (try dsimp only at hSw); go_simp; try (with_reducible rfl))
    try simp only [List.setIfInBounds_toArray, List.set_cons_zero, List.set_cons_succ]
    refine held_take 5 29 (v := ?_) rfl rfl (by kernel_rfl) (by kernel_rfl) (by kernel_rfl) (fun _ _ _ h => h) (by rfl) ?xy5 (by assumption) ?_
    case xy5 => (intro w hSw; (try dsimp only at hSw); go_simp; try (with_reducible rfl))
    try simp only [List.setIfInBounds_toArray, List.set_cons_zero, List.set_cons_succ]
    refine held_take 6 30 (v := ?_) rfl rfl (by kernel_rfl) (by kernel_rfl) (by kernel_rfl) (fun _ _ _ h => h) (by rfl) ?xy6 (by assumption) ?_
    case xy6 => (intro w hSw; (try dsimp only at hSw); go_simp; try (with_reducible rfl))
    try simp only [List.setIfInBounds_toArray, List.set_cons_zero, List.set_cons_succ]
    refine held_take 7 31 (v := ?_) rfl rfl (by kernel_rfl) (by kernel_rfl) (by kernel_rfl) (fun _ _ _ h => h) (by rfl) ?xy7 (by assumption) ?_
    case xy7 => (intro w hSw; (try dsimp only at hSw); go_simp; try (with_reducible rfl))
    try simp only [List.setIfInBounds_toArray, List.set_cons_zero, List.set_cons_succ]
    refine held_take 8 32 (v := ?_) rfl rfl (by kernel_rfl) (by kernel_rfl) (by kernel_rfl) (fun _ _ _ h => h) (by rfl) ?xy8 (by assumption) ?_
    case xy8 => (intro w hSw; (try dsimp only at hSw); go_simp; try (with_reducible rfl))
    try simp only [List.setIfInBounds_toArray, List.set_cons_zero, List.set_cons_succ]
    refine held_take 9 33 (v := ?_) rfl rfl (by kernel_rfl) (by kernel_rfl) (by kernel_rfl) (fun _ _ _ h => h) (by rfl) ?xy9 (by assumption) ?_
    case xy9 => (intro w hSw; (try dsimp only at hSw); go_simp; try (with_reducible rfl))
    try simp only [List.setIfInBounds_toArray, List.set_cons_zero, List.set_cons_succ]
    refine held_take 10 34 (v := ?_) rfl rfl (by kernel_rfl) (by kernel_rfl) (by kernel_rfl) (fun _ _ _ h => h) (by rfl) ?xy10 (by assumption) ?_
    case xy10 => (intro w hSw; (try dsimp only at hSw); go_simp; try (with_reducible rfl))
    try simp only [List.setIfInBounds_toArray, List.set_cons_zero, List.set_cons_succ]
    refine held_take 11 35 (v := ?_) rfl rfl (by kernel_rfl) (by kernel_rfl) (by kernel_rfl) (fun _ _ _ h => h) (by rfl) ?xy11 (by assumption) ?_
    case xy11 => (intro w hSw; (try dsimp only at hSw); go_simp; try (with_reducible rfl))
    try simp only [List.setIfInBounds_toArray, List.set_cons_zero, List.set_cons_succ]
    refine held_take 12 36 (v := ?_) rfl rfl (by kernel_rfl) (by kernel_rfl) (by kernel_rfl) (fun _ _ _ h => h) (by rfl) ?xy12 (by assumption) ?_
    case xy12 => (intro w hSw; (try dsimp only at hSw); go_simp; try (with_reducible rfl))
    try simp only [List.setIfInBounds_toArray, List.set_cons_zero, List.set_cons_succ]
    refine wpAnyH_ready (rs := [13]) (by kernel_rfl) (by simp) ?_
    refine AllReadyH.cons rfl (fun KK hK => ?_) AllReadyH.nil
    refine stepMakeBytes rfl _ _ _ 5 rfl Try.underlying99 rp_u8_info .i64 .i64 D D rfl rfl (Nat.le_refl _) (by omega) ?_
    intro w2 hrow f2
    have fw : Fr none_ w w2 := (Fr.drew none_ w).trans f2
    refine hK.out _ _ (hS _ fw) (fun hHeld => ?_)
    clear hK
    try simp only [Act.put, List.setIfInBounds_toArray, List.set_cons_zero, List.set_cons_succ]
    refine wpAnyH_ready (rs := [14]) (by kernel_rfl) (by simp) ?_
    refine AllReadyH.cons rfl (fun KK hK => ?_) AllReadyH.nil
    refine stepString rfl _ _ _ 5 rfl hrow Try.underlying99 Try.underlying5 Try.underlying9 0 D D rfl (zeros D) List.length_replicate (fun i hi => by simp [zeros, List.getD, hi]) ?_
    refine hK.out _ _ (hS _ fw) (fun hHeld => ?_)
    clear hK
    try simp only [Act.put, List.setIfInBounds_toArray, List.set_cons_zero, List.set_cons_succ]
    refine wpAnyH_ready (rs := [15]) (by kernel_rfl) (by simp) ?_
    refine AllReadyH.cons rfl (fun KK hK => ?_) AllReadyH.nil
    refine stepAddStr rfl _ _ _ _ rfl b (strOf (zeros D)) rfl rfl hsum _ hadd ?_
    refine hK.out _ _ (hS _ fw) (fun hHeld => ?_)
    clear hK
    try simp only [Act.put, List.setIfInBounds_toArray, List.set_cons_zero, List.set_cons_succ]
    refine held_take 16 40 (v := ?_) rfl rfl (by kernel_rfl) (by kernel_rfl) (by kernel_rfl) (fun _ _ _ h => h) (by rfl) ?xy16 (by assumption) ?_
    case xy16 => (intro w hSw; (try dsimp only at hSw); go_simp; try (with_reducible rfl))
    try simp only [List.setIfInBounds_toArray, List.set_cons_zero, List.set_cons_succ]
    generalize hNB : strOf (b.data.toList ++ zeros D) = NB
    have HNB := Lib.hid hNB
    have cb := Fr.keep fw cb0
    have r2 := R0.out.kept0 fw
    have zb := r2.bs.free K
    obtain ⟨r5, f5⟩ := r2.b_set K (.string NB)
    have R5 := Lib.hid r5
    have F5 := Lib.hid f5
    have fE : Fr (one g) w (w2.setCell ⟨g, K, none⟩ (.string NB)) := (fw.none).trans (Fr.setCell _ _ _ _ (fun _ => rfl))
    have FE := Lib.hid fE
    have hSE : (Fr (one g) w (w2.setCell ⟨g, K, none⟩ (.string NB)) ∧ (w2.setCell ⟨g, K, none⟩ (.string NB)).cell? ⟨x, 0, none⟩ = some (.int .i64 (sl : Int)) ∧ (w2.setCell ⟨g, K, none⟩ (.string NB)).cell? ⟨x, 1, none⟩ = some (.slice (some ⟨g, 0, none⟩) n bc)) := ⟨fE, Fr.keepF fE (fun e => hgx e.symm) c0, Fr.keepF fE (fun e => hgx e.symm) c1⟩
    have HSE := Lib.hid hSE
    clear hNB r2 r5 f5 fE hSE hadd hsum
    refine wpAnyH_ready (rs := [17]) (by kernel_rfl) (by simp) ?_
    refine AllReadyH.cons rfl (fun KK hK => ?_) AllReadyH.nil
    go_simp
    refine hK.out _ _ HSE.out (fun hHeld => ?_)
    clear hK
    try simp only [Act.put, List.setIfInBounds_toArray, List.set_cons_zero, List.set_cons_succ]
    refine wpAnyH_done (by kernel_rfl) ?_ _
    clear hHeld
    go_wp2_with fail
    go_ret
    obtain ⟨rfl, rfl, e3, e4⟩ := HSL.out
    refine ⟨rfl, some ⟨g, 0, none⟩, ua, ka, bc, uc, kc, Bs.set K NB, RR.up (s := s.write K b) ?_ ?_, fun _ hk => Or.inl hk, (fw.none).trans F5.out⟩
    · have e1 : (Bs.set K NB).map Value.string = (Bs.map Value.string).set K (.string NB) := by rw [List.map_set]
      rw [e1, uses_write s K b HK.out]
      have e5 : (s.write K b).slots.length = s.slots.length := by simp [PS.write]
      rw [e5]
      exact R5.out
    · intro j q hj
      have hj' : (s.slots.set K (some (b.data.toList ++ zeros (s.slot - b.size))))[j]? = some (some q) := hj
      rw [List.getElem?_set] at hj'
      rw [List.getElem?_set]
      by_cases e : K = j
      · subst e
        rw [if_pos rfl] at hj' ⊢
        rw [if_pos hlt] at hj'
        rw [if_pos (by rw [HH.out.blen]; exact hlt)]
        cases hj'
        rw [← HNB.out, e4, e3]
      · rw [if_neg e] at hj' ⊢
        exact HH.out.val j q hj'
theorem Rp_Write (h : RPAt w x ba ua ka bc uc kc s Bs) (hw : s.WF) (off : Nat) (ho : off < 65536) (b : ByteArray) :
    Calls Try.prog 53 #[.pointer (some ⟨x, 0, none⟩), .int .u16 (off : Int), .string b] w fun e w' => e = .returned (.int .i64 ((writeR s off b).1 : Int)) ∧ RPost w x ba ua ka (writeR s off b).2 w' := by
  cases ha : s.at_ off with
  | none =>
    have e : writeR s off b = (5, s) := by unfold writeR; rw [ha]; rfl
    rw [e]
    exact (Rp_Write_no h hw off ho b ha).mono fun e w' q => ⟨q.1, by have := q.2; subst this; exact RPost.same h⟩
  | some bs =>
    by_cases hb : b.size ≤ s.slot
    · have e : writeR s off b = (0, s.write (off / s.slot) b) := by unfold writeR; rw [ha]; simp only [Option.isSome_some, if_true]; rw [if_pos hb]
      rw [e]
      exact Rp_Write_yes h hw off ho b ha hb
    · have e : writeR s off b = (40, s) := by unfold writeR; rw [ha]; simp only [Option.isSome_some, if_true]; rw [if_neg hb]
      rw [e]
      exact (Rp_Write_big h hw off ho b ha (by omega)).mono fun e w' q => ⟨q.1, by have := q.2; subst this; exact RPost.same h⟩
end
end Go.Proofs.Ytncajdefjammiaa
