/-
  ArenaNames: the examples, the bounds of a slot, all pages used, and what is asked of nil (closed).
-/
import Derived.Test.YtncajdefjammiaaArFull
import Derived.Test.YtncajdefjammiaaArenaNil
namespace Go.Proofs.Ytncajdefjammiaa
open Go.RowKit
set_option linter.unusedVariables false
set_option linter.unusedSimpArgs false
set_option maxRecDepth 100000

def odds : List Int := [1, 0, -1, 4097, 1099511627776]
theorem odds_out : ∀ v ∈ odds, v < 2 ∨ 4096 < v := by unfold odds; decide

set_option maxHeartbeats 8000000 in
theorem walk_ArenaNames (W : World) : Calls Try.prog 7 #[] W fun e w' => e = .returned (.bool true) ∧ Fr none_ W w' := by
  have Hworks := Lib.hid works_any
  have HN1 := Lib.hid nil_Alloc
  have HN2 := Lib.hid nil_Read
  have HN3 := Lib.hid nil_Free
  have HN4 := Lib.hid nil_Write
  have HN5 := Lib.hid nil_Is
  have HN6 := Lib.hid nil_Used
  have HN7 := Lib.hid nil_Pages
  have HN8 := Lib.hid nil_Slot
  have HN9 := Lib.hid nil_Copy
  go_enter Try.func7, Try.ntmps7
  go_wp2_with fail
  refine (HN1.out _).mono ?_
  rintro e w1 ⟨rfl, rfl⟩
  go_wp2_with fail
  refine (HN2.out _ _).mono ?_
  rintro e w1 ⟨rfl, rfl⟩
  go_wp2_with fail
  refine (Hworks.out _).mono ?_
  rintro e w1 ⟨rfl, f1⟩
  go_wp2_with fail
  refine (HN3.out _ _).mono ?_
  rintro e w2 ⟨rfl, rfl⟩
  go_wp2_with fail
  refine (HN4.out _ _ _).mono ?_
  rintro e w2 ⟨rfl, rfl⟩
  go_wp2_with fail
  refine (HN5.out _ _).mono ?_
  rintro e w2 ⟨rfl, rfl⟩
  go_wp2_with fail
  refine (HN6.out _).mono ?_
  rintro e w2 ⟨rfl, rfl⟩
  go_wp2_with fail
  refine (HN7.out _).mono ?_
  rintro e w2 ⟨rfl, rfl⟩
  go_wp2_with fail
  refine (HN8.out _).mono ?_
  rintro e w2 ⟨rfl, rfl⟩
  go_wp2_with fail
  refine (HN9.out _).mono ?_
  rintro e w2 ⟨rfl, rfl⟩
  go_wp2_with fail
  have hB := Row.new w1 #[.int .i64 1, .int .i64 0, .int .i64 (-1), .int .i64 4097, .int .i64 1099511627776] 3
  have f2 := Fr.alloc none_ w1 (.cells #[.int .i64 1, .int .i64 0, .int .i64 (-1), .int .i64 4097, .int .i64 1099511627776] 3)
  have fW := f1.trans f2
  generalize w1.alloc (.cells #[.int .i64 1, .int .i64 0, .int .i64 (-1), .int .i64 4097, .int .i64 1099511627776] 3) = w2 at hB fW ⊢
  generalize w1.heap.size = B at hB ⊢
  clear f2 f1
  have hcell : ∀ (k : Nat) (v : Int), odds[k]? = some v → w2.cell? ⟨B, k, none⟩ = some (.int .i64 v) := by
    intro k v hv
    rw [hB.cell k]
    have e : (#[.int .i64 1, .int .i64 0, .int .i64 (-1), .int .i64 4097, .int .i64 1099511627776] : Array Value) = (odds.map (Value.int .i64)).toArray := rfl
    rw [e, List.getElem?_toArray, List.getElem?_map, hv]; rfl
  have HCell := Lib.hid hcell
  have FW := Lib.hid fW
  clear hcell hB fW HN1 HN2 HN3 HN4 HN5 HN6 HN7 HN8 HN9 Hworks
  go_loop [77] (fun i => ∃ k : Nat, Hid (k ≤ 5) ∧ i = .int .i64 k) (fun i => 5 - (intOf i).toNat)
  case atStart => exact ⟨0, Nat.zero_le _, rfl⟩
  case round =>
    obtain ⟨k, hk, rfl⟩ := hrel
    by_cases hlt : k < 5
    · obtain ⟨v, hv⟩ : ∃ v, odds[k]? = some v := ⟨odds[k]'hlt, List.getElem?_eq_getElem hlt⟩
      have cv := HCell.out k v hv
      have hno := Arena_New_no w2 v (odds_out v (List.mem_of_getElem? hv))
      have Hno := Lib.hid hno
      clear hno hv
      go_wp2_with fail
      refine Hno.out.mono ?_
      rintro e w3 ⟨rfl, rfl⟩
      go_wp2_with fail
      go_round
      case rel => exact ⟨k + 1, hlt, by go_num⟩
      case measure => simp [intOf]; omega
    · have hnew := fun w f => m1_new W w f 2 (by omega) (by omega)
      have Hnew := Lib.hid hnew
      clear hnew HCell
      go_wp2_with fail
      refine (Hnew.out _ FW.out).mono ?_
      rintro e w3 ⟨x, rfl, h0⟩
      have h0 : M1 W x tw0 w3 := h0
      clear Hnew FW
      have g := m1_pages h0 (q := 0) (by rw [tw_n.2.2]; rfl)
      have G := Lib.hid g
      clear g
      go_wp2_with fail
      refine G.out.mono ?_
      rintro e w4 ⟨rfl, rfl⟩
      have G := Lib.hid (m1_is h0 tw_u0 (hd := 0) (by omega) (d := 0) rfl false tw_is.1)
      go_wp2_with fail
      refine G.out.mono ?_
      rintro e w4 ⟨rfl, h0⟩
      have G := Lib.hid (m1_free h0 tw_u0 (by unfold big; omega) (hd := 0) (by omega) (d := 0) (q := 5) rfl (by rw [tw_f0]; rfl))
      rw [tw_f0] at G
      go_wp2_with fail
      refine G.out.mono ?_
      rintro e w5 ⟨rfl, h0⟩
      have h0 : M1 W x tw0 w5 := h0
      have G := Lib.hid (m1_alloc h0 tw_u0 (by unfold big; omega) 1 (q := 0) (by rw [tw_1.1]; rfl) (by rw [tw_1.2]; rfl))
      go_wp2_with fail
      refine G.out.mono ?_
      rintro e w6 ⟨rfl, h1⟩
      have h1 : M1 W x tw1 w6 := h1
      have G := Lib.hid (m1_reads h1 tw_u1 (hd := 1) (by omega) (d := 1) rfl ByteArray.empty (by decide +kernel) tw_r)
      go_wp2_with fail
      refine G.out.mono ?_
      rintro e w7 ⟨rfl, h1⟩
      have G := Lib.hid (m1_write h1 tw_u1 (hd := 1) (by omega) abcS (d := 1) (q := 40) rfl (by rw [tw_big]; rfl))
      rw [tw_big] at G
      go_wp2_with fail
      refine G.out.mono ?_
      rintro e w8 ⟨rfl, h1⟩
      have h1 : M1 W x tw1 w8 := h1
      have G := Lib.hid (m1_write h1 tw_u1 (hd := 1) (by omega) exAb (d := 1) (q := 0) rfl (by rw [tw_w]; rfl))
      go_wp2_with fail
      refine G.out.mono ?_
      rintro e w9 ⟨rfl, h2⟩
      have h2 : M1 W x tw2 w9 := h2
      have G := Lib.hid (m1_free h2 tw_u2 (by unfold big; omega) (hd := 2) (by omega) (d := 2) (q := 5) rfl (by rw [tw_f2]; rfl))
      rw [tw_f2] at G
      go_wp2_with fail
      refine G.out.mono ?_
      rintro e w10 ⟨rfl, h2⟩
      have h2 : M1 W x tw2 w10 := h2
      have G := Lib.hid (m1_free h2 tw_u2 (by unfold big; omega) (hd := 1) (by omega) (d := 1) (q := 0) rfl (by rw [tw_f]; rfl))
      go_wp2_with fail
      refine G.out.mono ?_
      rintro e w11 ⟨rfl, h3⟩
      have h3 : M1 W x tw3 w11 := h3
      have G := Lib.hid (m1_free h3 tw_u3 (by unfold big; omega) (hd := 1) (by omega) (d := 1) (q := 5) rfl (by rw [tw_f3]; rfl))
      rw [tw_f3] at G
      go_wp2_with fail
      refine G.out.mono ?_
      rintro e w12 ⟨rfl, h3⟩
      have h3 : M1 W x tw3 w12 := h3
      have G := Lib.hid (m1_write h3 tw_u3 (hd := 1) (by omega) ByteArray.empty (d := 1) (q := 5) rfl (by rw [tw_w3]; rfl))
      rw [tw_w3] at G
      go_wp2_with fail
      refine G.out.mono ?_
      rintro e w13 ⟨rfl, h3⟩
      have h3 : M1 W x tw3 w13 := h3
      have G := Lib.hid (Handle_lit w13 0 0 0 (by omega) (by omega) (by omega) (a := 0) (b := 0) (c := 0) (d := 0) rfl rfl rfl rfl)
      go_wp2_with fail
      refine G.out.mono ?_
      rintro e w14 ⟨rfl, rfl⟩
      have G := Lib.hid (m1_is h3 tw_u3 (hd := 0) (by omega) (d := 0) rfl false tw_is.2)
      go_wp2_with fail
      refine G.out.mono ?_
      rintro e w14 ⟨rfl, h3⟩
      have G := Lib.hid (m1_pages h3 (q := 1) (by rw [tw_n.1]; rfl))
      go_wp2_with fail
      refine G.out.mono ?_
      rintro e w15 ⟨rfl, rfl⟩
      have G := Lib.hid (m1_used h3 (q := 0) (by rw [tw_n.2.1]; rfl))
      go_wp2_with fail
      refine G.out.mono ?_
      rintro e w15 ⟨rfl, rfl⟩
      have G := Lib.hid (m1_new W _ h3.fr 4096 (by omega) (by omega))
      clear h0 h1 h2
      go_wp2_with fail
      refine G.out.mono ?_
      rintro e w16 ⟨x2, rfl, hf⟩
      clear G h3
      have hfi := FInv.new
      go_wp2_with fail
      go_loopw [15, 16] (fun l i wr => ∃ (k last : Nat) (s : AS), Hid (k ≤ 4096) ∧ i = .int .i64 k ∧ l = .int .u64 last ∧ Hid (k ≠ 0 → last = mkH (k - 1) 0 1) ∧ FInv k s ∧ M1 W x2 s wr) (fun _ i _ => 4096 - (intOf i).toNat)
      case atStart => exact ⟨0, 0, AS.new 4096, Nat.zero_le _, rfl, rfl, fun h => absurd rfl h, hfi, hf⟩
      case round =>
        obtain ⟨k2, last, s, hk2, rfl, rfl, hl, hi, hm⟩ := hrel
        clear hf hfi
        by_cases hlt2 : k2 < 4096
        · obtain ⟨e1, e2, e3⟩ := hi.next hlt2
          have G := Lib.hid (m1_alloc hm hi.up (by unfold big; omega) ((mkH k2 0 1 : Nat) : Int) (q := 0) (by rw [e1]) (by rw [e2]; rfl))
          have HI := Lib.hid e3
          clear e1 e2 e3
          go_wp2_with fail
          refine G.out.mono ?_
          rintro e w17 ⟨rfl, hm2⟩
          go_wp2_with fail
          go_roundw
          case rel => exact ⟨k2 + 1, mkH k2 0 1, _, hlt2, by go_num, rfl, fun _ => rfl, HI.out, hm2⟩
          case measure => simp [intOf]; omega
        · have hke : k2 = 4096 := by have := hk2.out; omega
          subst hke
          have hlast := hl.out (by omega)
          subst hlast
          obtain ⟨e1, e2, e3, e4, e5, e6⟩ := hi.end_
          have G := Lib.hid (m1_alloc hm hi.up (by unfold big; omega) 0 (q := 41) (by rw [e1]; rfl) (by rw [e1]; rfl))
          rw [e1] at G
          have hus : s.used = 4096 := hi.used
          have HE := Lib.hid (And.intro e2 (And.intro e3 (And.intro e4 (And.intro e5 e6))))
          have HU := Lib.hid hus
          clear e1 e2 e3 e4 e5 e6 hus
          go_wp2_with fail
          refine G.out.mono ?_
          rintro e w17 ⟨rfl, hm2⟩
          have hm2 : M1 W x2 { s with first := 4096 } w17 := hm2
          have G := Lib.hid (m1_used hm2 (q := 4096) (by show (s.used : Int) = 4096; rw [HU.out]; rfl))
          go_wp2_with fail
          refine G.out.mono ?_
          rintro e w18 ⟨rfl, rfl⟩
          have G := Lib.hid (Handle_lit w17 4095 0 1 (by omega) (by omega) (by omega) (a := 4095) (b := 0) (c := 1) (d := ((mkH 4095 0 1 : Nat) : Int)) rfl rfl rfl rfl)
          have hne : (((mkH (4096 - 1) 0 1 : Nat) : Int) != ((mkH 4095 0 1 : Nat) : Int)) = false := by decide +kernel
          go_wp2_with fail
          refine G.out.mono ?_
          rintro e w18 ⟨rfl, rfl⟩
          have G := Lib.hid (Handle_lit w17 7 0 1 (by omega) (by omega) (by omega) (a := 7) (b := 0) (c := 1) (d := ((mkH 7 0 1 : Nat) : Int)) rfl rfl rfl rfl)
          go_wp2_with fail
          refine G.out.mono ?_
          rintro e w18 ⟨rfl, rfl⟩
          have G := Lib.hid (m1_free hm2 HE.out.2.2.2.1 (by unfold big; omega) (hd := mkH 7 0 1) (mkH_lt (by omega)) (d := ((mkH 7 0 1 : Nat) : Int)) (q := 0) rfl (by rw [HE.out.1]; rfl))
          go_wp2_with fail
          refine G.out.mono ?_
          rintro e w18 ⟨rfl, hm3⟩
          have G := Lib.hid (m1_alloc hm3 (HE.out.2.2.2.1.free _) (by unfold big; omega) ((mkH 7 0 2 : Nat) : Int) (q := 0) (by rw [HE.out.2.1]) (by rw [HE.out.2.2.1]; rfl))
          go_wp2_with fail
          refine G.out.mono ?_
          rintro e w19 ⟨rfl, hm4⟩
          have G := Lib.hid (Handle_lit w19 7 0 2 (by omega) (by omega) (by omega) (a := 7) (b := 0) (c := 2) (d := ((mkH 7 0 2 : Nat) : Int)) rfl rfl rfl rfl)
          go_wp2_with fail
          refine G.out.mono ?_
          rintro e w20 ⟨rfl, rfl⟩
          have G := Lib.hid (m1_pages hm4 (q := 4096) (by rw [HE.out.2.2.2.2]; rfl))
          go_wp2_with fail
          refine G.out.mono ?_
          rintro e w20 ⟨rfl, rfl⟩
          go_wp2_with fail
          go_ret
          exact ⟨rfl, hm4.fr⟩
end Go.Proofs.Ytncajdefjammiaa
