/-
  The reference of layer 17 in memory: its slots as a list; 'place', 'Read'.
-/
import Derived.Test.YteefcfndlggajaaCnStep
import Derived.Deep.QuietTactic
import Derived.BigQuiet
namespace Go.Proofs.Yteefcfndlggajaa
open Go.RowKit
set_option linter.unusedVariables false
set_option linter.unusedSimpArgs false
set_option maxRecDepth 100000

def slotL (p : Nat × NV) : List Value := [.int .u64 (p.1 : Int), .int .i64 (p.2.wr : Int), .int .i64 (p.2.ts : Int), .bool p.2.tomb, .string p.2.val, .int .u64 (p.2.nx : Int)]
/-- What the slots hold is what the handles name. -/
structure Lrep (L : List (Nat × NV)) (f : Nat → Option NV) : Prop where
  here : ∀ p ∈ L, f p.1 = some p.2
  all : ∀ h n, f h = some n → (h, n) ∈ L
  nodup : (L.map (·.1)).Nodup
theorem Lrep.none {L : List (Nat × NV)} {f : Nat → Option NV} (r : Lrep L f) {h : Nat} (hn : ∀ p ∈ L, p.1 ≠ h) : f h = none := by
  cases e : f h with
  | none => rfl
  | some n => exact absurd rfl (hn _ (r.all h n e))
def NoSlot (L : List (Nat × NV)) (h : Nat) : Prop := ∀ p ∈ L, p.1 ≠ h
set_option maxHeartbeats 2000000 in
theorem Rc_place (w : World) (xr : Nat) (la : Option Addr) (lc : Nat) (L : List (Nat × NV)) (hr : w.cell? ⟨xr, 9, none⟩ = some (.slice la L.length lc)) (hL : LsAt w la 6 slotL L) (hlen : L.length ≤ 1000000) (h : Nat) :
    Calls Try.prog 59 #[.pointer (some ⟨xr, 0, none⟩), .int .u64 (h : Int)] w fun e w' => (∃ (i : Nat) (n : NV), (e = .returned (.tuple #[.int .i64 (i : Int), .bool true]) ∧ L[i]? = some (h, n)) ∨ (e = .returned (.tuple #[.int .i64 0, .bool false]) ∧ NoSlot L h)) ∧ w = w' := by
  have HLN := Lib.hid hlen
  clear hlen
  go_enter Try.func59, Try.ntmps59
  go_wp2_with fail
  go_loop [6] (fun iv => ∃ k : Nat, Hid (k ≤ L.length) ∧ iv = .int .i64 (k : Int) ∧ Hid (∀ j p, j < k → L[j]? = some p → p.1 ≠ h)) (fun iv => L.length - (intOf iv).toNat)
  case atStart => exact ⟨0, Nat.zero_le _, rfl, (show ∀ j p, j < 0 → L[j]? = some p → p.1 ≠ h from fun j p hj => by omega)⟩
  case round =>
    obtain ⟨k, hk, rfl, hno⟩ := hrel
    by_cases hlt : k < L.length
    · obtain ⟨p, hp⟩ : ∃ p, L[k]? = some p := ⟨_, List.getElem?_eq_getElem hlt⟩
      obtain ⟨b, o, hbo, hbl, hc⟩ := hL.get hp
      subst hbo
      have q0 : w.cell? ⟨b, o + k * 6, none⟩ = some (.int .u64 (p.1 : Int)) := hc k p hp 0 _ rfl
      have HP := Lib.hid hp
      have hk2 : k ≤ 1000000 := by have := HLN.out; omega
      clear hc hp
      by_cases he : p.1 = h
      · have he' : ((p.1 : Int) == (h : Int)) = true := by rw [he]; simp
        have HR := Lib.hid (show L[k]? = some (h, p.2) by rw [HP.out, ← he])
        clear he
        go_wp2_with fail
        go_ret2
        exact ⟨⟨k, p.2, Or.inl ⟨rfl, HR.out⟩⟩, rfl⟩
      · have he' : ((p.1 : Int) == (h : Int)) = false := beq_eq_false_iff_ne.2 (by omega)
        have HR := Lib.hid he
        clear he
        go_wp2_with fail
        go_round
        case rel =>
          refine ⟨k + 1, hlt, by go_num, ?_⟩
          show ∀ j u, j < k + 1 → L[j]? = some u → u.1 ≠ h
          intro j u hj hu
          rcases Nat.lt_or_ge j k with q | q
          · exact hno.out j u q hu
          · obtain rfl : j = k := by omega
            obtain rfl : p = u := by have := HP.out.symm.trans hu; simpa using this
            exact HR.out
        case measure => simp [intOf]; omega
    · have HR := Lib.hid (show NoSlot L h from fun p hp => by
        obtain ⟨j, hj, rfl⟩ := List.getElem_of_mem hp
        exact hno.out j _ (by omega) (List.getElem?_eq_getElem hj))
      go_wp2_with fail
      go_ret2
      exact ⟨⟨0, ⟨0, 0, 0, false, ⟨#[]⟩⟩, Or.inr ⟨rfl, HR.out⟩⟩, rfl⟩
set_option maxHeartbeats 2000000 in
theorem Rc_Read (w : World) (xr : Nat) (la : Option Addr) (lc : Nat) (L : List (Nat × NV)) (hr : w.cell? ⟨xr, 9, none⟩ = some (.slice la L.length lc)) (hL : LsAt w la 6 slotL L) (hlen : L.length ≤ 1000000) (f : Nat → Option NV) (rep : Lrep L f) (h : Nat) :
    Calls Try.prog 30 #[.pointer (some ⟨xr, 0, none⟩), .int .u64 (h : Int)] w fun e w' => e = .returned (.tuple #[.agg (nodeOf (f h)), .bool (f h).isSome]) ∧ Fr none_ w w' := by
  have HP := Lib.hid (fun w' (q : Fr none_ w w') => Rc_place w' xr la lc L (q.keep hr) (hL.kept0 q) hlen h)
  have HR := Lib.hid (fun w' (q : Fr none_ w w') => (And.intro (q.keep hr) (hL.kept0 q)))
  have HREP := Lib.hid rep
  have FB := Lib.hid (Fr.alloc none_ w (.cells #[.int .i64 0, .int .i64 0, .bool false, .string ⟨#[]⟩, .int .u64 0] 67))
  have RB := Lib.hid (Row.new w #[.int .i64 0, .int .i64 0, .bool false, .string ⟨#[]⟩, .int .u64 0] 67)
  have HLN := Lib.hid hlen
  clear hr hL rep hlen
  go_enter Try.func30, Try.ntmps30
  go_wp2_with fail
  refine (HP.out _ FB.out).mono ?_
  rintro e w1 ⟨⟨i, n, ⟨rfl, hi⟩ | ⟨rfl, hn⟩⟩, rfl⟩
  · have hf : f h = some n := HREP.out.here (h, n) (List.mem_of_getElem? hi)
    obtain ⟨q9, hls⟩ := HR.out _ FB.out
    obtain ⟨b, o, hbo, hbl, hc⟩ := hls.get hi
    subst hbo
    have hil : i < L.length := (List.getElem?_eq_some_iff.1 hi).1
    obtain ⟨wa, hwa⟩ : ∃ wa, wa = w.alloc (.cells #[.int .i64 0, .int .i64 0, .bool false, .string ⟨#[]⟩, .int .u64 0] 67) := ⟨_, rfl⟩
    have q1 := hc i (h, n) hi 1 _ rfl
    have q2 := hc i (h, n) hi 2 _ rfl
    have q3 := hc i (h, n) hi 3 _ rfl
    have q4 := hc i (h, n) hi 4 _ rfl
    have q5 := hc i (h, n) hi 5 _ rfl
    have HF := Lib.hid hf
    clear hc hi hls hf
    go_wp2_with ((with_reducible refine at_storeOf 67 ?_); refine wpStoreRow (cs' := n.cells) rfl _ _ _ rfl RB.out rfl (by rfl) (by kernel_rfl) rfl (by simp [NV.cells, nodeZero, Value.oneCell']) ?_; intro w3 R3 f3; have c0 := R3.cell 0; have c1 := R3.cell 1; have c2 := R3.cell 2; have c3 := R3.cell 3; have c4 := R3.cell 4; have F3 := Lib.hid f3; clear f3 R3)
    refine bodyPost_ret (v := .tuple #[.agg (n.cells), .bool true]) (by simp [results, Try.results30, go_sem, c0, c1, c2, c3, c4, NV.cells, nodeZero]) rfl ⟨by rw [HF.out]; rfl, ?_⟩
    exact FB.out.step F3.out (fun i hi e => by unfold one at e; omega)
  · have hf := HREP.out.none hn
    have HF := Lib.hid hf
    clear hn hf
    go_wp2_with ((with_reducible refine at_storeOf 67 ?_); refine wpStoreRow (cs' := nodeZero) rfl _ _ _ rfl RB.out rfl (by rfl) (by kernel_rfl) rfl (by simp [NV.cells, nodeZero, Value.oneCell']) ?_; intro w3 R3 f3; have c0 := R3.cell 0; have c1 := R3.cell 1; have c2 := R3.cell 2; have c3 := R3.cell 3; have c4 := R3.cell 4; have F3 := Lib.hid f3; clear f3 R3)
    refine bodyPost_ret (v := .tuple #[.agg (nodeZero), .bool false]) (by simp [results, Try.results30, go_sem, c0, c1, c2, c3, c4, NV.cells, nodeZero]) rfl ⟨by rw [HF.out]; rfl, ?_⟩
    exact FB.out.step F3.out (fun i hi e => by unfold one at e; omega)
set_option maxHeartbeats 4000000 in
theorem Rc_May {w : World} {x : Nat} (vl : Nat) (v : VerV) (hvl : vl ≤ 256) (hc : w.cell? ⟨x, 6, none⟩ = some (.int .i64 (vl : Int))) (hs : v.val.size ≤ maxLen) :
    Calls Try.prog 80 #[.pointer (some ⟨x, 0, none⟩), .agg v.cells] w fun e w' => e = .returned (.bool (v.may vl)) ∧ Fr none_ w w' := by
  have HNO := Lib.hid (fun h => VerV.may_no (vl := vl) (v := v) h)
  have HYES := Lib.hid (fun h => VerV.may_yes (vl := vl) (v := v) h)
  have hc1 := (Fr.alloc none_ w (.cells v.cells 32)).keep hc
  have fB := Lib.hid (Fr.alloc none_ w (.cells v.cells 32))
  obtain ⟨m, hm⟩ : ∃ m, m = v.may vl := ⟨_, rfl⟩
  rw [← hm] at HNO HYES ⊢
  obtain ⟨ok, hok⟩ : ∃ ok : Prop, ok = v.Ok vl := ⟨_, rfl⟩
  have HOK := Lib.hid (show (ok → 1 ≤ v.wr ∧ 0 ≤ v.ts ∧ v.ts ≤ 1048576 ∧ v.val.size ≤ vl ∧ (v.tomb = true → v.val.toList = [])) ∧ (1 ≤ v.wr → 0 ≤ v.ts → v.ts ≤ 1048576 → v.val.size ≤ vl → (v.tomb = true → v.val.toList = []) → ok) by
    rw [hok]; exact ⟨fun h => ⟨h.1, h.2, h.3, h.4, h.5⟩, fun a b c d e => ⟨a, b, c, d, e⟩⟩)
  rw [← hok] at HNO HYES
  unfold VerV.cells at hc1 fB ⊢
  clear hc hm hok
  obtain ⟨vw, vt, vtomb, vv⟩ := v
  simp only at HOK hc1 hs fB ⊢
  unfold maxLen at hs
  have he := Fr.drewN
  by_cases l1 : vw < 1
  · have hr := Lib.hid (HNO.out (fun q => by have := (HOK.out.1 q).1; omega))
    have hd : decide (1 ≤ vw) = false := by simpa using l1
    clear HNO HYES HOK
    go_enter Try.func80, Try.ntmps80
    go_wp2_with fail
    go_quiet (fail)
    go_wp2_with fail
    go_ret
    exact ⟨by rw [hr.out]; rfl, fB.out.trans (Fr.drewN none_ _ _)⟩
  have hd1 : decide (1 ≤ vw) = true := by simp; omega
  by_cases l2 : vt < 0
  · have hr := Lib.hid (HNO.out (fun q => by have := (HOK.out.1 q).2.1; omega))
    have hd : decide (0 ≤ vt) = false := by simpa using l2
    clear HNO HYES HOK
    go_enter Try.func80, Try.ntmps80
    go_wp2_with fail
    go_quiet (fail)
    go_wp2_with fail
    go_ret
    exact ⟨by rw [hr.out]; rfl, fB.out.trans (Fr.drewN none_ _ _)⟩
  have hd2 : decide (0 ≤ vt) = true := by simp; omega
  by_cases l3 : 1048576 < vt
  · have hr := Lib.hid (HNO.out (fun q => by have := (HOK.out.1 q).2.2.1; omega))
    have hd : decide (vt ≤ 1048576) = false := by simpa using l3
    clear HNO HYES HOK
    go_enter Try.func80, Try.ntmps80
    go_wp2_with fail
    go_quiet (fail)
    go_wp2_with fail
    go_ret
    exact ⟨by rw [hr.out]; rfl, fB.out.trans (Fr.drewN none_ _ _)⟩
  have hd3 : decide (vt ≤ 1048576) = true := by simp; omega
  by_cases l4 : vl < vv.size
  · have hr := Lib.hid (HNO.out (fun q => by have := (HOK.out.1 q).2.2.2.1; omega))
    have hd : decide (vv.size ≤ vl) = false := by simpa using l4
    clear HNO HYES HOK
    go_enter Try.func80, Try.ntmps80
    go_wp2_with fail
    go_quiet (fail)
    go_wp2_with fail
    go_ret
    exact ⟨by rw [hr.out]; rfl, fB.out.trans (Fr.drewN none_ _ _)⟩
  have hd4 : decide (vv.size ≤ vl) = true := by simp; omega
  cases vtomb with
  | false =>
    have hr := Lib.hid (HYES.out (HOK.out.2 (by omega) (by omega) (by omega) (by omega) (fun q => by cases q)))
    clear HNO HYES HOK
    go_enter Try.func80, Try.ntmps80
    go_wp2_with fail
    go_quiet (fail)
    go_wp2_with fail
    go_ret
    exact ⟨by rw [hr.out]; rfl, fB.out.trans (Fr.drewN none_ _ _)⟩
  | true =>
    by_cases l5 : vv.toList = []
    · have hr := Lib.hid (HYES.out (HOK.out.2 (by omega) (by omega) (by omega) (by omega) (fun q => l5)))
      have hd5 : vv.toList.isEmpty = true := by rw [l5]; rfl
      clear HNO HYES HOK
      go_enter Try.func80, Try.ntmps80
      go_wp2_with fail
      go_quiet (fail)
      go_wp2_with fail
      go_ret
      exact ⟨by rw [hr.out]; first | rfl | simp [l5] | simp [hd5], fB.out.trans (Fr.drewN none_ _ _)⟩
    · have hr := Lib.hid (HNO.out (fun q => l5 ((HOK.out.1 q).2.2.2.2 rfl)))
      have hd5 : vv.toList.isEmpty = false := by simpa using l5
      clear HNO HYES HOK
      go_enter Try.func80, Try.ntmps80
      go_wp2_with fail
      go_quiet (fail)
      go_wp2_with fail
      go_ret
      exact ⟨by rw [hr.out]; first | rfl | simp [l5] | simp [hd5], fB.out.trans (Fr.drewN none_ _ _)⟩
end Go.Proofs.Yteefcfndlggajaa
