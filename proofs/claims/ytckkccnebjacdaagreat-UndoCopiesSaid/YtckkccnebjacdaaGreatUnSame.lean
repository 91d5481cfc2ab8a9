/-
  Package undo's statements: whether two lists of versions, or of handles, are the same.
-/
import Derived.Test.YtckkccnebjacdaaGreatUnMay
import Derived.Test.YtckkccnebjacdaaGreatMgUnShelf
namespace Go.Proofs.YtckkccnebjacdaaGreat
open Go.RowKit
set_option linter.unusedVariables false
set_option linter.unusedSimpArgs false
set_option maxRecDepth 100000

theorem VerV.ext' {u v : VerV} (h1 : u.wr = v.wr) (h2 : u.ts = v.ts) (h3 : u.tomb = v.tomb) (h4 : u.val = v.val) : u = v := by
  cases u; cases v; simp only at h1 h2 h3 h4; subst h1; subst h2; subst h3; subst h4; rfl
theorem ver_ne (u v : VerV) (w : World) : (binOp .neq 40 (.agg #[.int .i64 u.wr, .int .i64 u.ts, .bool u.tomb, .string u.val]) (.agg #[.int .i64 v.wr, .int .i64 v.ts, .bool v.tomb, .string v.val])).run Tryz.prog w = .ok (.bool (!(@decide (u = v) (Classical.propDecidable _)))) w := by
  rw [run_neq_struct, run_equalIn_agg w _ _ _ _ (by kernel_rfl) (by kernel_rfl)]
  simp [Program.fieldsOf, Tryz.underlying40, Op.eqFields, go_sem]
  have hl : u.val.toList = v.val.toList ↔ u.val = v.val := ⟨fun h => by
    have : u.val.data = v.val.data := by rw [ByteArray.toList_eq, ByteArray.toList_eq] at h; exact Array.ext' h
    exact ByteArray.ext this, fun h => by rw [h]⟩
  simp only [hl]
  by_cases h1 : u.wr = v.wr
  · by_cases h2 : u.ts = v.ts
    · by_cases h3 : u.tomb = v.tomb
      · by_cases h4 : u.val = v.val
        · rw [if_pos h1, if_pos h2, if_pos h3, if_pos h4]
          have : u = v := VerV.ext' h1 h2 h3 h4
          subst this
          simp
        · rw [if_pos h1, if_pos h2, if_pos h3, if_neg h4]
          have : ¬ u = v := fun e => h4 (by rw [e])
          simp [this]
      · rw [if_pos h1, if_pos h2, if_neg h3]
        have : ¬ u = v := fun e => h3 (by rw [e])
        simp [this]
    · rw [if_pos h1, if_neg h2]
      have : ¬ u = v := fun e => h2 (by rw [e])
      simp [this]
  · rw [if_neg h1]
    have : ¬ u = v := fun e => h1 (by rw [e])
    simp [this]
noncomputable def sameV {α : Type} (l m : α) : Bool := @decide (l = m) (Classical.propDecidable _)
theorem sameV_yes {α : Type} {l m : α} (h : l = m) : sameV l m = true := @decide_eq_true _ (Classical.propDecidable _) h
theorem sameV_no {α : Type} {l m : α} (h : ¬ l = m) : sameV l m = false := @decide_eq_false _ (Classical.propDecidable _) h
theorem take_more {α : Type} {l : List α} {k : Nat} {x : α} (h : l[k]? = some x) : l.take (k + 1) = l.take k ++ [x] := by
  rw [List.take_add_one, h]; rfl
set_option maxHeartbeats 4000000 in
theorem Same_any {w : World} {a b : Option Addr} {ca cb : Nat} {l m : List VerV} (hl : LsAt w a 4 verL l) (hm : LsAt w b 4 verL m) (hb : l.length ≤ 1000000) (hb2 : m.length ≤ 1000000) :
    Calls Tryz.prog 12 #[.slice a l.length ca, .slice b m.length cb] w fun e w' => e = .returned (.bool (sameV l m)) ∧ ∃ n, w' = w.drewN n := by
  have HNO := Lib.hid (fun (h : ¬ l = m) => sameV_no h)
  have HYES := Lib.hid (fun (h : l = m) => sameV_yes h)
  obtain ⟨r, hr⟩ : ∃ r, r = sameV l m := ⟨_, rfl⟩
  rw [← hr] at HNO HYES ⊢
  clear hr
  by_cases hlen : l.length = m.length
  · obtain ⟨n, hn⟩ : ∃ n, n = m.length := ⟨_, rfl⟩
    rw [hlen, ← hn]
    rw [← hn] at hlen
    have HLN := Lib.hid hlen
    have HN := Lib.hid hn
    have hnb : n ≤ 1000000 := by omega
    have HL := Lib.hid hl
    have HM := Lib.hid hm
    clear hlen hn hl hm hb hb2
    go_enter Tryz.func12, Tryz.ntmps12
    go_wp2_with fail
    go_loopw [5] (fun i wr => ∃ k q : Nat, Hid (k ≤ n) ∧ i = .int .i64 (k : Int) ∧ Hid (l.take k = m.take k) ∧ wr = w.drewN q) (fun i _ => n - (intOf i).toNat)
    case atStart => exact ⟨0, 0, Nat.zero_le _, rfl, (rfl : List.take 0 l = List.take 0 m), rfl⟩
    case round =>
      obtain ⟨k, q, hk, rfl, ht, rfl⟩ := hrel
      by_cases hlt : k < n
      · have hx : l[k]? = some (l[k]'(by rw [HLN.out]; exact hlt)) := List.getElem?_eq_getElem _
        have hy : m[k]? = some (m[k]'(by rw [← HN.out]; exact hlt)) := List.getElem?_eq_getElem _
        obtain ⟨g1, o1, rfl, hg1, hc1⟩ := HL.out.get hx
        obtain ⟨g2, o2, rfl, hg2, hc2⟩ := HM.out.get hy
        generalize l[k]'(by rw [HLN.out]; exact hlt) = u at hx
        generalize m[k]'(by rw [← HN.out]; exact hlt) = v at hy
        have p0 : w.cell? ⟨g1, o1 + k * 4, none⟩ = some (.int .i64 u.wr) := hc1 k u hx 0 _ rfl
        have p1 : w.cell? ⟨g1, o1 + k * 4 + 1, none⟩ = some (.int .i64 u.ts) := hc1 k u hx 1 _ rfl
        have p2 : w.cell? ⟨g1, o1 + k * 4 + 2, none⟩ = some (.bool u.tomb) := hc1 k u hx 2 _ rfl
        have p3 : w.cell? ⟨g1, o1 + k * 4 + 3, none⟩ = some (.string u.val) := hc1 k u hx 3 _ rfl
        have q0 : w.cell? ⟨g2, o2 + k * 4, none⟩ = some (.int .i64 v.wr) := hc2 k v hy 0 _ rfl
        have q1 : w.cell? ⟨g2, o2 + k * 4 + 1, none⟩ = some (.int .i64 v.ts) := hc2 k v hy 1 _ rfl
        have q2 : w.cell? ⟨g2, o2 + k * 4 + 2, none⟩ = some (.bool v.tomb) := hc2 k v hy 2 _ rfl
        have q3 : w.cell? ⟨g2, o2 + k * 4 + 3, none⟩ = some (.string v.val) := hc2 k v hy 3 _ rfl
        have hne := fun w' => ver_ne u v w'
        have HT1 := Lib.hid (take_more hx)
        have HT2 := Lib.hid (take_more hy)
        have HX := Lib.hid hx
        have HY := Lib.hid hy
        clear hc1 hc2 hx hy
        by_cases he : u = v
        · have HE := Lib.hid he
          have hd : @decide (u = v) (Classical.propDecidable _) = true := @decide_eq_true _ (Classical.propDecidable _) he
          rw [hd] at hne
          clear hd he
          go_wp2_with fail
          go_quiet (fail)
          go_wp2_with fail
          go_roundw
          case rel => exact ⟨k + 1, _, hlt, by go_num, (show l.take (k + 1) = m.take (k + 1) by rw [HT1.out, HT2.out, ht.out, HE.out]), rfl⟩
          case measure => simp [intOf]; omega
        · have hd : @decide (u = v) (Classical.propDecidable _) = false := @decide_eq_false _ (Classical.propDecidable _) he
          rw [hd] at hne
          have HR := Lib.hid (HNO.out (fun e => he (by rw [e] at HX; have := HX.out.symm.trans HY.out; simpa using this)))
          clear hd he
          go_wp2_with fail
          go_quiet (fail)
          go_wp2_with fail
          go_ret
          exact ⟨by rw [HR.out]; rfl, _, by first | rfl | exact World.drewN_drewN _ _ _⟩
      · have hke : k = n := by have := hk.out; omega
        have HR := Lib.hid (HYES.out (by
          have := ht.out
          rw [hke, List.take_of_length_le (by rw [HLN.out]; exact Nat.le_refl _), List.take_of_length_le (by rw [← HN.out]; exact Nat.le_refl _)] at this
          exact this))
        clear hke
        go_wp2_with fail
        go_ret
        exact ⟨by rw [HR.out]; rfl, q, rfl⟩
  · have HR := Lib.hid (HNO.out (fun e => hlen (by rw [e])))
    have hne : ((l.length : Int) == (m.length : Int)) = false := beq_eq_false_iff_ne.2 (by omega)
    clear hl hm hlen
    go_enter Tryz.func12, Tryz.ntmps12
    go_wp2_with fail
    go_ret
    exact ⟨by rw [HR.out]; rfl, 0, rfl⟩
set_option maxHeartbeats 4000000 in
theorem Handles_any {w : World} {a b : Option Addr} {ca cb : Nat} {l m : List Nat} (hl : LsAt w a 1 hvC l) (hm : LsAt w b 1 hvC m) (hb : l.length ≤ 1000000) (hb2 : m.length ≤ 1000000) :
    Calls Tryz.prog 28 #[.slice a l.length ca, .slice b m.length cb] w fun e w' => e = .returned (.bool (sameV l m)) ∧ ∃ n, w' = w.drewN n := by
  have HNO := Lib.hid (fun (h : ¬ l = m) => sameV_no h)
  have HYES := Lib.hid (fun (h : l = m) => sameV_yes h)
  obtain ⟨r, hr⟩ : ∃ r, r = sameV l m := ⟨_, rfl⟩
  rw [← hr] at HNO HYES ⊢
  clear hr
  by_cases hlen : l.length = m.length
  · obtain ⟨n, hn⟩ : ∃ n, n = m.length := ⟨_, rfl⟩
    rw [hlen, ← hn]
    rw [← hn] at hlen
    have HLN := Lib.hid hlen
    have HN := Lib.hid hn
    have hnb : n ≤ 1000000 := by omega
    have HL := Lib.hid hl
    have HM := Lib.hid hm
    clear hlen hn hl hm hb hb2
    go_enter Tryz.func28, Tryz.ntmps28
    go_wp2_with fail
    go_loopw [5] (fun i wr => ∃ k q : Nat, Hid (k ≤ n) ∧ i = .int .i64 (k : Int) ∧ Hid (l.take k = m.take k) ∧ wr = w.drewN q) (fun i _ => n - (intOf i).toNat)
    case atStart => exact ⟨0, 0, Nat.zero_le _, rfl, (rfl : List.take 0 l = List.take 0 m), rfl⟩
    case round =>
      obtain ⟨k, q, hk, rfl, ht, rfl⟩ := hrel
      by_cases hlt : k < n
      · have hx : l[k]? = some (l[k]'(by rw [HLN.out]; exact hlt)) := List.getElem?_eq_getElem _
        have hy : m[k]? = some (m[k]'(by rw [← HN.out]; exact hlt)) := List.getElem?_eq_getElem _
        obtain ⟨g1, o1, rfl, hg1, hc1⟩ := HL.out.get hx
        obtain ⟨g2, o2, rfl, hg2, hc2⟩ := HM.out.get hy
        generalize l[k]'(by rw [HLN.out]; exact hlt) = u at hx
        generalize m[k]'(by rw [← HN.out]; exact hlt) = v at hy
        have p0 : w.cell? ⟨g1, o1 + k * 1, none⟩ = some (.int .u64 (u : Int)) := hc1 k u hx 0 _ rfl
        have q0 : w.cell? ⟨g2, o2 + k * 1, none⟩ = some (.int .u64 (v : Int)) := hc2 k v hy 0 _ rfl
        rw [Nat.mul_one] at p0 q0
        have HT1 := Lib.hid (take_more hx)
        have HT2 := Lib.hid (take_more hy)
        have HX := Lib.hid hx
        have HY := Lib.hid hy
        clear hc1 hc2 hx hy
        by_cases he : u = v
        · have HE := Lib.hid he
          have hne : ((u : Int) == (v : Int)) = true := beq_iff_eq.2 (by omega)
          clear he
          go_wp2_with fail
          go_quiet (fail)
          go_wp2_with fail
          go_roundw
          case rel => exact ⟨k + 1, _, hlt, by go_num, (show l.take (k + 1) = m.take (k + 1) by rw [HT1.out, HT2.out, ht.out, HE.out]), rfl⟩
          case measure => simp [intOf]; omega
        · have hne : ((u : Int) == (v : Int)) = false := beq_eq_false_iff_ne.2 (by omega)
          have HR := Lib.hid (HNO.out (fun e => he (by rw [e] at HX; have := HX.out.symm.trans HY.out; simpa using this)))
          clear he
          go_wp2_with fail
          go_quiet (fail)
          go_wp2_with fail
          go_ret
          exact ⟨by rw [HR.out]; rfl, _, by first | rfl | exact World.drewN_drewN _ _ _⟩
      · have hke : k = n := by have := hk.out; omega
        have HR := Lib.hid (HYES.out (by
          have := ht.out
          rw [hke, List.take_of_length_le (by rw [HLN.out]; exact Nat.le_refl _), List.take_of_length_le (by rw [← HN.out]; exact Nat.le_refl _)] at this
          exact this))
        clear hke
        go_wp2_with fail
        go_ret
        exact ⟨by rw [HR.out]; rfl, q, rfl⟩
  · have HR := Lib.hid (HNO.out (fun e => hlen (by rw [e])))
    have hne : ((l.length : Int) == (m.length : Int)) = false := beq_eq_false_iff_ne.2 (by omega)
    clear hl hm hlen
    go_enter Tryz.func28, Tryz.ntmps28
    go_wp2_with fail
    go_ret
    exact ⟨by rw [HR.out]; rfl, 0, rfl⟩
end Go.Proofs.YtckkccnebjacdaaGreat
