/-
  DeadNames: the examples, the limits, and what is asked of nil (closed).
-/
import Derived.Test.YtkfnfflonjfglaaDdSum
namespace Go.Proofs.Ytkfnfflonjfglaa
open Go.RowKit
set_option linter.unusedVariables false
set_option linter.unusedSimpArgs false
set_option maxRecDepth 100000

theorem nil_Add (w : World) (t : Int) : Calls Try.prog 14 #[.pointer none, .int .i64 t] w fun e w' => e = .returned (.int .i64 2) ∧ w = w' := by
  go_enter Try.func14, Try.ntmps14
  go_wp2
  go_ret
  exact ⟨rfl, rfl⟩
theorem nil_Less (w : World) (t : Int) : Calls Try.prog 16 #[.pointer none, .int .i64 t] w fun e w' => e = .returned (.bool false) ∧ w = w' := by
  go_enter Try.func16, Try.ntmps16
  go_wp2
  go_ret
  exact ⟨rfl, rfl⟩
theorem nil_Of (w : World) (t : Int) : Calls Try.prog 18 #[.pointer none, .int .i64 t] w fun e w' => e = .returned (.int .i64 0) ∧ w = w' := by
  go_enter Try.func18, Try.ntmps18
  go_wp2
  go_ret
  exact ⟨rfl, rfl⟩
theorem nil_All (w : World) : Calls Try.prog 11 #[.pointer none] w fun e w' => e = .returned (.int .i64 0) ∧ w = w' := by
  go_enter Try.func11, Try.ntmps11
  go_wp2
  go_ret
  exact ⟨rfl, rfl⟩
theorem nil_Counts (w : World) : Calls Try.prog 19 #[.pointer none] w fun e w' => e = .returned (.slice none 0 0) ∧ w = w' := by
  go_enter Try.func19, Try.ntmps19
  go_wp2
  go_ret
  exact ⟨rfl, rfl⟩
theorem nil_Copy (w : World) : Calls Try.prog 20 #[.pointer none] w fun e w' => e = .returned (.pointer none) ∧ w = w' := by
  go_enter Try.func20, Try.ntmps20
  go_wp2
  go_ret
  exact ⟨rfl, rfl⟩
theorem nil_Pass (w : World) (t : Int) : Calls Try.prog 17 #[.pointer none, .int .i64 t] w fun e w' => e = .returned (.int .i64 0) ∧ w = w' := by
  have H := Lib.hid (nil_Counts w)
  go_enter Try.func17, Try.ntmps17
  go_wp2_with fail
  refine H.out.mono ?_
  rintro e w1 ⟨rfl, rfl⟩
  go_wp2_with fail
  go_loop [5, 11] (fun u i => u = .int .i64 0 ∧ i = .int .i64 0) (fun _ _ => 0)
  case atStart => exact ⟨rfl, rfl⟩
  case round =>
    obtain ⟨rfl, rfl⟩ := hrel
    go_wp2_with fail
    go_ret
    exact ⟨rfl, rfl⟩

/-- The counts are these. -/
structure Sp (s : DS) (f : Int → Nat) (a : Nat) : Prop where
  wf : s.WF
  cnt : ∀ k, s.cnt k = f k
  all : s.all = a
theorem Sp.of {s t : DS} {f : Int → Nat} (hs : s.WF) (ht : t.WF) (h : ∀ k, s.cnt k = f k) (h' : ∀ k, t.cnt k = f k) : Sp s f t.all := ⟨hs, h, all_ext hs ht (fun k => (h k).trans (h' k).symm)⟩
theorem Sp.add {s : DS} {f : Int → Nat} {a : Nat} (h : Sp s f a) (t : Int) (h1 : 1 ≤ t) (h2 : t ≤ 1048576) (ha : a < 64) : (dAdd s t).1 = 0 ∧ Sp (dAdd s t).2 (fun k => f k + if k = t then 1 else 0) (a + 1) := by
  obtain ⟨q1, q2, q3, q4⟩ := add_law h.wf t
  have h0 := q2.2 ⟨h1, h2, by rw [h.all]; omega⟩
  refine ⟨h0, q1, fun k => ?_, ?_⟩
  · rw [q3, h.cnt, h0]; simp
  · rw [q4, h0, h.all]; rfl
theorem add_arg (s : DS) (t : Int) (h : t < 1 ∨ 1048576 < t) : dAdd s t = (1, s) := by unfold dAdd; rw [if_pos h]
theorem Sp.full {s : DS} {f : Int → Nat} (h : Sp s f 64) (t : Int) (h1 : 1 ≤ t) (h2 : t ≤ 1048576) : dAdd s t = (41, s) := by
  unfold dAdd; rw [if_neg (by omega), if_pos h.all]
theorem Sp.none {s : DS} {f : Int → Nat} {a : Nat} (h : Sp s f a) (t : Int) (h0 : f t = 0) : dLess s t = (false, s) := by unfold dLess; rw [if_pos (by rw [h.cnt]; exact h0)]
theorem Sp.less {s : DS} {f : Int → Nat} {a : Nat} (h : Sp s f a) (t : Int) (h0 : f t ≠ 0) : (dLess s t).1 = true ∧ Sp (dLess s t).2 (fun k => if k = t then f t - 1 else f k) (a - 1) := by
  obtain ⟨q1, q2, q3, q4⟩ := less_law h.wf t
  have hb := q2.2 (by rw [h.cnt]; exact h0)
  rw [hb] at q4
  have := h.all
  simp only [if_true] at q4
  exact ⟨hb, q1, fun k => by rw [q3, h.cnt, h.cnt], by omega⟩
/-- A Pass, where it is known what is left. -/
theorem Sp.pass {s : DS} {f : Int → Nat} {a : Nat} (h : Sp s f a) (fl : Int) {t : DS} (ht : t.WF) (h' : ∀ k, t.cnt k = if k ≤ fl then 0 else f k) : (dPass s fl).1 = a - t.all ∧ Sp (dPass s fl).2 (fun k => if k ≤ fl then 0 else f k) t.all := by
  obtain ⟨q1, q2, q3⟩ := pass_law h.wf fl
  have hs : Sp (dPass s fl).2 (fun k => if k ≤ fl then 0 else f k) t.all := Sp.of q1 ht (fun k => by rw [q2, h.cnt]) h'
  have h1 := hs.all
  have h2 := h.all
  exact ⟨by omega, hs⟩
theorem Sp.ext {s : DS} {f g : Int → Nat} {a : Nat} (h : Sp s f a) (e : ∀ k, f k = g k) : Sp s g a := ⟨h.wf, fun k => (h.cnt k).trans (e k), h.all⟩
def oneD : DS := ⟨[(1048576, 1)], 1⟩
theorem oneD_wf : oneD.WF := ⟨by decide, by decide, by decide, by decide, by decide⟩
theorem oneD_cnt (k : Int) : oneD.cnt k = if k = 1048576 then 1 else 0 := by
  unfold DS.cnt oneD
  rw [kvGet_cons]
  by_cases h : k = 1048576
  · subst h; rfl
  · rw [if_neg h, if_neg (fun e => h e.symm)]; rfl
def noD : DS := ⟨[], 0⟩
theorem noD_cnt (k : Int) : noD.cnt k = 0 := rfl
theorem Sp.no_len {s : DS} {f : Int → Nat} {a : Nat} (h : Sp s f a) (h0 : ∀ k, f k = 0) : s.of.length = 0 := by
  rw [← keys_length s]
  cases hk : s.keys with
  | nil => rfl
  | cons x r =>
    have hx : x ∈ s.keys := by rw [hk]; simp
    exact absurd ((h.cnt x).trans (h0 x)) ((mem_keys h.wf x).1 hx)

set_option maxHeartbeats 8000000 in
theorem walk_DeadNames (W : World) : Calls Try.prog 5 #[] W fun e w' => e = .returned (.bool true) ∧ Fr none_ W w' := by
  have Hworks := Lib.hid works_any
  have HN1 := Lib.hid nil_Add
  have HN2 := Lib.hid nil_Less
  have HN3 := Lib.hid nil_Pass
  have HN4 := Lib.hid nil_Of
  have HN5 := Lib.hid nil_All
  have HN6 := Lib.hid nil_Counts
  have HN7 := Lib.hid nil_Copy
  go_enter Try.func5, Try.ntmps5
  go_wp2_with fail
  refine (Hworks.out _).mono ?_
  rintro e w1 ⟨rfl, f1⟩
  go_wp2_with fail
  refine (HN1.out _ _).mono ?_
  rintro e w2 ⟨rfl, rfl⟩
  go_wp2_with fail
  refine (HN2.out _ _).mono ?_
  rintro e w2 ⟨rfl, rfl⟩
  go_wp2_with fail
  refine (HN3.out _ _).mono ?_
  rintro e w2 ⟨rfl, rfl⟩
  go_wp2_with fail
  refine (HN4.out _ _).mono ?_
  rintro e w2 ⟨rfl, rfl⟩
  go_wp2_with fail
  refine (HN5.out _).mono ?_
  rintro e w2 ⟨rfl, rfl⟩
  go_wp2_with fail
  refine (HN6.out _).mono ?_
  rintro e w2 ⟨rfl, rfl⟩
  go_wp2_with fail
  refine (HN7.out _).mono ?_
  rintro e w2 ⟨rfl, rfl⟩
  have G := Lib.hid (d1_new W w1 f1)
  go_wp2_with fail
  refine G.out.mono ?_
  rintro e w2 ⟨d, rfl, hd⟩
  clear G HN1 HN2 HN3 HN4 HN5 HN6 HN7 Hworks f1
  have S0 : Sp noD (fun _ => 0) 0 := ⟨WF_new, noD_cnt, rfl⟩
  have hd : D1 W d noD w2 := hd
  have g := d1_add hd S0.wf (-1) (q := 1) (by rw [add_arg _ _ (by omega)]; rfl)
  rw [add_arg _ _ (by omega)] at g
  have G := Lib.hid g
  clear g
  go_wp2_with fail
  refine G.out.mono ?_
  rintro e w3 ⟨rfl, hd⟩
  have hd : D1 W d noD w3 := hd
  have g := d1_add hd S0.wf 1048577 (q := 1) (by rw [add_arg _ _ (by omega)]; rfl)
  rw [add_arg _ _ (by omega)] at g
  have G := Lib.hid g
  clear g
  go_wp2_with fail
  refine G.out.mono ?_
  rintro e w4 ⟨rfl, hd⟩
  have hd : D1 W d noD w4 := hd
  obtain ⟨q1, S1⟩ := S0.add 1048576 (by omega) (by omega) (by omega)
  have G := Lib.hid (d1_add hd S0.wf 1048576 (q := 0) (by rw [q1]; rfl))
  generalize (dAdd noD 1048576).2 = s1 at S1 G
  clear q1
  go_wp2_with fail
  refine G.out.mono ?_
  rintro e w5 ⟨rfl, hd⟩
  obtain ⟨q1, S2⟩ := S1.add 1 (by omega) (by omega) (by omega)
  have G := Lib.hid (d1_add hd S1.wf 1 (q := 0) (by rw [q1]; rfl))
  generalize (dAdd s1 1).2 = s2 at S2 G
  clear q1 S1
  go_wp2_with fail
  refine G.out.mono ?_
  rintro e w6 ⟨rfl, hd⟩
  have S2' : Sp s2 (fun k => if k = 1048576 ∨ k = 1 then 1 else 0) 2 := S2.ext (fun k => by
    by_cases e1 : k = 1048576
    · subst e1; simp
    · by_cases e2 : k = 1
      · subst e2; simp
      · simp [e1, e2])
  clear S2
  obtain ⟨q1, S3⟩ := S2'.pass 0 (t := s2) S2'.wf (fun k => by
    rw [S2'.cnt]
    by_cases h : k ≤ 0
    · rw [if_pos h, if_neg (by omega)]
    · rw [if_neg h])
  rw [S2'.all] at q1 S3
  have G := Lib.hid (d1_pass hd S2'.wf 0 (q := 0) (by rw [q1]; rfl))
  generalize (dPass s2 0).2 = s3 at S3 G
  clear q1
  go_wp2_with fail
  refine G.out.mono ?_
  rintro e w7 ⟨rfl, hd⟩
  have S3' : Sp s3 (fun k => if k = 1048576 ∨ k = 1 then 1 else 0) 2 := S3.ext (fun k => by
    by_cases h : k ≤ 0
    · rw [if_pos h, if_neg (by omega)]
    · rw [if_neg h])
  clear S3 S2'
  obtain ⟨q1, S4⟩ := S3'.pass (-5) (t := s3) S3'.wf (fun k => by
    rw [S3'.cnt]
    by_cases h : k ≤ -5
    · rw [if_pos h, if_neg (by omega)]
    · rw [if_neg h])
  rw [S3'.all] at q1 S4
  have G := Lib.hid (d1_pass hd S3'.wf (-5) (q := 0) (by rw [q1]; rfl))
  generalize (dPass s3 (-5)).2 = s4 at S4 G
  clear q1
  go_wp2_with fail
  refine G.out.mono ?_
  rintro e w8 ⟨rfl, hd⟩
  have S4' : Sp s4 (fun k => if k = 1048576 ∨ k = 1 then 1 else 0) 2 := S4.ext (fun k => by
    by_cases h : k ≤ -5
    · rw [if_pos h, if_neg (by omega)]
    · rw [if_neg h])
  clear S4 S3'
  obtain ⟨q1, S5⟩ := S4'.pass 1 (t := oneD) oneD_wf (fun k => by
    rw [oneD_cnt]
    by_cases h : k ≤ 1
    · rw [if_pos h, if_neg (by omega)]
    · rw [if_neg h]
      by_cases e : k = 1048576
      · rw [if_pos e, if_pos (Or.inl e)]
      · rw [if_neg e, if_neg (by omega)])
  have G := Lib.hid (d1_pass hd S4'.wf 1 (q := 1) (by rw [q1]; rfl))
  generalize (dPass s4 1).2 = s5 at S5 G
  clear q1
  go_wp2_with fail
  refine G.out.mono ?_
  rintro e w9 ⟨rfl, hd⟩
  have S5' : Sp s5 (fun k => if k = 1048576 then 1 else 0) 1 := S5.ext (fun k => by
    by_cases h : k ≤ 1
    · rw [if_pos h, if_neg (by omega)]
    · rw [if_neg h]
      by_cases e : k = 1048576
      · rw [if_pos e, if_pos (Or.inl e)]
      · rw [if_neg e, if_neg (by omega)])
  clear S5 S4'
  obtain ⟨q1, S6⟩ := S5'.pass 1048575 (t := s5) S5'.wf (fun k => by
    rw [S5'.cnt]
    by_cases h : k ≤ 1048575
    · rw [if_pos h, if_neg (by omega)]
    · rw [if_neg h])
  rw [S5'.all] at q1 S6
  have G := Lib.hid (d1_pass hd S5'.wf 1048575 (q := 0) (by rw [q1]; rfl))
  generalize (dPass s5 1048575).2 = s6 at S6 G
  clear q1
  go_wp2_with fail
  refine G.out.mono ?_
  rintro e w10 ⟨rfl, hd⟩
  have S6' : Sp s6 (fun k => if k = 1048576 then 1 else 0) 1 := S6.ext (fun k => by
    by_cases h : k ≤ 1048575
    · rw [if_pos h, if_neg (by omega)]
    · rw [if_neg h])
  clear S6 S5'
  have hl0 := S6'.none 0 (by simp)
  have g := d1_less hd S6'.wf 0 false (by rw [hl0])
  rw [hl0] at g
  have G := Lib.hid g
  clear g hl0
  go_wp2_with fail
  refine G.out.mono ?_
  rintro e w11 ⟨rfl, hd⟩
  have hd : D1 W d s6 w11 := hd
  have G := Lib.hid (d1_of hd 0 (q := 0) (by rw [S6'.cnt]; rfl))
  go_wp2_with fail
  refine G.out.mono ?_
  rintro e w12 ⟨rfl, rfl⟩
  clear G
  go_wp2_with fail
  go_loopw [3] (fun i wr => ∃ (k : Nat) (s : DS), Hid (k ≤ 63) ∧ i = .int .i64 (k + 1 : Nat) ∧ Sp s (fun q => if q = 7 then k else if q = 1048576 then 1 else 0) (k + 1) ∧ D1 W d s wr) (fun i _ => 64 - (intOf i).toNat)
  case atStart =>
    refine ⟨0, s6, Nat.zero_le _, rfl, S6'.ext (fun q => ?_), hd⟩
    by_cases e : q = 7
    · subst e; rfl
    · rw [if_neg e]
  case round =>
    obtain ⟨k, s, hk, rfl, S, hd⟩ := hrel
    clear S6'
    by_cases hlt : k < 63
    · obtain ⟨q1, S1⟩ := S.add 7 (by omega) (by omega) (by omega)
      have G := Lib.hid (d1_add hd S.wf 7 (q := 0) (by rw [q1]; rfl))
      generalize (dAdd s 7).2 = t at S1 G
      clear q1 S
      go_wp2_with fail
      refine G.out.mono ?_
      rintro e wA ⟨rfl, hdA⟩
      go_wp2_with fail
      go_roundw
      case rel =>
        refine ⟨k + 1, t, hlt, by go_num, S1.ext (fun q => ?_), hdA⟩
        by_cases e : q = 7
        · subst e; simp
        · simp [e]
      case measure => simp [intOf]; omega
    · have hk63 : k = 63 := by have := hk.out; omega
      subst hk63
      have qf := S.full 7 (by omega) (by omega)
      have g := d1_add hd S.wf 7 (q := 41) (by rw [qf]; rfl)
      rw [qf] at g
      have G := Lib.hid g
      clear g qf
      go_wp2_with fail
      refine G.out.mono ?_
      rintro e wA ⟨rfl, hd⟩
      have hd : D1 W d s wA := hd
      have g := d1_add hd S.wf 0 (q := 1) (by rw [add_arg _ _ (by omega)]; rfl)
      rw [add_arg _ _ (by omega)] at g
      have G := Lib.hid g
      clear g
      go_wp2_with fail
      refine G.out.mono ?_
      rintro e wB ⟨rfl, hd⟩
      have hd : D1 W d s wB := hd
      have G := Lib.hid (d1_all hd (q := 64) (by rw [S.all]; rfl))
      go_wp2_with fail
      refine G.out.mono ?_
      rintro e wC ⟨rfl, rfl⟩
      have G := Lib.hid (d1_of hd 7 (q := 63) (by rw [S.cnt]; rfl))
      go_wp2_with fail
      refine G.out.mono ?_
      rintro e wC ⟨rfl, rfl⟩
      obtain ⟨q1, S1⟩ := S.less 7 (by simp)
      have G := Lib.hid (d1_less hd S.wf 7 true q1)
      generalize (dLess s 7).2 = t1 at S1 G
      clear q1
      go_wp2_with fail
      refine G.out.mono ?_
      rintro e wC ⟨rfl, hd⟩
      obtain ⟨q1, S2⟩ := S1.add 8 (by omega) (by omega) (by omega)
      have G := Lib.hid (d1_add hd S1.wf 8 (q := 0) (by rw [q1]; rfl))
      generalize (dAdd t1 8).2 = t2 at S2 G
      clear q1 S1 S
      go_wp2_with fail
      refine G.out.mono ?_
      rintro e wD ⟨rfl, hd⟩
      have qf := S2.full 8 (by omega) (by omega)
      have g := d1_add hd S2.wf 8 (q := 41) (by rw [qf]; rfl)
      rw [qf] at g
      have G := Lib.hid g
      clear g qf
      go_wp2_with fail
      refine G.out.mono ?_
      rintro e wE ⟨rfl, hd⟩
      have hd : D1 W d t2 wE := hd
      obtain ⟨q1, S3⟩ := S2.pass 1099511627776 (t := noD) WF_new (fun q => by
        rw [noD_cnt]
        by_cases h : q ≤ 1099511627776
        · rw [if_pos h]
        · rw [if_neg h, if_neg (by omega), if_neg (by omega)]
          rw [if_neg (by omega), if_neg (by omega)])
      have G := Lib.hid (d1_pass hd S2.wf 1099511627776 (q := 64) (by rw [q1]; rfl))
      generalize (dPass t2 1099511627776).2 = t3 at S3 G
      clear q1
      go_wp2_with fail
      refine G.out.mono ?_
      rintro e wF ⟨rfl, hd⟩
      have G := Lib.hid (d1_all hd (q := 0) (by rw [S3.all]; rfl))
      go_wp2_with fail
      refine G.out.mono ?_
      rintro e wG ⟨rfl, rfl⟩
      have hno : t3.of.length = 0 := S3.no_len (fun q => by
        by_cases h : q ≤ 1099511627776
        · rw [if_pos h]
        · rw [if_neg h, if_neg (by omega), if_neg (by omega)]
          rw [if_neg (by omega), if_neg (by omega)])
      have G := Lib.hid (d1_counts hd S3.wf)
      rw [hno] at G
      clear S3 S2 hno
      go_wp2_with fail
      refine G.out.mono ?_
      rintro e wH ⟨a, cap, rfl, -, f, -⟩
      go_wp2_with fail
      go_ret
      exact ⟨rfl, hd.fr.trans f⟩
end Go.Proofs.Ytkfnfflonjfglaa
