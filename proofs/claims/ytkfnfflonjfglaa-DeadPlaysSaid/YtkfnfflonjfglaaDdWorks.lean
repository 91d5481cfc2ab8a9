/-
  The examples of layer 10 ('works'); 'same'.
-/
import Derived.Test.YtkfnfflonjfglaaDdLaw
namespace Go.Proofs.Ytkfnfflonjfglaa
open Go.RowKit
set_option linter.unusedVariables false
set_option linter.unusedSimpArgs false
set_option maxRecDepth 100000

theorem Fr.drewN (F : Nat → Prop) (w : World) (n : Nat) : Fr F w (w.drewN n) := ⟨rfl, rfl, rfl, Nat.le_refl _, fun _ _ _ => rfl⟩
/-- The dead all whose memory is new. -/
def D1 (w0 : World) (d : Nat) (s : DS) (wr : World) : Prop := ∃ m, DeadAt wr d m s ∧ w0.heap.size ≤ d ∧ w0.heap.size ≤ m ∧ Fr none_ w0 wr
section
variable {w0 w w' : World} {d : Nat} {s : DS}
theorem D1.fr (h : D1 w0 d s w) : Fr none_ w0 w := by obtain ⟨m, h1, h2, h3, h4⟩ := h; exact h4
theorem D1.skip (h : D1 w0 d s w) (f : Fr none_ w w') : D1 w0 d s w' := by
  obtain ⟨m, h1, h2, h3, h4⟩ := h; exact ⟨m, h1.kept0 f, h2, h3, h4.trans f⟩
theorem D1.turn {m : Nat} {t : DS} (h2 : w0.heap.size ≤ d) (h3 : w0.heap.size ≤ m) (h4 : Fr none_ w0 w) (hd : DeadAt w' d m t) (f : Fr (two d m) w w') : D1 w0 d t w' :=
  ⟨m, hd, h2, h3, h4.step f (fun i hi e => by rcases e with rfl | rfl <;> omega)⟩
theorem d1_new (w0 w : World) (f : Fr none_ w0 w) : Calls Try.prog 10 #[] w fun e w' => ∃ d, e = .returned (.pointer (some ⟨d, 0, none⟩)) ∧ D1 w0 d ⟨[], 0⟩ w' := by
  refine (Dead_New w).mono ?_
  rintro e w' ⟨d, m, he, h1, h2, h3, h4⟩
  have := f.size
  exact ⟨d, he, m, h1, by omega, by omega, f.trans h2⟩
theorem d1_add (h : D1 w0 d s w) (hw : s.WF) (t : Int) {q : Int} (hq : ((dAdd s t).1 : Int) = q) : Calls Try.prog 14 #[.pointer (some ⟨d, 0, none⟩), .int .i64 t] w fun e w' => e = .returned (.int .i64 q) ∧ D1 w0 d (dAdd s t).2 w' := by
  subst hq
  obtain ⟨m, h1, h2, h3, h4⟩ := h
  refine (Dead_Add h1 hw.max t (hw.le64 t)).mono ?_
  rintro e w' ⟨he, hd, f⟩
  exact ⟨he, D1.turn h2 h3 h4 hd f⟩
theorem d1_less (h : D1 w0 d s w) (hw : s.WF) (t : Int) (b : Bool) (hb : (dLess s t).1 = b) : Calls Try.prog 16 #[.pointer (some ⟨d, 0, none⟩), .int .i64 t] w fun e w' => e = .returned (.bool b) ∧ D1 w0 d (dLess s t).2 w' := by
  subst hb
  obtain ⟨m, h1, h2, h3, h4⟩ := h
  refine (Dead_Less h1 hw.max t (hw.le_all t)).mono ?_
  rintro e w' ⟨he, hd, f⟩
  exact ⟨he, D1.turn h2 h3 h4 hd f⟩
theorem d1_pass (h : D1 w0 d s w) (hw : s.WF) (t : Int) {q : Int} (hq : ((dPass s t).1 : Int) = q) : Calls Try.prog 17 #[.pointer (some ⟨d, 0, none⟩), .int .i64 t] w fun e w' => e = .returned (.int .i64 q) ∧ D1 w0 d (dPass s t).2 w' := by
  subst hq
  obtain ⟨m, h1, h2, h3, h4⟩ := h
  refine (Dead_Pass h1 hw t).mono ?_
  rintro e w' ⟨he, hd, f⟩
  exact ⟨he, D1.turn h2 h3 h4 hd f⟩
theorem d1_all (h : D1 w0 d s w) {q : Int} (hq : (s.all : Int) = q) : Calls Try.prog 11 #[.pointer (some ⟨d, 0, none⟩)] w fun e w' => e = .returned (.int .i64 q) ∧ w = w' := by
  subst hq
  obtain ⟨m, h1, h2, h3, h4⟩ := h
  exact Dead_All h1
theorem d1_of (h : D1 w0 d s w) (t : Int) {q : Int} (hq : (s.cnt t : Int) = q) : Calls Try.prog 18 #[.pointer (some ⟨d, 0, none⟩), .int .i64 t] w fun e w' => e = .returned (.int .i64 q) ∧ w = w' := by
  subst hq
  obtain ⟨m, h1, h2, h3, h4⟩ := h
  exact Dead_Of h1 t
theorem d1_counts (h : D1 w0 d s w) (hw : s.WF) : Calls Try.prog 19 #[.pointer (some ⟨d, 0, none⟩)] w fun e w' => ∃ a cap, e = .returned (.slice a s.of.length cap) ∧ SlAt w' a s.of.length cap 45 2 (flat2 s.counts) ∧ Fr none_ w w' ∧ ∀ k, blk a k → w.heap.size ≤ k := by
  obtain ⟨m, h1, h2, h3, h4⟩ := h
  exact Dead_Counts h1 hw.wfk (by have := hw.len; omega) hw.le64
end

set_option maxHeartbeats 4000000 in
theorem works_any (w : World) : Calls Try.prog 9 #[] w fun e w' => e = .returned (.bool true) ∧ Fr none_ w w' := by
  have HN := Lib.hid (d1_new w w (Fr.refl _ _))
  go_enter Try.func9, Try.ntmps9
  go_wp2_with fail
  refine HN.out.mono ?_
  rintro e w1 ⟨d, rfl, h0⟩
  have h0 : D1 w d ds0 w1 := h0
  have G := Lib.hid (d1_add h0 dw0 5 (q := 0) (by rw [de1]; rfl))
  go_wp2_with fail
  refine G.out.mono ?_
  rintro e w2 ⟨rfl, h1⟩
  have h1 : D1 w d ds1 w2 := h1
  have G := Lib.hid (d1_add h1 dw1 3 (q := 0) (by rw [de2]; rfl))
  go_wp2_with fail
  refine G.out.mono ?_
  rintro e w3 ⟨rfl, h2⟩
  have h2 : D1 w d ds2 w3 := h2
  have G := Lib.hid (d1_add h2 dw2 5 (q := 0) (by rw [de3]; rfl))
  go_wp2_with fail
  refine G.out.mono ?_
  rintro e w4 ⟨rfl, h3⟩
  have h3 : D1 w d ds3 w4 := h3
  have G := Lib.hid (d1_all h3 (q := 3) (by rw [de4.1]; rfl))
  go_wp2_with fail
  refine G.out.mono ?_
  rintro e w5 ⟨rfl, rfl⟩
  have G := Lib.hid (d1_of h3 5 (q := 2) (by rw [de4.2.1]; rfl))
  go_wp2_with fail
  refine G.out.mono ?_
  rintro e w5 ⟨rfl, rfl⟩
  have g := d1_counts h3 dw3
  rw [de4.2.2, de5] at g
  have G := Lib.hid g
  clear g
  go_wp2_with fail
  refine G.out.mono ?_
  rintro e w5 ⟨a, cap, rfl, hsl, f5, hb⟩
  obtain ⟨g, rfl⟩ := hsl.isAddr (by omega)
  have e0 := hsl.cell (i := 0) (v := .int .i64 3) rfl
  have e1 := hsl.cell (i := 1) (v := .int .i64 1) rfl
  have e2 := hsl.cell (i := 2) (v := .int .i64 5) rfl
  have e3 := hsl.cell (i := 3) (v := .int .i64 2) rfl
  have h5 := h3.skip f5
  clear hsl hb f5
  go_wp2_with fail
  have g := d1_less h5 dw3 4 false (by rw [de6])
  rw [de6] at g
  have G := Lib.hid g
  clear g
  refine G.out.mono ?_
  rintro e w6 ⟨rfl, h6⟩
  have h6 : D1 w d ds3 w6 := h6
  have G := Lib.hid (d1_less h6 dw3 5 true de7)
  go_wp2_with fail
  refine G.out.mono ?_
  rintro e w7 ⟨rfl, h7⟩
  have h7 : D1 w d ds4 w7 := h7
  have G := Lib.hid (d1_pass h7 dw4 4 (q := 1) (by rw [de8]; rfl))
  go_wp2_with fail
  refine G.out.mono ?_
  rintro e w8 ⟨rfl, h8⟩
  have h8 : D1 w d ds5 w8 := h8
  have G := Lib.hid (d1_all h8 (q := 1) (by rw [de9]; rfl))
  go_wp2_with fail
  refine G.out.mono ?_
  rintro e w9 ⟨rfl, rfl⟩
  have G := Lib.hid (d1_add h8 dw5 0 (q := 1) (by rw [de10]; rfl))
  go_wp2_with fail
  refine G.out.mono ?_
  rintro e w9 ⟨rfl, h9⟩
  go_wp2_with fail
  go_ret
  exact ⟨rfl, h9.fr⟩

set_option maxHeartbeats 2000000 in
theorem same_any {w : World} {d1 m1 d2 m2 : Nat} {s t : DS} (h1 : DeadAt w d1 m1 s) (h2 : DeadAt w d2 m2 t) (hs : s.WF) (ht : t.WF) (he : ∀ k, s.cnt k = t.cnt k) :
    Calls Try.prog 15 #[.pointer (some ⟨d1, 0, none⟩), .pointer (some ⟨d2, 0, none⟩)] w fun e w' => e = .returned (.bool true) ∧ Fr none_ w w' := by
  have hce := counts_ext hs ht he
  have hae := all_ext hs ht he
  have hcl : s.counts.length = s.of.length := by unfold DS.counts; rw [List.length_map, keys_length]
  have hcl2 : t.counts.length = t.of.length := by unfold DS.counts; rw [List.length_map, keys_length]
  have hl : t.of.length = s.of.length := by rw [← hcl, ← hcl2, hce]
  have hc1 := Dead_Counts h1 hs.wfk (by have := hs.len; omega) hs.le64
  have hc2 := fun w' (f : Fr none_ w w') => Dead_Counts (h2.kept0 f) ht.wfk (by have := ht.len; omega) ht.le64
  rw [← hce, hl] at hc2
  have ha1 := fun w' (f : Fr none_ w w') => Dead_All (h1.kept0 f)
  have ha2 := fun w' (f : Fr none_ w w') => Dead_All (h2.kept0 f)
  rw [← hae] at ha2
  obtain ⟨n, hn⟩ : ∃ n, n = s.of.length := ⟨_, rfl⟩
  rw [← hn] at hc1 hc2 hcl
  have hnb : n ≤ 64 := by rw [hn]; exact hs.len
  generalize s.all = A at ha1 ha2
  generalize s.counts = C at hc1 hc2 hcl
  have HC1 := Lib.hid hc1
  have HC2 := Lib.hid hc2
  have HA1 := Lib.hid ha1
  have HA2 := Lib.hid ha2
  have HCL := Lib.hid hcl
  have hAA : ((A : Int) != (A : Int)) = false := bne_self_eq_false _
  have hNN : ((n : Int) != (n : Int)) = false := bne_self_eq_false _
  clear hc1 hc2 ha1 ha2 hcl hcl2 hl hae hce hn h1 h2 hs ht he
  go_enter Try.func15, Try.ntmps15
  go_wp2_with fail
  refine HC1.out.mono ?_
  rintro e w1 ⟨a1, cap1, rfl, hsl1, f1, _⟩
  go_wp2_with fail
  refine (HC2.out _ f1).mono ?_
  rintro e w2 ⟨a2, cap2, rfl, hsl2, f2, _⟩
  have f12 := f1.trans f2
  have hsl12 := hsl1.kept0 f2
  clear hsl1 f1 f2
  go_wp2_with fail
  refine (HA1.out _ f12).mono ?_
  rintro e w3 ⟨rfl, rfl⟩
  go_wp2_with fail
  refine (HA2.out _ f12).mono ?_
  rintro e w3 ⟨rfl, rfl⟩
  have fS : Fr none_ w w2 := f12
  go_wp2_with fail
  go_loopw [7] (fun i wr => ∃ k : Nat, Hid (k ≤ n) ∧ i = .int .i64 k ∧ Fr none_ w2 wr) (fun i _ => n - (intOf i).toNat)
  case atStart => exact ⟨0, Nat.zero_le _, rfl, Fr.refl _ _⟩
  case round =>
    obtain ⟨k, hk, rfl, hf⟩ := hrel
    by_cases hlt : k < n
    · obtain ⟨p, hp⟩ : ∃ p, C[k]? = some p := ⟨C[k]'(by rw [HCL.out]; exact hlt), List.getElem?_eq_getElem _⟩
      obtain ⟨g1, rfl⟩ := hsl12.isAddr (by omega)
      obtain ⟨g2, rfl⟩ := hsl2.isAddr (by omega)
      have hfl := flat2_get hp
      have e0 := (hsl12.kept0 hf).cell (i := k * 2) hfl.1
      have e1 := (hsl12.kept0 hf).cell (i := k * 2 + 1) hfl.2
      have e2 := (hsl2.kept0 hf).cell (i := k * 2) hfl.1
      have e3 := (hsl2.kept0 hf).cell (i := k * 2 + 1) hfl.2
      generalize p.1 = pt at e0 e2
      generalize p.2 = pn at e1 e3
      clear hp hfl
      go_wp2_with fail
      go_quiet (fail)
      go_wp2
      go_roundw
      case rel => exact ⟨k + 1, hlt, by go_num, hf.trans (Fr.drewN _ _ _)⟩
      case measure => simp [intOf]; omega
    · go_wp2_with fail
      go_ret
      exact ⟨rfl, f12.trans hf⟩
end Go.Proofs.Ytkfnfflonjfglaa
