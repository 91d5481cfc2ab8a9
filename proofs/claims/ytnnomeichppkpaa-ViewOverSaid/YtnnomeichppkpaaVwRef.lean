/-
  The reference of layer 9: has, Sees, Same, Least, as the program computes them.
-/
import Derived.Test.YtnnomeichppkpaaVw4
namespace Go.Proofs.Ytnnomeichppkpaa
open Go.RowKit Go.Sort
set_option linter.unusedVariables false
set_option linter.unusedSimpArgs false
set_option maxRecDepth 100000

theorem hasI_false {l : List Int} {x : Int} (h : x ∉ l) : hasI l x = false := by
  cases e : hasI l x with
  | false => rfl
  | true => exact absurd (hasI_iff.1 e) h
theorem IntsAt.at_ {w : World} {b o : Nat} {l : List Int} (h : IntsAt w (some ⟨b, o, none⟩) l) {i : Nat} {x : Int} (hx : l[i]? = some x) : w.cell? ⟨b, o + i, none⟩ = some (.int .i64 x) := by
  have := h.cells i (List.getElem?_eq_some_iff.1 hx).1
  rw [this]; simp [List.getD, hx]
set_option maxHeartbeats 1000000 in
theorem rhas_any (w : World) (a : Option Addr) (n c : Nat) (l : List Int) (x : Int) (h : IntsAt w a l) (hn : n = l.length) (hb : n ≤ 1000000) :
    Calls Try.prog 23 #[.slice a n c, .int .i64 x] w fun e w' => e = .returned (.bool (hasI l x)) ∧ w = w' := by
  have HL := Lib.hid h
  have HN := Lib.hid hn
  clear h hn
  go_enter Try.func23, Try.ntmps23
  go_wp2_with fail
  go_loop [5] (fun iv => ∃ k : Nat, Hid (k ≤ n) ∧ iv = .int .i64 (k : Int) ∧ Hid (x ∉ l.take k)) (fun iv => n - (intOf iv).toNat)
  case atStart => exact ⟨0, Nat.zero_le _, rfl, Lib.hid (by simp)⟩
  case round =>
    obtain ⟨k, hk, rfl, hno⟩ := hrel
    by_cases hlt : k < n
    · have hkl : k < l.length := by rw [← HN.out]; exact hlt
      obtain ⟨p, hp⟩ : ∃ p, l[k]? = some p := ⟨_, List.getElem?_eq_getElem hkl⟩
      obtain ⟨b, o, hbo⟩ := HL.out.some_ (fun e => by rw [e] at hkl; simp at hkl)
      subst hbo
      have q0 := HL.out.at_ hp
      have HP := Lib.hid hp
      clear hp hkl
      cases hq : (p == x)
      · have HQ : Hid (p ≠ x) := Lib.hid (fun e => by subst e; simp at hq)
        go_wp2_with fail
        go_round
        case rel =>
          refine ⟨k + 1, hlt, by go_num, Lib.hid ?_⟩
          rw [List.take_add_one, HP.out]
          intro hm
          rcases List.mem_append.1 hm with q | q
          · exact hno.out q
          · exact HQ.out (by
              have q' : x = p := by simpa using q
              exact q'.symm)
        case measure => simp [intOf]; omega
      · have HQ : Hid (hasI l x = true) := Lib.hid (hasI_iff.2 (by
          have e : p = x := by simpa using hq
          exact e ▸ List.mem_of_getElem? HP.out))
        go_wp2_with fail
        go_ret
        exact ⟨by rw [HQ.out]; rfl, rfl⟩
    · have HQ : Hid (hasI l x = false) := Lib.hid (hasI_false (fun hm => hno.out (by rw [List.take_of_length_le (by have := HN.out; omega)]; exact hm)))
      go_wp2_with fail
      go_ret
      exact ⟨by rw [HQ.out]; rfl, rfl⟩

set_option maxHeartbeats 1000000 in
theorem rSees_any (w : World) (own high : Int) (a : Option Addr) (n c : Nat) (l : List Int) (x : Int) (h : IntsAt w a l) (hn : n = l.length) (hb : n ≤ 1000000) :
    Calls Try.prog 15 #[.agg #[.int .i64 own, .int .i64 high, .slice a n c], .int .i64 x] w fun e w' => e = .returned (.bool (vwSees own high l x)) ∧ Fr none_ w w' := by
  by_cases h1 : x < 1
  · have hs : vwSees own high l x = false := by
      cases hq : vwSees own high l x with
      | false => rfl
      | true => have := (vwSees_iff.1 hq).1; omega
    rw [hs]
    clear hs h hn
    go_enter Try.func15, Try.ntmps15
    go_wp2
    go_ret
    exact ⟨rfl, fr_box _ _⟩
  · cases b2 : (x == own)
    · by_cases h3 : x < high
      · have hs : vwSees own high l x = !hasI l x := by
          unfold vwSees
          rw [b2]
          simp [h3]; omega
        rw [hs]
        have C := Lib.hid (fun w' (f : Fr none_ w w') => rhas_any w' a n c l x (h.kept0 f) hn hb)
        clear hs h hn hb
        go_enter Try.func15, Try.ntmps15
        go_wp2_with fail
        refine (C.out _ (fr_box _ _)).mono ?_
        rintro e w1 ⟨rfl, rfl⟩
        go_wp2
        go_ret
        exact ⟨rfl, fr_box _ _⟩
      · have hs : vwSees own high l x = false := by
          cases hq : vwSees own high l x with
          | false => rfl
          | true =>
            rcases (vwSees_iff.1 hq).2 with e | e
            · rw [e] at b2; simp at b2
            · exact absurd e.1 h3
        rw [hs]
        clear hs h hn
        go_enter Try.func15, Try.ntmps15
        go_wp2
        go_ret
        exact ⟨rfl, fr_box _ _⟩
    · have hs : vwSees own high l x = true := vwSees_iff.2 ⟨by omega, Or.inl (by simpa using b2)⟩
      rw [hs]
      clear hs h hn
      go_enter Try.func15, Try.ntmps15
      go_wp2
      go_ret
      exact ⟨rfl, fr_box _ _⟩
set_option maxHeartbeats 2000000 in
theorem rSame_any (w : World) (o1 h1 : Int) (a1 : Option Addr) (n1 c1 : Nat) (l1 : List Int) (o2 h2 : Int) (a2 : Option Addr) (n2 c2 : Nat) (l2 : List Int) (q1 : IntsAt w a1 l1) (hn1 : n1 = l1.length) (hb1 : n1 ≤ 1000000) (q2 : IntsAt w a2 l2) (hn2 : n2 = l2.length) (hb2 : n2 ≤ 1000000) :
    Calls Try.prog 14 #[.agg #[.int .i64 o1, .int .i64 h1, .slice a1 n1 c1], .agg #[.int .i64 o2, .int .i64 h2, .slice a2 n2 c2]] w fun e w' => e = .returned (.bool (vwSame o1 h1 l1 o2 h2 l2)) ∧ Fr none_ w w' := by
  have L1 := Lib.hid q1
  have L2 := Lib.hid q2
  have N1 := Lib.hid hn1
  have N2 := Lib.hid hn2
  clear q1 q2 hn1 hn2
  unfold vwSame
  cases b1 : (o1 == o2)
  · have b1' : (o1 != o2) = true := by rw [bne, b1]; rfl
    go_enter Try.func14, Try.ntmps14
    go_wp2
    go_ret
    exact ⟨rfl, (fr_box _ _).alloc_r _⟩
  · have b1' : (o1 != o2) = false := by rw [bne, b1]; rfl
    cases b2 : (h1 == h2)
    · have b2' : (h1 != h2) = true := by rw [bne, b2]; rfl
      go_enter Try.func14, Try.ntmps14
      go_wp2
      go_ret
      exact ⟨rfl, (fr_box _ _).alloc_r _⟩
    · have b2' : (h1 != h2) = false := by rw [bne, b2]; rfl
      clear b1 b2
      by_cases hnn : n1 = n2
      · subst hnn
        have b3 : ((n1 : Int) != (n1 : Int)) = false := by simp
        obtain ⟨r, hr⟩ : ∃ r, r = decide (l1 = l2) := ⟨_, rfl⟩
        have HR : Hid ((true && true && decide (l1 = l2)) = r) := Lib.hid (by rw [hr]; simp)
        rw [show (true && true && decide (l1 = l2)) = r from HR.out]
        have HR2 := Lib.hid hr
        clear hr HR
        go_enter Try.func14, Try.ntmps14
        go_wp2_with fail
        obtain ⟨w2, hw2⟩ : ∃ w2 : World, w2 = (w.alloc (.cells #[.int .i64 o1, .int .i64 h1, .slice a1 n1 c1] 38)).alloc (.cells #[.int .i64 o2, .int .i64 h2, .slice a2 n1 c2] 38) := ⟨_, rfl⟩
        have r1 : Row w2 w.heap.size #[.int .i64 o1, .int .i64 h1, .slice a1 n1 c1] 38 := by rw [hw2]; exact (Row.new _ _ _).alloc _
        have r2 : Row w2 (w.heap.size + 1) #[.int .i64 o2, .int .i64 h2, .slice a2 n1 c2] 38 := by
          rw [hw2]
          have := Row.new (w.alloc (.cells #[.int .i64 o1, .int .i64 h1, .slice a1 n1 c1] 38)) #[.int .i64 o2, .int .i64 h2, .slice a2 n1 c2] 38
          have e : (w.alloc (.cells #[.int .i64 o1, .int .i64 h1, .slice a1 n1 c1] 38)).heap.size = w.heap.size + 1 := by simp
          rw [e] at this
          exact this
        have f2 : Fr none_ w w2 := by rw [hw2]; exact (Fr.alloc _ _ _).alloc_r _
        rw [← hw2]
        have R1 := Lib.hid r1
        have R2 := Lib.hid r2
        have F2 := Lib.hid f2
        clear hw2 r1 r2 f2 b1' b2' b3
        go_loopw [5] (fun iv wr => ∃ k : Nat, Hid (k ≤ n1) ∧ iv = .int .i64 (k : Int) ∧ Hid (l1.take k = l2.take k) ∧ Fr none_ w2 wr) (fun iv _ => n1 - (intOf iv).toNat)
        case atStart => exact ⟨0, Nat.zero_le _, rfl, Lib.hid (by simp), Fr.refl _ _⟩
        case round =>
          obtain ⟨k, hk, rfl, hsame, fr⟩ := hrel
          have c1' : wr.cell? ⟨w.heap.size, 2, none⟩ = some (.slice a1 n1 c1) := (R1.out.kept fr (fun e => e)).cell 2
          have c2' : wr.cell? ⟨w.heap.size + 1, 2, none⟩ = some (.slice a2 n1 c2) := (R2.out.kept fr (fun e => e)).cell 2
          by_cases hlt : k < n1
          · obtain ⟨p, hp⟩ : ∃ p, l1[k]? = some p := ⟨_, List.getElem?_eq_getElem (by rw [← N1.out]; exact hlt)⟩
            obtain ⟨u, hu⟩ : ∃ u, l2[k]? = some u := ⟨_, List.getElem?_eq_getElem (by rw [← N2.out]; exact hlt)⟩
            obtain ⟨b, o, hbo⟩ := L1.out.some_ (fun e => by rw [e] at hp; simp at hp)
            obtain ⟨b', o', hbo'⟩ := L2.out.some_ (fun e => by rw [e] at hu; simp at hu)
            subst hbo; subst hbo'
            have fw := F2.out.trans fr
            have x1 := fw.keep (L1.out.at_ hp)
            have x2 := fw.keep (L2.out.at_ hu)
            have HP := Lib.hid hp
            have HU := Lib.hid hu
            have FW := Lib.hid fw
            have FRR := Lib.hid fr
            have lt1 : (k : Int) < (n1 : Int) := by omega
            clear hp hu fw fr
            cases hq : (p == u)
            · have hq' : (p != u) = true := by rw [bne, hq]; rfl
              have HF : Hid (r = false) := Lib.hid (by
                rw [HR2.out]
                apply decide_eq_false
                intro e
                have := HP.out
                rw [e, HU.out] at this
                have e2 : u = p := by simpa using this
                rw [e2] at hq; simp at hq)
              clear hq
              go_wp2_with fail
              go_quiet (fail)
              obtain ⟨wq, hwq⟩ : ∃ wq : World, wq = wr.drewN nq := ⟨_, rfl⟩
              go_wp2_with fail
              go_ret
              exact ⟨by rw [HF.out]; rfl, FW.out.trans (Fr.drewN _ _ _)⟩
            · have hq' : (p != u) = false := by rw [bne, hq]; rfl
              have HE : Hid (p = u) := Lib.hid (by simpa using hq)
              clear hq
              go_wp2_with fail
              go_quiet (fail)
              go_wp2_with fail
              go_roundw
              case rel =>
                refine ⟨k + 1, hlt, by go_num, Lib.hid ?_, FRR.out.trans (Fr.drewN _ _ _)⟩
                rw [List.take_add_one, List.take_add_one, HP.out, HU.out, hsame.out, HE.out]
              case measure => simp [intOf]; omega
          · have HF : Hid (r = true) := Lib.hid (by
              rw [HR2.out]
              apply decide_eq_true
              have h1 := hsame.out
              rw [List.take_of_length_le (by have := N1.out; omega), List.take_of_length_le (by have := N2.out; omega)] at h1
              exact h1)
            have FW := Lib.hid (F2.out.trans fr)
            clear fr
            go_wp2_with fail
            go_ret
            exact ⟨by rw [HF.out]; rfl, FW.out⟩
      · have b3 : ((n1 : Int) != (n2 : Int)) = true := by
          rw [bne_iff_ne]; omega
        have hne : decide (l1 = l2) = false := decide_eq_false (fun e => hnn (by rw [N1.out, N2.out, e]))
        rw [hne]
        go_enter Try.func14, Try.ntmps14
        go_wp2
        go_ret
        exact ⟨rfl, (fr_box _ _).alloc_r _⟩
end Go.Proofs.Ytnnomeichppkpaa
