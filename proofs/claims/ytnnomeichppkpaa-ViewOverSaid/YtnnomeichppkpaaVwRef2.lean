/-
  The reference of layer 9: Least, as the program computes it.
-/
import Derived.Test.YtnnomeichppkpaaVwRef
namespace Go.Proofs.Ytnnomeichppkpaa
open Go.RowKit Go.Sort
set_option linter.unusedVariables false
set_option linter.unusedSimpArgs false
set_option maxRecDepth 100000

set_option maxHeartbeats 4000000 in
theorem rLeast_any (w : World) (own high : Int) (a : Option Addr) (n c : Nat) (l : List Int) (h : IntsAt w a l) (hn : n = l.length) (hb : n ≤ 1000000) (hh : high ≤ mostI) :
    Calls Try.prog 16 #[.agg #[.int .i64 own, .int .i64 high, .slice a n c]] w fun e w' => e = .returned (.int .i64 (vwLeast own high l)) ∧ Fr none_ w w' := by
  have HL := Lib.hid h
  have HN := Lib.hid hn
  have HH := Lib.hid hh
  clear h hn hh
  go_enter Try.func16, Try.ntmps16
  go_wp2_with fail
  obtain ⟨w2, hw2⟩ : ∃ w2 : World, w2 = w.alloc (.cells #[.int .i64 own, .int .i64 high, .slice a n c] 38) := ⟨_, rfl⟩
  have r1 : Row w2 w.heap.size #[.int .i64 own, .int .i64 high, .slice a n c] 38 := by rw [hw2]; exact Row.new _ _ _
  have f2 : Fr none_ w w2 := by rw [hw2]; exact Fr.alloc _ _ _
  rw [← hw2]
  have c0 : w2.cell? ⟨w.heap.size, 0, none⟩ = some (.int .i64 own) := r1.cell 0
  have c1 : w2.cell? ⟨w.heap.size, 1, none⟩ = some (.int .i64 high) := r1.cell 1
  have c2 : w2.cell? ⟨w.heap.size, 2, none⟩ = some (.slice a n c) := r1.cell 2
  have F2 := Lib.hid f2
  clear hw2 r1 f2
  go_loop [4, 5] (fun s4 s5 => ∃ k : Nat, Hid (k ≤ n) ∧ s5 = .int .i64 (k : Int) ∧ s4 = .int .i64 (vrMin own high (l.take k) mostI)) (fun _ s5 => n - (intOf s5).toNat)
  case atStart => exact ⟨0, Nat.zero_le _, rfl, rfl⟩
  case round =>
    obtain ⟨k, hk, rfl, rfl⟩ := hrel
    by_cases hlt : k < n
    · have hkl : k < l.length := by rw [← HN.out]; exact hlt
      obtain ⟨x, hx⟩ : ∃ x, l[k]? = some x := ⟨_, List.getElem?_eq_getElem hkl⟩
      obtain ⟨b, o, hbo⟩ := HL.out.some_ (fun e => by rw [e] at hkl; simp at hkl)
      subst hbo
      have q0 := F2.out.keep (HL.out.at_ hx)
      have hsn : vrMin own high (l.take (k + 1)) mostI = vrStep own high (vrMin own high (l.take k) mostI) x := by
        rw [List.take_add_one, hx]
        exact vrMin_snoc own high x _ _
      obtain ⟨acc, hacc⟩ : ∃ acc, acc = vrMin own high (l.take k) mostI := ⟨_, rfl⟩
      rw [← hacc] at hsn ⊢
      have NXT : Hid (∀ r, r = vrStep own high acc x → (∃ k1 : Nat, Hid (k1 ≤ n) ∧ Value.int .i64 ((k : Int) + 1) = .int .i64 (k1 : Int) ∧ Value.int .i64 r = .int .i64 (vrMin own high (l.take k1) mostI))) :=
        Lib.hid fun r hr => ⟨k + 1, hlt, by go_num, by rw [hr, hsn]⟩
      clear hsn hacc hx hkl
      have ST : Hid (∀ r, (((1 ≤ x ∧ x < high) ∧ x ≠ own) ∧ x < acc → r = x) → (¬ (((1 ≤ x ∧ x < high) ∧ x ≠ own) ∧ x < acc) → r = acc) → r = vrStep own high acc x) := Lib.hid fun r q1 q2 => by
        unfold vrStep
        split
        · rename_i h; exact q1 h
        · rename_i h; exact q2 h
      by_cases h1 : 1 ≤ x
      · by_cases h2 : x < high
        · cases h3 : (x == own)
          · have h3' : (x != own) = true := by rw [bne, h3]; rfl
            have H3 : Hid (x ≠ own) := Lib.hid (fun e => by subst e; simp at h3)
            clear h3
            by_cases h4 : x < acc
            · go_wp2_with fail
              exact ⟨NXT.out _ (ST.out _ (fun _ => rfl) (fun hq => absurd ⟨⟨⟨h1, h2⟩, H3.out⟩, h4⟩ hq)), by simp [intOf]; omega⟩
            · go_wp2_with fail
              exact ⟨NXT.out _ (ST.out _ (fun hq => absurd hq.2 h4) (fun _ => rfl)), by simp [intOf]; omega⟩
          · have h3' : (x != own) = false := by rw [bne, h3]; rfl
            have H3 : Hid (x = own) := Lib.hid (by simpa using h3)
            clear h3
            go_wp2_with fail
            exact ⟨NXT.out _ (ST.out _ (fun hq => absurd H3.out hq.1.2) (fun _ => rfl)), by simp [intOf]; omega⟩
        · go_wp2_with fail
          exact ⟨NXT.out _ (ST.out _ (fun hq => absurd hq.1.1.2 h2) (fun _ => rfl)), by simp [intOf]; omega⟩
      · go_wp2_with fail
        exact ⟨NXT.out _ (ST.out _ (fun hq => absurd hq.1.1.1 h1) (fun _ => rfl)), by simp [intOf]; omega⟩
    · have e1 : vrMin own high (l.take k) mostI = vrMin own high l mostI := by rw [List.take_of_length_le (by have := HN.out; omega)]
      rw [e1]
      have V := Lib.hid (fun f f' => vrLeast_eq own high l HH.out f f')
      obtain ⟨r, hr⟩ : ∃ r, r = vrMin own high l mostI := ⟨_, rfl⟩
      rw [← hr] at V ⊢
      clear e1 hr
      obtain ⟨f, hf⟩ : ∃ f, f = if (1 : Int) < high then high else 1 := ⟨_, rfl⟩
      have hfb : f ≤ 9223372036854775807 := by have := HH.out; unfold mostI at this; rw [hf]; split <;> omega
      have V2 : Hid (∀ f', f' = (if f = own ∧ f < 9223372036854775807 then f + 1 else f) → (if f' < r then f' else r) = vwLeast own high l) := Lib.hid (fun f' h' => V.out f f' hf h')
      clear V
      have fin : Hid (∀ f', f' = (if f = own ∧ f < 9223372036854775807 then f + 1 else f) → (f' < r → Ending.returned (.int .i64 f') = .returned (.int .i64 (vwLeast own high l)) ∧ Fr none_ w w2) ∧ (¬ f' < r → Ending.returned (.int .i64 r) = .returned (.int .i64 (vwLeast own high l)) ∧ Fr none_ w w2)) := Lib.hid (fun f' h' => by
        have := V2.out f' h'
        constructor
        · intro hlt; rw [if_pos hlt] at this; rw [this]; exact ⟨rfl, F2.out⟩
        · intro hlt; rw [if_neg hlt] at this; rw [this]; exact ⟨rfl, F2.out⟩)
      clear V2
      by_cases g1 : 1 < high
      · rw [if_pos g1] at hf
        subst hf
        cases g2 : (f == own)
        · have E := Lib.hid (fin.out f (by rw [if_neg (fun q => by rw [q.1] at g2; simp at g2)]))
          by_cases g3 : f < r
          all_goals
            clear fin
            go_wp2_with fail
            go_ret
            first | exact E.out.1 g3 | exact E.out.2 g3
        · have e2 : f = own := by simpa using g2
          by_cases g4 : f < 9223372036854775807
          · have E := Lib.hid (fin.out (f + 1) (by rw [if_pos ⟨e2, g4⟩]))
            have hw : wrap64 (f + 1) = f + 1 := by unfold wrap64; omega
            clear e2
            by_cases g3 : f + 1 < r
            all_goals
              clear fin
              go_wp2_with fail
              go_ret
              first | exact E.out.1 g3 | exact E.out.2 g3
          · have E := Lib.hid (fin.out f (by rw [if_neg (fun q => g4 q.2)]))
            clear e2
            by_cases g3 : f < r
            all_goals
              clear fin
              go_wp2_with fail
              go_ret
              first | exact E.out.1 g3 | exact E.out.2 g3
      · rw [if_neg g1] at hf
        subst hf
        cases g2 : (1 == own)
        · have E := Lib.hid (fin.out 1 (by rw [if_neg (fun q => by rw [q.1] at g2; simp at g2)]))
          by_cases g3 : 1 < r
          all_goals
            clear fin
            go_wp2_with fail
            go_ret
            first | exact E.out.1 g3 | exact E.out.2 g3
        · have e2 : 1 = own := by simpa using g2
          have E := Lib.hid (fin.out 2 (by rw [if_pos ⟨e2, by omega⟩]; rfl))
          clear e2
          by_cases g3 : 2 < r
          all_goals
            clear fin
            go_wp2_with fail
            go_ret
            first | exact E.out.1 g3 | exact E.out.2 g3
end Go.Proofs.Ytnnomeichppkpaa
