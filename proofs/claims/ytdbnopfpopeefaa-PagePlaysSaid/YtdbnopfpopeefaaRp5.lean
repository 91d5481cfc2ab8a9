/-
  The reference of layer 3: Alloc.
-/
import Derived.Test.YtdbnopfpopeefaaRp4
namespace Go.Proofs.Ytdbnopfpopeefaa
open Go.RowKit
set_option linter.unusedVariables false
set_option linter.unusedSimpArgs false
set_option maxRecDepth 100000

section
variable {w w' : World} {x : Nat} {ba ua ka : Option Addr} {bc uc kc : Nat} {s : PS} {Bs : List ByteArray}
set_option maxHeartbeats 2000000 in
theorem Rp_Alloc_back (h : RPAt w x ba ua ka bc uc kc s Bs) (hw : s.WF) {k : Nat} {r : List Nat} (hb : s.back = k :: r) :
    Calls Try.prog 36 #[.pointer (some ⟨x, 0, none⟩)] w fun e w' => e = .returned (.tuple #[.int .u16 ((k * s.slot : Nat) : Int), .int .i64 0]) ∧ RPost w x ba ua ka { s with slots := s.slots.set k (some (zeros s.slot)), back := r } w' := by
  have hlo := hw.lo
  have hhi := hw.hi
  have hk : s.slots[k]? = some none := (hw.backs k).1 (by rw [hb]; simp)
  have hklt := (List.getElem?_eq_some_iff.1 hk).1
  have hkf : k * s.slot + s.slot ≤ 4096 := by
    have : (k + 1) * s.slot ≤ s.slots.length * s.slot := Nat.mul_le_mul_right _ (by omega)
    have e : (k + 1) * s.slot = k * s.slot + s.slot := by rw [Nat.add_mul]; omega
    have := hw.fit; omega
  have hbl : s.back.length = r.length + 1 := by rw [hb]; rfl
  have hbs : s.back.length ≤ 4096 := by
    have hsub := List.Nodup.length_le_of_subset (l₂ := List.range s.slots.length) hw.nodup (fun j hj => List.mem_range.2 (List.getElem?_eq_some_iff.1 ((hw.backs j).1 hj)).1)
    rw [List.length_range] at hsub
    have := hw.nslots
    omega
  obtain ⟨gu, rfl⟩ := h.us.isAddr (by omega)
  obtain ⟨gb, rfl⟩ := h.bs.isAddr (by omega)
  obtain ⟨gk, rfl⟩ := h.ks.isAddr (by omega)
  have hraw := h.raw
  have hkv : (s.back.reverse.map intN)[r.length]? = some (.int .i64 (k : Int)) := by
    rw [hb, List.reverse_cons, List.getElem?_map, List.getElem?_append_right (by simp), List.length_reverse, Nat.sub_self]; rfl
  have hkc : (s.back.reverse.map intN).take r.length = r.reverse.map intN := by
    rw [hb, List.reverse_cons, List.map_append]
    exact List.take_left' (by simp)
  obtain ⟨sl, hsl⟩ : ∃ sl, sl = s.slot := ⟨_, rfl⟩
  obtain ⟨nr, hnr⟩ : ∃ nr, nr = r.length := ⟨_, rfl⟩
  obtain ⟨n, hn⟩ : ∃ n, n = s.slots.length := ⟨_, rfl⟩
  obtain ⟨P, hP⟩ : ∃ P, P = k * s.slot := ⟨_, rfl⟩
  rw [← hP]
  have HH := Lib.hid h
  have HKC := Lib.hid hkc
  have c0 := h.c0
  rw [hbl] at hraw
  rw [← hnr] at hraw hkv hkc hbl
  rw [← hsl] at hraw c0 hlo hhi hkf hP
  rw [← hn] at hraw hklt
  rw [← hP] at hkf
  have hpm : IntKind.i64.wrap ((k : Int) * (sl : Int)) = (P : Int) := by rw [hP, ← Int.natCast_mul]; exact IntWalk.i64_in _ (by rw [← hP]; omega)
  have hpu : IntKind.u16.wrap (P : Int) = (P : Int) := by rw [IntKind.wrap_u16]; omega
  obtain ⟨nb, hnb⟩ : ∃ nb, nb = nr + 1 := ⟨_, rfl⟩
  rw [← hnb] at hraw
  have hn1 : IntKind.i64.wrap ((nb : Int) - 1) = (nr : Int) := by rw [show (nb : Int) - 1 = (nr : Int) by omega]; exact IntWalk.i64_in _ (by omega)
  have hn2 : wrap64 ((nb : Int) - 1) = (nr : Int) := by rw [show (nb : Int) - 1 = (nr : Int) by omega]; unfold wrap64; omega
  have hp0 : (0 : Int) < (nb : Int) := by omega
  have hp1 : nr < nb := by omega
  have HNB := Lib.hid hnb
  have hcap : nr ≤ kc := by have := hraw.ks.2.1; omega
  have HP := Lib.hid hP
  have HSL := Lib.hid hsl
  have HN := Lib.hid hn
  have HNR := Lib.hid hnr
  have HB := Lib.hid hb
  have HK := Lib.hid hk
  clear hsl hn hnr hP h hkc hb hbl hbs hk hw hnb
  have R0 := Lib.hid hraw
  clear hraw
  go_enter Try.func36, Try.ntmps36
  go_wp2_with (first
    | ((with_reducible refine at_slot 10 ?_); refine wpMakeBytes rfl _ _ _ 5 rfl Try.underlying43 u8_info .i64 .i64 sl sl rfl rfl (Nat.le_refl _) (by omega) ?_; intro w1 hrow f1 hs1; clear hs1; have R1 := Lib.hid (R0.out.kept0 f1); have c3 := R1.out.c3; have ck := R1.out.ks.cell hkv)
    | ((with_reducible refine at_slot 11 ?_); refine wpString rfl _ _ _ 5 rfl hrow Try.underlying43 Try.underlying5 Try.underlying9 0 sl sl rfl (zeros sl) List.length_replicate (fun i hi => by simp [zeros, List.getD, hi]) ?_))
  generalize hB : strOf (zeros sl) = B
  have HB2 := Lib.hid hB
  clear hB hkv
  go_quiet (fail)
  have z3 := R1.out.z 3
  go_wp2_with fail
  go_region
  have r2 := R1.out.kept0 (Fr.drewN none_ w1 (nq + 1))
  obtain ⟨q3, g3⟩ := r2.k_put (r2.ks.cut (m := nr) (by omega)) (fun j hj e => by
    rcases e with rfl | e | e
    · exact r2.xk hj
    · exact r2.bk j e hj
    · exact r2.uk j e hj)
  obtain ⟨q4, g4⟩ := q3.u_set k (.bool true)
  obtain ⟨q5, g5⟩ := q4.b_set k (.string B)
  have c2 := q3.c2
  have cu := q3.us.cell (i := k) (v := .bool false) (usesOf_get HK.out)
  have zu := q3.us.free k
  have c1 := q4.c1
  have hBl : k < (Bs.map Value.string).length := by rw [q3.bs.1]; omega
  have cb := q4.bs.cell (i := k) (List.getElem?_eq_getElem hBl)
  have zb := q4.bs.free k
  have c05 := q5.c0
  generalize (Bs.map Value.string)[k] = bv at cb
  have HQ5 := Lib.hid q5
  have HG := Lib.hid (((f1.trans (Fr.drewN none_ w1 (nq + 1))).none.trans g3).trans (g4.trans g5))
  clear r2 q3 g3 q4 g4 q5 g5 hBl ck c3 c0 z3 hn1 hn2 hp0 hp1 hcap
  go_wp2_with fail
  go_ret2
  have q5 := HQ5.out
  refine ⟨rfl, some ⟨gb, 0, none⟩, some ⟨gu, 0, none⟩, some ⟨gk, 0, none⟩, bc, uc, kc, Bs.set k B, RR.up (s := { s with slots := s.slots.set k (some (zeros s.slot)), back := r }) ?_ ?_, fun _ hk => Or.inl hk, HG.out⟩
  · have e1 : (usesOf { s with slots := s.slots.set k (some (zeros s.slot)), back := r }) = (usesOf s).set k (.bool true) := by unfold usesOf; rw [List.map_set]; rfl
    have e2 : (Bs.set k B).map Value.string = (Bs.map Value.string).set k (.string B) := by rw [List.map_set]
    rw [e1, e2]
    simp only [List.length_set]
    rw [← HSL.out, ← HN.out, ← HNR.out, ← HKC.out, ← HNR.out]
    exact q5
  · intro j b hj
    have hj' : (s.slots.set k (some (zeros s.slot)))[j]? = some (some b) := hj
    rw [List.getElem?_set] at hj'
    rw [List.getElem?_set]
    by_cases e : k = j
    · subst e
      rw [if_pos rfl] at hj' ⊢
      have hl : k < s.slots.length := by rw [← HN.out]; exact hklt
      rw [if_pos hl] at hj'
      rw [if_pos (by rw [HH.out.blen]; exact hl)]
      cases hj'
      rw [← HSL.out, HB2.out]
    · rw [if_neg e] at hj' ⊢
      exact HH.out.val j b hj'
theorem rp_room {s : PS} (hlo : 2 ≤ s.slot) : (s.slots.length + 1) * s.slot ≤ 4096 ↔ ¬ 4096 / s.slot ≤ s.slots.length := by
  rw [← Nat.le_div_iff_mul_le (by omega)]; omega
set_option maxHeartbeats 2000000 in
theorem Rp_Alloc_full (h : RPAt w x ba ua ka bc uc kc s Bs) (hw : s.WF) (hb : s.back = []) (hf : ¬ (s.slots.length + 1) * s.slot ≤ 4096) :
    Calls Try.prog 36 #[.pointer (some ⟨x, 0, none⟩)] w fun e w' => e = .returned (.tuple #[.int .u16 0, .int .i64 41]) ∧ RPost w x ba ua ka s w' := by
  have hlo := hw.lo
  have hhi := hw.hi
  rw [rp_room hlo] at hf
  have hnn := hw.nslots
  have HH := Lib.hid h
  obtain ⟨sl, hsl⟩ : ∃ sl, sl = s.slot := ⟨_, rfl⟩
  obtain ⟨n, hn⟩ : ∃ n, n = s.slots.length := ⟨_, rfl⟩
  have hraw := h.raw
  have hb0 : s.back.length = 0 := by rw [hb]; rfl
  have c0 := h.c0
  rw [hb0] at hraw
  rw [← hsl] at hraw c0 hlo hhi hf
  rw [← hn] at hraw hf hnn
  obtain ⟨Q, hQ⟩ : ∃ Q, Q = 4096 / sl := ⟨_, rfl⟩
  rw [← hQ] at hf
  have hQb : Q ≤ 4096 := by rw [hQ]; exact Nat.div_le_self _ _
  have hq1 : (4096 : Int).tdiv (sl : Int) = (Q : Int) := by rw [hQ]; rfl
  have hq2 : (4096 : Int) / (sl : Int) = (Q : Int) := by rw [hQ]; rfl
  have hz : ¬ (sl : Int) = 0 := by omega
  have hz2 : ¬ sl = 0 := by omega
  have hw1 : IntKind.i64.wrap (Q : Int) = (Q : Int) := IntWalk.i64_in _ (by omega)
  have hge : (Q : Int) ≤ (n : Int) := by omega
  have hge2 : Q ≤ n := by omega
  have R0 := Lib.hid hraw
  clear hraw hQ hn hsl hf h hw hb hb0
  go_enter Try.func36, Try.ntmps36
  go_wp2_with (first
    | ((with_reducible refine at_slot 10 ?_); refine wpMakeBytes rfl _ _ _ 5 rfl Try.underlying43 u8_info .i64 .i64 sl sl rfl rfl (Nat.le_refl _) (by omega) ?_; intro w1 hrow f1 hs1; clear hs1; have R1 := Lib.hid (R0.out.kept0 f1); have c3 := R1.out.c3; have c2 := R1.out.c2)
    | ((with_reducible refine at_slot 11 ?_); refine wpString rfl _ _ _ 5 rfl hrow Try.underlying43 Try.underlying5 Try.underlying9 0 sl sl rfl (zeros sl) List.length_replicate (fun i hi => by simp [zeros, List.getD, hi]) ?_))
  generalize hB : strOf (zeros sl) = B
  clear hB
  have c01 := R1.out.c0
  go_quiet (fail)
  go_wp2_with fail
  go_ret2
  have fN := f1.trans (Fr.drewN none_ w1 nq)
  exact ⟨rfl, _, _, _, _, _, _, _, HH.out.kept0 fN, fun k hk => Or.inl hk, fN.none⟩
set_option maxHeartbeats 4000000 in
theorem Rp_Alloc_more (h : RPAt w x ba ua ka bc uc kc s Bs) (hw : s.WF) (hb : s.back = []) (hf : (s.slots.length + 1) * s.slot ≤ 4096) :
    Calls Try.prog 36 #[.pointer (some ⟨x, 0, none⟩)] w fun e w' => e = .returned (.tuple #[.int .u16 ((s.slots.length * s.slot : Nat) : Int), .int .i64 0]) ∧ RPost w x ba ua ka { s with slots := s.slots ++ [some (zeros s.slot)] } w' := by
  have hlo := hw.lo
  have hhi := hw.hi
  have hfit : s.slots.length * s.slot + s.slot ≤ 4096 := by
    have e : (s.slots.length + 1) * s.slot = s.slots.length * s.slot + s.slot := by rw [Nat.add_mul]; omega
    omega
  rw [rp_room hlo] at hf
  have hnn := hw.nslots
  have HH := Lib.hid h
  obtain ⟨P, hP⟩ : ∃ P, P = s.slots.length * s.slot := ⟨_, rfl⟩
  rw [← hP] at hfit ⊢
  obtain ⟨sl, hsl⟩ : ∃ sl, sl = s.slot := ⟨_, rfl⟩
  obtain ⟨n, hn⟩ : ∃ n, n = s.slots.length := ⟨_, rfl⟩
  have hraw := h.raw
  have hb0 : s.back.length = 0 := by rw [hb]; rfl
  have c0 := h.c0
  rw [hb0] at hraw
  rw [← hsl] at hraw c0 hlo hhi hf hP hfit
  rw [← hn] at hraw hf hnn hP
  obtain ⟨Q, hQ⟩ : ∃ Q, Q = 4096 / sl := ⟨_, rfl⟩
  rw [← hQ] at hf
  have hQb : Q ≤ 4096 := by rw [hQ]; exact Nat.div_le_self _ _
  have hq1 : (4096 : Int).tdiv (sl : Int) = (Q : Int) := by rw [hQ]; rfl
  have hq2 : (4096 : Int) / (sl : Int) = (Q : Int) := by rw [hQ]; rfl
  have hz : ¬ (sl : Int) = 0 := by omega
  have hz2 : ¬ sl = 0 := by omega
  have hw1 : IntKind.i64.wrap (Q : Int) = (Q : Int) := IntWalk.i64_in _ (by omega)
  have hge : ¬ (Q : Int) ≤ (n : Int) := by omega
  have hge2 : ¬ Q ≤ n := by omega
  have hpm : IntKind.i64.wrap ((n : Int) * (sl : Int)) = (P : Int) := by rw [hP, ← Int.natCast_mul]; exact IntWalk.i64_in _ (by rw [← hP]; omega)
  have hpu : IntKind.u16.wrap (P : Int) = (P : Int) := by rw [IntKind.wrap_u16]; omega
  have R0 := Lib.hid hraw
  have HP := Lib.hid hP
  have HSL := Lib.hid hsl
  have HN := Lib.hid hn
  have HB0 := Lib.hid hb0
  clear hraw hQ hn hsl hf h hw hb hb0 hP
  go_enter Try.func36, Try.ntmps36
  go_wp2_with (first
    | ((with_reducible refine at_slot 10 ?_); refine wpMakeBytes rfl _ _ _ 5 rfl Try.underlying43 u8_info .i64 .i64 sl sl rfl rfl (Nat.le_refl _) (by omega) ?_; intro w1 hrow f1 hs1; clear hs1; have R1 := Lib.hid (R0.out.kept0 f1); have c3 := R1.out.c3; have c2 := R1.out.c2)
    | ((with_reducible refine at_slot 11 ?_); refine wpString rfl _ _ _ 5 rfl hrow Try.underlying43 Try.underlying5 Try.underlying9 0 sl sl rfl (zeros sl) List.length_replicate (fun i hi => by simp [zeros, List.getD, hi]) ?_))
  generalize hB : strOf (zeros sl) = B
  have HB2 := Lib.hid hB
  clear hB
  have c01 := R1.out.c0
  go_quiet (fail)
  have R2 := Lib.hid (R1.out.kept0 (Fr.drewN none_ w1 nq))
  have R3 := Lib.hid (R2.out.kept0 (Fr.alloc none_ _ (.cells #[.bool true] 4)))
  have oneU := SlAt.one (w1.drewN nq) 4 (.bool true)
  have hes : (w1.drewN nq).heap.size = w1.heap.size := by simp
  rw [hes] at oneU
  have c2a := R3.out.c2
  clear hq1 hq2 hz hz2 hw1 hge hge2 c01 c3
  go_wp2_with (first
    | ((with_reducible refine at_slot 81 ?_); refine wpAppendS rfl _ _ _ rfl 4 (.bool false) 1 1 Try.underlying60 rp_bool_info rfl R3.out.us oneU rfl rfl (by intro u hu; simp at hu; subst hu; rfl) (by simp [maxLen]; omega) (by omega) ?_; intro a3 k3 w3 hs3 f3 hb3; have U := Lib.hid (R3.out.u_put f3 hs3 hb3); have z2 := U.out.2.2.1; have c2b := U.out.2.2.2; have R4 := Lib.hid (U.out.1.kept0 (Fr.alloc none_ _ (.cells #[.string B] 9))); have c1a := R4.out.c1; have oneB := SlAt.one (w3.setCell ⟨x, 2, none⟩ (.slice a3 (n + 1) k3)) 9 (.string B); have hes3 : (w3.setCell ⟨x, 2, none⟩ (.slice a3 (n + 1) k3)).heap.size = w3.heap.size := (by simp); rw [hes3] at oneB; have c1b := U.out.1.c1)
    | ((with_reducible refine at_slot 91 ?_); refine wpAppendS rfl _ _ _ rfl 9 (.string ByteArray.empty) 1 16 Try.underlying32 rp_str_info rfl R4.out.bs oneB rfl rfl (by intro u hu; simp at hu; subst hu; rfl) (by simp [maxLen]; omega) (by omega) ?_; intro a6 k6 w6 hs6 f6 hb6; have V := Lib.hid (R4.out.b_put f6 hs6 hb6); have z1 := V.out.2.2.1; have c1c := V.out.2.2.2))
  have V1 := Lib.hid V.out.1
  have V2 := Lib.hid V.out.2.1
  clear V z1 c1c
  generalize (w6.setCell ⟨x, 1, none⟩ (.slice a6 (n + 1) k6)) = w7 at V1 V2 ⊢
  have c2V := V1.out.c2
  have c0V := V1.out.c0
  obtain ⟨N1, hN1⟩ : ∃ N1, N1 = n + 1 := ⟨_, rfl⟩
  rw [← hN1] at c2V
  have hm1 : IntKind.i64.wrap ((N1 : Int) - 1) = (n : Int) := by rw [show (N1 : Int) - 1 = (n : Int) by omega]; exact IntWalk.i64_in _ (by omega)
  have hm2 : wrap64 ((N1 : Int) - 1) = (n : Int) := by rw [show (N1 : Int) - 1 = (n : Int) by omega]; unfold wrap64; omega
  have HS6 := Lib.hid (And.intro hb3 hb6)
  have HFR := Lib.hid (((f1.trans (Fr.drewN none_ w1 nq)).trans (Fr.alloc none_ _ (.cells #[.bool true] 4))).none.trans U.out.2.1)
  clear hN1 c1b c1a c2b z2 c2 c2a c0 oneB oneU hb3 hb6 hs3 hs6 f3 hes hes3
  go_quiet (fail)
  go_wp2_with fail
  go_ret2
  have Y := V1.out
  obtain ⟨hb3, hb6⟩ := HS6.out
  have zf := f1.size
  have hg3 : ∀ j, blk a3 j → blk ua j ∨ w.heap.size ≤ j := fun j hj => by
    rcases hb3 j hj with q | q
    · exact Or.inl q
    · simp at q; omega
  have hg6 : ∀ j, blk a6 j → blk ba j ∨ w.heap.size ≤ j := fun j hj => by
    rcases hb6 j hj with q | q
    · exact Or.inl q
    · have z1 := HFR.out.size
      have z2 := (Fr.alloc none_ (w3.setCell ⟨x, 2, none⟩ (.slice a3 (n + 1) k3)) (.cells #[.string B] 9)).size
      omega
  have fA : Fr (rown x ba ua ka) w w7 := ((HFR.out.trans (Fr.alloc none_ _ (.cells #[.string B] 9)).none).step V2.out (fun i hi e => by
    rcases e with e | e | e | e
    · exact Or.inl e
    · exact Or.inr (Or.inl e)
    · rcases hg3 i e with q | q
      · exact Or.inr (Or.inr (Or.inl q))
      · omega
    · exact Or.inr (Or.inr (Or.inr e))))
  have e1 : usesOf { s with slots := s.slots ++ [some (zeros s.slot)] } = usesOf s ++ [.bool true] := by unfold usesOf; rw [List.map_append]; rfl
  have e2 : (Bs ++ [B]).map Value.string = Bs.map Value.string ++ [.string B] := by rw [List.map_append]; rfl
  refine ⟨rfl, a6, a3, ka, k6, k3, kc, Bs ++ [B], RR.up (s := { s with slots := s.slots ++ [some (zeros s.slot)] }) ?_ ?_, ?_, fA.trans (Fr.drewN _ _ _)⟩
  · rw [e1, e2]
    simp only [List.length_append, List.length_singleton]
    rw [← HSL.out, ← HN.out, HB0.out]
    exact Y.kept0 (Fr.drewN _ _ _)
  · intro j b hj
    have hj' : (s.slots ++ [some (zeros s.slot)])[j]? = some (some b) := hj
    have hbl := HH.out.blen
    by_cases e : j < s.slots.length
    · rw [List.getElem?_append_left e] at hj'
      rw [List.getElem?_append_left (by omega)]
      exact HH.out.val j b hj'
    · have hje : j = s.slots.length := by
        have := (List.getElem?_eq_some_iff.1 hj').1
        simp at this; omega
      subst hje
      rw [List.getElem?_append_right (Nat.le_refl _), Nat.sub_self] at hj'
      rw [← hbl, List.getElem?_append_right (Nat.le_refl _), Nat.sub_self]
      simp at hj' ⊢
      rw [← hj', ← HSL.out, HB2.out]
  · intro j hj
    rcases hj with e | e | e | e
    · exact Or.inl (Or.inl e)
    · rcases hg6 j e with q | q
      · exact Or.inl (Or.inr (Or.inl q))
      · exact Or.inr q
    · rcases hg3 j e with q | q
      · exact Or.inl (Or.inr (Or.inr (Or.inl q)))
      · exact Or.inr q
    · exact Or.inl (Or.inr (Or.inr (Or.inr e)))
theorem Rp_Alloc (h : RPAt w x ba ua ka bc uc kc s Bs) (hw : s.WF) :
    Calls Try.prog 36 #[.pointer (some ⟨x, 0, none⟩)] w fun e w' => e = .returned (.tuple #[.int .u16 ((allocR s).1 : Int), .int .i64 ((allocR s).2.1 : Int)]) ∧ RPost w x ba ua ka (allocR s).2.2 w' := by
  cases hb : s.back with
  | cons k r =>
    have e : allocR s = (k * s.slot, 0, { s with slots := s.slots.set k (some (zeros s.slot)), back := r }) := by unfold allocR PS.alloc; rw [hb]
    rw [e]; exact Rp_Alloc_back h hw hb
  | nil =>
    by_cases hf : (s.slots.length + 1) * s.slot ≤ 4096
    · have e : allocR s = (s.slots.length * s.slot, 0, { s with slots := s.slots ++ [some (zeros s.slot)] }) := by unfold allocR PS.alloc; rw [hb]; simp only; rw [if_pos hf]
      rw [e]; exact Rp_Alloc_more h hw hb hf
    · have e : allocR s = (0, 41, s) := by unfold allocR PS.alloc; rw [hb]; simp only; rw [if_neg hf]
      rw [e]; exact Rp_Alloc_full h hw hb hf
end
end Go.Proofs.Ytdbnopfpopeefaa
