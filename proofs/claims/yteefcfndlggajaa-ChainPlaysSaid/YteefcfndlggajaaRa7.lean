/-
  The reference of layer 4: Copy.
-/
import Derived.Test.YteefcfndlggajaaRa6
import Derived.Test.YteefcfndlggajaaStep
import Derived.Deep.RegionLaw
namespace Go.Proofs.Yteefcfndlggajaa
open Go.RowKit
set_option linter.unusedVariables false
set_option linter.unusedSimpArgs false
set_option maxRecDepth 100000

theorem ra_one_cell (v : Value) (w : World) (b : Nat) (hc : w.cell? ⟨b, 0, none⟩ = some v) : ∀ (j : Nat) (u : Value), ([v] : List Value)[j]? = some u → w.cell? ((⟨b, 0, none⟩ : Addr).add j) = some u := by
  intro j u hu
  cases j with
  | zero => simp at hu; subst hu; exact hc
  | succ j => simp at hu
section
variable {w w' w3 wa w5 : World} {x : Nat} {pa pa' ga : Option Addr} {pc pc' gc N : Nat} {qs : List Nat} {G : List GV} {col : Nat → Nat} {Z : Nat → Prop} {s s' : AS}
/-- One page more, whatever its rows; the row of pages is appended to. -/
theorem RAt.grow2 (h : RAt w x pa pc ga gc qs G col Z N s) (hz : ∀ k, Z k → k < w.heap.size) {q : Nat} {p : PS} {b1 b2 b3 : Option Addr} {Bs : List ByteArray} {bc uc kc : Nat} (hq : RPAt w3 q b1 b2 b3 bc uc kc p Bs) (hown : ∀ k, rown q b1 b2 b3 k → w.heap.size ≤ k) (f3 : Fr none_ w w3)
    (fa : Fr none_ w3 wa) (f5 : Fr (blk pa) wa w5) (hs5 : SlAt w5 pa' (s.pages.length + 1) pc' 141 1 (qs.map ptrV ++ [ptrV q])) (hb : ∀ k, blk pa' k → blk pa k ∨ wa.heap.size ≤ k) (hsl : s'.slot = s.slot) (hpg : s'.pages = s.pages ++ [p]) (hge : s'.gen = s.gen) :
    (∃ col', RAt (w5.setCell ⟨x, 1, none⟩ (.slice pa' (s.pages.length + 1) pc')) x pa' pc' ga gc (qs ++ [q]) G col' Z N s') ∧ Fr (fun k => ¬ Z k) w (w5.setCell ⟨x, 1, none⟩ (.slice pa' (s.pages.length + 1) pc')) := by
  have z1 := f3.size
  have z2 := fa.size
  have hlt := h.row.lt
  have fpre := f3.trans fa
  have hr0 := (h.row.kept fpre (fun e => e)).kept f5 (fun e => by have := h.ca _ e; have := h.cx; omega)
  have fx : Fr (one x) w5 (w5.setCell ⟨x, 1, none⟩ (.slice pa' (s.pages.length + 1) pc')) := Fr.setCell _ _ _ _ (fun _ => rfl)
  have hr := hr0.set 1 (.slice pa' (s.pages.length + 1) pc')
  have hql := hq.lt
  have hpl := h.pas.lt
  have fz : Fr (fun k => ¬ Z k) w w5 := (fpre.none.trans (f5.mono fun k _ e => h.za k e))
  refine ⟨⟨fun k => if k < w.heap.size then col k else if k < w3.heap.size then s.pages.length + 3 else 1, ⟨?_, ?_, ((h.gs.kept0 fpre).kept f5 (fun k hk e => by have := h.cg k hk; have := h.ca k e; omega)).kept fx (fun k hk e => by have := h.cg k hk; have := h.cx; cases e; omega), ?_, ?_, ?_, h.zx, ?_, h.zg, ?_, ?_, h.gb, h.gn, h.nn⟩⟩, fz.trans (fx.mono fun k _ e => by cases e; exact h.zx)⟩
  · rw [hsl, hpg, List.length_append, List.length_singleton]; exact hr
  · rw [hpg, List.length_append, List.length_singleton, List.map_append]
    exact hs5.kept fx (fun k hk e => by
      cases e
      rcases hb _ hk with q | q
      · have := h.ca _ q; have := h.cx; omega
      · omega)
  · try simp only
    rw [if_pos hlt]; exact h.cx
  · intro k hk
    try simp only
    rcases hb k hk with q | q
    · rw [if_pos (hpl k q)]; exact h.ca k q
    · rw [if_neg (by omega), if_neg (by omega)]
  · intro k hk
    try simp only
    rw [if_pos (h.gs.lt k hk)]; exact h.cg k hk
  · intro k hk e
    rcases hb k hk with q | q
    · exact h.za k q e
    · have := hz k e; omega
  · intro i r pj hi hpj
    rw [hpg] at hpj
    by_cases e : i < s.pages.length
    · rw [List.getElem?_append_left e] at hpj
      rw [List.getElem?_append_left (by rw [h.qlen]; exact e)] at hi
      obtain ⟨b1, b2, b3, b4, b5, b6, b7, b8, b9⟩ := h.pg i r pj hi hpj
      refine ⟨b1, b2, b3, b4, b5, b6, b7, ((b8.kept0 fpre).kept f5 (fun k hk e2 => by have := (b9 k hk).1; have := h.ca k e2; omega)).kept fx (fun k hk e2 => by have := (b9 k hk).1; have := h.cx; cases e2; omega), fun k hk => ?_⟩
      have hl := b8.lt k hk
      try simp only
      rw [if_pos hl]
      exact b9 k hk
    · have hie : i = s.pages.length := by
        have := (List.getElem?_eq_some_iff.1 hpj).1
        simp at this; omega
      subst hie
      rw [List.getElem?_append_right (Nat.le_refl _), Nat.sub_self] at hpj
      rw [List.getElem?_append_right (by rw [h.qlen]; exact Nat.le_refl _), h.qlen, Nat.sub_self] at hi
      simp at hpj hi
      subst hpj; subst hi
      refine ⟨b1, b2, b3, bc, uc, kc, Bs, ((hq.kept0 fa).kept f5 (fun k hk e2 => by have := hown k hk; have := hpl k e2; omega)).kept fx (fun k hk e2 => by have := hown k hk; cases e2; omega), fun k hk => ?_⟩
      have := hown k hk
      have := hql k hk
      refine ⟨?_, fun e => by have := hz k e; omega⟩
      try simp only
      rw [if_neg (by omega), if_pos (by omega)]
  · intro n o a b
    rw [h.gl n o a b]; unfold AS.genOf; rw [hge]
/-- A copy at y, of new blocks. -/
def RACopy (w : World) (N : Nat) (s : AS) (e : Ending) (w' : World) : Prop :=
  ∃ y pa' pc' ga' gc' qs' G' col', e = .returned (.pointer (some ⟨y, 0, none⟩)) ∧ RAt w' y pa' pc' ga' gc' qs' G' col' (fun k => k < w.heap.size) N s ∧ Fr none_ w w'
/-- The first k pages. -/
def AS.firsts (s : AS) (k : Nat) : AS := { s with pages := s.pages.take k }
set_option maxHeartbeats 16000000 in
theorem Ra_Copy (h : RAt w x pa pc ga gc qs G col Z N s) (hw : s.WF) :
    Calls Try.prog 52 #[.pointer (some ⟨x, 0, none⟩)] w fun e w' => RACopy w N s e w' := by
  have hl := hw.len
  have hGm : G.length ≤ 1000000 := by have := h.gn; have := h.nn; omega
  have H := Lib.hid h
  have HW := Lib.hid hw
  have c0 := h.c0
  have c1 := h.c1
  have c2 := h.c2
  obtain ⟨L, hL⟩ : ∃ L, L = s.pages.length := ⟨_, rfl⟩
  obtain ⟨m, hm⟩ : ∃ m, m = G.length := ⟨_, rfl⟩
  obtain ⟨sl, hsl⟩ : ∃ sl, sl = s.slot := ⟨_, rfl⟩
  have hgs := h.gs
  rw [← hL] at c1 hl
  rw [← hm] at c2 hGm hgs
  rw [← hsl] at c0
  have HL := Lib.hid (And.intro hL (And.intro hm hsl))
  have HGS := Lib.hid hgs
  clear h hw hL hm hsl hgs
  have hS : ∀ w', Fr none_ w w' → (Fr none_ w w' ∧ w'.cell? ⟨x, 0, none⟩ = some (.int .i64 (sl : Int)) ∧ w'.cell? ⟨x, 2, none⟩ = some (.slice ga m gc)) := fun w' f => ⟨f, Fr.keep f c0, Fr.keep f c2⟩
  go_enter Try.func52, Try.ntmps52
  go_wp2_with fail
  refine wp_region_held_drew (S := fun w' => Fr none_ w w' ∧ w'.cell? ⟨x, 0, none⟩ = some (.int .i64 (sl : Int)) ∧ w'.cell? ⟨x, 2, none⟩ = some (.slice ga m gc)) (by kernel_rfl) (hS _ (Fr.drew _ _)) (fun hHeld => ?_)
  refine held_take 0 5 (v := ?_) rfl rfl (by kernel_rfl) (by kernel_rfl) (by kernel_rfl) (fun _ _ _ h => h) (by rfl) ?xy0 (by assumption) ?_
  case xy0 => (intro w hSw; (try dsimp only at hSw); go_simp; try (with_reducible rfl))
  try simp only [List.setIfInBounds_toArray, List.set_cons_zero, List.set_cons_succ]
  refine held_take 1 6 (v := ?_) rfl rfl (by kernel_rfl) (by kernel_rfl) (by kernel_rfl) (fun _ _ _ h => h) (by rfl) ?xy1 (by assumption) ?_
  case xy1 => (intro w hSw; (try dsimp only at hSw); go_simp; try (with_reducible rfl))
  try simp only [List.setIfInBounds_toArray, List.set_cons_zero, List.set_cons_succ]
  refine held_take 2 7 (v := ?_) rfl rfl (by kernel_rfl) (by kernel_rfl) (by kernel_rfl) (fun _ _ _ h => h) (by rfl) ?xy2 (by assumption) ?_
  case xy2 => (intro w hSw; (try dsimp only at hSw); go_simp; try (with_reducible rfl))
  try simp only [List.setIfInBounds_toArray, List.set_cons_zero, List.set_cons_succ]
  refine held_take 3 8 (v := ?_) rfl rfl (by kernel_rfl) (by kernel_rfl) (by kernel_rfl) (fun _ _ _ h => h) (by rfl) ?xy3 (by assumption) ?_
  case xy3 => (intro w hSw; (try dsimp only at hSw); go_simp; try (with_reducible rfl))
  try simp only [List.setIfInBounds_toArray, List.set_cons_zero, List.set_cons_succ]
  refine held_take 5 10 (v := ?_) rfl rfl (by kernel_rfl) (by kernel_rfl) (by kernel_rfl) (fun _ _ _ h => h) (by rfl) ?xy5 (by assumption) ?_
  case xy5 => (intro w hSw; (try dsimp only at hSw); go_simp; try (with_reducible rfl))
  try simp only [List.setIfInBounds_toArray, List.set_cons_zero, List.set_cons_succ]
  refine held_take 6 11 (v := ?_) rfl rfl (by kernel_rfl) (by kernel_rfl) (by kernel_rfl) (fun _ _ _ h => h) (by rfl) ?xy6 (by assumption) ?_
  case xy6 => (intro w hSw; (try dsimp only at hSw); go_simp; try (with_reducible rfl))
  try simp only [List.setIfInBounds_toArray, List.set_cons_zero, List.set_cons_succ]
  refine held_take 7 12 (v := ?_) rfl rfl (by kernel_rfl) (by kernel_rfl) (by kernel_rfl) (fun _ _ _ h => h) (by rfl) ?xy7 (by assumption) ?_
  case xy7 => (intro w hSw; (try dsimp only at hSw); go_simp; try (with_reducible rfl))
  try simp only [List.setIfInBounds_toArray, List.set_cons_zero, List.set_cons_succ]
  refine held_take 8 13 (v := ?_) rfl rfl (by kernel_rfl) (by kernel_rfl) (by kernel_rfl) (fun _ _ _ h => h) (by rfl) ?xy8 (by assumption) ?_
  case xy8 => (intro w hSw; (try dsimp only at hSw); go_simp; try (with_reducible rfl))
  try simp only [List.setIfInBounds_toArray, List.set_cons_zero, List.set_cons_succ]
  refine wpAnyH_ready (rs := [4]) (by kernel_rfl) (by simp) ?_
  refine AllReadyH.cons rfl (fun KK hK => ?_) AllReadyH.nil
  go_simp
  have fb := Fr.alloc none_ w.drew (.cells #[] 167)
  have m0 := SlAt.made' w.drew 167 3
  have fB : Fr none_ w (w.drew.alloc (.cells #[] 167)) := (Fr.drew none_ w).trans fb
  refine hK.out _ _ (hS _ fB) (fun hHeld => ?_)
  clear hK
  try simp only [Act.put, List.setIfInBounds_toArray, List.set_cons_zero, List.set_cons_succ]
  refine wpAnyH_ready (rs := [9]) (by kernel_rfl) (by simp) ?_
  refine AllReadyH.cons rfl (fun KK hK => ?_) AllReadyH.nil
  refine stepAppendS rfl _ _ _ rfl 167 (.agg #[.int .u16 0, .int .u16 0, .int .u32 0]) 3 8 Try.underlying145 ra_given_info rfl m0 (HGS.out.kept0 fB) rfl rfl (gcells_one G) (by simp [maxLen]; omega) (by omega) ?_
  intro a5 k5 w5 hs5 f5 hb5
  rw [Nat.zero_add, List.nil_append] at hs5
  have hn5 : ∀ k, blk a5 k → w.heap.size ≤ k := fun k hk => by
    have hz := fB.size
    rcases hb5 k hk with q | q
    · rw [blk_some] at q
      exact Nat.le_of_eq q
    · exact Nat.le_trans hz q
  have fC : Fr none_ w w5 := fB.step f5 (fun i hi e => by rw [blk_some] at e; exact absurd hi (Nat.not_lt.2 (Nat.le_of_eq e)))
  refine hK.out _ _ (hS _ fC) (fun hHeld => ?_)
  clear hK
  try simp only [Act.put, List.setIfInBounds_toArray, List.set_cons_zero, List.set_cons_succ]
  refine held_take 10 15 (v := ?_) rfl rfl (by kernel_rfl) (by kernel_rfl) (by kernel_rfl) (fun _ _ _ h => h) (by rfl) ?xy10 (by assumption) ?_
  case xy10 => (intro w hSw; (try dsimp only at hSw); go_simp; try (with_reducible rfl))
  try simp only [List.setIfInBounds_toArray, List.set_cons_zero, List.set_cons_succ]
  refine wpAnyH_ready (rs := [11]) (by kernel_rfl) (by simp) ?_
  refine AllReadyH.cons rfl (fun KK hK => ?_) AllReadyH.nil
  go_simp
  refine hK.out _ _ (hS _ (fC.trans (Fr.alloc _ _ _))) (fun hHeld => ?_)
  clear hK
  try simp only [Act.put, List.setIfInBounds_toArray, List.set_cons_zero, List.set_cons_succ]
  refine held_take 12 3 (v := ?_) rfl rfl (by kernel_rfl) (by kernel_rfl) (by kernel_rfl) (fun _ _ _ h => h) (by rfl) ?xz (by assumption) ?_
  case xz => (intro w hSw; (try dsimp only at hSw); go_simp; try (with_reducible rfl))
  try simp only [Act.put, List.setIfInBounds_toArray, List.set_cons_zero, List.set_cons_succ]
  refine wpAnyH_done (by kernel_rfl) ?_ _
  clear hHeld hb5 f5 m0 fb
  obtain ⟨C, hC⟩ : ∃ C, C = w5.heap.size := ⟨_, rfl⟩
  have fD : Fr none_ w (w5.alloc (.cells #[.int .i64 (sl : Int), .slice none 0 0, .slice a5 m k5] 147)) := fC.trans (Fr.alloc _ _ _)
  have hr0 : RAt (w5.alloc (.cells #[.int .i64 (sl : Int), .slice none 0 0, .slice a5 m k5] 147)) C none 0 a5 k5 [] G (fun j => if j = C then 0 else 2) (fun j => j < w.heap.size) N (s.firsts 0) := by
    obtain ⟨e1, e2, e3⟩ := HL.out
    have hz := fC.size
    have h5 := hs5.lt
    subst hC
    refine ⟨?_, SlAt.empty _ _ _, ?_, by simp, fun k hk => absurd hk (blk_none k), fun k hk => ?_, ?_, fun k hk => absurd hk (blk_none k), fun k hk e => ?_, fun i q p h1 h2 => by simp at h1, H.out.gl, H.out.gb, H.out.gn, H.out.nn⟩
    · rw [← e2]
      show Row _ _ #[.int .i64 (s.slot : Int), .slice none (s.pages.take 0).length 0, .slice a5 m k5] _
      rw [← e3]
      exact Row.new w5 _ _
    · rw [← e2]; exact hs5.kept0 (Fr.alloc none_ _ _)
    · have := h5 k hk
      rw [if_neg (by omega)]
    · intro e; omega
    · have := hn5 k hk; omega
  rw [← hC]
  generalize (w5.alloc (.cells #[.int .i64 (sl : Int), .slice none 0 0, .slice a5 m k5] 147)) = w6 at fD hr0 ⊢
  have HD := Lib.hid fD
  clear hs5 hn5 fC fB hC hS c0 c2
  go_wp2_with fail
  go_loopw [4] (fun i wr => ∃ k : Nat, Hid (k ≤ L) ∧ i = .int .i64 k ∧ Hid (Fr none_ w wr) ∧ Hid (∃ pa2 pc2 qs2 col2, RAt wr C pa2 pc2 a5 k5 qs2 G col2 (fun j => j < w.heap.size) N (s.firsts k))) (fun i _ => L - (intOf i).toNat)
  case atStart => exact ⟨0, Nat.zero_le _, rfl, fD, ⟨_, _, _, _, hr0⟩⟩
  case round =>
    obtain ⟨k, hk, rfl, hf, hn0⟩ := hrel
    clear hr0 fD
    obtain ⟨pa2, pc2, qs2, col2, hnew⟩ := hn0.out
    clear hn0
    have cp1 := Fr.keep hf.out c1
    by_cases hlt : k < L
    · obtain ⟨p, hp⟩ : ∃ p, s.pages[k]? = some p := ⟨s.pages[k]'(by rw [← HL.out.1]; exact hlt), List.getElem?_eq_getElem _⟩
      obtain ⟨q, hq, hrn⟩ := H.out.page hp
      obtain ⟨b1, b2, b3, b4, b5, b6, b7, hrp, _⟩ := hrn
      have hpw := (HW.out.pages p (List.mem_of_getElem? hp)).1
      obtain ⟨g, hg⟩ := H.out.pas.isAddr (by rw [← HL.out.1]; omega)
      subst hg
      have cp := (H.out.pas.kept0 hf.out).cell (i := k) (v := ptrV q) (by rw [List.getElem?_map, hq]; rfl)
      unfold ptrV at cp
      have hfl : (s.firsts k).pages.length = k := by show (s.pages.take k).length = k; rw [List.length_take, ← HL.out.1]; omega
      have ck := hnew.c1
      rw [hfl] at ck
      have hsl := hnew.pas
      rw [hfl] at hsl
      have Hcp := Lib.hid (Rp_Copy (hrp.kept0 (hf.out.trans (Fr.drew none_ wr))) hpw)
      have HN := Lib.hid hnew
      have HSTEP := Lib.hid (show (s.firsts (k + 1)).pages = (s.firsts k).pages ++ [p] from rp_take_succ _ _ _ hp)
      have HFL := Lib.hid hfl
      have HZW := Lib.hid (show ∀ j, j < w.heap.size → j < wr.heap.size from fun j hj => Nat.lt_of_lt_of_le hj hf.out.size)
      have hzr := hf.out.size
      clear hrp hpw hp hq hnew hfl
      go_wp2_with fail
      go_region_law (first
        | (refine stepAppend rfl _ _ _ rfl 141 (.pointer none) 1 8 Try.underlying144 ra_ptr_info rfl (hsl.kept0 (((Fr.drew none_ _).trans f7).alloc_r _)) rfl ⟨w7.heap.size, 0, none⟩ 1 1 [.pointer (some ⟨Y, 0, none⟩)] rfl rfl (ra_one_cell _ _ _ (by simp)) (by simp [Value.oneCell']) (by omega) (by simp [maxLen]; omega) (by omega) ?_; intro pa8 pc8 w8 hs8 f8 hb8; have r8 := ((HN.out.kept0 (((Fr.drew none_ wr).trans f7).alloc_r (.cells #[.pointer (some ⟨Y, 0, none⟩)] 141))).row.kept f8 (fun e => by have := HN.out.ca _ e; have := HN.out.cx; omega)); have z8 := r8.free 1; have y8 := (r8.cell 1).trans rfl)
        | (go_simp; go_at_call 79; refine Hcp.out.mono ?_; rintro e w7 ⟨Y, d1, d2, d3, d4, d5, d6, d7, rfl, hY, hYo, f7⟩; have ck7 := Fr.keep f7 (show wr.drew.cell? _ = _ from ck); have ck7b := Fr.keep (Fr.alloc none_ w7 (.cells #[.pointer (some ⟨Y, 0, none⟩)] 141)) ck7))
      all_goals
        have hg9 := HN.out.grow2 (s' := s.firsts (k + 1)) HZW.out hY (fun j hj => hYo j hj) ((Fr.drew none_ wr).trans f7) (Fr.alloc none_ w7 (.cells #[.pointer (some ⟨Y, 0, none⟩)] 141)) f8 (by rw [HFL.out]; exact hs8) hb8 rfl HSTEP.out rfl
        rw [HFL.out] at hg9
        have HG9 := Lib.hid (show (∃ pa2 pc2 qs2 col2, RAt _ C pa2 pc2 a5 k5 qs2 G col2 (fun j => j < w.heap.size) N (s.firsts (k + 1))) ∧ Fr none_ w _ from ⟨(by obtain ⟨c9, h9⟩ := hg9.1; exact ⟨_, _, _, _, h9⟩), hf.out.step hg9.2 (fun i hi e => e hi)⟩)
        clear hg9 y8 z8 r8 ck7 ck7b ck cp hs8 f8 hb8 hY f7
        go_wp2_with fail
        go_roundw
        case rel => exact ⟨k + 1, hlt, by go_num, HG9.out.2, HG9.out.1⟩
        case measure => simp [intOf]; omega
    · have hke : k = L := by have := hk.out; omega
      have hfin : s.firsts k = s := by
        unfold AS.firsts
        rw [hke, HL.out.1, List.take_length]
      rw [hfin] at hnew
      have HN := Lib.hid hnew
      clear hnew hfin hke
      go_wp2_with fail
      go_ret
      exact ⟨C, _, _, _, _, _, _, _, rfl, HN.out, hf.out⟩
end
end Go.Proofs.Yteefcfndlggajaa
