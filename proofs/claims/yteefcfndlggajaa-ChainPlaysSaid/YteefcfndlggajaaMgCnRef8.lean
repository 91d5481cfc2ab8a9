/-
  The reference of layer 17: New, Copy.
  The reference of layer 17: Copy.
-/
import Derived.Test.YteefcfndlggajaaCnRef5
import Derived.Deep.RegionLaw
import Derived.RegionTactic
namespace Go.Proofs.Yteefcfndlggajaa
open Go.RowKit
set_option linter.unusedVariables false
set_option linter.unusedSimpArgs false
set_option maxRecDepth 100000

section
variable {W w : World} {Ts : List Thing}
set_option maxHeartbeats 8000000 in
theorem bg_r17new (h : Bag W Ts w) (c : CfgV) (hc : c.may = true) (lim : Nat) (hlim : c.valLen = (lim : Int)) (hl : lim ≤ 256) :
    Calls Try.prog 26 #[.agg c.cells] w fun e w' => ∃ x ar, e = .returned (.tuple #[.pointer (some ⟨x, 0, none⟩), .int .i64 0]) ∧ Bag W (Ts ++ [tRef ar 0 (AS.new (27 + lim))] ++ [tRow17 x c ar none 0 0]) w' := by
  have HM := Lib.hid (fun w' => R02_May w' c)
  rw [hc] at HM
  have HG := Lib.hid (h.keep0 (Fr.alloc none_ w (.cells c.cells 23)))
  have HCR := Lib.hid (fun w' (f : Fr none_ (w.alloc (.cells c.cells 23)) w') (i : Nat) (u : Value) (hu : c.cells[i]? = some u) => show w'.cell? ⟨w.heap.size, i, none⟩ = some u from (((Row.new w c.cells 23).kept f (fun e => e)).cell i).trans hu)
  obtain ⟨sl, hsl⟩ : ∃ sl, sl = 27 + lim := ⟨_, rfl⟩
  have hsi : (27 : Int) + (lim : Int) = (sl : Int) := by omega
  have HN := Lib.hid (fun w' => Ra_New_yes w' sl (by omega) (by omega) (fun k => k < w'.heap.size) (fun k hk => hk))
  have HADD := Lib.hid (fun w1 w2 ar (hb : Bag W Ts w1) (hr : RAt w2 ar none 0 none 0 [] [] (fun _ => 0) (fun k => k < w1.heap.size) 0 (AS.new sl)) (f : Fr none_ w1 w2) => show Bag W (Ts ++ [tRef ar 0 (AS.new sl)]) w2 from
    hb.add (T := tRef ar 0 (AS.new sl)) (F := fun k => w1.heap.size ≤ k ∧ k < w2.heap.size) f ⟨fun k hk => hk.2, RAX.more ⟨_, _, _, _, _, _, _, hr⟩ (fun k hk => by
      by_cases q : k < w1.heap.size
      · exact Or.inl q
      · by_cases q2 : k < w2.heap.size
        · exact absurd ⟨by omega, q2⟩ hk
        · exact Or.inr (by omega))⟩ (fun k hk => hk.1))
  have wv : IntKind.i64.wrap (sl : Int) = (sl : Int) := IntWalk.i64_in _ (by omega)
  rw [← hsl]
  have HC := Lib.hid (show ∀ ar, rcCells c ar none 0 0 = #[.int .i64 c.tasks, .int .i64 c.active, .int .i64 c.keys, .int .i64 c.depth, .int .i64 c.ts, .int .i64 c.keyLen, .int .i64 c.valLen, .int .i64 c.fan, .pointer (some ⟨ar, 0, none⟩), .slice none 0 0] from fun _ => rfl)
  obtain ⟨R, hR⟩ : ∃ R, R = fun ar => rcCells c ar none 0 0 := ⟨_, rfl⟩
  have HRR := Lib.hid (show ∀ ar, rcCells c ar none 0 0 = R ar from fun _ => by rw [hR])
  have HC2 := Lib.hid (show ∀ ar, R ar = #[.int .i64 c.tasks, .int .i64 c.active, .int .i64 c.keys, .int .i64 c.depth, .int .i64 c.ts, .int .i64 c.keyLen, .int .i64 c.valLen, .int .i64 c.fan, .pointer (some ⟨ar, 0, none⟩), .slice none 0 0] from fun ar => by rw [← HRR.out, HC.out])
  unfold CfgV.cells at HM HG HCR ⊢
  unfold tRow17
  simp only [HRR.out]
  obtain ⟨x0, x1, x2, x3, x4, x5, x6, x7⟩ := c
  simp only at hlim HM HG HCR HC2
  subst hlim
  clear h hc hsl hl hR HRR HC
  go_enter Try.func26, Try.ntmps26
  go_wp2_with fail
  refine (HM.out _).mono ?_
  rintro e w1 ⟨rfl, f1⟩
  have HG1 := Lib.hid (HG.out.keep0 f1)
  have k6 := HCR.out _ f1 6 _ rfl
  have F1 := Lib.hid f1
  clear f1
  go_wp2_with fail
  refine (HN.out _).mono ?_
  rintro e w2 ⟨ar, rfl, hr, f2⟩
  have HG2 := Lib.hid (HADD.out _ _ _ HG1.out hr f2)
  clear k6
  have k0 := HCR.out _ (F1.out.trans f2) 0 _ rfl
  have k1 := HCR.out _ (F1.out.trans f2) 1 _ rfl
  have k2 := HCR.out _ (F1.out.trans f2) 2 _ rfl
  have k3 := HCR.out _ (F1.out.trans f2) 3 _ rfl
  have k4 := HCR.out _ (F1.out.trans f2) 4 _ rfl
  have k5 := HCR.out _ (F1.out.trans f2) 5 _ rfl
  have k6 := HCR.out _ (F1.out.trans f2) 6 _ rfl
  have k7 := HCR.out _ (F1.out.trans f2) 7 _ rfl
  clear hr f2
  go_wp2_with fail
  go_ret2
  refine ⟨w2.heap.size, ar, rfl, ?_⟩
  rw [HC2.out]
  exact HG2.out.addRow _ _
theorem bg_r17new_no (h : Bag W Ts w) (c : CfgV) (hc : c.may = false) :
    Calls Try.prog 26 #[.agg c.cells] w fun e w' => e = .returned (.tuple #[.pointer none, .int .i64 1]) ∧ Bag W Ts w' := by
  have HM := Lib.hid (fun w' => R02_May w' c)
  rw [hc] at HM
  have HG := Lib.hid (h.keep0 (Fr.alloc none_ w (.cells c.cells 23)))
  have HCR := Lib.hid (Row.new w c.cells 23)
  unfold CfgV.cells at HM HG HCR ⊢
  clear h hc
  go_enter Try.func26, Try.ntmps26
  go_wp2_with fail
  refine (HM.out _).mono ?_
  rintro e w1 ⟨rfl, f1⟩
  have HG1 := Lib.hid (HG.out.keep0 f1)
  clear f1
  go_wp2_with fail
  go_ret2
  exact ⟨rfl, HG1.out⟩
end
end Go.Proofs.Yteefcfndlggajaa
namespace Go.Proofs.Yteefcfndlggajaa
open Go.RowKit
set_option linter.unusedVariables false
set_option linter.unusedSimpArgs false
set_option maxRecDepth 100000

section
variable {W w : World} {Ts : List Thing} {i j x : Nat} {c : CfgV} {lim N : Nat} {t : CS}
theorem bg_rcopyF {i x N : Nat} {s : AS} (h : Bag W Ts w) (hi : Ts[i]? = some (tRef x N s)) (hw : s.WF) :
    Calls Try.prog 52 #[.pointer (some ⟨x, 0, none⟩)] w fun e w' => ∃ y, e = .returned (.pointer (some ⟨y, 0, none⟩)) ∧ Bag W (Ts ++ [tRef y N s]) w' ∧ Fr none_ w w' := by
  obtain ⟨F, hF, _⟩ := h.get hi
  refine (rax_copy hF.2 hw).mono ?_
  rintro e w' ⟨y, he, h1, f⟩
  refine ⟨y, he, h.add (T := tRef y N s) (F := fun k => w.heap.size ≤ k ∧ k < w'.heap.size) f ⟨fun k hk => hk.2, h1.more (fun k hk => ?_)⟩ (fun k hk => hk.1), f⟩
  by_cases q : k < w.heap.size
  · exact Or.inl q
  · by_cases q2 : k < w'.heap.size
    · exact absurd ⟨by omega, q2⟩ hk
    · exact Or.inr (by omega)
set_option maxHeartbeats 8000000 in
/-- A copy: an arena and a row of its own, the slots shared (they are never written in place). -/
theorem bg_rcopy17 (h : Bag W Ts w) (r : RcIn Ts i j x c lim N t) (hi : t.Is lim N) :
    Calls Try.prog 27 #[.pointer (some ⟨x, 0, none⟩)] w fun e w' => ∃ z k ar ar' la lc L, e = .returned (.pointer (some ⟨z, 0, none⟩)) ∧ RcAt Ts i j x c lim N t k ar la lc L ∧ Bag W (Ts ++ [tRef ar' N t.s.blank] ++ [tRow17 z c ar' la L.length lc]) w' := by
  obtain ⟨k, ar, la, lc, L, r⟩ := r
  have GC := Lib.hid (fun w' (f : Fr none_ w w') => bg_rcopyF (h.keep0 f) r.ref hi.up.wf.blank)
  have HRA := Lib.hid r
  have HR := Lib.hid (h.row r.row)
  unfold rcCells at HR
  obtain ⟨n0, hn0⟩ : ∃ n0, n0 = L.length := ⟨_, rfl⟩
  rw [← hn0] at HR
  have HN0 := Lib.hid hn0
  obtain ⟨y0, y1, y2, y3, y4, y5, y6, y7⟩ := c
  simp only at HR
  have c0 : w.cell? ⟨x, 0, none⟩ = some (.int .i64 y0) := HR.out.cell 0
  have c1 : w.cell? ⟨x, 1, none⟩ = some (.int .i64 y1) := HR.out.cell 1
  have c2 : w.cell? ⟨x, 2, none⟩ = some (.int .i64 y2) := HR.out.cell 2
  have c3 : w.cell? ⟨x, 3, none⟩ = some (.int .i64 y3) := HR.out.cell 3
  have c4 : w.cell? ⟨x, 4, none⟩ = some (.int .i64 y4) := HR.out.cell 4
  have c5 : w.cell? ⟨x, 5, none⟩ = some (.int .i64 y5) := HR.out.cell 5
  have c6 : w.cell? ⟨x, 6, none⟩ = some (.int .i64 y6) := HR.out.cell 6
  have c7 : w.cell? ⟨x, 7, none⟩ = some (.int .i64 y7) := HR.out.cell 7
  have c8 : w.cell? ⟨x, 8, none⟩ = some (.pointer (some ⟨ar, 0, none⟩)) := HR.out.cell 8
  have c9 : w.cell? ⟨x, 9, none⟩ = some (.slice la n0 lc) := HR.out.cell 9
  have fS : Fr none_ w w := Fr.refl _ _
  clear h hi r hn0
  go_enter Try.func27, Try.ntmps27
  go_wp2_with fail
  go_region_held3 (fun w' => Fr none_ w w' ∧ w'.cell? ⟨x, 0, none⟩ = some (.int .i64 y0) ∧ w'.cell? ⟨x, 1, none⟩ = some (.int .i64 y1) ∧ w'.cell? ⟨x, 2, none⟩ = some (.int .i64 y2) ∧ w'.cell? ⟨x, 3, none⟩ = some (.int .i64 y3) ∧ w'.cell? ⟨x, 4, none⟩ = some (.int .i64 y4) ∧ w'.cell? ⟨x, 5, none⟩ = some (.int .i64 y5) ∧ w'.cell? ⟨x, 6, none⟩ = some (.int .i64 y6) ∧ w'.cell? ⟨x, 7, none⟩ = some (.int .i64 y7) ∧ w'.cell? ⟨x, 8, none⟩ = some (.pointer (some ⟨ar, 0, none⟩)) ∧ w'.cell? ⟨x, 9, none⟩ = some (.slice la n0 lc))
    (first | (go_split_ands; refine ⟨?_, ?_, ?_, ?_, ?_, ?_, ?_, ?_, ?_, ?_, ?_⟩; exact Fr.trans (by assumption) f5; all_goals exact Fr.keep f5 (by assumption)) | (go_split_ands; refine ⟨?_, ?_, ?_, ?_, ?_, ?_, ?_, ?_, ?_, ?_, ?_⟩; exact Fr.trans (by assumption) (Fr.drew _ _); all_goals assumption) | (go_split_ands; refine ⟨?_, ?_, ?_, ?_, ?_, ?_, ?_, ?_, ?_, ?_, ?_⟩; exact Fr.trans (by assumption) (Fr.alloc _ _ _); all_goals exact Fr.keep (Fr.alloc none_ _ _) (by assumption)) | go_keep)
    (first | (go_at_call 52; refine (GC.out _ (Fr.drew none_ w)).mono ?_; rintro e w5 ⟨ar', rfl, hb, f5⟩; have HB := Lib.hid hb; clear hb))
  rename_i hh
  clear f5 c0 c1 c2 c3 c4 c5 c6 c7 c8 c9 fS hh
  go_wp2_with fail
  go_ret
  refine ⟨w5.heap.size, k, ar, ar', la, lc, L, rfl, HRA.out, ?_⟩
  rw [← HN0.out]
  exact HB.out.addRow _ _
end
end Go.Proofs.Yteefcfndlggajaa
