/-
  Package chain: New.
  Package chain: an engine in memory; Used, Free.
-/
import Derived.Test.YteefcfndlggajaaTextMay
import Derived.Test.YteefcfndlggajaaArUp
namespace Go.Proofs.Yteefcfndlggajaa
open Go.RowKit
set_option linter.unusedVariables false
set_option linter.unusedSimpArgs false
set_option maxRecDepth 100000

/-- The engine's struct: its config, its arena. -/
def chainCells (c : CfgV) (a : Nat) : Array Value := #[.int .i64 c.tasks, .int .i64 c.active, .int .i64 c.keys, .int .i64 c.depth, .int .i64 c.ts, .int .i64 c.keyLen, .int .i64 c.valLen, .int .i64 c.fan, .pointer (some ⟨a, 0, none⟩)]
set_option maxHeartbeats 2000000 in
theorem Chain_New_no (w : World) (c : CfgV) (h : c.may = false) :
    Calls Try.prog 24 #[.agg c.cells] w fun e w' => e = .returned (.tuple #[.pointer none, .int .i64 1]) ∧ Fr none_ w w' := by
  have GM := Lib.hid (fun w => May_any w c)
  rw [h] at GM
  have fB := Lib.hid (Fr.alloc none_ w (.cells c.cells 23))
  obtain ⟨x0, x1, x2, x3, x4, x5, x6, x7⟩ := c
  unfold CfgV.cells at GM fB ⊢
  simp only at GM fB ⊢
  clear h
  go_enter Try.func24, Try.ntmps24
  go_wp2_with fail
  refine (GM.out _).mono ?_
  rintro e w1 ⟨rfl, f1⟩
  go_wp2_with fail
  go_ret2
  exact ⟨rfl, fB.out.trans f1⟩
set_option maxHeartbeats 2000000 in
theorem Chain_New_yes (w : World) (c : CfgV) (h : c.may = true) (vl : Nat) (hv : c.valLen = vl) (hvl : vl ≤ 256) :
    Calls Try.prog 24 #[.agg c.cells] w fun e w' => ∃ x a F, e = .returned (.tuple #[.pointer (some ⟨x, 0, none⟩), .int .i64 0]) ∧ Row w' x (chainCells c a) 78 ∧ Ar F w' a (AS.new (27 + vl)) ∧ Fr none_ w w' ∧ w.heap.size ≤ x ∧ ¬ F x ∧ ∀ k, F k → w.heap.size ≤ k := by
  have GM := Lib.hid (fun w => May_any w c)
  rw [h] at GM
  have fB := Lib.hid (Fr.alloc none_ w (.cells c.cells 23))
  have GA := Lib.hid (fun w => ar_new w (27 + vl) (by omega) (by omega))
  obtain ⟨sl, hsl⟩ : ∃ sl, sl = 27 + vl := ⟨_, rfl⟩
  have hw1 : IntKind.i64.wrap (27 + (vl : Int)) = (sl : Int) := by rw [show 27 + (vl : Int) = (sl : Int) by omega]; exact IntWalk.i64_in _ (by omega)
  rw [← hsl] at GA ⊢
  unfold chainCells
  obtain ⟨x0, x1, x2, x3, x4, x5, x6, x7⟩ := c
  simp only at hv
  subst hv
  unfold CfgV.cells at GM fB ⊢
  simp only at GM fB ⊢
  have hk6 : ∀ w1, Fr none_ (w.alloc (.cells #[.int .i64 x0, .int .i64 x1, .int .i64 x2, .int .i64 x3, .int .i64 x4, .int .i64 x5, .int .i64 (vl : Int), .int .i64 x7] 23)) w1 → ∀ (j : Nat) (v : Value), #[Value.int .i64 x0, .int .i64 x1, .int .i64 x2, .int .i64 x3, .int .i64 x4, .int .i64 x5, .int .i64 (vl : Int), .int .i64 x7][j]? = some v → w1.cell? ⟨w.heap.size, j, none⟩ = some v := fun w1 f j v hj => Fr.keep f (((Row.new w _ _).cell j).trans hj)
  have HK := Lib.hid hk6
  clear h hsl hk6
  go_enter Try.func24, Try.ntmps24
  go_wp2_with fail
  refine (GM.out _).mono ?_
  rintro e w1 ⟨rfl, f1⟩
  have c6 := HK.out _ f1 6 _ rfl
  go_wp2_with fail
  refine (GA.out _).mono ?_
  rintro e w2 ⟨F, a, rfl, ha, f2, hF⟩
  have f12 := f1.trans f2
  have k0 := HK.out _ f12 0 _ rfl
  have k1 := HK.out _ f12 1 _ rfl
  have k2 := HK.out _ f12 2 _ rfl
  have k3 := HK.out _ f12 3 _ rfl
  have k4 := HK.out _ f12 4 _ rfl
  have k5 := HK.out _ f12 5 _ rfl
  have k6 := HK.out _ f12 6 _ rfl
  have k7 := HK.out _ f12 7 _ rfl
  have HX := Lib.hid (And.intro ha (And.intro (fB.out.trans f12) (And.intro hF (fB.out.trans f1).size)))
  clear ha f1 f2 hF f12 c6
  go_wp2_with fail
  go_ret2
  obtain ⟨ha, hf, hF, hz⟩ := HX.out
  have fa := Fr.alloc none_ w2 (.cells #[.int .i64 x0, .int .i64 x1, .int .i64 x2, .int .i64 x3, .int .i64 x4, .int .i64 x5, .int .i64 (vl : Int), .int .i64 x7, .pointer (some ⟨a, 0, none⟩)] 78)
  exact ⟨_, a, F, rfl, Row.new w2 _ _, ha.kept0 fa, hf.trans fa, hf.size, fun e => Nat.lt_irrefl _ (ha.lt _ e), fun k hk => Nat.le_trans hz (hF k hk)⟩
end Go.Proofs.Yteefcfndlggajaa
namespace Go.Proofs.Yteefcfndlggajaa
open Go.RowKit
set_option linter.unusedVariables false
set_option linter.unusedSimpArgs false
set_option maxRecDepth 100000

/-- An engine at x, of a config, over an arena at a that owns the blocks F. -/
structure ChAt (w : World) (x a : Nat) (F : Nat → Prop) (c : CfgV) (s : AS) : Prop where
  row : Row w x (chainCells c a) 78
  ar : Ar F w a s
  nx : ¬ F x
section
variable {w w' : World} {x a : Nat} {F F' : Nat → Prop} {c : CfgV} {s s' : AS}
theorem ChAt.arena (h : ChAt w x a F c s) : w.cell? ⟨x, 8, none⟩ = some (.pointer (some ⟨a, 0, none⟩)) := (h.row.cell 8).trans rfl
theorem ChAt.vlen (h : ChAt w x a F c s) : w.cell? ⟨x, 6, none⟩ = some (.int .i64 c.valLen) := (h.row.cell 6).trans rfl
theorem ChAt.kept0 (h : ChAt w x a F c s) (f : Fr none_ w w') : ChAt w' x a F c s := ⟨h.row.kept f (fun e => e), h.ar.kept0 f, h.nx⟩
theorem ChAt.turn (h : ChAt w x a F c s) (ha : Ar F' w' a s') (f : Fr F w w') (g : Grow F F' w) : ChAt w' x a F' c s' := ⟨h.row.kept f h.nx, ha, fun e => by
  rcases g x e with q | q
  · exact h.nx q
  · have := h.row.lt; omega⟩
theorem Chain_Used (h : ChAt w x a F c s) : Calls Try.prog 16 #[.pointer (some ⟨x, 0, none⟩)] w fun e w' => e = .returned (.int .i64 (s.used : Int)) ∧ w = w' := by
  have GU := Lib.hid (ar_used h.ar)
  have c8 := h.arena
  clear h
  go_enter Try.func16, Try.ntmps16
  go_wp2_with fail
  refine GU.out.mono ?_
  rintro e w1 ⟨rfl, rfl⟩
  go_wp2_with fail
  go_ret
  exact ⟨rfl, rfl⟩
theorem Chain_Free {N : Nat} (h : ChAt w x a F c s) (hu : Upto N s) (hN : N < big) {hd : Nat} (hh : hd < 18446744073709551616) : Calls Try.prog 17 #[.pointer (some ⟨x, 0, none⟩), .int .u64 (hd : Int)] w fun e w' => e = .returned (.int .i64 ((aFree s hd).1 : Int)) ∧ ChAt w' x a F c (aFree s hd).2 ∧ Fr F w w' := by
  have GU := Lib.hid (ar_free h.ar hu hN hh)
  have c8 := h.arena
  have H := Lib.hid h
  clear h
  generalize (aFree s hd).2 = s1 at GU ⊢
  generalize (aFree s hd).1 = E at GU ⊢
  go_enter Try.func17, Try.ntmps17
  go_wp2_with fail
  refine GU.out.mono ?_
  rintro e w1 ⟨rfl, ha, f1⟩
  have HX := Lib.hid (And.intro ha f1)
  clear ha f1
  go_wp2_with fail
  go_ret
  exact ⟨rfl, H.out.turn HX.out.1 HX.out.2 (Grow.refl _ _), HX.out.2⟩
end
end Go.Proofs.Yteefcfndlggajaa
