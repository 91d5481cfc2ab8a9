/-
  Package chain: Copy; the methods on nobody's engine.
  'for x := range seq { .. }' where the iterator writes cells of its own between the rounds ('SeqFor', 'range_for'): by frames. Nothing of the program in it.
  Package chain: what nodes hands back: the versions behind a handle, one behind the other.
  Package chain: List.
-/
import Derived.Test.YteefcfndlggajaaCnOps
import Derived.Test.YteefcfndlggajaaArenaCopy
import Derived.Test.YteefcfndlggajaaMgSlice
import Derived.OwnWalkIn
import Derived.RangeFuncNested
import Derived.RangeFuncBound
import Derived.RangeFuncCalls
import Derived.RangeFuncLeaves
import Derived.Shelf.Abstract
import Derived.Shelf.RegionOpen
import Derived.TacticsInMore
import Derived.LoopNIn
import Derived.LoopIn
namespace Go.Proofs.Yteefcfndlggajaa
open Go.RowKit
set_option linter.unusedVariables false
set_option linter.unusedSimpArgs false
set_option maxRecDepth 100000

theorem ar_copy {w : World} {F : Nat → Prop} {x : Nat} {s : AS} {N : Nat} (h : Ar F w x s) (hu : Upto N s) :
    Calls Try.prog 44 #[.pointer (some ⟨x, 0, none⟩)] w fun e w' => ∃ G y, e = .returned (.pointer (some ⟨y, 0, none⟩)) ∧ Ar G w' y s ∧ Fr none_ w w' ∧ ∀ k, G k → w.heap.size ≤ k := by
  obtain ⟨m, pa, cap, ps, h, rfl⟩ := h
  refine (Arena_Copy h hu.wf.len).mono ?_
  rintro e w1 ⟨x', m', pa', cap', ps', he, h1, h2, h3⟩
  exact ⟨_, x', he, ⟨m', pa', cap', ps', h1, rfl⟩, h2, h3⟩
section
variable {w : World} {x a N vl : Nat} {F G : Nat → Prop} {c : CfgV} {s : AS} {t : CS}
set_option maxHeartbeats 4000000 in
theorem Chain_Copy (h : ChAt w x a F c s) (hu : Upto N s) :
    Calls Try.prog 21 #[.pointer (some ⟨x, 0, none⟩)] w fun e w' => ∃ y b F', e = .returned (.pointer (some ⟨y, 0, none⟩)) ∧ ChAt w' y b F' c s ∧ Fr none_ w w' ∧ w.heap.size ≤ y ∧ ∀ k, F' k → w.heap.size ≤ k := by
  have GC := Lib.hid (fun w' (f : Fr none_ w w') => ar_copy (h.kept0 f).ar hu)
  have HR := Lib.hid h.row
  unfold chainCells at HR
  obtain ⟨y0, y1, y2, y3, y4, y5, y6, y7⟩ := c
  simp only at HR
  have c0 : w.cell? ⟨x, 0, none⟩ = some (.int .i64 y0) := HR.out.cell 0
  have c1 : w.cell? ⟨x, 1, none⟩ = some (.int .i64 y1) := HR.out.cell 1
  have c2 : w.cell? ⟨x, 2, none⟩ = some (.int .i64 y2) := HR.out.cell 2
  have c3 : w.cell? ⟨x, 3, none⟩ = some (.int .i64 y3) := HR.out.cell 3
  have c4 : w.cell? ⟨x, 4, none⟩ = some (.int .i64 y4) := HR.out.cell 4
  have c5 : w.cell? ⟨x, 5, none⟩ = some (.int .i64 y5) := HR.out.cell 5
  have c6 : w.cell? ⟨x, 6, none⟩ = some (.int .i64 y6) := HR.out.cell 6
  have c7 : w.cell? ⟨x, 7, none⟩ = some (.int .i64 y7) := HR.out.cell 7
  have c8 : w.cell? ⟨x, 8, none⟩ = some (.pointer (some ⟨a, 0, none⟩)) := HR.out.cell 8
  have fS : Fr none_ w w := Fr.refl _ _
  clear h hu
  go_enter Try.func21, Try.ntmps21
  go_wp2_with fail
  go_region_held3 (fun w' => Fr none_ w w' ∧ w'.cell? ⟨x, 0, none⟩ = some (.int .i64 y0) ∧ w'.cell? ⟨x, 1, none⟩ = some (.int .i64 y1) ∧ w'.cell? ⟨x, 2, none⟩ = some (.int .i64 y2) ∧ w'.cell? ⟨x, 3, none⟩ = some (.int .i64 y3) ∧ w'.cell? ⟨x, 4, none⟩ = some (.int .i64 y4) ∧ w'.cell? ⟨x, 5, none⟩ = some (.int .i64 y5) ∧ w'.cell? ⟨x, 6, none⟩ = some (.int .i64 y6) ∧ w'.cell? ⟨x, 7, none⟩ = some (.int .i64 y7) ∧ w'.cell? ⟨x, 8, none⟩ = some (.pointer (some ⟨a, 0, none⟩)))
    (first | (go_split_ands; refine ⟨?_, ?_, ?_, ?_, ?_, ?_, ?_, ?_, ?_, ?_⟩; exact Fr.trans (by assumption) f5; all_goals exact Fr.keep f5 (by assumption)) | (go_split_ands; refine ⟨?_, ?_, ?_, ?_, ?_, ?_, ?_, ?_, ?_, ?_⟩; exact Fr.trans (by assumption) (Fr.drew _ _); all_goals assumption) | (go_split_ands; refine ⟨?_, ?_, ?_, ?_, ?_, ?_, ?_, ?_, ?_, ?_⟩; exact Fr.trans (by assumption) (Fr.alloc _ _ _); all_goals exact Fr.keep (Fr.alloc none_ _ _) (by assumption)) | go_keep)
    (first | (go_at_call 44; refine (GC.out _ (Fr.drew none_ w)).mono ?_; rintro e w5 ⟨F', b, rfl, hb, f5, hF⟩; have HB := Lib.hid hb; have HF := Lib.hid hF; clear hb hF))
  rename_i hh
  have f6 := hh.1
  clear hh
  have fd := f5
  clear f5 c0 c1 c2 c3 c4 c5 c6 c7 c8 fS
  have HX := Lib.hid (And.intro f6 fd)
  clear f6 fd
  go_wp2_with fail
  go_ret
  obtain ⟨f6, fd⟩ := HX.out
  have fa := Fr.alloc none_ w5 (.cells #[.int .i64 y0, .int .i64 y1, .int .i64 y2, .int .i64 y3, .int .i64 y4, .int .i64 y5, .int .i64 y6, .int .i64 y7, .pointer (some ⟨b, 0, none⟩)] 78)
  exact ⟨_, b, F', rfl, ⟨Row.new w5 _ _, HB.out.kept0 fa, fun e => Nat.lt_irrefl _ (HB.out.lt _ e)⟩, f6, ((Fr.drew none_ w).trans fd).size, HF.out⟩
theorem cn_copy (h : Cn G w x c vl N t) : Calls Try.prog 21 #[.pointer (some ⟨x, 0, none⟩)] w fun e w' => ∃ y G', e = .returned (.pointer (some ⟨y, 0, none⟩)) ∧ Cn G' w' y c vl N t ∧ Fr none_ w w' ∧ ∀ k, G' k → w.heap.size ≤ k := by
  obtain ⟨a, F, h, rfl⟩ := h
  refine (Chain_Copy h.at_ h.is_.up).mono ?_
  rintro e w1 ⟨y, b, F', he, h1, f1, hy, hF⟩
  exact ⟨y, _, he, ⟨b, F', ⟨h1, h.is_, h.lim, h.cfg⟩, rfl⟩, f1, fun k hk => by
    rcases hk with rfl | q
    · exact hy
    · exact hF k q⟩
end

/-! ### nobody's engine -/
theorem nil_read (w : World) (hd : Int) : Calls Try.prog 12 #[.pointer none, .int .u64 hd] w fun e w' => e = .returned (.tuple #[.agg nodeZero, .bool false]) ∧ Fr none_ w w' := by
  have RA := Lib.hid (Row.new w nodeZero 36)
  have FA := Lib.hid (Fr.alloc none_ w (.cells nodeZero 36))
  have fin : ∀ w2, Row w2 w.heap.size nodeZero 36 → w2.cell? ⟨w.heap.size, 0, none⟩ = some (.int .i64 0) ∧ w2.cell? ⟨w.heap.size, 1, none⟩ = some (.int .i64 0) ∧ w2.cell? ⟨w.heap.size, 2, none⟩ = some (.bool false) ∧ w2.cell? ⟨w.heap.size, 3, none⟩ = some (.string ⟨#[]⟩) ∧ w2.cell? ⟨w.heap.size, 4, none⟩ = some (.int .u64 0) := fun w2 R => ⟨R.cell 0, R.cell 1, R.cell 2, R.cell 3, R.cell 4⟩
  have FIN := Lib.hid fin
  clear fin
  go_enter Try.func12, Try.ntmps12
  go_wp2_with ((with_reducible refine at_storeOf 36 ?_); refine wpStoreRow rfl _ _ _ rfl RA.out rfl rfl (by kernel_rfl) rfl (by simp [nodeZero, Value.oneCell']) ?_; intro w2 R2 f2; obtain ⟨c0, c1, c2, c3, c4⟩ := FIN.out _ R2; have F2 := Lib.hid f2; clear f2 R2)
  refine bodyPost_ret (v := .tuple #[.agg nodeZero, .bool false]) (by simp [results, Try.results12, go_sem, c0, c1, c2, c3, c4, nodeZero]) rfl ⟨rfl, ?_⟩
  exact FA.out.step F2.out (fun i hi e => by unfold one at e; omega)
theorem nil_make (w : World) (v : VerV) (nx : Int) : Calls Try.prog 22 #[.pointer none, .agg v.cells, .int .u64 nx] w fun e w' => e = .returned (.tuple #[.int .u64 0, .int .i64 2]) ∧ Fr none_ w w' := by
  have FB := Lib.hid (Fr.alloc none_ w (.cells v.cells 32))
  unfold VerV.cells at FB ⊢
  go_enter Try.func22, Try.ntmps22
  go_wp2_with fail
  go_ret2
  exact ⟨rfl, FB.out⟩
theorem nil_turn (w : World) (hd : Int) (fv : Value) : Calls Try.prog 40 #[.pointer none, .int .u64 hd, fv] w fun e w' => e = .returned (.int .i64 2) ∧ Fr none_ w w' := by
  have HRD := Lib.hid (nil_read w hd)
  go_enter Try.func40, Try.ntmps40
  go_wp2_with fail
  refine HRD.out.mono ?_
  rintro e w1 ⟨rfl, f1⟩
  obtain ⟨g, hg⟩ : ∃ g, g = w1.heap.size := ⟨_, rfl⟩
  have FA := Lib.hid (f1.trans (Fr.alloc none_ w1 (.cells nodeZero 36)))
  have HGS := Lib.hid (show w.heap.size ≤ g by rw [hg]; exact f1.size)
  have RA := Lib.hid (show Row (w1.alloc (.cells nodeZero 36)) g nodeZero 36 by rw [hg]; exact Row.new w1 _ _)
  have HG := Lib.hid hg.symm
  clear f1 hg
  go_wp2_with ((with_reducible refine at_storeOf 36 ?_); rw [HG.out]; refine wpStoreRow (cs' := nodeZero) rfl _ _ _ rfl RA.out rfl rfl (by kernel_rfl) rfl (by simp [nodeZero, Value.oneCell']) ?_; intro w2 R2 f2; have F2 := Lib.hid f2; clear f2 R2)
  go_ret
  exact ⟨rfl, FA.out.step F2.out (fun i hi e => by have := HGS.out; unfold one at e; omega)⟩
theorem nil_change (w : World) (v : VerV) (hd : Int) : Calls Try.prog 18 #[.pointer none, .int .u64 hd, .agg v.cells] w fun e w' => e = .returned (.int .i64 2) ∧ Fr none_ w w' := by
  have HT := Lib.hid (fun w' fv => nil_turn w' hd fv)
  have FB := Lib.hid (Fr.alloc none_ w (.cells v.cells 32))
  unfold VerV.cells at FB ⊢
  go_enter Try.func18, Try.ntmps18
  go_wp2_with fail
  refine (HT.out _ _).mono ?_
  rintro e w2 ⟨rfl, f2⟩
  have F2 := Lib.hid f2
  clear f2
  go_wp2_with fail
  go_ret
  exact ⟨rfl, FB.out.trans F2.out⟩
theorem nil_stamp (w : World) (ts : Int) (hd : Int) : Calls Try.prog 19 #[.pointer none, .int .u64 hd, .int .i64 ts] w fun e w' => e = .returned (.int .i64 2) ∧ Fr none_ w w' := by
  have HT := Lib.hid (fun w' fv => nil_turn w' hd fv)
  have FB := Lib.hid (Fr.alloc none_ w (.cells #[.int .i64 ts] 3))
  go_enter Try.func19, Try.ntmps19
  go_wp2_with fail
  refine (HT.out _ _).mono ?_
  rintro e w2 ⟨rfl, f2⟩
  have F2 := Lib.hid f2
  clear f2
  go_wp2_with fail
  go_ret
  exact ⟨rfl, FB.out.trans F2.out⟩
theorem nil_cut (w : World) (hd : Int) : Calls Try.prog 20 #[.pointer none, .int .u64 hd] w fun e w' => e = .returned (.int .i64 2) ∧ Fr none_ w w' := by
  have HT := Lib.hid (fun w' fv => nil_turn w' hd fv)
  go_enter Try.func20, Try.ntmps20
  go_wp2_with fail
  refine (HT.out _ _).mono ?_
  rintro e w2 ⟨rfl, f2⟩
  have F2 := Lib.hid f2
  clear f2
  go_wp2_with fail
  go_ret
  exact ⟨rfl, F2.out⟩
theorem nil_free (w : World) (hd : Int) : Calls Try.prog 17 #[.pointer none, .int .u64 hd] w fun e w' => e = .returned (.int .i64 2) ∧ w = w' := by
  go_enter Try.func17, Try.ntmps17
  go_wp2_with fail
  go_ret
  exact ⟨rfl, rfl⟩
theorem nil_used (w : World) : Calls Try.prog 16 #[.pointer none] w fun e w' => e = .returned (.int .i64 0) ∧ w = w' := by
  go_enter Try.func16, Try.ntmps16
  go_wp2_with fail
  go_ret
  exact ⟨rfl, rfl⟩
theorem nil_copy (w : World) : Calls Try.prog 21 #[.pointer none] w fun e w' => e = .returned (.pointer none) ∧ w = w' := by
  go_enter Try.func21, Try.ntmps21
  go_wp2_with fail
  go_ret
  exact ⟨rfl, rfl⟩
end Go.Proofs.Yteefcfndlggajaa
namespace Go.Proofs.Yteefcfndlggajaa
open Go.RowKit
set_option linter.unusedVariables false
set_option linter.unusedSimpArgs false
variable {P : Program} {F : Fence} {n : Nat}

/-- A round leaves alone what the iterator owns (Z), and what it has made since the round before. -/
def Kept (Z : Nat → Prop) (W0 W1 W' : World) : Prop := ∀ k, (W0.heap.size ≤ k ∨ Z k) → k < W1.heap.size → W'.heap[k]? = W1.heap[k]?
/-- The iterator tells xs, one behind the other; it writes Z alone; of what is not its own it needs B. -/
def SeqFor {α : Type} (F : Fence) (n : Nat) (P : Program) (g : Nat) (lb : Array Value) (encs : α → Array Value) (Z : Nat → Prop) (B : World → Prop) (xs : List α) (w : World) : Prop :=
  ∀ (l : Nat) (J Jx : List α → World → Prop),
    (∀ s W W', J s W → Fr Z W W' → J s W') → (∀ s W W', Jx s W → Fr Z W W' → Jx s W') → (∀ s W, J s W → B W) →
    (∀ pre x rest W0 W1, xs = pre ++ x :: rest → J pre W0 → Fr Z W0 W1 → YieldAt F (n - 1) P l (encs x) W1 fun e W' =>
      (e = .returned (.bool true) ∧ J (pre ++ [x]) W' ∧ Kept Z W0 W1 W') ∨ (e = .returned (.bool false) ∧ Jx (pre ++ [x]) W')) →
    J [] w →
    CallsIn F n P g (#[.func (.yield l) #[] #[]] ++ lb) w fun e W' => (∃ v, e = .returned v) ∧ (J xs W' ∨ ∃ pre, pre <+: xs ∧ Jx pre W')
/-- The loop's two blocks of book-keeping stay. -/
def Rec (D : Nat) (W W' : World) : Prop := W'.heap[D]? = W.heap[D]? ∧ W'.heap[D + 1]? = W.heap[D + 1]?
def Yof (Z : Nat → Prop) (D : Nat) : Nat → Prop := fun k => Z k ∨ k = D ∨ k = D + 1
def forPost {α : Type} (D : Nat) (Z : Nat → Prop) (I : List α → World → Prop) (Ix : Code → List α → World → Prop) (xs : List α) (W0 W1 W : World) : Exit → Act → World → Prop
  | .normal, _, W' => Rec D W W' ∧ I xs W' ∧ Kept Z W0 W1 W'
  | .ret, _, W' => Rec D W W' ∧ Ix .ret xs W'
  | .exit id, _, W' => Rec D W W' ∧ Ix (.exit id) xs W'
  | .goto t, _, W' => Rec D W W' ∧ Ix (.goto t) xs W'
  | .panic _, _, _ => False
  | .outgrown, _, _ => False

theorem Fr.putObj (W : World) (l : Nat) (o : Obj) : Fr (one l) W (W.putObj l o) :=
  Fr.grown (grownBy_putObj' W l o) _ (fun k e _ => by cases e; rfl)
theorem Rec.of_fr {D : Nat} {G : Nat → Prop} {W W' : World} (f : Fr G W W') (h : D + 1 < W.heap.size) (h0 : ¬ G D) (h1 : ¬ G (D + 1)) : Rec D W W' :=
  ⟨f.block _ (by omega) h0, f.block _ h h1⟩
theorem Rec.trans {D : Nat} {A B C : World} (h : Rec D A B) (k : Rec D B C) : Rec D A C := ⟨k.1.trans h.1, k.2.trans h.2⟩

theorem range_for {α : Type} {g : Operand} {ps : Array Tmp} {assign body : Code} {Q : Exit → Act → World → Prop} {a : Act} {w : World}
    (hro : F.round = none) (h1 : 1 ≤ n) {gf : Nat} {lb : Array Value} (hg : a.eval g = .func (.func gf) #[] lb) (hFg : F.fn gf) (eg : ∀ args w, (callFunc gf args).run P w = .ok (.enter gf args) w)
    {encs : α → Array Value} {Z : Nat → Prop} {B : World → Prop} {xs : List α} (hps : ∀ x, (encs x).size = ps.size) (hZ : ∀ k, Z k → k < w.heap.size)
    (hseq : ∀ W, Fr none_ w W → SeqFor F (n - 1) P gf lb encs Z B xs W)
    (I : List α → World → Prop) (Ix : Code → List α → World → Prop) (hI : ∀ s W W', I s W → Fr (Yof Z w.heap.size) W W' → I s W') (hIx : ∀ c s W W', Ix c s W → Fr (Yof Z w.heap.size) W W' → Ix c s W')
    (hIB : ∀ s W, I s W → B W) (h0 : I [] w)
    (hround : ∀ (l : Nat) (pre : List α) (x : α) (rest : List α) (W0 W1 : World), xs = pre ++ x :: rest → I pre W0 → Fr Z W0 W1 → w.heap.size + 2 ≤ W0.heap.size →
      assign.wpIn (F.inRound l) (n - 1 - 1) P (Exit.then (fun a₁ W2 => Rec w.heap.size W1 W2 ∧ ∀ W3, Fr (one (w.heap.size + 1)) W2 W3 → W3.heap.size = W2.heap.size →
        body.wpIn (F.inRound l) (n - 1 - 1) P (forPost w.heap.size Z I Ix (pre ++ [x]) W0 W1 W3) a₁ W3) (fun _ _ _ => False)) { tmps := (ps.zip (encs x)).foldl (fun t (p, v) => t.setIfInBounds p v) a.tmps, defers := [] } W1)
    (hdone : ∀ W, w.heap.size + 2 ≤ W.heap.size → I xs W → W.heap[w.heap.size]? = some (.deferred (some [])) → Q .normal { a with defers := { target := .collected w.heap.size, args := #[] } :: a.defers } W)
    (hstop : ∀ c pre W, w.heap.size + 2 ≤ W.heap.size → pre <+: xs → Ix c pre W → W.heap[w.heap.size]? = some (.deferred (some [])) → c.wpIn F n P Q { a with defers := { target := .collected w.heap.size, args := #[] } :: a.defers } W) :
    (Code.rangeFunc g ps assign body).wpIn F n P Q a w := by
  refine wpIn_rangeFunc fun fn hfn => ?_
  rw [hro]
  obtain ⟨D, hD⟩ : ∃ D, D = w.heap.size := ⟨_, rfl⟩
  rw [← hD] at hZ hI hIx hround hdone hstop
  obtain ⟨rc, hrc⟩ : ∃ rc : LoopState → Option Code → Loop, rc = fun st pe => { state := st, pending := pe, fn, tmps := a.tmps, params := ps, assign, body, defers := D } := ⟨_, rfl⟩
  obtain ⟨W1, hW1⟩ : ∃ W1, (w.alloc (.deferred (some []))).alloc (.loop (rc .ready none)) = W1 := ⟨_, rfl⟩
  have hfw : Fr none_ w W1 := by rw [← hW1]; exact (Fr.alloc none_ w _).alloc_r _
  have hL1 : W1.heap[D + 1]? = some (.loop (rc .ready none)) := by
    rw [← hW1, hD]; have := World.alloc_heap_new (w.alloc (.deferred (some []))) (.loop (rc .ready none)); rwa [World.size_alloc] at this
  have hK1 : W1.heap[D]? = some (.deferred (some [])) := by
    rw [← hW1, hD]; exact (Below.heap_alloc _ _ _ (by simp)).trans (World.alloc_heap_new w _)
  have n0 : ¬ Z D := fun e => by have := hZ _ e; omega
  have n1 : ¬ Z (D + 1) := fun e => by have := hZ _ e; omega
  have yo : ∀ k, k = D + 1 → Yof Z D k := fun k e => Or.inr (Or.inr e)
  have ltL : ∀ {W : World} {o : Obj}, W.heap[D + 1]? = some o → D + 1 < W.heap.size := fun h => (Array.getElem?_eq_some_iff.1 h).1
  refine ⟨D + 1, [{ target := .collected D, args := #[] }], W1, { target := .fn (.func gf) lb, args := #[.func (.yield (D + 1)) #[] #[]] }, W1, gf,
    #[.func (.yield (D + 1)) #[] #[]] ++ lb, W1, ?_, ?_, ?_, ?_, fun _ => h1, ?_⟩
  · rw [← hW1, hrc, hD]; exact run_enterLoop_outer _ _ _ _ _
  · simp only [resolve, hg]
    simp [go_sem]
  · intro f' hf'; simp [Target.leads] at hf'; subst hf'; exact hFg
  · simp [invoke, go_sem, eg]
  · refine (hseq W1 hfw (D + 1)
      (fun pre W => I pre W ∧ W.heap[D + 1]? = some (.loop (rc .ready none)) ∧ W.heap[D]? = some (.deferred (some [])))
      (fun pre W => ∃ c, Ix c pre W ∧ W.heap[D + 1]? = some (.loop (rc .done (some c))) ∧ W.heap[D]? = some (.deferred (some [])))
      (fun s A B hs f => ⟨hI s A B hs.1 (f.mono fun k _ e => Or.inl e), (f.block _ (ltL hs.2.1) n1).trans hs.2.1, (f.block _ (by have := ltL hs.2.1; omega) n0).trans hs.2.2⟩)
      (fun s A B ⟨c, hs, hl, hk⟩ f => ⟨c, hIx c s A B hs (f.mono fun k _ e => Or.inl e), (f.block _ (ltL hl) n1).trans hl, (f.block _ (by have := ltL hl; omega) n0).trans hk⟩)
      (fun s W hs => hIB s W hs.1) ?_ ⟨hI [] w W1 h0 hfw.none, hL1, hK1⟩).mono ?_
    · rintro pre x rest W0 W ex ⟨hi, hl0, hk0⟩ f01
      have hl : W.heap[D + 1]? = some (.loop (rc .ready none)) := (f01.block _ (ltL hl0) n1).trans hl0
      have hk : W.heap[D]? = some (.deferred (some [])) := (f01.block _ (by have := ltL hl0; omega) n0).trans hk0
      have hy := run_yield (P := P) (args := encs x) hl (by rw [hrc]; exact hps x)
      rw [hrc] at hy
      refine ⟨fn, _, assign, body, hy, roundIn_of_wpIn hfn (wpIn_mono (hround (D + 1) pre x rest W0 W ex hi f01 (by have := ltL hl0; omega)) ?_)⟩
      intro e a₁ W2 hp
      cases e with
      | normal =>
        obtain ⟨hr, hb⟩ := hp
        have hl2 : W2.heap[D + 1]? = some (.loop (rc .ready none)) := hr.2.trans hl
        have hk2 : W2.heap[D]? = some (.deferred (some [])) := hr.1.trans hk
        refine ⟨_, run_beginRound hl2 (by rw [hrc]), ?_⟩
        obtain ⟨W3, hW3⟩ : ∃ W3, W3 = W2.putObj (D + 1) (.loop { rc .ready none with state := .busy }) := ⟨_, rfl⟩
        have f3 : Fr (one (D + 1)) W2 W3 := by rw [hW3]; exact Fr.putObj _ _ _
        have hl3 : W3.heap[D + 1]? = some (.loop { rc .ready none with state := .busy }) := by rw [hW3]; exact World.putObj_heap_same (ltL hl2)
        have hk3 : W3.heap[D]? = some (.deferred (some [])) := (f3.block _ (by have := ltL hl2; omega) (fun e => by unfold one at e; omega)).trans hk2
        rw [← hW3]
        refine wpIn_mono (hb W3 f3 (by rw [hW3]; simp)) ?_
        have fin : ∀ (jump : Option Code) (W' : World), Rec D W3 W' →
            (Instr.endRound (D + 1) jump).run P W' = .ok (.bool jump.isNone) (W'.putObj (D + 1) (.loop (rc (if jump.isNone then .ready else .done) jump))) ∧
            (W'.putObj (D + 1) (.loop (rc (if jump.isNone then .ready else .done) jump))).heap[D + 1]? = some (.loop (rc (if jump.isNone then .ready else .done) jump)) ∧
            (W'.putObj (D + 1) (.loop (rc (if jump.isNone then .ready else .done) jump))).heap[D]? = some (.deferred (some [])) := fun jump W' hr => by
          have hl4 := hr.2.trans hl3
          have hk4 := hr.1.trans hk3
          have := run_endRound (P := P) jump hl4
          rw [hrc] at this ⊢
          exact ⟨this, World.putObj_heap_same (ltL hl4), (World.putObj_heap_other (by omega)).trans hk4⟩
        have hfr : ∀ (W' : World) (o : Obj), Fr (Yof Z D) W' (W'.putObj (D + 1) o) := fun W' o => (Fr.putObj W' (D + 1) o).mono fun k _ e => yo k e
        rintro e a3 W4 hp
        cases e with
        | normal =>
          obtain ⟨h1, h2, h3⟩ := hp
          obtain ⟨q1, q2, q3⟩ := fin none W4 h1
          refine ⟨_, _, q1, .inl ⟨rfl, ⟨hI _ _ _ h2 (hfr _ _), q2, q3⟩, fun k hk5 hlt => ?_⟩⟩
          have hne : k ≠ D + 1 := fun e => by
            rcases hk5 with q | q
            · have := ltL hl0; omega
            · exact n1 (e ▸ q)
          exact (World.putObj_heap_other (by omega)).trans (h3 k hk5 hlt)
        | ret =>
          obtain ⟨h1, h2⟩ := hp
          obtain ⟨q1, q2, q3⟩ := fin (some .ret) W4 h1
          exact ⟨_, _, q1, .inr ⟨rfl, .ret, hIx _ _ _ _ h2 (hfr _ _), q2, q3⟩⟩
        | exit id =>
          obtain ⟨h1, h2⟩ := hp
          obtain ⟨q1, q2, q3⟩ := fin (some (.exit id)) W4 h1
          exact ⟨_, _, q1, .inr ⟨rfl, .exit id, hIx _ _ _ _ h2 (hfr _ _), q2, q3⟩⟩
        | goto t =>
          obtain ⟨h1, h2⟩ := hp
          obtain ⟨q1, q2, q3⟩ := fin (some (.goto t)) W4 h1
          exact ⟨_, _, q1, .inr ⟨rfl, .goto t, hIx _ _ _ _ h2 (hfr _ _), q2, q3⟩⟩
        | panic ch => exact hp.elim
        | outgrown => exact hp.elim
      | ret => exact hp.elim
      | exit id => exact hp.elim
      | goto t => exact hp.elim
      | panic ch => exact hp.elim
      | outgrown => exact hp.elim
    · skip
      rintro e W2 ⟨⟨v, rfl⟩, (⟨hi, hl, hk⟩ | ⟨pre, hp, c, hi, hl, hk⟩)⟩
      · have hlt := ltL hl
        refine ⟨none, _, by have := run_endLoop (P := P) hl (by rw [hrc]; simp); rw [hrc] at this; exact this, hdone _ (by simp; omega) (hI _ _ _ hi ((Fr.putObj W2 (D + 1) _).mono fun k _ e => yo k e)) ((World.putObj_heap_other (by omega)).trans hk)⟩
      · have hlt := ltL hl
        refine ⟨some c, _, by have := run_endLoop (P := P) hl (by rw [hrc]; simp); rw [hrc] at this; exact this, hstop c pre _ (by simp; omega) hp (hIx _ _ _ _ hi ((Fr.putObj W2 (D + 1) _).mono fun k _ e => yo k e)) ((World.putObj_heap_other (by omega)).trans hk)⟩
theorem wpAppendIn {w : World} {ops : Array Oper} {rest : List Oper} {o : Oper} {a : Act} {Q : Exit → Act → World → Prop} (hg : o.guard = none) (s x : Operand) (t : TypeId) (hop : o.op = Op.call { callee := Callee.builtin Builtin.append, args := #[s, x], argTypes := #[t, t] }) (e : TypeId) (z : Value) (size bytes : Nat) (ht : P.underlying t = some (.slice e)) (hinfo : (P.info? e).map (fun i => (i.zero, i.size, i.bytes)) = some (some z, size, bytes))
    (hzs : z.cells.size = size) {sa : Option Addr} {k cap : Nat} {xs : List Value} (h : SlAt w sa k cap e size xs) (hs : a.eval s = .slice sa k cap)
    (ad : Addr) (m c : Nat) (news : List Value) (hx : a.eval x = .slice (some ad) m c) (hl : news.length = m * size) (hnews : ∀ j u, news[j]? = some u → w.cell? (ad.add j) = some u) (h1 : ∀ u ∈ news, u.oneCell' = true)
    (hm : 0 < m) (h63 : k + m ≤ maxLen) (hbytes : (k + m) * bytes ≤ 140737488355328)
    (hK : ∀ a' cap' w', SlAt w' a' (k + m) cap' e size (xs ++ news) → Fr (blk sa) w w' → (∀ j, blk a' j → blk sa j ∨ w.heap.size ≤ j) → wpListIn F n P ops Q rest (a.put o.dst (.slice a' (k + m) cap')) w') : wpListIn F n P ops Q (o :: rest) a w := by
  refine wpListIn_plain hg fun K hK' => ?_
  obtain ⟨a', cap', w', hrun, r1, r2, r3⟩ := run_append_at (P := P) t o.type e z size bytes ht hinfo hzs h ad m c news hl hnews h1 hm h63 hbytes
  unfold Oper.wpIn
  refine ⟨?_, ?_⟩
  · simp [Oper.about, hop, resolve, Target.leads, Sem.run_pure]
  · rw [Oper.semAt_plain F _ _ (by rw [hop]; intro c hc'; cases hc')]
    simp [execOp, hop, resolve, invoke, builtin, hs, hx, hrun, Result.andThen]
    exact hK' _ _ (hK a' cap' w' r1 r2 r3)
/-- To stop a walk at an operation: '(gi_at_builtin; refine Stop.mk ?_)', then 'show wpListIn _ _ _ _ _ _ _ _'. -/
theorem new_cells (W : World) (cs : List Value) (t : TypeId) : ∀ (j : Nat) (u : Value), cs[j]? = some u → (W.alloc (.cells cs.toArray t)).cell? ((⟨W.heap.size, 0, none⟩ : Addr).add j) = some u := fun j u hj => by
  rw [Addr.add_lit, Nat.zero_add, (Row.new W cs.toArray t).cell j]; simpa using hj
end Go.Proofs.Yteefcfndlggajaa
namespace Go.Proofs.Yteefcfndlggajaa
open Go.RowKit Go.Shelf
set_option linter.unusedVariables false
set_option linter.unusedSimpArgs false
set_option maxRecDepth 100000

def cWalk (f : Nat → Option NV) : Nat → Nat → List NV
  | 0, _ => []
  | k + 1, h => match f h with
    | none => []
    | some n => n :: cWalk f k n.nx
theorem cWalk_none {f : Nat → Option NV} {k h : Nat} (e : f h = none) : cWalk f k h = [] := by
  cases k with
  | zero => rfl
  | succ k => unfold cWalk; rw [e]
theorem cWalk_some {f : Nat → Option NV} {k h : Nat} {n : NV} (hk : 0 < k) (e : f h = some n) : cWalk f k h = n :: cWalk f (k - 1) n.nx := by
  obtain ⟨k, rfl⟩ : ∃ j, k = j + 1 := ⟨k - 1, by omega⟩
  show (match f h with | none => [] | some n => n :: cWalk f k n.nx) = _
  rw [e]; rfl
def nodeEnc (n : NV) : Array Value := #[.agg n.cells]
theorem node_stored (W : World) (n : NV) : Row (((((((W.alloc (.cells nodeZero 36)).setCell ⟨W.heap.size, 0, none⟩ (.int .i64 (n.wr : Int))).setCell ⟨W.heap.size, 1, none⟩ (.int .i64 (n.ts : Int))).setCell ⟨W.heap.size, 2, none⟩ (.bool n.tomb)).setCell ⟨W.heap.size, 3, none⟩ (.string n.val)).setCell ⟨W.heap.size, 4, none⟩ (.int .u64 (n.nx : Int)))) W.heap.size n.cells 36 ∧
    Fr none_ W (((((((W.alloc (.cells nodeZero 36)).setCell ⟨W.heap.size, 0, none⟩ (.int .i64 (n.wr : Int))).setCell ⟨W.heap.size, 1, none⟩ (.int .i64 (n.ts : Int))).setCell ⟨W.heap.size, 2, none⟩ (.bool n.tomb)).setCell ⟨W.heap.size, 3, none⟩ (.string n.val)).setCell ⟨W.heap.size, 4, none⟩ (.int .u64 (n.nx : Int)))) := by
  refine ⟨((((((Row.new W nodeZero 36).set 0 _).set 1 _).set 2 _).set 3 _).set 4 _), ?_⟩
  have h := (((((Fr.alloc none_ W (.cells nodeZero 36)).setCell_r ⟨W.heap.size, 0, none⟩ (.int .i64 (n.wr : Int)) (fun e => absurd e (Nat.lt_irrefl _))).setCell_r ⟨W.heap.size, 1, none⟩ (.int .i64 (n.ts : Int)) (fun e => absurd e (Nat.lt_irrefl _))).setCell_r ⟨W.heap.size, 2, none⟩ (.bool n.tomb) (fun e => absurd e (Nat.lt_irrefl _))).setCell_r ⟨W.heap.size, 3, none⟩ (.string n.val) (fun e => absurd e (Nat.lt_irrefl _))).setCell_r ⟨W.heap.size, 4, none⟩ (.int .u64 (n.nx : Int)) (fun e => absurd e (Nat.lt_irrefl _))
  exact h
theorem Row.fixed {Z : Nat → Prop} {W0 W1 W' : World} {g : Nat} {cs : Array Value} {t : TypeId} (h : Row W1 g cs t) (k : Kept Z W0 W1 W') (hg : W0.heap.size ≤ g ∨ Z g) : Row W' g cs t := (k g hg h.lt).trans h
section
variable {G : Nat → Prop} {x ab tb N vl : Nat} {c : CfgV} {t : CS}
/-- What nodes' function needs of what is not its own. -/
def NodesB (G : Nat → Prop) (x ab N vl : Nat) (c : CfgV) (t : CS) (W : World) : Prop := Cn G W x c vl N t ∧ W.cell? ⟨ab, 0, none⟩ = some (.pointer (some ⟨x, 0, none⟩))
set_option maxHeartbeats 4000000 in
theorem nodes_for (hN : N < big) {w : World} {top : Nat} (htop : top < 18446744073709551616) (ht : Row w tb #[.int .u64 (top : Int)] 34) :
    SeqFor Fence.wide 3 Try.prog 65 #[.pointer (some ⟨ab, 0, none⟩), .pointer (some ⟨tb, 0, none⟩)] nodeEnc (one tb) (NodesB G x ab N vl c t) (cWalk t.f t.s.used top) w := by
  intro l J Jx hJ hJx hB hY h0
  have hb0 := hB _ _ h0
  have HB := Lib.hid (fun pre W (h : J pre W) => hB pre W h)
  have HJ := Lib.hid hJ
  have HJX := Lib.hid hJx
  have HY := Lib.hid hY
  have c1 := hb0.2
  have hB0 := Lib.hid hb0.1.is_
  have hub : t.s.used < 4294967295 := by have := hb0.1.is_.up.used; unfold big at hN; omega
  have HU := Lib.hid (cn_used hb0.1)
  have H0 := Lib.hid h0
  have HT := Lib.hid ht
  clear hJ hJx hB hY h0 hb0 ht
  refine callsIn_of_wp Try.func65 rfl trivial ?_ rfl
  simp only [Try.ntmps65, List.size_toArray, List.length_cons, List.length_nil, Nat.reduceAdd, Nat.reduceSub, Array.replicate_succ, Array.replicate_zero, List.push_toArray, List.append_toArray, List.nil_append, List.cons_append]
  gi_wp2_with (refine ⟨trivial, ?_⟩; gi_at_call 16; refine (callsIn_wide.2 HU.out).mono ?_; rintro e w1 ⟨rfl, rfl⟩)
  have HUB := Lib.hid (show ∀ k, k < t.s.used → ((k : Int) + 1 : Int) = ((k + 1 : Nat) : Int) from fun k _ => by omega)
  gi_loopw [8] (fun i wr => ∃ (k : Nat) (pre : List NV) (tp : Nat), Hid (k ≤ t.s.used) ∧ i = .int .i64 (k : Int) ∧ Hid (cWalk t.f t.s.used top = pre ++ cWalk t.f (t.s.used - k) tp) ∧ Hid (tp < 18446744073709551616) ∧ Hid (Row wr tb #[.int .u64 (tp : Int)] 34) ∧ Hid (J pre wr)) (fun i _ => t.s.used - (intOf i).toNat)
  case atStart =>
    exact ⟨0, [], top, Nat.zero_le _, rfl, rfl, htop, HT.out, H0.out⟩
  case round =>
    obtain ⟨k, pre, tp, hk, rfl, hx, htp, hrow, hj⟩ := hrel
    have hb := HB.out _ _ hj.out
    have d1 := hb.2
    have d2 : wr.cell? ⟨tb, 0, none⟩ = some (.int .u64 (tp : Int)) := hrow.out.cell 0
    have HRD := Lib.hid (cn_read hb.1 htp.out)
    clear hb
    by_cases hlt : k < t.s.used
    · cases hf : t.f tp with
      | none =>
        have hnil : cWalk t.f t.s.used top = pre := by rw [hx.out, cWalk_none hf, List.append_nil]
        have HNIL := Lib.hid hnil
        rw [hf] at HRD
        unfold nodeOf nodeZero at HRD
        clear hf hnil
        gi_wp2_with (refine ⟨trivial, ?_⟩; gi_at_call 12; refine (callsIn_wide.2 HRD.out).mono ?_; rintro e w1 ⟨rfl, f1⟩; have F1 := Lib.hid f1; clear f1)
        refine ⟨fun _ h => (by cases h), ?_⟩
        gi_wp2
        refine bodyPost_ret (results_none rfl _ _ _) rfl ?_
        refine ⟨⟨_, rfl⟩, Or.inl ?_⟩
        rw [HNIL.out]
        exact HJ.out _ _ _ hj.out ((F1.out.trans (Fr.alloc none_ w1 _)).none)
      | some n =>
        have hcons : cWalk t.f t.s.used top = (pre ++ [n]) ++ cWalk t.f (t.s.used - (k + 1)) n.nx := by
          rw [hx.out, cWalk_some (by omega) hf, show t.s.used - k - 1 = t.s.used - (k + 1) by omega, List.append_assoc]; rfl
        have HCONS := Lib.hid hcons
        have HX := Lib.hid (show cWalk t.f t.s.used top = pre ++ n :: cWalk t.f (t.s.used - (k + 1)) n.nx by rw [hcons, List.append_assoc]; rfl)
        have hnok := Lib.hid (hB0.out.ok _ _ hf)
        rw [hf] at HRD
        unfold nodeOf NV.cells at HRD
        clear hf hcons
        gi_wp2_with (refine ⟨trivial, ?_⟩; gi_at_call 12; refine (callsIn_wide.2 HRD.out).mono ?_; rintro e w1 ⟨rfl, f1⟩; have F1 := Lib.hid f1; have R1 := Lib.hid (Row.new w1 n.cells 36); have F01 := Lib.hid (f1.trans (Fr.alloc none_ w1 (.cells n.cells 36))); have HS := Lib.hid (Nat.le_trans f1.size (Nat.le_refl w1.heap.size)); obtain ⟨fn, tmps, assign, body, hy, hR⟩ := HY.out pre n _ wr (w1.alloc (.cells n.cells 36)) HX.out hj.out F01.out.none; have HRR := Lib.hid hR; clear hR f1; unfold nodeEnc NV.cells at hy)
        refine HRR.out.mono ?_
        rintro e W' (⟨rfl, hJ', hK'⟩ | ⟨rfl, hJx'⟩)
        · have q4 : W'.cell? ⟨w1.heap.size, 4, none⟩ = some (.int .u64 (n.nx : Int)) := (R1.out.fixed hK' (Or.inl HS.out)).cell 4
          have rt : Row W' tb #[.int .u64 (tp : Int)] 34 := (hrow.out.kept F01.out (fun e => e)).fixed hK' (Or.inr rfl)
          have q0 : W'.cell? ⟨tb, 0, none⟩ = some (.int .u64 (tp : Int)) := rt.cell 0
          have z0 := rt.free 0
          have HRT := Lib.hid rt
          have HJ' := Lib.hid hJ'
          clear hJ' hK' rt hy
          gi_wp2
          go_roundw
          case rel => exact ⟨k + 1, pre ++ [n], n.nx, hlt, by go_num, HCONS.out, hnok.out.nx, HRT.out.set 0 (.int .u64 (n.nx : Int)), HJ.out _ _ _ HJ'.out (Fr.setCell (one tb) W' ⟨tb, 0, none⟩ _ (fun _ => rfl))⟩
          case measure => simp [intOf]; omega
        · have HJX' := Lib.hid hJx'
          clear hJx' hy
          gi_wp2
          refine bodyPost_ret (results_none rfl _ _ _) rfl ?_
          exact ⟨⟨_, rfl⟩, Or.inr ⟨pre ++ [n], ⟨_, HCONS.out.symm⟩, HJX'.out⟩⟩
    · have hke : t.s.used - k = 0 := by have := hk.out; omega
      have HE := Lib.hid (show cWalk t.f t.s.used top = pre by rw [hx.out, hke]; show pre ++ [] = pre; rw [List.append_nil])
      clear hke
      gi_wp2
      go_end0
      refine ⟨⟨_, rfl⟩, Or.inl ?_⟩
      rw [HE.out]
      exact hj.out
end
end Go.Proofs.Yteefcfndlggajaa
namespace Go.Proofs.Yteefcfndlggajaa
open Go.RowKit Go.Shelf
set_option linter.unusedVariables false
set_option linter.unusedSimpArgs false
set_option maxRecDepth 100000
attribute [local go_sem] Oper.semAt_some

def NV.ver (n : NV) : List Value := [.int .i64 (n.wr : Int), .int .i64 (n.ts : Int), .bool n.tomb, .string n.val]
theorem verInfo : (Try.prog.info? 32).map (fun i => (i.zero, i.size, i.bytes)) = some (some (.agg #[.int .i64 0, .int .i64 0, .bool false, .string ⟨#[]⟩]), 4, 40) := by kernel_rfl
theorem Chain_nodes (w : World) (top : Int) (px : Option Addr) :
    Calls Try.prog 36 #[.pointer px, .int .u64 top] w fun e w' => e = .returned (.func (.func 65) #[] #[.pointer (some ⟨w.heap.size, 0, none⟩), .pointer (some ⟨w.heap.size + 1, 0, none⟩)]) ∧ w' = (w.alloc (.cells #[.pointer px] 27)).alloc (.cells #[.int .u64 top] 34) := by
  go_enter Try.func36, Try.ntmps36
  go_wp2_with fail
  go_ret
  exact ⟨rfl, rfl⟩
def verList (l : List NV) : List Value := l.flatMap NV.ver
theorem verList_snoc (l : List NV) (n : NV) : verList (l ++ [n]) = verList l ++ n.ver := by unfold verList; simp
theorem cWalk_length (f : Nat → Option NV) (k h : Nat) : (cWalk f k h).length ≤ k := by
  induction k generalizing h with
  | zero => simp [cWalk]
  | succ k ih =>
    unfold cWalk
    split
    · simp
    · rw [List.length_cons]; have := ih (by assumption : NV).nx; omega
/-- Between two rounds of List's loop. -/
def ListI (w : World) (ob D : Nat) (B : World → Prop) (pre : List NV) (W : World) : Prop :=
  ∃ a cap, Row W ob #[.slice a pre.length cap] 24 ∧ SlAt W a pre.length cap 32 4 (verList pre) ∧ (∀ k, blk a k → D + 2 ≤ k) ∧ Fr none_ w W ∧ B W
section
variable {w : World} {G : Nat → Prop} {x N vl : Nat} {c : CfgV} {t : CS}
set_option maxHeartbeats 8000000 in
theorem cn_list (h : Cn G w x c vl N t) (hN : N < big) {top : Nat} (htop : top < 18446744073709551616) (hu : t.s.used ≤ 1000000) :
    Calls Try.prog 14 #[.pointer (some ⟨x, 0, none⟩), .int .u64 (top : Int)] w fun e w' => ∃ a cap, e = .returned (.slice a (cWalk t.f t.s.used top).length cap) ∧ SlAt w' a (cWalk t.f t.s.used top).length cap 32 4 (verList (cWalk t.f t.s.used top)) ∧ Fr none_ w w' ∧ ∀ k, blk a k → w.heap.size ≤ k := by
  obtain ⟨s, hs⟩ : ∃ s, s = w.heap.size := ⟨_, rfl⟩
  obtain ⟨w0, hw0⟩ : ∃ w0, w0 = ((w.alloc (.cells #[.slice none 0 0] 24)).alloc (.cells #[.pointer (some ⟨x, 0, none⟩)] 27)).alloc (.cells #[.int .u64 (top : Int)] 34) := ⟨_, rfl⟩
  have hsz : w0.heap.size = s + 3 := by rw [hw0, hs]; simp
  have hf0 : Fr none_ w w0 := by rw [hw0]; exact ((Fr.alloc none_ w _).alloc_r _).alloc_r _
  have r0 : Row w0 s #[.slice none 0 0] 24 := by
    rw [hw0, hs]; exact ((Row.new w _ _).alloc _).alloc _
  have r1 : Row w0 (s + 1) #[.pointer (some ⟨x, 0, none⟩)] 27 := by
    rw [hw0]
    have := Row.new (w.alloc (.cells #[.slice none 0 0] 24)) #[.pointer (some ⟨x, 0, none⟩)] 27
    rw [World.size_alloc, ← hs] at this
    exact this.alloc _
  have r2 : Row w0 (s + 2) #[.int .u64 (top : Int)] 34 := by
    rw [hw0]
    have := Row.new ((w.alloc (.cells #[.slice none 0 0] 24)).alloc (.cells #[.pointer (some ⟨x, 0, none⟩)] 27)) #[.int .u64 (top : Int)] 34
    rw [World.size_alloc, World.size_alloc, ← hs] at this
    exact this
  have hGlt : ∀ k, G k → k < s := by rw [hs]; exact h.lt
  have hB0 : NodesB G x (s + 1) N vl c t w0 := ⟨h.kept0 hf0, r1.cell 0⟩
  have hseq : ∀ W, Fr none_ w0 W → SeqFor Fence.wide 3 Try.prog 65 #[.pointer (some ⟨s + 1, 0, none⟩), .pointer (some ⟨s + 2, 0, none⟩)] nodeEnc (one (s + 2)) (NodesB G x (s + 1) N vl c t) (cWalk t.f t.s.used top) W :=
    fun W f => nodes_for hN htop (r2.kept f (fun e => e))
  have hI0 : ListI w s (s + 3) (NodesB G x (s + 1) N vl c t) [] w0 := ⟨none, 0, r0, SlAt.empty _ _ _, fun k hk => absurd hk (blk_none k), hf0, hB0⟩
  have hI : ∀ pre W W', ListI w s (s + 3) (NodesB G x (s + 1) N vl c t) pre W → Fr (Yof (one (s + 2)) (s + 3)) W W' → ListI w s (s + 3) (NodesB G x (s + 1) N vl c t) pre W' := by
    rintro pre W W' ⟨a, cap, q1, q2, q3, q4, q5, q6⟩ f
    have ny : ∀ k, k < s + 2 → ¬ Yof (one (s + 2)) (s + 3) k := fun k hk e => by rcases e with e | e | e <;> (try unfold one at e) <;> omega
    refine ⟨a, cap, q1.kept f (ny s (by omega)), q2.kept f (fun k hk e => by have := q3 k hk; rcases e with e | e | e <;> (try unfold one at e) <;> omega), q3, q4.step f (fun i hi e => absurd e (ny i (by omega))), q5.kept f (fun k hk => ny k (by have := hGlt k hk; omega)), f.keepF (ny (s + 1) (by omega)) q6⟩
  have HLEN := Lib.hid (cWalk_length t.f t.s.used top)
  have HGLT := Lib.hid hGlt
  have HR2 := Lib.hid r2
  have HS := Lib.hid hs
  have HW0 := Lib.hid hw0
  have HSZ := Lib.hid hsz
  have HF0 := Lib.hid hf0
  clear h r0 r1 r2 hB0 hs hf0
  obtain ⟨xs, hxs⟩ : ∃ xs, xs = cWalk t.f t.s.used top := ⟨_, rfl⟩
  rw [← hxs] at hseq HLEN ⊢
  clear hxs hGlt
  refine (callsIn_wide (n := 4)).1 ?_
  refine callsIn_of_wp_marks Try.func14 rfl trivial ?_ rfl
  simp only [Try.ntmps14, List.size_toArray, List.length_cons, List.length_nil, Nat.reduceAdd, Nat.reduceSub, Array.replicate_succ, Array.replicate_zero, List.push_toArray, List.append_toArray, List.nil_append, List.cons_append]
  have HI := Lib.hid hI
  have HI0 := Lib.hid hI0
  have HSQ := Lib.hid hseq
  clear hI hI0 hseq hsz hw0
  gi_wp2_with (refine ⟨trivial, ?_⟩; gi_at_call 36; refine (callsIn_wide.2 (Chain_nodes _ _ _)).mono ?_; rintro e w1 ⟨rfl, hw1⟩)
  clear hw1
  rw [← HW0.out, ← HS.out]
  have HD := HSZ.out
  refine range_for (n := 4) (w := w0) rfl (by omega) (gf := 65) (lb := #[.pointer (some ⟨s + 1, 0, none⟩), .pointer (some ⟨s + 2, 0, none⟩)]) rfl trivial (enters_of Try.func65 (by kernel_rfl) rfl) (encs := nodeEnc) (Z := one (s + 2)) (xs := xs) (fun _ => rfl) (fun k e => by unfold one at e; omega) HSQ.out
    (ListI w s (s + 3) (NodesB G x (s + 1) N vl c t)) (fun _ _ _ => False) (fun pre W W' h f => HI.out pre W W' h (by rw [HD] at f; exact f)) (fun _ _ _ _ h _ => h) (fun pre W h => by obtain ⟨_, _, _, _, _, _, q⟩ := h; exact q) HI0.out ?round ?done ?stop
  case round =>
    intro l pre n rest W0 W1 hx hi f01 hlt
    obtain ⟨ad, cap, q1, q2, q3, q4, q5⟩ := hi
    have hlen : pre.length + 1 ≤ 1000000 := by
      have h1 := HLEN.out
      rw [hx, List.length_append, List.length_cons] at h1
      omega
    have hblt := q2.lt
    have hE := HD
    rw [HD] at hlt ⊢
    have HI0 := Lib.hid (And.intro q1 (And.intro q2 (And.intro q3 (And.intro q4 q5))))
    have F01 := Lib.hid f01
    have HX := Lib.hid hx
    have HBL := Lib.hid hblt
    clear q1 q2 q3 q4 q5 f01 hx hblt hE
    unfold nodeEnc NV.cells
    gi_wp2
    obtain ⟨W2, hW2⟩ : ∃ W2, W2 = W1.alloc (.cells n.cells 36) := ⟨_, rfl⟩
    obtain ⟨nb, hnb⟩ : ∃ nb, nb = W1.heap.size := ⟨_, rfl⟩
    have f12 : Fr none_ W1 W2 := by rw [hW2]; exact Fr.alloc _ _ _
    have rn2 : Row W2 nb n.cells 36 := by rw [hW2, hnb]; exact Row.new W1 _ _
    unfold NV.cells at hW2
    rw [← hW2, ← hnb]
    have h01 := F01.out.size
    have rd := Rec.of_fr (D := s + 3) f12 (by omega) (fun e => e) (fun e => e)
    refine ⟨rd, fun W3 f3 hs3 => ?_⟩
    obtain ⟨q1, q2, q3, q4, q5⟩ := HI0.out
    have hsn : W0.heap.size ≤ nb := by omega
    have hnb2 : nb < W2.heap.size := rn2.lt
    have rn3 := rn2.kept f3 (fun e => by unfold one at e; omega)
    have n0 : w.heap.size = s := HS.out.symm
    have e1 : Row W3 s #[.slice ad pre.length cap] 24 := ((q1.kept F01.out (fun e => by unfold one at e; omega)).kept f12 (fun e => e)).kept f3 (fun e => by unfold one at e; omega)
    have e2 : SlAt W3 ad pre.length cap 32 4 (verList pre) := ((q2.kept F01.out (fun k hk e => by have := q3 k hk; unfold one at e; omega)).kept f12 (fun _ _ e => e)).kept f3 (fun k hk e => by have := q3 k hk; unfold one at e; omega)
    have HF3 := Lib.hid (show Fr (fun k => k = s + 4) W1 W3 from f12.none.trans (f3.mono fun k _ e => e))
    have HRN := Lib.hid rn3
    have d0 : W3.cell? ⟨s, 0, none⟩ = some (.slice ad pre.length cap) := e1.cell 0
    have m0 : W3.cell? ⟨nb, 0, none⟩ = some (.int .i64 (n.wr : Int)) := rn3.cell 0
    have m1 : W3.cell? ⟨nb, 1, none⟩ = some (.int .i64 (n.ts : Int)) := rn3.cell 1
    have m2 : W3.cell? ⟨nb, 2, none⟩ = some (.bool n.tomb) := rn3.cell 2
    have m3 : W3.cell? ⟨nb, 3, none⟩ = some (.string n.val) := rn3.cell 3
    have E1 := Lib.hid e1
    have E2 := Lib.hid e2
    have HN0 := Lib.hid n0
    have HS3 := Lib.hid (show W1.heap.size ≤ W3.heap.size ∧ W0.heap.size ≤ W1.heap.size ∧ s + 5 ≤ W0.heap.size from ⟨HF3.out.size, h01, hlt⟩)
    have RA := Lib.hid (Row.new W3 n.ver.toArray 32)
    have HQ := Lib.hid (And.intro q3 (And.intro q4 q5))
    have HVE := Lib.hid (show n.ver.toArray = #[.int .i64 (n.wr : Int), .int .i64 (n.ts : Int), .bool n.tomb, .string n.val] from rfl)
    clear q1 q2 q3 q4 q5 rn3 rn2 f12 f3 hs3 e1 e2 h01 rd hsn hnb2 n0 hW2 hnb hlt
    gi_wp2_with (gi_at_builtin; refine Stop.mk ?_)
    show wpListIn _ _ _ _ _ _ _ _
    rw [← HVE.out]
    refine wpAppendIn rfl _ _ _ rfl 32 (.agg #[.int .i64 0, .int .i64 0, .bool false, .string ⟨#[]⟩]) 4 40 Try.underlying24 verInfo rfl (E2.out.kept0 (Fr.alloc none_ W3 (.cells n.ver.toArray 32))) rfl ⟨W3.heap.size, 0, none⟩ 1 1 n.ver rfl rfl (new_cells W3 n.ver 32) (by simp [NV.ver, Value.oneCell']) (by omega) (by unfold maxLen; omega) (by omega) ?_
    intro ad' cap' W5 hs5 f5 hb5
    have HB5 := Lib.hid hb5
    have HS5 := Lib.hid hs5
    obtain ⟨q3, q4, q5⟩ := HQ.out
    have hs3 := HS3.out
    have fa := Fr.alloc none_ W3 (.cells n.ver.toArray 32)
    have f35 : Fr (blk ad) W3 W5 := fa.none.trans f5
    have rs5 : Row W5 s #[.slice ad pre.length cap] 24 := E1.out.kept f35 (fun e => by have := q3 s e; omega)
    have z5 := rs5.cell 0
    have zf := rs5.free 0
    have F35 := Lib.hid f35
    have R5 := Lib.hid rs5
    clear q3 q4 q5 hs3 fa f35 rs5 f5 hb5 hs5 d0 m0 m1 m2 m3
    gi_wp2
    obtain ⟨q3, q4, q5⟩ := HQ.out
    have hs3 := HS3.out
    have hn0 := HN0.out
    have fset := Fr.setCell (one s) W5 ⟨s, 0, none⟩ (.slice ad' (pre.length + 1) cap') (fun _ => rfl)
    have f36 : Fr (fun k => k = s ∨ blk ad k) W3 (W5.setCell ⟨s, 0, none⟩ (.slice ad' (pre.length + 1) cap')) := (F35.out.mono fun k _ e => Or.inr e).trans (fset.mono fun k _ e => Or.inl e)
    have hz5 := F35.out.size
    have hbl' : ∀ k, blk ad' k → s + 5 ≤ k := fun k hk => by
      rcases HB5.out k hk with e | e
      · exact q3 k e
      · simp at e; omega
    have f16 : Fr (fun k => k = s ∨ k = s + 4 ∨ blk ad k) W1 (W5.setCell ⟨s, 0, none⟩ (.slice ad' (pre.length + 1) cap')) := (HF3.out.mono fun k _ e => Or.inr (Or.inl e)).trans (f36.mono fun k _ e => by rcases e with e | e; exact Or.inl e; exact Or.inr (Or.inr e))
    have f06 : Fr (fun k => k = s ∨ k = s + 2 ∨ k = s + 4 ∨ blk ad k) W0 (W5.setCell ⟨s, 0, none⟩ (.slice ad' (pre.length + 1) cap')) := (F01.out.mono fun k _ e => Or.inr (Or.inl e)).trans (f16.mono fun k _ e => by rcases e with e | e | e; exact Or.inl e; exact Or.inr (Or.inr (Or.inl e)); exact Or.inr (Or.inr (Or.inr e)))
    show Rec (s + 3) W3 _ ∧ ListI w s (s + 3) _ (pre ++ [n]) _ ∧ Kept _ W0 W1 _
    refine ⟨Rec.of_fr f36 (by omega) (fun e => ?_) (fun e => ?_), ⟨ad', cap', ?_, ?_, hbl', ?_, ?_⟩, fun k hk hlt => ?_⟩
    · rcases e with e | e
      · omega
      · have := q3 _ e; omega
    · rcases e with e | e
      · omega
      · have := q3 _ e; omega
    · rw [List.length_append]; exact R5.out.set 0 _
    · rw [List.length_append, verList_snoc]; exact HS5.out.kept fset (fun k hk e => by have := hbl' k hk; unfold one at e; omega)
    · refine q4.step f06 (fun i hi e => ?_)
      rcases e with e | e | e | e
      · omega
      · omega
      · omega
      · have := q3 i e; omega
    · refine ⟨q5.1.kept f06 (fun k hk e => ?_), f06.keepF (fun e => ?_) q5.2⟩
      · have := HGLT.out k hk
        rcases e with e | e | e | e
        · omega
        · omega
        · omega
        · have := q3 k e; omega
      · rcases e with e | e | e | e
        · exact absurd e (by simp)
        · exact absurd e (by simp)
        · exact absurd e (by simp)
        · have := q3 _ e; simp at this; omega
    · refine f16.block k hlt (fun e => ?_)
      rcases hk with hk | hk
      · rcases e with e | e | e
        · omega
        · omega
        · have := HBL.out k e; omega
      · unfold one at hk
        rcases e with e | e | e
        · omega
        · omega
        · have := q3 k e; omega
  case done =>
    intro W hlt hi hK
    rw [HD] at hK hlt ⊢
    obtain ⟨ad, cap, q1, q2, q3, q4, q5⟩ := hi
    have d0 : W.cell? ⟨s, 0, none⟩ = some (.slice ad xs.length cap) := q1.cell 0
    have HQ := Lib.hid (And.intro q2 (And.intro q3 q4))
    have HK := Lib.hid hK
    clear q1 q2 q3 q4 q5 hK
    gi_wp2
    have hK := HK.out
    refine ⟨by simp, .inl ⟨_, _, rfl, run_takeDeferred hK, ?_⟩⟩
    obtain ⟨q2, q3, q4⟩ := HQ.out
    have fp := Fr.putObj W (s + 3) (.deferred none)
    exact ⟨_, results_tmp rfl _ _ _, ad, cap, rfl, q2.kept fp (fun k hk e => by have := q3 k hk; unfold one at e; omega), q4.step fp (fun i hi e => by have := HS.out; unfold one at e; omega), fun k hk => by have := q3 k hk; have := HS.out; omega⟩
  case stop =>
    intro c pre W _ _ h _
    exact h.elim
end
end Go.Proofs.Yteefcfndlggajaa
