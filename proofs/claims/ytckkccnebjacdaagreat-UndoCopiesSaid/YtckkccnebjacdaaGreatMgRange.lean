/-
  'for x := range seq { .. }' where the iterator writes cells of its own between the rounds ('SeqFor', 'range_for'): by frames. Nothing of the program in it.
  'for x := range seq { .. }' where the iterator makes cells of its own and writes them between the rounds ('SeqOwn', 'range_own'): the body tells which blocks it owns. Nothing of the program in it.
-/
import Derived.Test.YtckkccnebjacdaaGreatMgSlice
import Derived.OwnWalkIn
import Derived.RangeFuncNested
import Derived.RangeFuncBound
import Derived.RangeFuncCalls
import Derived.RangeFuncLeaves
namespace Go.Proofs.YtckkccnebjacdaaGreat
open Go.RowKit
set_option linter.unusedVariables false
set_option linter.unusedSimpArgs false
variable {P : Program} {F : Fence} {n : Nat}

/-- A round leaves alone what the iterator owns (Z), and what it has made since the round before. -/
def Kept (Z : Nat → Prop) (W0 W1 W' : World) : Prop := ∀ k, (W0.heap.size ≤ k ∨ Z k) → k < W1.heap.size → W'.heap[k]? = W1.heap[k]?
/-- The iterator tells xs, one behind the other; it writes Z alone; of what is not its own it needs B. -/
def SeqFor {α : Type} (F : Fence) (n : Nat) (P : Program) (g : Nat) (lb : Array Value) (encs : α → Array Value) (Z : Nat → Prop) (B : World → Prop) (xs : List α) (w : World) : Prop :=
  ∀ (l : Nat) (J Jx : List α → World → Prop),
    (∀ s W W', J s W → Fr Z W W' → J s W') → (∀ s W W', Jx s W → Fr Z W W' → Jx s W') → (∀ s W, J s W → B W) →
    (∀ pre x rest W0 W1, xs = pre ++ x :: rest → J pre W0 → Fr Z W0 W1 → YieldAt F (n - 1) P l (encs x) W1 fun e W' =>
      (e = .returned (.bool true) ∧ J (pre ++ [x]) W' ∧ Kept Z W0 W1 W') ∨ (e = .returned (.bool false) ∧ Jx (pre ++ [x]) W')) →
    J [] w →
    CallsIn F n P g (#[.func (.yield l) #[] #[]] ++ lb) w fun e W' => (∃ v, e = .returned v) ∧ (J xs W' ∨ ∃ pre, pre <+: xs ∧ Jx pre W')
/-- The loop's two blocks of book-keeping stay. -/
def Rec (D : Nat) (W W' : World) : Prop := W'.heap[D]? = W.heap[D]? ∧ W'.heap[D + 1]? = W.heap[D + 1]?
def Yof (Z : Nat → Prop) (D : Nat) : Nat → Prop := fun k => Z k ∨ k = D ∨ k = D + 1
def forPost {α : Type} (D : Nat) (Z : Nat → Prop) (I : List α → World → Prop) (Ix : Code → List α → World → Prop) (xs : List α) (W0 W1 W : World) : Exit → Act → World → Prop
  | .normal, _, W' => Rec D W W' ∧ I xs W' ∧ Kept Z W0 W1 W'
  | .ret, _, W' => Rec D W W' ∧ Ix .ret xs W'
  | .exit id, _, W' => Rec D W W' ∧ Ix (.exit id) xs W'
  | .goto t, _, W' => Rec D W W' ∧ Ix (.goto t) xs W'
  | .panic _, _, _ => False
  | .outgrown, _, _ => False

theorem Fr.putObj (W : World) (l : Nat) (o : Obj) : Fr (one l) W (W.putObj l o) :=
  Fr.grown (grownBy_putObj' W l o) _ (fun k e _ => by cases e; rfl)
theorem Rec.of_fr {D : Nat} {G : Nat → Prop} {W W' : World} (f : Fr G W W') (h : D + 1 < W.heap.size) (h0 : ¬ G D) (h1 : ¬ G (D + 1)) : Rec D W W' :=
  ⟨f.block _ (by omega) h0, f.block _ h h1⟩
theorem Rec.trans {D : Nat} {A B C : World} (h : Rec D A B) (k : Rec D B C) : Rec D A C := ⟨k.1.trans h.1, k.2.trans h.2⟩

theorem range_for {α : Type} {g : Operand} {ps : Array Tmp} {assign body : Code} {Q : Exit → Act → World → Prop} {a : Act} {w : World}
    (hro : F.round = none) (h1 : 1 ≤ n) {gf : Nat} {lb : Array Value} (hg : a.eval g = .func (.func gf) #[] lb) (hFg : F.fn gf) (eg : ∀ args w, (callFunc gf args).run P w = .ok (.enter gf args) w)
    {encs : α → Array Value} {Z : Nat → Prop} {B : World → Prop} {xs : List α} (hps : ∀ x, (encs x).size = ps.size) (hZ : ∀ k, Z k → k < w.heap.size)
    (hseq : ∀ W, Fr none_ w W → SeqFor F (n - 1) P gf lb encs Z B xs W)
    (I : List α → World → Prop) (Ix : Code → List α → World → Prop) (hI : ∀ s W W', I s W → Fr (Yof Z w.heap.size) W W' → I s W') (hIx : ∀ c s W W', Ix c s W → Fr (Yof Z w.heap.size) W W' → Ix c s W')
    (hIB : ∀ s W, I s W → B W) (h0 : I [] w)
    (hround : ∀ (l : Nat) (pre : List α) (x : α) (rest : List α) (W0 W1 : World), xs = pre ++ x :: rest → I pre W0 → Fr Z W0 W1 → w.heap.size + 2 ≤ W0.heap.size →
      assign.wpIn (F.inRound l) (n - 1 - 1) P (Exit.then (fun a₁ W2 => Rec w.heap.size W1 W2 ∧ ∀ W3, Fr (one (w.heap.size + 1)) W2 W3 → W3.heap.size = W2.heap.size →
        body.wpIn (F.inRound l) (n - 1 - 1) P (forPost w.heap.size Z I Ix (pre ++ [x]) W0 W1 W3) a₁ W3) (fun _ _ _ => False)) { tmps := (ps.zip (encs x)).foldl (fun t (p, v) => t.setIfInBounds p v) a.tmps, defers := [] } W1)
    (hdone : ∀ W, w.heap.size + 2 ≤ W.heap.size → I xs W → W.heap[w.heap.size]? = some (.deferred (some [])) → Q .normal { a with defers := { target := .collected w.heap.size, args := #[] } :: a.defers } W)
    (hstop : ∀ c pre W, w.heap.size + 2 ≤ W.heap.size → pre <+: xs → Ix c pre W → W.heap[w.heap.size]? = some (.deferred (some [])) → c.wpIn F n P Q { a with defers := { target := .collected w.heap.size, args := #[] } :: a.defers } W) :
    (Code.rangeFunc g ps assign body).wpIn F n P Q a w := by
  refine wpIn_rangeFunc fun fn hfn => ?_
  rw [hro]
  obtain ⟨D, hD⟩ : ∃ D, D = w.heap.size := ⟨_, rfl⟩
  rw [← hD] at hZ hI hIx hround hdone hstop
  obtain ⟨rc, hrc⟩ : ∃ rc : LoopState → Option Code → Loop, rc = fun st pe => { state := st, pending := pe, fn, tmps := a.tmps, params := ps, assign, body, defers := D } := ⟨_, rfl⟩
  obtain ⟨W1, hW1⟩ : ∃ W1, (w.alloc (.deferred (some []))).alloc (.loop (rc .ready none)) = W1 := ⟨_, rfl⟩
  have hfw : Fr none_ w W1 := by rw [← hW1]; exact (Fr.alloc none_ w _).alloc_r _
  have hL1 : W1.heap[D + 1]? = some (.loop (rc .ready none)) := by
    rw [← hW1, hD]; have := World.alloc_heap_new (w.alloc (.deferred (some []))) (.loop (rc .ready none)); rwa [World.size_alloc] at this
  have hK1 : W1.heap[D]? = some (.deferred (some [])) := by
    rw [← hW1, hD]; exact (Below.heap_alloc _ _ _ (by simp)).trans (World.alloc_heap_new w _)
  have n0 : ¬ Z D := fun e => by have := hZ _ e; omega
  have n1 : ¬ Z (D + 1) := fun e => by have := hZ _ e; omega
  have yo : ∀ k, k = D + 1 → Yof Z D k := fun k e => Or.inr (Or.inr e)
  have ltL : ∀ {W : World} {o : Obj}, W.heap[D + 1]? = some o → D + 1 < W.heap.size := fun h => (Array.getElem?_eq_some_iff.1 h).1
  refine ⟨D + 1, [{ target := .collected D, args := #[] }], W1, { target := .fn (.func gf) lb, args := #[.func (.yield (D + 1)) #[] #[]] }, W1, gf,
    #[.func (.yield (D + 1)) #[] #[]] ++ lb, W1, ?_, ?_, ?_, ?_, fun _ => h1, ?_⟩
  · rw [← hW1, hrc, hD]; exact run_enterLoop_outer _ _ _ _ _
  · simp only [resolve, hg]
    simp [go_sem]
  · intro f' hf'; simp [Target.leads] at hf'; subst hf'; exact hFg
  · simp [invoke, go_sem, eg]
  · refine (hseq W1 hfw (D + 1)
      (fun pre W => I pre W ∧ W.heap[D + 1]? = some (.loop (rc .ready none)) ∧ W.heap[D]? = some (.deferred (some [])))
      (fun pre W => ∃ c, Ix c pre W ∧ W.heap[D + 1]? = some (.loop (rc .done (some c))) ∧ W.heap[D]? = some (.deferred (some [])))
      (fun s A B hs f => ⟨hI s A B hs.1 (f.mono fun k _ e => Or.inl e), (f.block _ (ltL hs.2.1) n1).trans hs.2.1, (f.block _ (by have := ltL hs.2.1; omega) n0).trans hs.2.2⟩)
      (fun s A B ⟨c, hs, hl, hk⟩ f => ⟨c, hIx c s A B hs (f.mono fun k _ e => Or.inl e), (f.block _ (ltL hl) n1).trans hl, (f.block _ (by have := ltL hl; omega) n0).trans hk⟩)
      (fun s W hs => hIB s W hs.1) ?_ ⟨hI [] w W1 h0 hfw.none, hL1, hK1⟩).mono ?_
    · rintro pre x rest W0 W ex ⟨hi, hl0, hk0⟩ f01
      have hl : W.heap[D + 1]? = some (.loop (rc .ready none)) := (f01.block _ (ltL hl0) n1).trans hl0
      have hk : W.heap[D]? = some (.deferred (some [])) := (f01.block _ (by have := ltL hl0; omega) n0).trans hk0
      have hy := run_yield (P := P) (args := encs x) hl (by rw [hrc]; exact hps x)
      rw [hrc] at hy
      refine ⟨fn, _, assign, body, hy, roundIn_of_wpIn hfn (wpIn_mono (hround (D + 1) pre x rest W0 W ex hi f01 (by have := ltL hl0; omega)) ?_)⟩
      intro e a₁ W2 hp
      cases e with
      | normal =>
        obtain ⟨hr, hb⟩ := hp
        have hl2 : W2.heap[D + 1]? = some (.loop (rc .ready none)) := hr.2.trans hl
        have hk2 : W2.heap[D]? = some (.deferred (some [])) := hr.1.trans hk
        refine ⟨_, run_beginRound hl2 (by rw [hrc]), ?_⟩
        obtain ⟨W3, hW3⟩ : ∃ W3, W3 = W2.putObj (D + 1) (.loop { rc .ready none with state := .busy }) := ⟨_, rfl⟩
        have f3 : Fr (one (D + 1)) W2 W3 := by rw [hW3]; exact Fr.putObj _ _ _
        have hl3 : W3.heap[D + 1]? = some (.loop { rc .ready none with state := .busy }) := by rw [hW3]; exact World.putObj_heap_same (ltL hl2)
        have hk3 : W3.heap[D]? = some (.deferred (some [])) := (f3.block _ (by have := ltL hl2; omega) (fun e => by unfold one at e; omega)).trans hk2
        rw [← hW3]
        refine wpIn_mono (hb W3 f3 (by rw [hW3]; simp)) ?_
        have fin : ∀ (jump : Option Code) (W' : World), Rec D W3 W' →
            (Instr.endRound (D + 1) jump).run P W' = .ok (.bool jump.isNone) (W'.putObj (D + 1) (.loop (rc (if jump.isNone then .ready else .done) jump))) ∧
            (W'.putObj (D + 1) (.loop (rc (if jump.isNone then .ready else .done) jump))).heap[D + 1]? = some (.loop (rc (if jump.isNone then .ready else .done) jump)) ∧
            (W'.putObj (D + 1) (.loop (rc (if jump.isNone then .ready else .done) jump))).heap[D]? = some (.deferred (some [])) := fun jump W' hr => by
          have hl4 := hr.2.trans hl3
          have hk4 := hr.1.trans hk3
          have := run_endRound (P := P) jump hl4
          rw [hrc] at this ⊢
          exact ⟨this, World.putObj_heap_same (ltL hl4), (World.putObj_heap_other (by omega)).trans hk4⟩
        have hfr : ∀ (W' : World) (o : Obj), Fr (Yof Z D) W' (W'.putObj (D + 1) o) := fun W' o => (Fr.putObj W' (D + 1) o).mono fun k _ e => yo k e
        rintro e a3 W4 hp
        cases e with
        | normal =>
          obtain ⟨h1, h2, h3⟩ := hp
          obtain ⟨q1, q2, q3⟩ := fin none W4 h1
          refine ⟨_, _, q1, .inl ⟨rfl, ⟨hI _ _ _ h2 (hfr _ _), q2, q3⟩, fun k hk5 hlt => ?_⟩⟩
          have hne : k ≠ D + 1 := fun e => by
            rcases hk5 with q | q
            · have := ltL hl0; omega
            · exact n1 (e ▸ q)
          exact (World.putObj_heap_other (by omega)).trans (h3 k hk5 hlt)
        | ret =>
          obtain ⟨h1, h2⟩ := hp
          obtain ⟨q1, q2, q3⟩ := fin (some .ret) W4 h1
          exact ⟨_, _, q1, .inr ⟨rfl, .ret, hIx _ _ _ _ h2 (hfr _ _), q2, q3⟩⟩
        | exit id =>
          obtain ⟨h1, h2⟩ := hp
          obtain ⟨q1, q2, q3⟩ := fin (some (.exit id)) W4 h1
          exact ⟨_, _, q1, .inr ⟨rfl, .exit id, hIx _ _ _ _ h2 (hfr _ _), q2, q3⟩⟩
        | goto t =>
          obtain ⟨h1, h2⟩ := hp
          obtain ⟨q1, q2, q3⟩ := fin (some (.goto t)) W4 h1
          exact ⟨_, _, q1, .inr ⟨rfl, .goto t, hIx _ _ _ _ h2 (hfr _ _), q2, q3⟩⟩
        | panic ch => exact hp.elim
        | outgrown => exact hp.elim
      | ret => exact hp.elim
      | exit id => exact hp.elim
      | goto t => exact hp.elim
      | panic ch => exact hp.elim
      | outgrown => exact hp.elim
    · skip
      rintro e W2 ⟨⟨v, rfl⟩, (⟨hi, hl, hk⟩ | ⟨pre, hp, c, hi, hl, hk⟩)⟩
      · have hlt := ltL hl
        refine ⟨none, _, by have := run_endLoop (P := P) hl (by rw [hrc]; simp); rw [hrc] at this; exact this, hdone _ (by simp; omega) (hI _ _ _ hi ((Fr.putObj W2 (D + 1) _).mono fun k _ e => yo k e)) ((World.putObj_heap_other (by omega)).trans hk)⟩
      · have hlt := ltL hl
        refine ⟨some c, _, by have := run_endLoop (P := P) hl (by rw [hrc]; simp); rw [hrc] at this; exact this, hstop c pre _ (by simp; omega) hp (hIx _ _ _ _ hi ((Fr.putObj W2 (D + 1) _).mono fun k _ e => yo k e)) ((World.putObj_heap_other (by omega)).trans hk)⟩
theorem wpAppendIn {w : World} {ops : Array Oper} {rest : List Oper} {o : Oper} {a : Act} {Q : Exit → Act → World → Prop} (hg : o.guard = none) (s x : Operand) (t : TypeId) (hop : o.op = Op.call { callee := Callee.builtin Builtin.append, args := #[s, x], argTypes := #[t, t] }) (e : TypeId) (z : Value) (size bytes : Nat) (ht : P.underlying t = some (.slice e)) (hinfo : (P.info? e).map (fun i => (i.zero, i.size, i.bytes)) = some (some z, size, bytes))
    (hzs : z.cells.size = size) {sa : Option Addr} {k cap : Nat} {xs : List Value} (h : SlAt w sa k cap e size xs) (hs : a.eval s = .slice sa k cap)
    (ad : Addr) (m c : Nat) (news : List Value) (hx : a.eval x = .slice (some ad) m c) (hl : news.length = m * size) (hnews : ∀ j u, news[j]? = some u → w.cell? (ad.add j) = some u) (h1 : ∀ u ∈ news, u.oneCell' = true)
    (hm : 0 < m) (h63 : k + m ≤ maxLen) (hbytes : (k + m) * bytes ≤ 140737488355328)
    (hK : ∀ a' cap' w', SlAt w' a' (k + m) cap' e size (xs ++ news) → Fr (blk sa) w w' → (∀ j, blk a' j → blk sa j ∨ w.heap.size ≤ j) → wpListIn F n P ops Q rest (a.put o.dst (.slice a' (k + m) cap')) w') : wpListIn F n P ops Q (o :: rest) a w := by
  refine wpListIn_plain hg fun K hK' => ?_
  obtain ⟨a', cap', w', hrun, r1, r2, r3⟩ := run_append_at (P := P) t o.type e z size bytes ht hinfo hzs h ad m c news hl hnews h1 hm h63 hbytes
  unfold Oper.wpIn
  refine ⟨?_, ?_⟩
  · simp [Oper.about, hop, resolve, Target.leads, Sem.run_pure]
  · rw [Oper.semAt_plain F _ _ (by rw [hop]; intro c hc'; cases hc')]
    simp [execOp, hop, resolve, invoke, builtin, hs, hx, hrun, Result.andThen]
    exact hK' _ _ (hK a' cap' w' r1 r2 r3)
/-- To stop a walk at an operation: '(gi_at_builtin; refine Stop.mk ?_)', then 'show wpListIn _ _ _ _ _ _ _ _'. -/
theorem new_cells (W : World) (cs : List Value) (t : TypeId) : ∀ (j : Nat) (u : Value), cs[j]? = some u → (W.alloc (.cells cs.toArray t)).cell? ((⟨W.heap.size, 0, none⟩ : Addr).add j) = some u := fun j u hj => by
  rw [Addr.add_lit, Nat.zero_add, (Row.new W cs.toArray t).cell j]; simpa using hj
end Go.Proofs.YtckkccnebjacdaaGreat
namespace Go.Proofs.YtckkccnebjacdaaGreat
open Go.RowKit
set_option linter.unusedVariables false
set_option linter.unusedSimpArgs false
variable {P : Program} {F : Fence} {n : Nat}

/-- The iterator tells xs, one behind the other; of what there was it writes nothing, of what was made since nothing that the rounds own (Y). -/
def SeqOwn {α : Type} (F : Fence) (n : Nat) (P : Program) (g : Nat) (lb : Array Value) (encs : α → Array Value) (B : World → Prop) (xs : List α) (w : World) : Prop :=
  ∀ (l : Nat) (J : List α → (Nat → Prop) → World → Prop) (Jx : List α → World → Prop) (Y0 : Nat → Prop),
    (∀ s Y W W', J s Y W → Fr (fun k => w.heap.size ≤ k ∧ ¬ Y k) W W' → J s Y W') → (∀ s Y W, J s Y W → B W) →
    (∀ pre x rest Y W0 W1, xs = pre ++ x :: rest → J pre Y W0 → Fr (fun k => w.heap.size ≤ k ∧ ¬ Y k) W0 W1 → YieldAt F (n - 1) P l (encs x) W1 fun e W' =>
      (e = .returned (.bool true) ∧ ∃ Y', J (pre ++ [x]) Y' W' ∧ Fr Y W1 W' ∧ ∀ k, Y' k → Y k ∨ W1.heap.size ≤ k) ∨ (e = .returned (.bool false) ∧ Jx (pre ++ [x]) W')) →
    (∀ k, Y0 k → k < w.heap.size) → J [] Y0 w →
    CallsIn F n P g (#[.func (.yield l) #[] #[]] ++ lb) w fun e W' => (∃ v, e = .returned v) ∧ ((∃ Y, J xs Y W') ∨ ∃ pre, pre <+: xs ∧ Jx pre W')
def ownPost {α : Type} (D : Nat) (Y : Nat → Prop) (I : List α → (Nat → Prop) → World → Prop) (Ix : Code → List α → World → Prop) (xs : List α) (W1 W : World) : Exit → Act → World → Prop
  | .normal, _, W' => Rec D W W' ∧ ∃ Y', I xs Y' W' ∧ Fr (fun k => Y k ∨ k = D ∨ k = D + 1) W1 W' ∧ ∀ k, Y' k → Y k ∨ W1.heap.size ≤ k
  | .ret, _, W' => Rec D W W' ∧ Ix .ret xs W'
  | .exit id, _, W' => Rec D W W' ∧ Ix (.exit id) xs W'
  | .goto t, _, W' => Rec D W W' ∧ Ix (.goto t) xs W'
  | .panic _, _, _ => False
  | .outgrown, _, _ => False

theorem range_own {α : Type} {g : Operand} {ps : Array Tmp} {assign body : Code} {Q : Exit → Act → World → Prop} {a : Act} {w : World}
    (hro : F.round = none) (h1 : 1 ≤ n) {gf : Nat} {lb : Array Value} (hg : a.eval g = .func (.func gf) #[] lb) (hFg : F.fn gf) (eg : ∀ args w, (callFunc gf args).run P w = .ok (.enter gf args) w)
    {encs : α → Array Value} {B : World → Prop} {xs : List α} {Y0 : Nat → Prop} (hps : ∀ x, (encs x).size = ps.size) (hY0 : ∀ k, Y0 k → k < w.heap.size)
    (hseq : ∀ W, Fr none_ w W → SeqOwn F (n - 1) P gf lb encs B xs W)
    (I : List α → (Nat → Prop) → World → Prop) (Ix : Code → List α → World → Prop) (hI : ∀ s Y W W', I s Y W → Fr (fun k => w.heap.size ≤ k ∧ ¬ Y k) W W' → I s Y W') (hIx : ∀ c s W W', Ix c s W → Fr (fun k => k = w.heap.size ∨ k = w.heap.size + 1) W W' → Ix c s W')
    (hYD : ∀ s Y W, I s Y W → ¬ Y w.heap.size ∧ ¬ Y (w.heap.size + 1))
    (hIB : ∀ s Y W, I s Y W → B W) (h0 : I [] Y0 w)
    (hround : ∀ (l : Nat) (pre : List α) (x : α) (rest : List α) (Y : Nat → Prop) (W0 W1 : World), xs = pre ++ x :: rest → I pre Y W0 → Fr (fun k => w.heap.size + 2 ≤ k ∧ ¬ Y k) W0 W1 → w.heap.size + 2 ≤ W0.heap.size →
      assign.wpIn (F.inRound l) (n - 1 - 1) P (Exit.then (fun a₁ W2 => Rec w.heap.size W1 W2 ∧ ∀ W3, Fr (one (w.heap.size + 1)) W2 W3 → W3.heap.size = W2.heap.size →
        body.wpIn (F.inRound l) (n - 1 - 1) P (ownPost w.heap.size Y I Ix (pre ++ [x]) W1 W3) a₁ W3) (fun _ _ _ => False)) { tmps := (ps.zip (encs x)).foldl (fun t (p, v) => t.setIfInBounds p v) a.tmps, defers := [] } W1)
    (hdone : ∀ W Y, w.heap.size + 2 ≤ W.heap.size → I xs Y W → W.heap[w.heap.size]? = some (.deferred (some [])) → Q .normal { a with defers := { target := .collected w.heap.size, args := #[] } :: a.defers } W)
    (hstop : ∀ c pre W, w.heap.size + 2 ≤ W.heap.size → pre <+: xs → Ix c pre W → W.heap[w.heap.size]? = some (.deferred (some [])) → c.wpIn F n P Q { a with defers := { target := .collected w.heap.size, args := #[] } :: a.defers } W) :
    (Code.rangeFunc g ps assign body).wpIn F n P Q a w := by
  refine wpIn_rangeFunc fun fn hfn => ?_
  rw [hro]
  obtain ⟨D, hD⟩ : ∃ D, D = w.heap.size := ⟨_, rfl⟩
  rw [← hD] at hY0 hI hIx hround hdone hstop hYD
  obtain ⟨rc, hrc⟩ : ∃ rc : LoopState → Option Code → Loop, rc = fun st pe => { state := st, pending := pe, fn, tmps := a.tmps, params := ps, assign, body, defers := D } := ⟨_, rfl⟩
  obtain ⟨W1, hW1⟩ : ∃ W1, (w.alloc (.deferred (some []))).alloc (.loop (rc .ready none)) = W1 := ⟨_, rfl⟩
  have hfw : Fr none_ w W1 := by rw [← hW1]; exact (Fr.alloc none_ w _).alloc_r _
  have hW1s : W1.heap.size = D + 2 := by rw [← hW1, hD]; simp
  have hL1 : W1.heap[D + 1]? = some (.loop (rc .ready none)) := by
    rw [← hW1, hD]; have := World.alloc_heap_new (w.alloc (.deferred (some []))) (.loop (rc .ready none)); rwa [World.size_alloc] at this
  have hK1 : W1.heap[D]? = some (.deferred (some [])) := by
    rw [← hW1, hD]; exact (Below.heap_alloc _ _ _ (by simp)).trans (World.alloc_heap_new w _)
  have ltL : ∀ {W : World} {o : Obj}, W.heap[D + 1]? = some o → D + 1 < W.heap.size := fun h => (Array.getElem?_eq_some_iff.1 h).1
  refine ⟨D + 1, [{ target := .collected D, args := #[] }], W1, { target := .fn (.func gf) lb, args := #[.func (.yield (D + 1)) #[] #[]] }, W1, gf,
    #[.func (.yield (D + 1)) #[] #[]] ++ lb, W1, ?_, ?_, ?_, ?_, fun _ => h1, ?_⟩
  · rw [← hW1, hrc, hD]; exact run_enterLoop_outer _ _ _ _ _
  · simp only [resolve, hg]
    simp [go_sem]
  · intro f' hf'; simp [Target.leads] at hf'; subst hf'; exact hFg
  · simp [invoke, go_sem, eg]
  · refine (hseq W1 hfw (D + 1)
      (fun pre Y W => ∃ YI, (Y = fun k => YI k ∨ k = D ∨ k = D + 1) ∧ I pre YI W ∧ W.heap[D + 1]? = some (.loop (rc .ready none)) ∧ W.heap[D]? = some (.deferred (some [])))
      (fun pre W => ∃ c, Ix c pre W ∧ W.heap[D + 1]? = some (.loop (rc .done (some c))) ∧ W.heap[D]? = some (.deferred (some [])))
      (fun k => Y0 k ∨ k = D ∨ k = D + 1)
      (fun s Y A B hs f => ?_)
      (fun s Y W hs => by obtain ⟨YI, _, hs, _⟩ := hs; exact hIB s YI W hs) ?_ (fun k hk => by rcases hk with q | q | q; have := hY0 k q; omega; omega; omega) ⟨Y0, rfl, hI [] Y0 w W1 h0 hfw.none, hL1, hK1⟩).mono ?_
    · obtain ⟨YI, rfl, hi, hl, hk⟩ := hs
      have nl : ¬ (W1.heap.size ≤ D + 1 ∧ ¬ (YI (D + 1) ∨ D + 1 = D ∨ D + 1 = D + 1)) := fun q => q.2 (Or.inr (Or.inr rfl))
      have nk : ¬ (W1.heap.size ≤ D ∧ ¬ (YI D ∨ D = D ∨ D = D + 1)) := fun q => q.2 (Or.inr (Or.inl rfl))
      exact ⟨YI, rfl, hI s YI A B hi (f.mono fun k _ e => ⟨by have := e.1; omega, fun q => e.2 (Or.inl q)⟩), (f.block _ (ltL hl) nl).trans hl, (f.block _ (by have := ltL hl; omega) nk).trans hk⟩
    · rintro pre x rest Y W0 W ex ⟨YI, rfl, hi, hl0, hk0⟩ f01
      have nl : ¬ (W1.heap.size ≤ D + 1 ∧ ¬ (YI (D + 1) ∨ D + 1 = D ∨ D + 1 = D + 1)) := fun q => q.2 (Or.inr (Or.inr rfl))
      have nk : ¬ (W1.heap.size ≤ D ∧ ¬ (YI D ∨ D = D ∨ D = D + 1)) := fun q => q.2 (Or.inr (Or.inl rfl))
      have hl : W.heap[D + 1]? = some (.loop (rc .ready none)) := (f01.block _ (ltL hl0) nl).trans hl0
      have hk : W.heap[D]? = some (.deferred (some [])) := (f01.block _ (by have := ltL hl0; omega) nk).trans hk0
      have hy := run_yield (P := P) (args := encs x) hl (by rw [hrc]; exact hps x)
      rw [hrc] at hy
      refine ⟨fn, _, assign, body, hy, roundIn_of_wpIn hfn (wpIn_mono (hround (D + 1) pre x rest YI W0 W ex hi (f01.mono fun k _ e => ⟨by have := e.1; omega, fun q => e.2 (Or.inl q)⟩) (by have := ltL hl0; omega)) ?_)⟩
      intro e a₁ W2 hp
      cases e with
      | normal =>
        obtain ⟨hr, hb⟩ := hp
        have hl2 : W2.heap[D + 1]? = some (.loop (rc .ready none)) := hr.2.trans hl
        have hk2 : W2.heap[D]? = some (.deferred (some [])) := hr.1.trans hk
        refine ⟨_, run_beginRound hl2 (by rw [hrc]), ?_⟩
        obtain ⟨W3, hW3⟩ : ∃ W3, W3 = W2.putObj (D + 1) (.loop { rc .ready none with state := .busy }) := ⟨_, rfl⟩
        have f3 : Fr (one (D + 1)) W2 W3 := by rw [hW3]; exact Fr.putObj _ _ _
        have hl3 : W3.heap[D + 1]? = some (.loop { rc .ready none with state := .busy }) := by rw [hW3]; exact World.putObj_heap_same (ltL hl2)
        have hk3 : W3.heap[D]? = some (.deferred (some [])) := (f3.block _ (by have := ltL hl2; omega) (fun e => by unfold one at e; omega)).trans hk2
        rw [← hW3]
        refine wpIn_mono (hb W3 f3 (by rw [hW3]; simp)) ?_
        have fin : ∀ (jump : Option Code) (W' : World), Rec D W3 W' →
            (Instr.endRound (D + 1) jump).run P W' = .ok (.bool jump.isNone) (W'.putObj (D + 1) (.loop (rc (if jump.isNone then .ready else .done) jump))) ∧
            (W'.putObj (D + 1) (.loop (rc (if jump.isNone then .ready else .done) jump))).heap[D + 1]? = some (.loop (rc (if jump.isNone then .ready else .done) jump)) ∧
            (W'.putObj (D + 1) (.loop (rc (if jump.isNone then .ready else .done) jump))).heap[D]? = some (.deferred (some [])) := fun jump W' hr => by
          have hl4 := hr.2.trans hl3
          have hk4 := hr.1.trans hk3
          have := run_endRound (P := P) jump hl4
          rw [hrc] at this ⊢
          exact ⟨this, World.putObj_heap_same (ltL hl4), (World.putObj_heap_other (by omega)).trans hk4⟩
        have hfr : ∀ (W' : World) (o : Obj), Fr (one (D + 1)) W' (W'.putObj (D + 1) o) := fun W' o => Fr.putObj W' (D + 1) o
        rintro e a3 W4 hp
        cases e with
        | normal =>
          obtain ⟨h1, Y', h2, h3, h4⟩ := hp
          obtain ⟨q1, q2, q3⟩ := fin none W4 h1
          have hyd := hYD _ _ _ h2
          refine ⟨_, _, q1, .inl ⟨rfl, _, ⟨Y', rfl, hI _ _ _ _ h2 ((hfr _ _).mono fun k _ e => by unfold one at e; subst e; exact ⟨by omega, hyd.2⟩), q2, q3⟩, h3.trans ((hfr _ _).mono fun k _ e => Or.inr (Or.inr e)), fun k hk5 => ?_⟩⟩
          rcases hk5 with q | q
          · rcases h4 k q with q | q
            · exact Or.inl (Or.inl q)
            · exact Or.inr q
          · exact Or.inl (Or.inr q)
        | ret =>
          obtain ⟨h1, h2⟩ := hp
          obtain ⟨q1, q2, q3⟩ := fin (some .ret) W4 h1
          exact ⟨_, _, q1, .inr ⟨rfl, .ret, hIx _ _ _ _ h2 ((hfr _ _).mono fun k _ e => Or.inr e), q2, q3⟩⟩
        | exit id =>
          obtain ⟨h1, h2⟩ := hp
          obtain ⟨q1, q2, q3⟩ := fin (some (.exit id)) W4 h1
          exact ⟨_, _, q1, .inr ⟨rfl, .exit id, hIx _ _ _ _ h2 ((hfr _ _).mono fun k _ e => Or.inr e), q2, q3⟩⟩
        | goto t =>
          obtain ⟨h1, h2⟩ := hp
          obtain ⟨q1, q2, q3⟩ := fin (some (.goto t)) W4 h1
          exact ⟨_, _, q1, .inr ⟨rfl, .goto t, hIx _ _ _ _ h2 ((hfr _ _).mono fun k _ e => Or.inr e), q2, q3⟩⟩
        | panic ch => exact hp.elim
        | outgrown => exact hp.elim
      | ret => exact hp.elim
      | exit id => exact hp.elim
      | goto t => exact hp.elim
      | panic ch => exact hp.elim
      | outgrown => exact hp.elim
    · skip
      rintro e W2 ⟨⟨v, rfl⟩, (⟨Y, YI, rfl, hi, hl, hk⟩ | ⟨pre, hp, c, hi, hl, hk⟩)⟩
      · have hlt := ltL hl
        have hyd := hYD _ _ _ hi
        refine ⟨none, _, by have := run_endLoop (P := P) hl (by rw [hrc]; simp); rw [hrc] at this; exact this, hdone _ YI (by simp; omega) (hI _ _ _ _ hi ((Fr.putObj W2 (D + 1) _).mono fun k _ e => by unfold one at e; subst e; exact ⟨by omega, hyd.2⟩)) ((World.putObj_heap_other (by omega)).trans hk)⟩
      · have hlt := ltL hl
        refine ⟨some c, _, by have := run_endLoop (P := P) hl (by rw [hrc]; simp); rw [hrc] at this; exact this, hstop c pre _ (by simp; omega) hp (hIx _ _ _ _ hi ((Fr.putObj W2 (D + 1) _).mono fun k _ e => Or.inr e)) ((World.putObj_heap_other (by omega)).trans hk)⟩
end Go.Proofs.YtckkccnebjacdaaGreat
