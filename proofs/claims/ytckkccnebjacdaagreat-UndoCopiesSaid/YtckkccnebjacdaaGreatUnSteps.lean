/-
  Package undo's statements: steps, as they came in; 'large'.
-/
import Derived.Test.YtckkccnebjacdaaGreatMgUnArgs
import Derived.Deep.RegionHeld3
namespace Go.Proofs.YtckkccnebjacdaaGreat
open Go.ChangeShapes Go.WideShapes Go.ChangeAt Go.RowKit Go.Deep Go.Joins
set_option linter.unusedVariables false
set_option linter.unusedSimpArgs false
set_option maxRecDepth 100000

structure StepU where
  kind : Nat
  v : VerV
  o : VerV
  n : Int
  at_ : Int
  raw : Nat
def StepU.list (s : StepU) : List Value := [.int .u8 (s.kind : Int), .int .i64 s.v.wr, .int .i64 s.v.ts, .bool s.v.tomb, .string s.v.val, .int .i64 s.o.wr, .int .i64 s.o.ts, .bool s.o.tomb, .string s.o.val, .int .i64 s.n, .int .i64 s.at_, .int .u64 (s.raw : Int)]
structure StepU.In (s : StepU) : Prop where
  kind : s.kind < 256
  v : s.v.In
  o : s.o.In
  n : -9223372036854775808 ≤ s.n ∧ s.n < 9223372036854775808
  at_ : -9223372036854775808 ≤ s.at_ ∧ s.at_ < 9223372036854775808
  raw : s.raw < 18446744073709551616
structure StepsU (w : World) (a : Option Addr) (l : List StepU) : Prop where
  ok : ∀ x ∈ l, x.In
  len : l.length ≤ 140737488351232
  at_ : LsAt w a 12 StepU.list l
theorem StepsU.kept {F : Nat → Prop} {w w' : World} {a : Option Addr} {l : List StepU} (h : StepsU w a l) (f : Fr F w w') (hn : ∀ k, blk a k → ¬ F k) : StepsU w' a l := ⟨h.ok, h.len, h.at_.kept f hn⟩
theorem opens_step : Opens Tryz.prog 52 [5, 3, 3, 4, 9, 3, 3, 4, 9, 3, 3, 31] := by
  refine opens_struct Tryz.underlying52 [[5], [3, 3, 4, 9], [3, 3, 4, 9], [3], [3], [31]] rfl (by kernel_rfl) ?_
  intro i f ls h1 h2
  have hi : i < 6 := (List.getElem?_eq_some_iff.1 h2).1
  rcases (show i = 0 ∨ i = 3 ∨ i = 4 ∨ i = 5 ∨ i = 1 ∨ i = 2 by omega) with rfl | rfl | rfl | rfl | rfl | rfl
  case inr.inr.inr.inr.inl =>
    obtain rfl : _ = f := by simpa using h1
    obtain rfl : _ = ls := by simpa using h2
    exact ⟨opens_ver, rfl, by kernel_rfl⟩
  case inr.inr.inr.inr.inr =>
    obtain rfl : _ = f := by simpa using h1
    obtain rfl : _ = ls := by simpa using h2
    exact ⟨opens_ver, rfl, by kernel_rfl⟩
  all_goals
    (obtain rfl : _ = f := by simpa using h1
     obtain rfl : _ = ls := by simpa using h2
     exact ⟨opens_plain (by kernel_rfl), rfl, by kernel_rfl⟩)
theorem nat_u8 {n : Int} (h : (Lit.int .u8 n).wf = true) : ∃ k : Nat, k < 256 ∧ n = k := by
  unfold Lit.wf at h
  simp only [Bool.and_eq_true, decide_eq_true_eq] at h
  have h1 : (0 : Int) ≤ n := h.1
  have h2 : n ≤ (255 : Int) := h.2
  exact ⟨n.toNat, by omega, by omega⟩
theorem nat_u64 {n : Int} (h : (Lit.int .u64 n).wf = true) : ∃ k : Nat, k < 18446744073709551616 ∧ n = k := by
  unfold Lit.wf at h
  simp only [Bool.and_eq_true, decide_eq_true_eq] at h
  have h1 : (0 : Int) ≤ n := h.1
  have h2 : n ≤ (18446744073709551615 : Int) := h.2
  exact ⟨n.toNat, by omega, by omega⟩
theorem open_steps {H : Type} {enc : TypeId × Value → H} {w : World} {base : Nat} {spare : Nat → Bool} {held : Bool} {a : Option Addr} {len cap : Nat} {d : DataW H} {ps : List MemPlace}
    (h : DataW.Trod enc Tryz.prog w base spare held 49 (.slice a len cap) d ps) (hw : ∀ x ∈ d.weights Tryz.prog 49, x ≤ reachBytes) : ∃ l : List StepU, l.length = len ∧ StepsU w a l := by
  obtain ⟨hs, hlen⟩ := open_leaves Tryz.underlying49 opens_step (by kernel_rfl) (of_decide_eq_true (by kernel_rfl)) h hw
  obtain ⟨l, hl, hp, hat⟩ := ls_of (α := StepU) (cells := StepU.list) (p := StepU.In) (sz := 12) (fun _ => rfl) (by omega) hs.none (fun ad ha i hi => by
    obtain ⟨u0, h0, p0⟩ := hs.cells ad ha i hi 0 5 rfl
    obtain ⟨u1, h1, p1⟩ := hs.cells ad ha i hi 1 3 rfl
    obtain ⟨u2, h2, p2⟩ := hs.cells ad ha i hi 2 3 rfl
    obtain ⟨u3, h3, p3⟩ := hs.cells ad ha i hi 3 4 rfl
    obtain ⟨u4, h4, p4⟩ := hs.cells ad ha i hi 4 9 rfl
    obtain ⟨u5, h5, p5⟩ := hs.cells ad ha i hi 5 3 rfl
    obtain ⟨u6, h6, p6⟩ := hs.cells ad ha i hi 6 3 rfl
    obtain ⟨u7, h7, p7⟩ := hs.cells ad ha i hi 7 4 rfl
    obtain ⟨u8, h8, p8⟩ := hs.cells ad ha i hi 8 9 rfl
    obtain ⟨u9, h9, p9⟩ := hs.cells ad ha i hi 9 3 rfl
    obtain ⟨ua, ha', pa⟩ := hs.cells ad ha i hi 10 3 rfl
    obtain ⟨ub, hb', pb⟩ := hs.cells ad ha i hi 11 31 rfl
    obtain ⟨n0, rfl, w0⟩ := p0.int .u8 Tryz.underlying5
    obtain ⟨n1, rfl, w1⟩ := p1.int .i64 Tryz.underlying3
    obtain ⟨n2, rfl, w2⟩ := p2.int .i64 Tryz.underlying3
    obtain ⟨b3, rfl⟩ := p3.bool Tryz.underlying4
    obtain ⟨s4, rfl, hs4⟩ := p4.str Tryz.underlying9
    obtain ⟨n5, rfl, w5⟩ := p5.int .i64 Tryz.underlying3
    obtain ⟨n6, rfl, w6⟩ := p6.int .i64 Tryz.underlying3
    obtain ⟨b7, rfl⟩ := p7.bool Tryz.underlying4
    obtain ⟨s8, rfl, hs8⟩ := p8.str Tryz.underlying9
    obtain ⟨n9, rfl, w9⟩ := p9.int .i64 Tryz.underlying3
    obtain ⟨na, rfl, wa⟩ := pa.int .i64 Tryz.underlying3
    obtain ⟨nb, rfl, wb⟩ := pb.int .u64 Tryz.underlying31
    obtain ⟨k0, e0, rfl⟩ := nat_u8 w0
    obtain ⟨kb, eb, rfl⟩ := nat_u64 wb
    refine ⟨⟨k0, ⟨n1, n2, b3, s4⟩, ⟨n5, n6, b7, s8⟩, n9, na, kb⟩, ⟨e0, ⟨(wf_i64 w1).2, by rw [reach_is] at hs4; exact hs4⟩, ⟨(wf_i64 w5).2, by rw [reach_is] at hs8; exact hs8⟩, wf_i64 w9, wf_i64 wa, eb⟩, fun j v hv => ?_⟩
    have hj : j < 12 := (List.getElem?_eq_some_iff.1 hv).1
    rcases (show j = 0 ∨ j = 1 ∨ j = 2 ∨ j = 3 ∨ j = 4 ∨ j = 5 ∨ j = 6 ∨ j = 7 ∨ j = 8 ∨ j = 9 ∨ j = 10 ∨ j = 11 by omega) with rfl | rfl | rfl | rfl | rfl | rfl | rfl | rfl | rfl | rfl | rfl | rfl
    · cases hv; exact h0
    · cases hv; exact h1
    · cases hv; exact h2
    · cases hv; exact h3
    · cases hv; exact h4
    · cases hv; exact h5
    · cases hv; exact h6
    · cases hv; exact h7
    · cases hv; exact h8
    · cases hv; exact h9
    · cases hv; exact ha'
    · cases hv; exact hb')
  exact ⟨l, hl, ⟨hp, by rw [hl]; rw [reach_is] at hlen; exact hlen, hat⟩⟩

def uSum : List StepU → Nat
  | [] => 0
  | x :: r => 150 + min 5000 x.v.val.size + min 5000 x.o.val.size + uSum r
theorem uSum_append (a b : List StepU) : uSum (a ++ b) = uSum a + uSum b := by
  induction a with
  | nil => simp [uSum]
  | cons x r ih => simp only [List.cons_append, uSum, ih]; omega
theorem uSum_length (l : List StepU) : 150 * l.length ≤ uSum l := by
  induction l with
  | nil => simp [uSum]
  | cons x r ih => simp only [List.length_cons, uSum]; omega
theorem uSum_take_le (l : List StepU) (k : Nat) : uSum (l.take k) ≤ uSum l := by
  have := uSum_append (l.take k) (l.drop k)
  rw [List.take_append_drop] at this; omega
def isLarge (l : List StepU) : Bool := decide (20000 ≤ uSum l)
theorem isLarge_no {l : List StepU} (h : isLarge l = false) : l.length ≤ 134 := by
  unfold isLarge at h
  have h := of_decide_eq_false h
  have := uSum_length l
  omega
/-- Go's builtin min, as a step of a region that draws. -/
theorem stepMin {P : Program} {w : World} {ops : Array Oper} {o : Oper} {a : Act} {Q : Exit → Act → World → Prop} {K : Act → World → Prop} {E : Prop} (hw : Region.wanted o (yielded ops a.tmps) = true) (x y : Operand) (ts : Array TypeId) (hop : o.op = Op.call { callee := Callee.builtin Builtin.min, args := #[x, y], argTypes := ts }) (k k' : IntKind) (i j m : Nat) (hm : m = min i j)
    (hx : a.eval x = .int k (i : Int)) (hy : a.eval y = .int k' (j : Int)) (hK : K (a.put o.dst (.int k (m : Int))) w) : if Region.wanted o (yielded ops a.tmps) = true then Oper.wp P o a w K Q else E := by
  rw [if_pos hw]
  unfold Oper.wp
  have hrun := run_min_nat (P := P) (w := w) ts o.type k k' i j m hm
  simp [execOp, hop, resolve, invoke, builtin, hx, hy, hrun, Result.andThen]
  exact hK
set_option maxHeartbeats 4000000 in
theorem large_any (w : World) (a : Option Addr) (cap : Nat) (l : List StepU) (h : StepsU w a l) :
    Calls Tryz.prog 20 #[.slice a l.length cap] w fun e w' => e = .returned (.bool (isLarge l)) ∧ ∃ n, w' = w.drewN n := by
  have hlen := h.len
  obtain ⟨nl, hnl⟩ : ∃ n, n = l.length := ⟨_, rfl⟩
  rw [← hnl] at hlen ⊢
  have Hl := Lib.hid hlen
  have HNL := Lib.hid hnl
  clear hlen hnl
  go_enter Tryz.func20, Tryz.ntmps20
  go_wp2_with fail
  go_loopw [3, 4] (fun n i wr => ∃ k S q : Nat, Hid (k ≤ nl) ∧ i = .int .i64 k ∧ n = .int .i64 S ∧ Hid (S = uSum (l.take k)) ∧ wr = w.drewN q) (fun _ i _ => nl - (intOf i).toNat)
  case atStart => exact ⟨0, 0, 0, Nat.zero_le _, rfl, rfl, by (show 0 = _; simp [uSum]), rfl⟩
  case round =>
    obtain ⟨k, S, q, hk, rfl, rfl, hS, rfl⟩ := hrel
    by_cases hlt : k < nl
    · by_cases hs : S < 20000
      · obtain ⟨x, hx⟩ : ∃ x, l[k]? = some x := ⟨l[k]'(by rw [← HNL.out]; exact hlt), List.getElem?_eq_getElem _⟩
        have hx1 := (h.ok x (List.mem_of_getElem? hx)).v.sz
        have hx2 := (h.ok x (List.mem_of_getElem? hx)).o.sz
        obtain ⟨b, o, rfl, hb, hc⟩ := h.at_.get hx
        have hc4 : w.cell? ⟨b, o + k * 12 + 4, none⟩ = some (.string x.v.val) := hc k x hx 4 _ rfl
        have hc8 : w.cell? ⟨b, o + k * 12 + 8, none⟩ = some (.string x.o.val) := hc k x hx 8 _ rfl
        have hk2 : k ≤ 140737488351232 := by have := Hl.out; omega
        have Hx := Lib.hid hx
        obtain ⟨M1, hM1⟩ : ∃ M, M = min 5000 x.v.val.size := ⟨_, rfl⟩
        obtain ⟨M2, hM2⟩ : ∃ M, M = min 5000 x.o.val.size := ⟨_, rfl⟩
        have hMl1 : M1 ≤ 5000 := by omega
        have hMl2 : M2 ≤ 5000 := by omega
        have HM1 := Lib.hid hM1
        have HM2 := Lib.hid hM2
        have hk0 : (0 : Int) ≤ (k : Int) := by omega
        have hlti : (k : Int) < (nl : Int) := by omega
        clear hx hc hM1 hM2
        have w1 : IntKind.i64.wrap ((S : Int) + 150) = (S : Int) + 150 := IntWalk.i64_in _ (by omega)
        have w2 : IntKind.i64.wrap ((S : Int) + 150 + (M1 : Int)) = (S : Int) + 150 + (M1 : Int) := IntWalk.i64_in _ (by omega)
        have w3 : IntKind.i64.wrap ((k : Int) + 1) = (k : Int) + 1 := IntWalk.i64_in _ (by omega)
        have w4 : IntKind.i64.wrap ((S : Int) + 150 + (M1 : Int) + (M2 : Int)) = (S : Int) + 150 + (M1 : Int) + (M2 : Int) := IntWalk.i64_in _ (by omega)
        go_wp2_with fail
        go_region_held3 (fun w' => w'.cell? ⟨b, o + k * 12 + 4, none⟩ = some (.string x.v.val) ∧ w'.cell? ⟨b, o + k * 12 + 8, none⟩ = some (.string x.o.val))
          (go_keep)
          (first
            | (refine stepMin rfl (.const (.int .i64 5000)) (.tmp 23) _ rfl .i64 .i64 5000 x.v.val.size M1 HM1.out rfl rfl ?_)
            | (refine stepMin rfl (.const (.int .i64 5000)) (.tmp 32) _ rfl .i64 .i64 5000 x.o.val.size M2 HM2.out rfl rfl ?_))
        all_goals (go_wp2_with fail)
        all_goals go_roundw
        all_goals first
          | (refine ⟨k + 1, S + 150 + M1 + M2, _, hlt, by go_num, by go_num, ?_, rfl⟩
             show S + 150 + M1 + M2 = uSum (l.take (k + 1))
             rw [take_more Hx.out, uSum_append, ← hS.out, HM1.out, HM2.out]
             simp only [uSum]; omega)
          | (simp [intOf]; omega)
      · have hL : isLarge l = true := by
          have h1 := uSum_take_le l k
          rw [← hS.out] at h1
          unfold isLarge; exact decide_eq_true (by omega)
        have HL := Lib.hid hL
        clear hL
        go_wp2_with fail
        go_ret
        rw [HL.out]
        exact ⟨rfl, q, rfl⟩
    · have hL : isLarge l = decide ((20000 : Int) ≤ (S : Int)) := by
        unfold isLarge; rw [hS.out, List.take_of_length_le (by have := HNL.out; omega), decide_eq_decide]; omega
      have HL := Lib.hid hL
      clear hL
      go_wp2_with fail
      go_ret
      rw [HL.out]
      exact ⟨rfl, q, rfl⟩
end Go.Proofs.YtckkccnebjacdaaGreat
