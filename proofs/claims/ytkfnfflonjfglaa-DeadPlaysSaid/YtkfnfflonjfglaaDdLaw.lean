/-
  The statements' own functions of layer 10: steps that came in, what one does, the sum, the examples.
-/
import Derived.Test.YtkfnfflonjfglaaDeadPass
import Derived.Test.YtkfnfflonjfglaaArgs
import Derived.Deep.QuietTactic
import Derived.BigQuiet
namespace Go.Proofs.Ytkfnfflonjfglaa
open Go.RowKit
set_option linter.unusedVariables false
set_option linter.unusedSimpArgs false
set_option maxRecDepth 100000

structure StepV where
  what : Nat
  n : Int
structure StepV.Ok (x : StepV) : Prop where
  what : x.what < 256
  n : (Lit.int .i64 x.n).wf = true
/-- Steps that came in: at a, one behind the other. -/
structure StepsAt (w : World) (a : Option Addr) (l : List StepV) : Prop where
  ok : ∀ x ∈ l, x.Ok
  len : l.length ≤ 140737488351232
  at_ : l = [] ∨ ∃ b o, a = some ⟨b, o, none⟩ ∧ b < w.heap.size ∧ ∀ i (x : StepV), l[i]? = some x →
    w.cell? ⟨b, o + i * 2, none⟩ = some (.int .u8 x.what) ∧ w.cell? ⟨b, o + i * 2 + 1, none⟩ = some (.int .i64 x.n)
theorem StepsAt.kept0 {w w' : World} {a : Option Addr} {l : List StepV} (h : StepsAt w a l) (f : Fr none_ w w') : StepsAt w' a l := by
  refine ⟨h.ok, h.len, ?_⟩
  rcases h.at_ with h | ⟨b, o, ha, hb, hc⟩
  · exact Or.inl h
  · refine Or.inr ⟨b, o, ha, Nat.lt_of_lt_of_le hb f.size, fun i x hx => ?_⟩
    have q := hc i x hx
    exact ⟨Fr.keep f q.1, Fr.keep f q.2⟩

def doV (y : StepV) (s : DS) : Int × DS :=
  if y.what = 0 then ((if (dAdd s y.n).1 = 0 then 1 else 0), (dAdd s y.n).2)
  else if y.what = 1 then ((if (dLess s y.n).1 = true then -1 else 0), (dLess s y.n).2)
  else (-((dPass s y.n).1 : Int), (dPass s y.n).2)
theorem doV_wf {s : DS} (h : s.WF) (y : StepV) : (doV y s).2.WF ∧ ((doV y s).2.all : Int) = s.all + (doV y s).1 := by
  unfold doV
  split
  · obtain ⟨a, b, c, d⟩ := add_law h y.n
    refine ⟨a, ?_⟩
    simp only
    rw [d]
    split <;> omega
  · split
    · obtain ⟨a, b, c, d⟩ := less_law h y.n
      refine ⟨a, ?_⟩
      simp only
      split
      · rename_i e; rw [if_pos e] at d; omega
      · rename_i e; rw [if_neg e] at d; omega
    · obtain ⟨a, b, c⟩ := pass_law h y.n
      exact ⟨a, by simp only; omega⟩

set_option maxHeartbeats 2000000 in
theorem do_any {w : World} {d m : Nat} {s : DS} (h : DeadAt w d m s) (hw : s.WF) (y : StepV) (hy : y.Ok) :
    Calls Try.prog 12 #[.agg #[.int .u8 y.what, .int .i64 y.n], .pointer (some ⟨d, 0, none⟩)] w fun e w' => e = .returned (.int .i64 (doV y s).1) ∧ DeadAt w' d m (doV y s).2 ∧ Fr (two d m) w w' := by
  have fB := Fr.alloc none_ w (.cells #[.int .u8 y.what, .int .i64 y.n] 28)
  have hB := h.kept0 fB
  have hm := hw.max
  by_cases k0 : y.what = 0
  · have e : doV y s = ((if (dAdd s y.n).1 = 0 then 1 else 0), (dAdd s y.n).2) := by unfold doV; rw [if_pos k0]
    rw [e]
    have hc := Dead_Add hB hm y.n (hw.le64 _)
    have hk : (y.what : Int) = 0 := by omega
    rw [hk] at hc fB ⊢
    generalize dAdd s y.n = R at hc ⊢
    obtain ⟨q, s'⟩ := R
    simp only at hc ⊢
    have HC := Lib.hid hc
    have FB := Lib.hid fB
    clear hc fB hB hk k0 e h
    by_cases hq : q = 0
    · rw [if_pos hq]
      subst hq
      go_enter Try.func12, Try.ntmps12
      go_wp2_with fail
      refine HC.out.mono ?_
      rintro e w1 ⟨rfl, h1, f1⟩
      go_wp2_with fail
      go_ret
      exact ⟨rfl, h1, FB.out.none.trans f1⟩
    · rw [if_neg hq]
      have b : ((q : Int) == 0) = false := beq_eq_false_iff_ne.2 (by omega)
      clear hq
      go_enter Try.func12, Try.ntmps12
      go_wp2_with fail
      refine HC.out.mono ?_
      rintro e w1 ⟨rfl, h1, f1⟩
      go_wp2_with fail
      go_ret
      exact ⟨rfl, h1, FB.out.none.trans f1⟩
  by_cases k1 : y.what = 1
  · have e : doV y s = ((if (dLess s y.n).1 = true then -1 else 0), (dLess s y.n).2) := by unfold doV; rw [if_neg k0, if_pos k1]
    rw [e]
    have hc := Dead_Less hB hm y.n (hw.le_all _)
    have hk : (y.what : Int) = 1 := by omega
    rw [hk] at hc fB ⊢
    generalize dLess s y.n = R at hc ⊢
    obtain ⟨q, s'⟩ := R
    simp only at hc ⊢
    have HC := Lib.hid hc
    have FB := Lib.hid fB
    clear hc fB hB hk k0 k1 e h
    cases q with
    | true =>
      go_enter Try.func12, Try.ntmps12
      go_wp2_with fail
      refine HC.out.mono ?_
      rintro e w1 ⟨rfl, h1, f1⟩
      go_wp2_with fail
      go_ret
      exact ⟨rfl, h1, FB.out.none.trans f1⟩
    | false =>
      go_enter Try.func12, Try.ntmps12
      go_wp2_with fail
      refine HC.out.mono ?_
      rintro e w1 ⟨rfl, h1, f1⟩
      go_wp2_with fail
      go_ret
      exact ⟨rfl, h1, FB.out.none.trans f1⟩
  · have e : doV y s = (-((dPass s y.n).1 : Int), (dPass s y.n).2) := by unfold doV; rw [if_neg k0, if_neg k1]
    rw [e]
    have hc := Dead_Pass hB hw y.n
    have b0 : ((y.what : Int) == 0) = false := beq_eq_false_iff_ne.2 (by omega)
    have b1 : ((y.what : Int) == 1) = false := beq_eq_false_iff_ne.2 (by omega)
    have hpb : (dPass s y.n).1 ≤ 64 := by have := (pass_law hw y.n).2.2; omega
    generalize dPass s y.n = R at hc hpb ⊢
    obtain ⟨q, s'⟩ := R
    simp only at hc hpb ⊢
    have hw1 : IntKind.i64.wrap (-(q : Int)) = -(q : Int) := IntWalk.i64_in _ (by omega)
    have HC := Lib.hid hc
    have FB := Lib.hid fB
    have hyw := hy.what
    clear hc fB hB k0 k1 e h
    go_enter Try.func12, Try.ntmps12
    go_wp2_with fail
    refine HC.out.mono ?_
    rintro e w1 ⟨rfl, h1, f1⟩
    go_wp2_with fail
    go_ret
    exact ⟨rfl, h1, FB.out.none.trans f1⟩

/-! the sum -/
theorem tot_take (l : List (Int × Nat)) (k : Nat) : tot (l.take k) ≤ tot l := by
  have h := List.take_append_drop k l
  have : tot l = tot (l.take k) + tot (l.drop k) := by
    conv => lhs; rw [← h]
    unfold tot; rw [List.map_append, List.sum_append]
  omega
set_option maxHeartbeats 1000000 in
theorem sum_any {w : World} {d m : Nat} {s : DS} (h : DeadAt w d m s) (hw : s.WF) : Calls Try.prog 13 #[.pointer (some ⟨d, 0, none⟩)] w fun e w' => e = .returned (.int .i64 (s.all : Int)) ∧ Fr none_ w w' := by
  have hcs := Dead_Counts h hw.wfk (by have := hw.len; omega) hw.le64
  have hcl : s.counts.length = s.of.length := by unfold DS.counts; rw [List.length_map, keys_length]
  have HW := Lib.hid hw
  have HCL := Lib.hid hcl
  have HCS := Lib.hid hcs
  obtain ⟨n, hn⟩ : ∃ n, n = s.of.length := ⟨_, rfl⟩
  rw [← hn] at HCS HCL
  have hnb : n ≤ 64 := by rw [hn]; exact hw.len
  clear hcs hcl hw h hn
  go_enter Try.func13, Try.ntmps13
  go_wp2_with fail
  refine HCS.out.mono ?_
  rintro e w1 ⟨a, cap, rfl, hsl, f1, hb⟩
  have F1 := Lib.hid f1
  clear f1 hb
  go_wp2_with fail
  go_loop [3, 5] (fun u i => ∃ k g : Nat, Hid (k ≤ n) ∧ i = .int .i64 k ∧ u = .int .i64 g ∧ Hid (g = tot (s.counts.take k))) (fun _ i => n - (intOf i).toNat)
  case atStart => exact ⟨0, 0, Nat.zero_le _, rfl, rfl, by show 0 = _; simp [tot]⟩
  case round =>
    obtain ⟨k, g, hk, rfl, rfl, hg⟩ := hrel
    by_cases hlt : k < n
    · obtain ⟨p, hp⟩ : ∃ p, s.counts[k]? = some p := ⟨s.counts[k]'(by rw [HCL.out]; exact hlt), List.getElem?_eq_getElem _⟩
      obtain ⟨gg, rfl⟩ := hsl.isAddr (by omega)
      have hfl := flat2_get hp
      have e1 := hsl.cell (i := k * 2 + 1) hfl.2
      have hgb : g ≤ 64 := by have h1 := hg.out; have h2 := tot_take s.counts k; have h3 := counts_sum HW.out; have := HW.out.max; omega
      have hsucc : tot (s.counts.take (k + 1)) = tot (s.counts.take k) + p.2 := by
        rw [take_succ_get2 _ _ _ hp]; unfold tot; rw [List.map_append, List.sum_append]; simp
      have hpb : p.2 ≤ 64 := by have h2 := tot_take s.counts (k + 1); have h3 := counts_sum HW.out; have := HW.out.max; omega
      have HS := Lib.hid hsucc
      generalize p.2 = pn at e1 hpb HS
      clear hp hfl hsucc
      go_wp2_with fail
      go_round
      case rel => exact ⟨k + 1, g + pn, hlt, by go_num, by go_num, by show g + pn = _; rw [HS.out, hg.out]⟩
      case measure => simp [intOf]; omega
    · have hke : k = n := by have := hk.out; omega
      have hg2 : g = s.all := by
        have h1 := hg.out
        rw [hke, List.take_of_length_le (by rw [HCL.out]; exact Nat.le_refl _), counts_sum HW.out] at h1
        exact h1
      have HG := Lib.hid hg2
      clear hke hg2
      go_wp2_with fail
      go_ret
      refine ⟨?_, F1.out⟩
      rw [HG.out]; rfl

/-! the examples -/
def ds0 : DS := ⟨[], 0⟩
def ds1 : DS := (dAdd ds0 5).2
def ds2 : DS := (dAdd ds1 3).2
def ds3 : DS := (dAdd ds2 5).2
def ds4 : DS := (dLess ds3 5).2
def ds5 : DS := (dPass ds4 4).2
theorem dw0 : ds0.WF := WF_new
theorem dw1 : ds1.WF := (add_law dw0 5).1
theorem dw2 : ds2.WF := (add_law dw1 3).1
theorem dw3 : ds3.WF := (add_law dw2 5).1
theorem dw4 : ds4.WF := (less_law dw3 5).1
theorem dw5 : ds5.WF := (pass_law dw4 4).1
theorem de1 : (dAdd ds0 5).1 = 0 := by decide +kernel
theorem de2 : (dAdd ds1 3).1 = 0 := by decide +kernel
theorem de3 : (dAdd ds2 5).1 = 0 := by decide +kernel
theorem de4 : ds3.all = 3 ∧ ds3.cnt 5 = 2 ∧ ds3.of.length = 2 := by decide +kernel
theorem keys_is (s : DS) (l : List Int) (hp : s.of.map (·.1) = l ∨ s.of.map (·.1) = l.reverse) (hs : l.Pairwise (fun a b => a ≤ b)) : s.keys = l := by
  have h1 : s.keys.Perm (s.of.map (·.1)) := by unfold DS.keys sortK; exact List.mergeSort_perm _ _
  have h2 : (s.of.map (·.1)).Perm l := by
    rcases hp with e | e
    · rw [e]
    · rw [e]; exact List.reverse_perm l
  exact List.Perm.eq_of_pairwise (le := fun a b : Int => a ≤ b) (fun a b _ _ h1 h2 => by omega) (keys_sorted s) hs (h1.trans h2)
theorem dk3 : ds3.keys = [3, 5] := keys_is ds3 [3, 5] (Or.inr (by decide +kernel)) (by decide)
theorem dk4 : ds4.keys = [3, 5] := keys_is ds4 [3, 5] (Or.inr (by decide +kernel)) (by decide)
theorem de5 : ds3.counts = [(3, 1), (5, 2)] := by unfold DS.counts; rw [dk3]; decide +kernel
theorem dc4 : ds4.counts = [(3, 1), (5, 1)] := by unfold DS.counts; rw [dk4]; decide +kernel
theorem dp4 : dPass ds4 4 = passTo ds4 4 [(3, 1), (5, 1)] := by unfold dPass; rw [dc4]
theorem de6 : dLess ds3 4 = (false, ds3) := by unfold dLess; rw [if_pos (by decide +kernel)]
theorem de7 : (dLess ds3 5).1 = true := by decide +kernel
theorem de8 : (dPass ds4 4).1 = 1 := by rw [dp4]; decide +kernel
theorem de9 : ds5.all = 1 := by unfold ds5; rw [dp4]; decide +kernel
theorem de10 : dAdd ds5 0 = (1, ds5) := by unfold dAdd; rw [if_pos (by decide)]
end Go.Proofs.Ytkfnfflonjfglaa
