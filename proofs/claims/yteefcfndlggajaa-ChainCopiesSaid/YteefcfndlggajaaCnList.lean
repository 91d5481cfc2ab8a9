/-
  Package chain: what nodes hands back: the versions behind a handle, one behind the other.
  Package chain: List.
-/
import Derived.Test.YteefcfndlggajaaRange
import Derived.Test.YteefcfndlggajaaCnOps
import Derived.Shelf.Abstract
import Derived.Shelf.RegionOpen
import Derived.OwnWalkIn
import Derived.TacticsInMore
import Derived.LoopNIn
import Derived.LoopIn
namespace Go.Proofs.Yteefcfndlggajaa
open Go.RowKit Go.Shelf
set_option linter.unusedVariables false
set_option linter.unusedSimpArgs false
set_option maxRecDepth 100000

def cWalk (f : Nat → Option NV) : Nat → Nat → List NV
  | 0, _ => []
  | k + 1, h => match f h with
    | none => []
    | some n => n :: cWalk f k n.nx
theorem cWalk_none {f : Nat → Option NV} {k h : Nat} (e : f h = none) : cWalk f k h = [] := by
  cases k with
  | zero => rfl
  | succ k => unfold cWalk; rw [e]
theorem cWalk_some {f : Nat → Option NV} {k h : Nat} {n : NV} (hk : 0 < k) (e : f h = some n) : cWalk f k h = n :: cWalk f (k - 1) n.nx := by
  obtain ⟨k, rfl⟩ : ∃ j, k = j + 1 := ⟨k - 1, by omega⟩
  show (match f h with | none => [] | some n => n :: cWalk f k n.nx) = _
  rw [e]; rfl
def nodeEnc (n : NV) : Array Value := #[.agg n.cells]
theorem node_stored (W : World) (n : NV) : Row (((((((W.alloc (.cells nodeZero 36)).setCell ⟨W.heap.size, 0, none⟩ (.int .i64 (n.wr : Int))).setCell ⟨W.heap.size, 1, none⟩ (.int .i64 (n.ts : Int))).setCell ⟨W.heap.size, 2, none⟩ (.bool n.tomb)).setCell ⟨W.heap.size, 3, none⟩ (.string n.val)).setCell ⟨W.heap.size, 4, none⟩ (.int .u64 (n.nx : Int)))) W.heap.size n.cells 36 ∧
    Fr none_ W (((((((W.alloc (.cells nodeZero 36)).setCell ⟨W.heap.size, 0, none⟩ (.int .i64 (n.wr : Int))).setCell ⟨W.heap.size, 1, none⟩ (.int .i64 (n.ts : Int))).setCell ⟨W.heap.size, 2, none⟩ (.bool n.tomb)).setCell ⟨W.heap.size, 3, none⟩ (.string n.val)).setCell ⟨W.heap.size, 4, none⟩ (.int .u64 (n.nx : Int)))) := by
  refine ⟨((((((Row.new W nodeZero 36).set 0 _).set 1 _).set 2 _).set 3 _).set 4 _), ?_⟩
  have h := (((((Fr.alloc none_ W (.cells nodeZero 36)).setCell_r ⟨W.heap.size, 0, none⟩ (.int .i64 (n.wr : Int)) (fun e => absurd e (Nat.lt_irrefl _))).setCell_r ⟨W.heap.size, 1, none⟩ (.int .i64 (n.ts : Int)) (fun e => absurd e (Nat.lt_irrefl _))).setCell_r ⟨W.heap.size, 2, none⟩ (.bool n.tomb) (fun e => absurd e (Nat.lt_irrefl _))).setCell_r ⟨W.heap.size, 3, none⟩ (.string n.val) (fun e => absurd e (Nat.lt_irrefl _))).setCell_r ⟨W.heap.size, 4, none⟩ (.int .u64 (n.nx : Int)) (fun e => absurd e (Nat.lt_irrefl _))
  exact h
theorem Row.fixed {Z : Nat → Prop} {W0 W1 W' : World} {g : Nat} {cs : Array Value} {t : TypeId} (h : Row W1 g cs t) (k : Kept Z W0 W1 W') (hg : W0.heap.size ≤ g ∨ Z g) : Row W' g cs t := (k g hg h.lt).trans h
section
variable {G : Nat → Prop} {x ab tb N vl : Nat} {c : CfgV} {t : CS}
/-- What nodes' function needs of what is not its own. -/
def NodesB (G : Nat → Prop) (x ab N vl : Nat) (c : CfgV) (t : CS) (W : World) : Prop := Cn G W x c vl N t ∧ W.cell? ⟨ab, 0, none⟩ = some (.pointer (some ⟨x, 0, none⟩))
set_option maxHeartbeats 4000000 in
theorem nodes_for (hN : N < big) {w : World} {top : Nat} (htop : top < 18446744073709551616) (ht : Row w tb #[.int .u64 (top : Int)] 34) :
    SeqFor Fence.wide 3 Try.prog 65 #[.pointer (some ⟨ab, 0, none⟩), .pointer (some ⟨tb, 0, none⟩)] nodeEnc (one tb) (NodesB G x ab N vl c t) (cWalk t.f t.s.used top) w := by
  intro l J Jx hJ hJx hB hY h0
  have hb0 := hB _ _ h0
  have HB := Lib.hid (fun pre W (h : J pre W) => hB pre W h)
  have HJ := Lib.hid hJ
  have HJX := Lib.hid hJx
  have HY := Lib.hid hY
  have c1 := hb0.2
  have hB0 := Lib.hid hb0.1.is_
  have hub : t.s.used < 4294967295 := by have := hb0.1.is_.up.used; unfold big at hN; omega
  have HU := Lib.hid (cn_used hb0.1)
  have H0 := Lib.hid h0
  have HT := Lib.hid ht
  clear hJ hJx hB hY h0 hb0 ht
  refine callsIn_of_wp Try.func65 rfl trivial ?_ rfl
  simp only [Try.ntmps65, List.size_toArray, List.length_cons, List.length_nil, Nat.reduceAdd, Nat.reduceSub, Array.replicate_succ, Array.replicate_zero, List.push_toArray, List.append_toArray, List.nil_append, List.cons_append]
  gi_wp2_with (refine ⟨trivial, ?_⟩; gi_at_call 16; refine (callsIn_wide.2 HU.out).mono ?_; rintro e w1 ⟨rfl, rfl⟩)
  have HUB := Lib.hid (show ∀ k, k < t.s.used → ((k : Int) + 1 : Int) = ((k + 1 : Nat) : Int) from fun k _ => by omega)
  gi_loopw [8] (fun i wr => ∃ (k : Nat) (pre : List NV) (tp : Nat), Hid (k ≤ t.s.used) ∧ i = .int .i64 (k : Int) ∧ Hid (cWalk t.f t.s.used top = pre ++ cWalk t.f (t.s.used - k) tp) ∧ Hid (tp < 18446744073709551616) ∧ Hid (Row wr tb #[.int .u64 (tp : Int)] 34) ∧ Hid (J pre wr)) (fun i _ => t.s.used - (intOf i).toNat)
  case atStart =>
    exact ⟨0, [], top, Nat.zero_le _, rfl, rfl, htop, HT.out, H0.out⟩
  case round =>
    obtain ⟨k, pre, tp, hk, rfl, hx, htp, hrow, hj⟩ := hrel
    have hb := HB.out _ _ hj.out
    have d1 := hb.2
    have d2 : wr.cell? ⟨tb, 0, none⟩ = some (.int .u64 (tp : Int)) := hrow.out.cell 0
    have HRD := Lib.hid (cn_read hb.1 htp.out)
    clear hb
    by_cases hlt : k < t.s.used
    · cases hf : t.f tp with
      | none =>
        have hnil : cWalk t.f t.s.used top = pre := by rw [hx.out, cWalk_none hf, List.append_nil]
        have HNIL := Lib.hid hnil
        rw [hf] at HRD
        unfold nodeOf nodeZero at HRD
        clear hf hnil
        gi_wp2_with (refine ⟨trivial, ?_⟩; gi_at_call 12; refine (callsIn_wide.2 HRD.out).mono ?_; rintro e w1 ⟨rfl, f1⟩; have F1 := Lib.hid f1; clear f1)
        refine ⟨fun _ h => (by cases h), ?_⟩
        gi_wp2
        refine bodyPost_ret (results_none rfl _ _ _) rfl ?_
        refine ⟨⟨_, rfl⟩, Or.inl ?_⟩
        rw [HNIL.out]
        exact HJ.out _ _ _ hj.out ((F1.out.trans (Fr.alloc none_ w1 _)).none)
      | some n =>
        have hcons : cWalk t.f t.s.used top = (pre ++ [n]) ++ cWalk t.f (t.s.used - (k + 1)) n.nx := by
          rw [hx.out, cWalk_some (by omega) hf, show t.s.used - k - 1 = t.s.used - (k + 1) by omega, List.append_assoc]; rfl
        have HCONS := Lib.hid hcons
        have HX := Lib.hid (show cWalk t.f t.s.used top = pre ++ n :: cWalk t.f (t.s.used - (k + 1)) n.nx by rw [hcons, List.append_assoc]; rfl)
        have hnok := Lib.hid (hB0.out.ok _ _ hf)
        rw [hf] at HRD
        unfold nodeOf NV.cells at HRD
        clear hf hcons
        gi_wp2_with (refine ⟨trivial, ?_⟩; gi_at_call 12; refine (callsIn_wide.2 HRD.out).mono ?_; rintro e w1 ⟨rfl, f1⟩; have F1 := Lib.hid f1; have R1 := Lib.hid (Row.new w1 n.cells 36); have F01 := Lib.hid (f1.trans (Fr.alloc none_ w1 (.cells n.cells 36))); have HS := Lib.hid (Nat.le_trans f1.size (Nat.le_refl w1.heap.size)); obtain ⟨fn, tmps, assign, body, hy, hR⟩ := HY.out pre n _ wr (w1.alloc (.cells n.cells 36)) HX.out hj.out F01.out.none; have HRR := Lib.hid hR; clear hR f1; unfold nodeEnc NV.cells at hy)
        refine HRR.out.mono ?_
        rintro e W' (⟨rfl, hJ', hK'⟩ | ⟨rfl, hJx'⟩)
        · have q4 : W'.cell? ⟨w1.heap.size, 4, none⟩ = some (.int .u64 (n.nx : Int)) := (R1.out.fixed hK' (Or.inl HS.out)).cell 4
          have rt : Row W' tb #[.int .u64 (tp : Int)] 34 := (hrow.out.kept F01.out (fun e => e)).fixed hK' (Or.inr rfl)
          have q0 : W'.cell? ⟨tb, 0, none⟩ = some (.int .u64 (tp : Int)) := rt.cell 0
          have z0 := rt.free 0
          have HRT := Lib.hid rt
          have HJ' := Lib.hid hJ'
          clear hJ' hK' rt hy
          gi_wp2
          go_roundw
          case rel => exact ⟨k + 1, pre ++ [n], n.nx, hlt, by go_num, HCONS.out, hnok.out.nx, HRT.out.set 0 (.int .u64 (n.nx : Int)), HJ.out _ _ _ HJ'.out (Fr.setCell (one tb) W' ⟨tb, 0, none⟩ _ (fun _ => rfl))⟩
          case measure => simp [intOf]; omega
        · have HJX' := Lib.hid hJx'
          clear hJx' hy
          gi_wp2
          refine bodyPost_ret (results_none rfl _ _ _) rfl ?_
          exact ⟨⟨_, rfl⟩, Or.inr ⟨pre ++ [n], ⟨_, HCONS.out.symm⟩, HJX'.out⟩⟩
    · have hke : t.s.used - k = 0 := by have := hk.out; omega
      have HE := Lib.hid (show cWalk t.f t.s.used top = pre by rw [hx.out, hke]; show pre ++ [] = pre; rw [List.append_nil])
      clear hke
      gi_wp2
      go_end0
      refine ⟨⟨_, rfl⟩, Or.inl ?_⟩
      rw [HE.out]
      exact hj.out
end
end Go.Proofs.Yteefcfndlggajaa
namespace Go.Proofs.Yteefcfndlggajaa
open Go.RowKit Go.Shelf
set_option linter.unusedVariables false
set_option linter.unusedSimpArgs false
set_option maxRecDepth 100000
attribute [local go_sem] Oper.semAt_some

def NV.ver (n : NV) : List Value := [.int .i64 (n.wr : Int), .int .i64 (n.ts : Int), .bool n.tomb, .string n.val]
theorem verInfo : (Try.prog.info? 32).map (fun i => (i.zero, i.size, i.bytes)) = some (some (.agg #[.int .i64 0, .int .i64 0, .bool false, .string ⟨#[]⟩]), 4, 40) := by kernel_rfl
theorem Chain_nodes (w : World) (top : Int) (px : Option Addr) :
    Calls Try.prog 36 #[.pointer px, .int .u64 top] w fun e w' => e = .returned (.func (.func 65) #[] #[.pointer (some ⟨w.heap.size, 0, none⟩), .pointer (some ⟨w.heap.size + 1, 0, none⟩)]) ∧ w' = (w.alloc (.cells #[.pointer px] 27)).alloc (.cells #[.int .u64 top] 34) := by
  go_enter Try.func36, Try.ntmps36
  go_wp2_with fail
  go_ret
  exact ⟨rfl, rfl⟩
def verList (l : List NV) : List Value := l.flatMap NV.ver
theorem verList_snoc (l : List NV) (n : NV) : verList (l ++ [n]) = verList l ++ n.ver := by unfold verList; simp
theorem cWalk_length (f : Nat → Option NV) (k h : Nat) : (cWalk f k h).length ≤ k := by
  induction k generalizing h with
  | zero => simp [cWalk]
  | succ k ih =>
    unfold cWalk
    split
    · simp
    · rw [List.length_cons]; have := ih (by assumption : NV).nx; omega
/-- Between two rounds of List's loop. -/
def ListI (w : World) (ob D : Nat) (B : World → Prop) (pre : List NV) (W : World) : Prop :=
  ∃ a cap, Row W ob #[.slice a pre.length cap] 24 ∧ SlAt W a pre.length cap 32 4 (verList pre) ∧ (∀ k, blk a k → D + 2 ≤ k) ∧ Fr none_ w W ∧ B W
section
variable {w : World} {G : Nat → Prop} {x N vl : Nat} {c : CfgV} {t : CS}
set_option maxHeartbeats 8000000 in
theorem cn_list (h : Cn G w x c vl N t) (hN : N < big) {top : Nat} (htop : top < 18446744073709551616) (hu : t.s.used ≤ 1000000) :
    Calls Try.prog 14 #[.pointer (some ⟨x, 0, none⟩), .int .u64 (top : Int)] w fun e w' => ∃ a cap, e = .returned (.slice a (cWalk t.f t.s.used top).length cap) ∧ SlAt w' a (cWalk t.f t.s.used top).length cap 32 4 (verList (cWalk t.f t.s.used top)) ∧ Fr none_ w w' ∧ ∀ k, blk a k → w.heap.size ≤ k := by
  obtain ⟨s, hs⟩ : ∃ s, s = w.heap.size := ⟨_, rfl⟩
  obtain ⟨w0, hw0⟩ : ∃ w0, w0 = ((w.alloc (.cells #[.slice none 0 0] 24)).alloc (.cells #[.pointer (some ⟨x, 0, none⟩)] 27)).alloc (.cells #[.int .u64 (top : Int)] 34) := ⟨_, rfl⟩
  have hsz : w0.heap.size = s + 3 := by rw [hw0, hs]; simp
  have hf0 : Fr none_ w w0 := by rw [hw0]; exact ((Fr.alloc none_ w _).alloc_r _).alloc_r _
  have r0 : Row w0 s #[.slice none 0 0] 24 := by
    rw [hw0, hs]; exact ((Row.new w _ _).alloc _).alloc _
  have r1 : Row w0 (s + 1) #[.pointer (some ⟨x, 0, none⟩)] 27 := by
    rw [hw0]
    have := Row.new (w.alloc (.cells #[.slice none 0 0] 24)) #[.pointer (some ⟨x, 0, none⟩)] 27
    rw [World.size_alloc, ← hs] at this
    exact this.alloc _
  have r2 : Row w0 (s + 2) #[.int .u64 (top : Int)] 34 := by
    rw [hw0]
    have := Row.new ((w.alloc (.cells #[.slice none 0 0] 24)).alloc (.cells #[.pointer (some ⟨x, 0, none⟩)] 27)) #[.int .u64 (top : Int)] 34
    rw [World.size_alloc, World.size_alloc, ← hs] at this
    exact this
  have hGlt : ∀ k, G k → k < s := by rw [hs]; exact h.lt
  have hB0 : NodesB G x (s + 1) N vl c t w0 := ⟨h.kept0 hf0, r1.cell 0⟩
  have hseq : ∀ W, Fr none_ w0 W → SeqFor Fence.wide 3 Try.prog 65 #[.pointer (some ⟨s + 1, 0, none⟩), .pointer (some ⟨s + 2, 0, none⟩)] nodeEnc (one (s + 2)) (NodesB G x (s + 1) N vl c t) (cWalk t.f t.s.used top) W :=
    fun W f => nodes_for hN htop (r2.kept f (fun e => e))
  have hI0 : ListI w s (s + 3) (NodesB G x (s + 1) N vl c t) [] w0 := ⟨none, 0, r0, SlAt.empty _ _ _, fun k hk => absurd hk (blk_none k), hf0, hB0⟩
  have hI : ∀ pre W W', ListI w s (s + 3) (NodesB G x (s + 1) N vl c t) pre W → Fr (Yof (one (s + 2)) (s + 3)) W W' → ListI w s (s + 3) (NodesB G x (s + 1) N vl c t) pre W' := by
    rintro pre W W' ⟨a, cap, q1, q2, q3, q4, q5, q6⟩ f
    have ny : ∀ k, k < s + 2 → ¬ Yof (one (s + 2)) (s + 3) k := fun k hk e => by rcases e with e | e | e <;> (try unfold one at e) <;> omega
    refine ⟨a, cap, q1.kept f (ny s (by omega)), q2.kept f (fun k hk e => by have := q3 k hk; rcases e with e | e | e <;> (try unfold one at e) <;> omega), q3, q4.step f (fun i hi e => absurd e (ny i (by omega))), q5.kept f (fun k hk => ny k (by have := hGlt k hk; omega)), f.keepF (ny (s + 1) (by omega)) q6⟩
  have HLEN := Lib.hid (cWalk_length t.f t.s.used top)
  have HGLT := Lib.hid hGlt
  have HR2 := Lib.hid r2
  have HS := Lib.hid hs
  have HW0 := Lib.hid hw0
  have HSZ := Lib.hid hsz
  have HF0 := Lib.hid hf0
  clear h r0 r1 r2 hB0 hs hf0
  obtain ⟨xs, hxs⟩ : ∃ xs, xs = cWalk t.f t.s.used top := ⟨_, rfl⟩
  rw [← hxs] at hseq HLEN ⊢
  clear hxs hGlt
  refine (callsIn_wide (n := 4)).1 ?_
  refine callsIn_of_wp_marks Try.func14 rfl trivial ?_ rfl
  simp only [Try.ntmps14, List.size_toArray, List.length_cons, List.length_nil, Nat.reduceAdd, Nat.reduceSub, Array.replicate_succ, Array.replicate_zero, List.push_toArray, List.append_toArray, List.nil_append, List.cons_append]
  have HI := Lib.hid hI
  have HI0 := Lib.hid hI0
  have HSQ := Lib.hid hseq
  clear hI hI0 hseq hsz hw0
  gi_wp2_with (refine ⟨trivial, ?_⟩; gi_at_call 36; refine (callsIn_wide.2 (Chain_nodes _ _ _)).mono ?_; rintro e w1 ⟨rfl, hw1⟩)
  clear hw1
  rw [← HW0.out, ← HS.out]
  have HD := HSZ.out
  refine range_for (n := 4) (w := w0) rfl (by omega) (gf := 65) (lb := #[.pointer (some ⟨s + 1, 0, none⟩), .pointer (some ⟨s + 2, 0, none⟩)]) rfl trivial (enters_of Try.func65 (by kernel_rfl) rfl) (encs := nodeEnc) (Z := one (s + 2)) (xs := xs) (fun _ => rfl) (fun k e => by unfold one at e; omega) HSQ.out
    (ListI w s (s + 3) (NodesB G x (s + 1) N vl c t)) (fun _ _ _ => False) (fun pre W W' h f => HI.out pre W W' h (by rw [HD] at f; exact f)) (fun _ _ _ _ h _ => h) (fun pre W h => by obtain ⟨_, _, _, _, _, _, q⟩ := h; exact q) HI0.out ?round ?done ?stop
  case round =>
    intro l pre n rest W0 W1 hx hi f01 hlt
    obtain ⟨ad, cap, q1, q2, q3, q4, q5⟩ := hi
    have hlen : pre.length + 1 ≤ 1000000 := by
      have h1 := HLEN.out
      rw [hx, List.length_append, List.length_cons] at h1
      omega
    have hblt := q2.lt
    have hE := HD
    rw [HD] at hlt ⊢
    have HI0 := Lib.hid (And.intro q1 (And.intro q2 (And.intro q3 (And.intro q4 q5))))
    have F01 := Lib.hid f01
    have HX := Lib.hid hx
    have HBL := Lib.hid hblt
    clear q1 q2 q3 q4 q5 f01 hx hblt hE
    unfold nodeEnc NV.cells
    gi_wp2
    obtain ⟨W2, hW2⟩ : ∃ W2, W2 = W1.alloc (.cells n.cells 36) := ⟨_, rfl⟩
    obtain ⟨nb, hnb⟩ : ∃ nb, nb = W1.heap.size := ⟨_, rfl⟩
    have f12 : Fr none_ W1 W2 := by rw [hW2]; exact Fr.alloc _ _ _
    have rn2 : Row W2 nb n.cells 36 := by rw [hW2, hnb]; exact Row.new W1 _ _
    unfold NV.cells at hW2
    rw [← hW2, ← hnb]
    have h01 := F01.out.size
    have rd := Rec.of_fr (D := s + 3) f12 (by omega) (fun e => e) (fun e => e)
    refine ⟨rd, fun W3 f3 hs3 => ?_⟩
    obtain ⟨q1, q2, q3, q4, q5⟩ := HI0.out
    have hsn : W0.heap.size ≤ nb := by omega
    have hnb2 : nb < W2.heap.size := rn2.lt
    have rn3 := rn2.kept f3 (fun e => by unfold one at e; omega)
    have n0 : w.heap.size = s := HS.out.symm
    have e1 : Row W3 s #[.slice ad pre.length cap] 24 := ((q1.kept F01.out (fun e => by unfold one at e; omega)).kept f12 (fun e => e)).kept f3 (fun e => by unfold one at e; omega)
    have e2 : SlAt W3 ad pre.length cap 32 4 (verList pre) := ((q2.kept F01.out (fun k hk e => by have := q3 k hk; unfold one at e; omega)).kept f12 (fun _ _ e => e)).kept f3 (fun k hk e => by have := q3 k hk; unfold one at e; omega)
    have HF3 := Lib.hid (show Fr (fun k => k = s + 4) W1 W3 from f12.none.trans (f3.mono fun k _ e => e))
    have HRN := Lib.hid rn3
    have d0 : W3.cell? ⟨s, 0, none⟩ = some (.slice ad pre.length cap) := e1.cell 0
    have m0 : W3.cell? ⟨nb, 0, none⟩ = some (.int .i64 (n.wr : Int)) := rn3.cell 0
    have m1 : W3.cell? ⟨nb, 1, none⟩ = some (.int .i64 (n.ts : Int)) := rn3.cell 1
    have m2 : W3.cell? ⟨nb, 2, none⟩ = some (.bool n.tomb) := rn3.cell 2
    have m3 : W3.cell? ⟨nb, 3, none⟩ = some (.string n.val) := rn3.cell 3
    have E1 := Lib.hid e1
    have E2 := Lib.hid e2
    have HN0 := Lib.hid n0
    have HS3 := Lib.hid (show W1.heap.size ≤ W3.heap.size ∧ W0.heap.size ≤ W1.heap.size ∧ s + 5 ≤ W0.heap.size from ⟨HF3.out.size, h01, hlt⟩)
    have RA := Lib.hid (Row.new W3 n.ver.toArray 32)
    have HQ := Lib.hid (And.intro q3 (And.intro q4 q5))
    have HVE := Lib.hid (show n.ver.toArray = #[.int .i64 (n.wr : Int), .int .i64 (n.ts : Int), .bool n.tomb, .string n.val] from rfl)
    clear q1 q2 q3 q4 q5 rn3 rn2 f12 f3 hs3 e1 e2 h01 rd hsn hnb2 n0 hW2 hnb hlt
    gi_wp2_with (gi_at_builtin; refine Stop.mk ?_)
    show wpListIn _ _ _ _ _ _ _ _
    rw [← HVE.out]
    refine wpAppendIn rfl _ _ _ rfl 32 (.agg #[.int .i64 0, .int .i64 0, .bool false, .string ⟨#[]⟩]) 4 40 Try.underlying24 verInfo rfl (E2.out.kept0 (Fr.alloc none_ W3 (.cells n.ver.toArray 32))) rfl ⟨W3.heap.size, 0, none⟩ 1 1 n.ver rfl rfl (new_cells W3 n.ver 32) (by simp [NV.ver, Value.oneCell']) (by omega) (by unfold maxLen; omega) (by omega) ?_
    intro ad' cap' W5 hs5 f5 hb5
    have HB5 := Lib.hid hb5
    have HS5 := Lib.hid hs5
    obtain ⟨q3, q4, q5⟩ := HQ.out
    have hs3 := HS3.out
    have fa := Fr.alloc none_ W3 (.cells n.ver.toArray 32)
    have f35 : Fr (blk ad) W3 W5 := fa.none.trans f5
    have rs5 : Row W5 s #[.slice ad pre.length cap] 24 := E1.out.kept f35 (fun e => by have := q3 s e; omega)
    have z5 := rs5.cell 0
    have zf := rs5.free 0
    have F35 := Lib.hid f35
    have R5 := Lib.hid rs5
    clear q3 q4 q5 hs3 fa f35 rs5 f5 hb5 hs5 d0 m0 m1 m2 m3
    gi_wp2
    obtain ⟨q3, q4, q5⟩ := HQ.out
    have hs3 := HS3.out
    have hn0 := HN0.out
    have fset := Fr.setCell (one s) W5 ⟨s, 0, none⟩ (.slice ad' (pre.length + 1) cap') (fun _ => rfl)
    have f36 : Fr (fun k => k = s ∨ blk ad k) W3 (W5.setCell ⟨s, 0, none⟩ (.slice ad' (pre.length + 1) cap')) := (F35.out.mono fun k _ e => Or.inr e).trans (fset.mono fun k _ e => Or.inl e)
    have hz5 := F35.out.size
    have hbl' : ∀ k, blk ad' k → s + 5 ≤ k := fun k hk => by
      rcases HB5.out k hk with e | e
      · exact q3 k e
      · simp at e; omega
    have f16 : Fr (fun k => k = s ∨ k = s + 4 ∨ blk ad k) W1 (W5.setCell ⟨s, 0, none⟩ (.slice ad' (pre.length + 1) cap')) := (HF3.out.mono fun k _ e => Or.inr (Or.inl e)).trans (f36.mono fun k _ e => by rcases e with e | e; exact Or.inl e; exact Or.inr (Or.inr e))
    have f06 : Fr (fun k => k = s ∨ k = s + 2 ∨ k = s + 4 ∨ blk ad k) W0 (W5.setCell ⟨s, 0, none⟩ (.slice ad' (pre.length + 1) cap')) := (F01.out.mono fun k _ e => Or.inr (Or.inl e)).trans (f16.mono fun k _ e => by rcases e with e | e | e; exact Or.inl e; exact Or.inr (Or.inr (Or.inl e)); exact Or.inr (Or.inr (Or.inr e)))
    show Rec (s + 3) W3 _ ∧ ListI w s (s + 3) _ (pre ++ [n]) _ ∧ Kept _ W0 W1 _
    refine ⟨Rec.of_fr f36 (by omega) (fun e => ?_) (fun e => ?_), ⟨ad', cap', ?_, ?_, hbl', ?_, ?_⟩, fun k hk hlt => ?_⟩
    · rcases e with e | e
      · omega
      · have := q3 _ e; omega
    · rcases e with e | e
      · omega
      · have := q3 _ e; omega
    · rw [List.length_append]; exact R5.out.set 0 _
    · rw [List.length_append, verList_snoc]; exact HS5.out.kept fset (fun k hk e => by have := hbl' k hk; unfold one at e; omega)
    · refine q4.step f06 (fun i hi e => ?_)
      rcases e with e | e | e | e
      · omega
      · omega
      · omega
      · have := q3 i e; omega
    · refine ⟨q5.1.kept f06 (fun k hk e => ?_), f06.keepF (fun e => ?_) q5.2⟩
      · have := HGLT.out k hk
        rcases e with e | e | e | e
        · omega
        · omega
        · omega
        · have := q3 k e; omega
      · rcases e with e | e | e | e
        · exact absurd e (by simp)
        · exact absurd e (by simp)
        · exact absurd e (by simp)
        · have := q3 _ e; simp at this; omega
    · refine f16.block k hlt (fun e => ?_)
      rcases hk with hk | hk
      · rcases e with e | e | e
        · omega
        · omega
        · have := HBL.out k e; omega
      · unfold one at hk
        rcases e with e | e | e
        · omega
        · omega
        · have := q3 k e; omega
  case done =>
    intro W hlt hi hK
    rw [HD] at hK hlt ⊢
    obtain ⟨ad, cap, q1, q2, q3, q4, q5⟩ := hi
    have d0 : W.cell? ⟨s, 0, none⟩ = some (.slice ad xs.length cap) := q1.cell 0
    have HQ := Lib.hid (And.intro q2 (And.intro q3 q4))
    have HK := Lib.hid hK
    clear q1 q2 q3 q4 q5 hK
    gi_wp2
    have hK := HK.out
    refine ⟨by simp, .inl ⟨_, _, rfl, run_takeDeferred hK, ?_⟩⟩
    obtain ⟨q2, q3, q4⟩ := HQ.out
    have fp := Fr.putObj W (s + 3) (.deferred none)
    exact ⟨_, results_tmp rfl _ _ _, ad, cap, rfl, q2.kept fp (fun k hk e => by have := q3 k hk; unfold one at e; omega), q4.step fp (fun i hi e => by have := HS.out; unfold one at e; omega), fun k hk => by have := q3 k hk; have := HS.out; omega⟩
  case stop =>
    intro c pre W _ _ h _
    exact h.elim
end
end Go.Proofs.Yteefcfndlggajaa
