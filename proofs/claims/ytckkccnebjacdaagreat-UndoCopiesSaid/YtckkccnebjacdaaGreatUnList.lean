/-
  Package undo: all: what a row has, one behind the other.
-/
import Derived.Test.YtckkccnebjacdaaGreatMgRange
import Derived.Test.YtckkccnebjacdaaGreatMgUnFree
import Derived.Shelf.Abstract
import Derived.Shelf.RegionOpen
import Derived.OwnWalkIn
import Derived.TacticsInMore
import Derived.LoopNIn
import Derived.LoopIn
namespace Go.Proofs.YtckkccnebjacdaaGreat
open Go.RowKit Go.Shelf
set_option linter.unusedVariables false
set_option linter.unusedSimpArgs false
set_option maxRecDepth 100000

def ovEnc (v : OV) : Array Value := #[.agg v.cells]
def OV.ver (v : OV) : VerV := ⟨(v.wr : Int), 0, v.tomb, v.val⟩
theorem OV.ver_cells (v : OV) : v.ver.cells = v.cells := rfl
def OV.le (v : Option (OV × Nat)) : Prop := ∀ u n, v = some (u, n) → u.val.size ≤ 1000000 ∧ n < 18446744073709551616 ∧ u.wr < 9223372036854775808
theorem US.Is.row_le {vl N : Nat} {t : US} (h : t.Is vl N) (hvl : vl ≤ 256) (hd : Nat) : OV.le (t.row hd) := by
  intro u n e
  unfold US.row at e
  cases q : t.f hd with
  | none => rw [q] at e; cases e
  | some m =>
    rw [q] at e
    simp only at e
    have hok := h.ok _ _ q
    cases r : m.rcd with
    | true => rw [r] at e; cases e
    | false =>
      rw [r] at e
      simp only [Bool.false_eq_true, if_false, Option.some.injEq, Prod.mk.injEq] at e
      obtain ⟨rfl, rfl⟩ := e
      exact ⟨by have := hok.fits; show m.rest.size ≤ _; omega, hok.nx, hok.wr⟩
theorem US.Is.record_le {vl N : Nat} {t : US} (h : t.Is vl N) (hvl : vl ≤ 256) (hd : Nat) (l : List UInt8) : OV.le (t.record hd l) := by
  intro u n e
  unfold US.record at e
  cases q : t.f hd with
  | none => rw [q] at e; cases e
  | some m =>
    rw [q] at e
    simp only at e
    have hok := h.ok _ _ q
    cases r : m.rcd with
    | false => rw [r] at e; cases e
    | true =>
      rw [r] at e
      simp only [if_true] at e
      cases d : dApply l m.rest.data.toList with
      | none => rw [d] at e; cases e
      | some y =>
        rw [d] at e
        simp only [Option.some.injEq, Prod.mk.injEq] at e
        obtain ⟨rfl, rfl⟩ := e
        have := dApply_le _ _ _ d
        exact ⟨by rw [strOf_size]; omega, hok.nx, hok.wr⟩
theorem US.walk_none (t : US) (k : Nat) : t.walk k none = [] := by cases k <;> rfl
theorem US.walk_some (t : US) {k : Nat} (hk : 0 < k) (v : OV) (n : Nat) : t.walk k (some (v, n)) = v :: t.walk (k - 1) (t.record n v.val.data.toList) := by
  obtain ⟨j, rfl⟩ : ∃ j, k = j + 1 := ⟨k - 1, by omega⟩
  rfl
theorem US.walk_length (t : US) (k : Nat) (o : Option (OV × Nat)) : (t.walk k o).length ≤ k := by
  induction k generalizing o with
  | zero => simp [US.walk]
  | succ k ih =>
    cases o with
    | none => simp [US.walk]
    | some p =>
      obtain ⟨v, n⟩ := p
      show (v :: _).length ≤ _
      rw [List.length_cons]; have := ih (t.record n v.val.data.toList); omega
section
variable {G : Nat → Prop} {x ab tb N vl : Nat} {c : CfgV} {t : US}
/-- What the iterator needs of what is not its own. -/
def AllB (G : Nat → Prop) (x ab tb top N vl : Nat) (c : CfgV) (t : US) (W : World) : Prop := Un G W x c vl N t ∧ W.cell? ⟨ab, 0, none⟩ = some (.pointer (some ⟨x, 0, none⟩)) ∧ W.cell? ⟨tb, 0, none⟩ = some (.int .u64 (top : Int))
set_option maxHeartbeats 8000000 in
theorem all_own (hN : N ≤ 1000000000) {w : World} {top : Nat} (htop : top < 18446744073709551616) :
    SeqOwn Fence.wide 3 Tryz.prog 80 #[.pointer (some ⟨ab, 0, none⟩), .pointer (some ⟨tb, 0, none⟩)] ovEnc (AllB G x ab tb top N vl c t) (t.list top) w := by
  intro l J Jx Y0 hJ hB hY hY0 h0
  have hb0 := hB _ _ _ h0
  have HB := Lib.hid (fun pre Y W (h : J pre Y W) => hB pre Y W h)
  have HJ := Lib.hid hJ
  have HY := Lib.hid hY
  have HY0 := Lib.hid hY0
  obtain ⟨b1, b2, b3⟩ := hb0
  have hB0 := Lib.hid b1.is_
  have hvl := Lib.hid b1.vl_le
  have hub : t.s.used ≤ 1000000000 := by have := b1.is_.up.used; omega
  have HRW := Lib.hid (un_row b1 htop)
  have HU := Lib.hid (fun w' (f : Fr none_ w w') => un_used (b1.kept0 f))
  have HC := Lib.hid (fun w' (f : Fr none_ w w') => (show w'.cell? ⟨ab, 0, none⟩ = some (.pointer (some ⟨x, 0, none⟩)) from f.keep b2))
  have H0 := Lib.hid h0
  have HLE := Lib.hid (b1.is_.row_le b1.vl_le top)
  have HXS := Lib.hid (show t.list top = t.walk t.s.used (t.row top) from rfl)
  generalize t.row top = cur0 at HRW HLE HXS
  clear hJ hB hY h0 hY0 b1
  refine callsIn_of_wp Tryz.func80 rfl trivial ?_ rfl
  simp only [Tryz.ntmps80, List.size_toArray, List.length_cons, List.length_nil, Nat.reduceAdd, Nat.reduceSub, Array.replicate_succ, Array.replicate_zero, List.push_toArray, List.append_toArray, List.nil_append, List.cons_append]
  have hcs : ∃ (A : Int) (Bv : Bool) (Cv : ByteArray), ovCells cur0 = #[.int .i64 A, .int .i64 0, .bool Bv, .string Cv] := by
    cases cur0 with
    | none => exact ⟨_, _, _, rfl⟩
    | some p => exact ⟨_, _, _, rfl⟩
  obtain ⟨A, Bv, Cv, hcs⟩ := hcs
  have HCS := Lib.hid hcs
  rw [hcs] at HRW
  clear hcs
  gi_wp2_with (first
    | (refine ⟨trivial, ?_⟩; gi_at_call 15; refine (callsIn_wide.2 HRW.out).mono ?_; rintro e w1 ⟨rfl, f1⟩; have F1 := Lib.hid (f1.trans (Fr.alloc none_ w1 (.cells #[.int .i64 A, .int .i64 0, .bool Bv, .string Cv] 40))); have R1 := Lib.hid (Row.new w1 #[.int .i64 A, .int .i64 0, .bool Bv, .string Cv] 40); have HS1 := Lib.hid f1.size; have b2' := HC.out _ F1.out; clear f1)
    | (refine ⟨trivial, ?_⟩; gi_at_call 14; refine (callsIn_wide.2 (HU.out _ F1.out)).mono ?_; rintro e w2 ⟨rfl, rfl⟩))
  obtain ⟨b4, hb4⟩ : ∃ b4, b4 = w1.heap.size := ⟨_, rfl⟩
  have HB4 := Lib.hid (show w.heap.size ≤ b4 by rw [hb4]; exact HS1.out)
  have HN4 := Lib.hid (show ¬ Y0 b4 from fun e => by have := HY0.out b4 e; have := HB4.out; omega)
  have RB := Lib.hid (show Row (w1.alloc (.cells #[.int .i64 A, .int .i64 0, .bool Bv, .string Cv] 40)) b4 (ovCells cur0) 40 by rw [HCS.out, hb4]; exact R1.out)
  have J1 := Lib.hid (HJ.out _ _ _ _ H0.out (F1.out.none (F := fun k => w.heap.size ≤ k ∧ ¬ Y0 k)))
  rw [← hb4]
  clear b2 b2' b3 hb4
  gi_loopw [5, 6, 7] (fun nx is lf wr => ∃ (r : Nat) (pre : List OV) (cur : Option (OV × Nat)) (Y : Nat → Prop), Hid (r ≤ t.s.used) ∧ nx = .int .u64 (ovNx cur : Int) ∧ is = .bool cur.isSome ∧ lf = .int .i64 (r : Int) ∧ Hid (t.walk t.s.used cur0 = pre ++ t.walk r cur) ∧ Hid (OV.le cur) ∧ Hid (Row wr b4 (ovCells cur) 40) ∧ Hid (J pre Y wr) ∧ Hid (¬ Y b4)) (fun _ _ lf _ => (intOf lf).toNat)
  case atStart =>
    exact ⟨t.s.used, [], cur0, Y0, Nat.le_refl _, rfl, rfl, rfl, rfl, HLE.out, RB.out, J1.out, HN4.out⟩
  case round =>
    obtain ⟨r, pre, cur, Y, hr, rfl, rfl, rfl, hx, hle, hrow, hj, hny⟩ := hrel
    have hrb : r ≤ 1000000000 := Nat.le_trans hr.out hub
    clear J1 RB HN4 H0 HRW HLE F1 R1
    cases cur with
    | none =>
      have HNIL := Lib.hid (show t.list top = pre by rw [HXS.out, hx.out, US.walk_none, List.append_nil])
      gi_wp2
      refine ⟨fun _ h => (by cases h), ?_⟩
      gi_wp2
      first | go_end0 | refine bodyPost_ret (results_none rfl _ _ _) rfl ?_
      refine ⟨⟨_, rfl⟩, Or.inl ?_⟩
      rw [HNIL.out]
      exact ⟨Y, hj.out⟩
    | some p =>
      obtain ⟨v, n⟩ := p
      by_cases hr0 : r = 0
      · have HNIL := Lib.hid (show t.list top = pre by rw [HXS.out, hx.out, hr0]; show pre ++ [] = pre; rw [List.append_nil])
        clear hrb
        subst hr0
        gi_wp2
        refine ⟨fun _ h => (by cases h), ?_⟩
        gi_wp2
        first | go_end0 | refine bodyPost_ret (results_none rfl _ _ _) rfl ?_
        refine ⟨⟨_, rfl⟩, Or.inl ?_⟩
        rw [HNIL.out]
        exact ⟨Y, hj.out⟩
      · have hrp : 0 < r := by omega
        have hrp1 : (0 : Int) < (r : Int) := by omega
        obtain ⟨hv1, hv2, hv3⟩ := hle.out v n rfl
        have hcons : t.walk t.s.used cur0 = (pre ++ [v]) ++ t.walk (r - 1) (t.record n v.val.data.toList) := by
          rw [hx.out, US.walk_some _ hrp, List.append_assoc]; rfl
        have HX2 := Lib.hid (show t.list top = pre ++ v :: t.walk (r - 1) (t.record n v.val.data.toList) by rw [HXS.out, hcons, List.append_assoc]; rfl)
        have HCONS := Lib.hid hcons
        have hrow2 : Row wr b4 #[.int .i64 (v.wr : Int), .int .i64 0, .bool v.tomb, .string v.val] 40 := hrow.out
        obtain ⟨c0, c1, c2, c3⟩ := four_cells hrow2
        obtain ⟨fn, tmps, assign, body, hy, hR⟩ := HY.out pre v _ Y wr wr HX2.out hj.out (Fr.refl _ _)
        have HRR := Lib.hid hR
        unfold ovEnc OV.cells at hy
        have HR2 := Lib.hid hrow2
        have HV := Lib.hid (And.intro hv1 (And.intro hv2 hv3))
        have HRP := Lib.hid (And.intro hrp hr0)
        have wr1 : IntKind.i64.wrap ((r : Int) - 1) = ((r - 1 : Nat) : Int) := by rw [show (r : Int) - 1 = ((r - 1 : Nat) : Int) by omega]; exact IntWalk.i64_in _ (by omega)
        clear hR hcons hrow2 hv1 hv2 hv3 hr0
        gi_wp2
        refine HRR.out.mono ?_
        rintro e W' (⟨rfl, Y', hJ', hF', hYg⟩ | ⟨rfl, hJx'⟩)
        · have hb' := HB.out _ _ _ hJ'
          have r4 := HR2.out.kept hF' hny.out
          have hny' : ¬ Y' b4 := fun e => by
            rcases hYg b4 e with q | q
            · exact hny.out q
            · have := HR2.out.lt; omega
          have HREC := Lib.hid (un_record hb'.1 HV.out.2.1 v.ver (Nat.le_trans HV.out.1 (by omega)))
          have a1 := hb'.2.1
          obtain ⟨c0, c1, c2, c3⟩ := four_cells r4
          have HJ' := Lib.hid hJ'
          have R4 := Lib.hid r4
          have HNY := Lib.hid hny'
          have HLE2 := Lib.hid (hB0.out.record_le hvl.out n v.val.data.toList)
          rw [OV.ver_cells] at HREC
          unfold OV.cells at HREC
          have hvv : v.ver.val = v.val := rfl
          rw [hvv] at HREC
          generalize t.record n v.val.data.toList = cur' at HREC HLE2 HCONS
          obtain ⟨A', Bv', Cv', hcs'⟩ : ∃ (A : Int) (Bv : Bool) (Cv : ByteArray), ovCells cur' = #[.int .i64 A, .int .i64 0, .bool Bv, .string Cv] := by
            cases cur' with
            | none => exact ⟨_, _, _, rfl⟩
            | some p => exact ⟨_, _, _, rfl⟩
          have HCS' := Lib.hid hcs'
          rw [hcs'] at HREC
          clear hJ' hF' hYg hb' r4 hny' hy hcs' hvv
          gi_wp2_with (refine ⟨trivial, ?_⟩; gi_at_call 16; refine (callsIn_wide.2 HREC.out).mono ?_; rintro e w5 ⟨rfl, f5⟩; have F5 := Lib.hid f5; have R5 := Lib.hid (R4.out.kept f5 (fun e => e)); have z0 := R5.out.free 0; have z1 := R5.out.free 1; have z2 := R5.out.free 2; have z3 := R5.out.free 3; obtain ⟨j0, j1, j2, j3⟩ := four_cells R5.out; clear f5)
          go_roundw
          case rel =>
            refine ⟨r - 1, pre ++ [v], cur', Y', by have := hr.out; show r - 1 ≤ _; omega, rfl, rfl, ?_, HCONS.out, HLE2.out, ?_, ?_, HNY.out⟩
            · first | rfl | (rw [wr1])
            · rw [HCS'.out]; exact ver_row R5.out
            · exact HJ.out _ _ _ _ HJ'.out ((F5.out.none).trans ((ver_set w5 b4 _ _ _ _).mono fun k _ e => by unfold one at e; subst e; exact ⟨HB4.out, HNY.out⟩))
          case measure => have := HRP.out; simp [intOf]; omega
        · have HJX' := Lib.hid hJx'
          clear hJx' hy
          gi_wp2
          first | go_end0 | refine bodyPost_ret (results_none rfl _ _ _) rfl ?_
          exact ⟨⟨_, rfl⟩, Or.inr ⟨pre ++ [v], ⟨_, by rw [HX2.out, List.append_assoc]; rfl⟩, HJX'.out⟩⟩
end
attribute [local go_sem] Oper.semAt_some
def OV.row (v : OV) : List Value := v.cells.toList
def ovList (l : List OV) : List Value := l.flatMap OV.row
theorem ovList_snoc (l : List OV) (v : OV) : ovList (l ++ [v]) = ovList l ++ v.row := by unfold ovList; simp
theorem verInfoU : (Tryz.prog.info? 40).map (fun i => (i.zero, i.size, i.bytes)) = some (some (.agg #[.int .i64 0, .int .i64 0, .bool false, .string ⟨#[]⟩]), 4, 40) := by kernel_rfl
theorem Undo_all (w : World) (top : Int) (px : Option Addr) :
    Calls Tryz.prog 48 #[.pointer px, .int .u64 top] w fun e w' => e = .returned (.func (.func 80) #[] #[.pointer (some ⟨w.heap.size, 0, none⟩), .pointer (some ⟨w.heap.size + 1, 0, none⟩)]) ∧ w' = (w.alloc (.cells #[.pointer px] 27)).alloc (.cells #[.int .u64 top] 32) := by
  go_enter Tryz.func48, Tryz.ntmps48
  go_wp2_with fail
  go_ret
  exact ⟨rfl, rfl⟩
/-- Between two rounds of List's loop. -/
def UListI (w : World) (ob D : Nat) (B : World → Prop) (pre : List OV) (Y : Nat → Prop) (W : World) : Prop :=
  ∃ a cap, Row W ob #[.slice a pre.length cap] 24 ∧ SlAt W a pre.length cap 40 4 (ovList pre) ∧ (∀ k, blk a k → D + 2 ≤ k) ∧ Fr none_ w W ∧ B W ∧ Y = fun k => k = ob ∨ blk a k
section
variable {w : World} {G : Nat → Prop} {x N vl : Nat} {c : CfgV} {t : US}
set_option maxHeartbeats 8000000 in
theorem un_list (h : Un G w x c vl N t) (hN : N ≤ 1000000) {top : Nat} (htop : top < 18446744073709551616) :
    Calls Tryz.prog 13 #[.pointer (some ⟨x, 0, none⟩), .int .u64 (top : Int)] w fun e w' => ∃ a cap, e = .returned (.slice a (t.list top).length cap) ∧ SlAt w' a (t.list top).length cap 40 4 (ovList (t.list top)) ∧ Fr none_ w w' ∧ ∀ k, blk a k → w.heap.size ≤ k := by
  obtain ⟨s, hs⟩ : ∃ s, s = w.heap.size := ⟨_, rfl⟩
  obtain ⟨w0, hw0⟩ : ∃ w0, w0 = ((w.alloc (.cells #[.slice none 0 0] 24)).alloc (.cells #[.pointer (some ⟨x, 0, none⟩)] 27)).alloc (.cells #[.int .u64 (top : Int)] 32) := ⟨_, rfl⟩
  have hsz : w0.heap.size = s + 3 := by rw [hw0, hs]; simp
  have hf0 : Fr none_ w w0 := by rw [hw0]; exact ((Fr.alloc none_ w _).alloc_r _).alloc_r _
  have r0 : Row w0 s #[.slice none 0 0] 24 := by
    rw [hw0, hs]; exact ((Row.new w _ _).alloc _).alloc _
  have r1 : Row w0 (s + 1) #[.pointer (some ⟨x, 0, none⟩)] 27 := by
    rw [hw0]
    have := Row.new (w.alloc (.cells #[.slice none 0 0] 24)) #[.pointer (some ⟨x, 0, none⟩)] 27
    rw [World.size_alloc, ← hs] at this
    exact this.alloc _
  have r2 : Row w0 (s + 2) #[.int .u64 (top : Int)] 32 := by
    rw [hw0]
    have := Row.new ((w.alloc (.cells #[.slice none 0 0] 24)).alloc (.cells #[.pointer (some ⟨x, 0, none⟩)] 27)) #[.int .u64 (top : Int)] 32
    rw [World.size_alloc, World.size_alloc, ← hs] at this
    exact this
  have hGlt : ∀ k, G k → k < s := by rw [hs]; exact h.lt
  have hB0 : AllB G x (s + 1) (s + 2) top N vl c t w0 := ⟨h.kept0 hf0, r1.cell 0, r2.cell 0⟩
  have hseq : ∀ W, Fr none_ w0 W → SeqOwn Fence.wide 3 Tryz.prog 80 #[.pointer (some ⟨s + 1, 0, none⟩), .pointer (some ⟨s + 2, 0, none⟩)] ovEnc (AllB G x (s + 1) (s + 2) top N vl c t) (t.list top) W :=
    fun W f => all_own (by omega) htop
  have hI0 : UListI w s (s + 3) (AllB G x (s + 1) (s + 2) top N vl c t) [] (fun k => k = s ∨ blk none k) w0 := ⟨none, 0, r0, SlAt.empty _ _ _, fun k hk => absurd hk (blk_none k), hf0, hB0, rfl⟩
  have hI : ∀ pre Y W W', UListI w s (s + 3) (AllB G x (s + 1) (s + 2) top N vl c t) pre Y W → Fr (fun k => s + 3 ≤ k ∧ ¬ Y k) W W' → UListI w s (s + 3) (AllB G x (s + 1) (s + 2) top N vl c t) pre Y W' := by
    rintro pre Y W W' ⟨a, cap, q1, q2, q3, q4, q5, rfl⟩ f
    have ny : ∀ k, k < s + 3 → ¬ (s + 3 ≤ k ∧ ¬ (k = s ∨ blk a k)) := fun k hk e => by omega
    refine ⟨a, cap, q1.kept f (ny s (by omega)), q2.kept f (fun k hk e => e.2 (Or.inr hk)), q3, q4.step f (fun i hi e => absurd e (ny i (by omega))), ⟨q5.1.kept f (fun k hk => ny k (by have := hGlt k hk; omega)), f.keepF (ny (s + 1) (by omega)) q5.2.1, f.keepF (ny (s + 2) (by omega)) q5.2.2⟩, rfl⟩
  have hYD : ∀ pre Y W, UListI w s (s + 3) (AllB G x (s + 1) (s + 2) top N vl c t) pre Y W → ¬ Y (s + 3) ∧ ¬ Y (s + 3 + 1) := by
    rintro pre Y W ⟨a, cap, q1, q2, q3, q4, q5, rfl⟩
    refine ⟨fun e => ?_, fun e => ?_⟩
    · rcases e with e | e
      · omega
      · have := q3 _ e; omega
    · rcases e with e | e
      · omega
      · have := q3 _ e; omega
  have HLEN := Lib.hid (show (t.list top).length ≤ 1000000 from Nat.le_trans (t.walk_length _ _) (Nat.le_trans h.is_.up.used hN))
  have HGLT := Lib.hid hGlt
  have HS := Lib.hid hs
  have HW0 := Lib.hid hw0
  have HSZ := Lib.hid hsz
  have HF0 := Lib.hid hf0
  clear h r0 r1 r2 hB0 hs hf0
  obtain ⟨xs, hxs⟩ : ∃ xs, xs = t.list top := ⟨_, rfl⟩
  rw [← hxs] at hseq HLEN ⊢
  clear hxs hGlt
  refine (callsIn_wide (n := 4)).1 ?_
  refine callsIn_of_wp_marks Tryz.func13 rfl trivial ?_ rfl
  simp only [Tryz.ntmps13, List.size_toArray, List.length_cons, List.length_nil, Nat.reduceAdd, Nat.reduceSub, Array.replicate_succ, Array.replicate_zero, List.push_toArray, List.append_toArray, List.nil_append, List.cons_append]
  have HI := Lib.hid hI
  have HI0 := Lib.hid hI0
  have HSQ := Lib.hid hseq
  have HYD := Lib.hid hYD
  clear hI hI0 hseq hsz hw0 hYD
  gi_wp2_with (refine ⟨trivial, ?_⟩; gi_at_call 48; refine (callsIn_wide.2 (Undo_all _ _ _)).mono ?_; rintro e w1 ⟨rfl, hw1⟩)
  clear hw1
  rw [← HW0.out, ← HS.out]
  have HD := HSZ.out
  refine range_own (n := 4) (w := w0) rfl (by omega) (gf := 80) (lb := #[.pointer (some ⟨s + 1, 0, none⟩), .pointer (some ⟨s + 2, 0, none⟩)]) rfl trivial (enters_of Tryz.func80 (by kernel_rfl) rfl) (encs := ovEnc) (xs := xs) (Y0 := fun k => k = s ∨ blk none k) (fun _ => rfl) (fun k e => by rcases e with e | e; omega; exact absurd e (blk_none k)) HSQ.out
    (UListI w s (s + 3) (AllB G x (s + 1) (s + 2) top N vl c t)) (fun _ _ _ => False) (fun pre Y W W' h f => HI.out pre Y W W' h (by rw [HD] at f; exact f)) (fun _ _ _ _ h _ => h) (fun pre Y W h => by rw [HD]; exact HYD.out pre Y W h) (fun pre Y W h => by obtain ⟨_, _, _, _, _, _, q, _⟩ := h; exact q) HI0.out ?round ?done ?stop
  case round =>
    intro l pre n rest Y W0 W1 hx hi f01 hlt
    rw [HD] at f01 hlt ⊢
    have hi1 := HI.out pre Y W0 W1 hi (f01.mono fun k _ e => ⟨by have := e.1; omega, e.2⟩)
    obtain ⟨ad, cap, q1, q2, q3, q4, q5, rfl⟩ := hi1
    have hlen : pre.length + 1 ≤ 1000000 := by
      have h1 := HLEN.out
      rw [hx, List.length_append, List.length_cons] at h1
      omega
    have hW1 : s + 5 ≤ W1.heap.size := Nat.le_trans hlt f01.size
    have HI0 := Lib.hid (And.intro q1 (And.intro q2 (And.intro q3 (And.intro q4 q5))))
    have HW1 := Lib.hid hW1
    clear q1 q2 q3 q4 q5 f01 hx hi hlt hW1
    unfold ovEnc OV.cells
    gi_wp2
    obtain ⟨W2, hW2⟩ : ∃ W2, W2 = W1.alloc (.cells n.cells 40) := ⟨_, rfl⟩
    obtain ⟨nb, hnb⟩ : ∃ nb, nb = W1.heap.size := ⟨_, rfl⟩
    have f12 : Fr none_ W1 W2 := by rw [hW2]; exact Fr.alloc _ _ _
    have rn2 : Row W2 nb n.cells 40 := by rw [hW2, hnb]; exact Row.new W1 _ _
    unfold OV.cells at hW2
    rw [← hW2, ← hnb]
    have hw1 := HW1.out
    have rd := Rec.of_fr (D := s + 3) f12 (by omega) (fun e => e) (fun e => e)
    refine ⟨rd, fun W3 f3 hs3 => ?_⟩
    obtain ⟨q1, q2, q3, q4, q5⟩ := HI0.out
    have hnb5 : s + 5 ≤ nb := by omega
    have rn3 := rn2.kept f3 (fun e => by unfold one at e; omega)
    have e1 : Row W3 s #[.slice ad pre.length cap] 24 := (q1.kept f12 (fun e => e)).kept f3 (fun e => by unfold one at e; omega)
    have e2 : SlAt W3 ad pre.length cap 40 4 (ovList pre) := (q2.kept f12 (fun _ _ e => e)).kept f3 (fun k hk e => by have := q3 k hk; unfold one at e; omega)
    have HF3 := Lib.hid (show Fr (fun k => k = s + 3 + 1) W1 W3 from f12.none.trans (f3.mono fun k _ e => e))
    have d0 : W3.cell? ⟨s, 0, none⟩ = some (.slice ad pre.length cap) := e1.cell 0
    have m0 : W3.cell? ⟨nb, 0, none⟩ = some (.int .i64 (n.wr : Int)) := rn3.cell 0
    have m1 : W3.cell? ⟨nb, 1, none⟩ = some (.int .i64 0) := rn3.cell 1
    have m2 : W3.cell? ⟨nb, 2, none⟩ = some (.bool n.tomb) := rn3.cell 2
    have m3 : W3.cell? ⟨nb, 3, none⟩ = some (.string n.val) := rn3.cell 3
    have E1 := Lib.hid e1
    have E2 := Lib.hid e2
    have HVE := Lib.hid (show n.row.toArray = #[.int .i64 (n.wr : Int), .int .i64 0, .bool n.tomb, .string n.val] from rfl)
    have HW3 := Lib.hid (show W1.heap.size ≤ W3.heap.size from HF3.out.size)
    clear q1 q2 q3 q4 q5 rn3 rn2 f12 f3 hs3 e1 e2 rd hW2 hnb hnb5 hw1
    gi_wp2_with (gi_at_builtin; refine Stop.mk ?_)
    show wpListIn _ _ _ _ _ _ _ _
    rw [← HVE.out]
    refine wpAppendIn rfl _ _ _ rfl 40 (.agg #[.int .i64 0, .int .i64 0, .bool false, .string ⟨#[]⟩]) 4 40 Tryz.underlying24 verInfoU rfl (E2.out.kept0 (Fr.alloc none_ W3 (.cells n.row.toArray 40))) rfl ⟨W3.heap.size, 0, none⟩ 1 1 n.row rfl rfl (new_cells W3 n.row 40) (by simp [OV.row, OV.cells, Value.oneCell']) (by omega) (by unfold maxLen; omega) (by omega) ?_
    intro ad' cap' W5 hs5 f5 hb5
    have HB5 := Lib.hid hb5
    have HS5 := Lib.hid hs5
    obtain ⟨q1, q2, q3, q4, q5⟩ := HI0.out
    have fa := Fr.alloc none_ W3 (.cells n.row.toArray 40)
    have f35 : Fr (blk ad) W3 W5 := fa.none.trans f5
    have rs5 : Row W5 s #[.slice ad pre.length cap] 24 := E1.out.kept f35 (fun e => by have := q3 s e; omega)
    have z5 := rs5.cell 0
    have zf := rs5.free 0
    have F35 := Lib.hid f35
    have R5 := Lib.hid rs5
    clear q1 q2 q3 q4 q5 fa f35 rs5 f5 hb5 hs5 d0 m0 m1 m2 m3
    gi_wp2
    obtain ⟨q1, q2, q3, q4, q5⟩ := HI0.out
    have hw1 := HW1.out
    have hw3 := HW3.out
    have fset := Fr.setCell (one s) W5 ⟨s, 0, none⟩ (.slice ad' (pre.length + 1) cap') (fun _ => rfl)
    have f36 : Fr (fun k => k = s ∨ blk ad k) W3 (W5.setCell ⟨s, 0, none⟩ (.slice ad' (pre.length + 1) cap')) := (F35.out.mono fun k _ e => Or.inr e).trans (fset.mono fun k _ e => Or.inl e)
    have hbl' : ∀ k, blk ad' k → blk ad k ∨ W1.heap.size ≤ k := fun k hk => by
      rcases HB5.out k hk with e | e
      · exact Or.inl e
      · simp at e; right; omega
    have f16 : Fr (fun k => (k = s ∨ blk ad k) ∨ k = s + 3 ∨ k = s + 3 + 1) W1 (W5.setCell ⟨s, 0, none⟩ (.slice ad' (pre.length + 1) cap')) := (HF3.out.mono fun k _ e => Or.inr (Or.inr e)).trans (f36.mono fun k _ e => Or.inl e)
    show Rec (s + 3) W3 _ ∧ ∃ Y', UListI w s (s + 3) _ (pre ++ [n]) Y' _ ∧ Fr _ W1 _ ∧ ∀ k, Y' k → _
    refine ⟨Rec.of_fr f36 (by omega) (fun e => ?_) (fun e => ?_), fun k => k = s ∨ blk ad' k, ⟨ad', cap', ?_, ?_, fun k hk => ?_, ?_, ⟨?_, ?_, ?_⟩, rfl⟩, f16, fun k hk => ?_⟩
    · rcases e with e | e
      · omega
      · have := q3 _ e; omega
    · rcases e with e | e
      · omega
      · have := q3 _ e; omega
    · rw [List.length_append]; exact R5.out.set 0 _
    · rw [List.length_append, ovList_snoc]; exact HS5.out.kept fset (fun k hk e => by
        unfold one at e
        rcases hbl' k hk with q | q
        · have := q3 k q; omega
        · omega)
    · rcases hbl' k hk with q | q
      · exact q3 k q
      · omega
    · refine q4.step f16 (fun i hi e => ?_)
      have := HS.out
      rcases e with (e | e) | e | e
      · omega
      · have := q3 i e; omega
      · omega
      · omega
    · refine q5.1.kept f16 (fun k hk e => ?_)
      have := HGLT.out k hk
      rcases e with (e | e) | e | e
      · omega
      · have := q3 k e; omega
      · omega
      · omega
    · refine f16.keepF (fun e => ?_) q5.2.1
      rcases e with (e | e) | e | e
      · exact absurd e (by simp)
      · have := q3 _ e; simp at this; omega
      · exact absurd e (by simp)
      · exact absurd e (by simp)
    · refine f16.keepF (fun e => ?_) q5.2.2
      rcases e with (e | e) | e | e
      · exact absurd e (by simp)
      · have := q3 _ e; simp at this; omega
      · exact absurd e (by simp)
      · exact absurd e (by simp)
    · rcases hk with e | e
      · exact Or.inl (Or.inl e)
      · rcases hbl' k e with q | q
        · exact Or.inl (Or.inr q)
        · exact Or.inr q
  case done =>
    intro W Y hlt hi hK
    rw [HD] at hK hlt ⊢
    obtain ⟨ad, cap, q1, q2, q3, q4, q5, _⟩ := hi
    have d0 : W.cell? ⟨s, 0, none⟩ = some (.slice ad xs.length cap) := q1.cell 0
    have HQ := Lib.hid (And.intro q2 (And.intro q3 q4))
    have HK := Lib.hid hK
    clear q1 q2 q3 q4 q5 hK
    gi_wp2
    have hK := HK.out
    refine ⟨by simp, .inl ⟨_, _, rfl, run_takeDeferred hK, ?_⟩⟩
    obtain ⟨q2, q3, q4⟩ := HQ.out
    have fp := Fr.putObj W (s + 3) (.deferred none)
    exact ⟨_, results_tmp rfl _ _ _, ad, cap, rfl, q2.kept fp (fun k hk e => by have := q3 k hk; unfold one at e; omega), q4.step fp (fun i hi e => by have := HS.out; unfold one at e; omega), fun k hk => by have := q3 k hk; have := HS.out; omega⟩
  case stop =>
    intro c pre W _ _ h _
    exact h.elim
end
end Go.Proofs.YtckkccnebjacdaaGreat
