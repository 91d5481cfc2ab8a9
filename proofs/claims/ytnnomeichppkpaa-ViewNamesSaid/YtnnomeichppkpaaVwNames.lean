/-
  ViewNames' walk.
-/
import Derived.Test.YtnnomeichppkpaaVwX
import Derived.Deep.RegionHeld3
import Derived.Outline
namespace Go.Proofs.Ytnnomeichppkpaa
open Go.RowKit Go.Sort
set_option linter.unusedVariables false
set_option linter.unusedSimpArgs false
set_option maxRecDepth 100000

/-- A row of the statement's table. -/
structure NE where
  own : Int
  high : Int
  a : Option Addr
  n : Nat
  l : List Int
  least : Int
def NE.cells (e : NE) : List Value := [.int .i64 e.own, .int .i64 e.high, .slice e.a e.n e.n, .int .i64 e.least]
structure NE.Ok (e : NE) (w : World) : Prop where
  least : e.least = vwLeast e.own e.high e.l
  high : e.high ≤ mostI
  len : e.n = e.l.length
  le : e.n ≤ 1000
  at_ : IntsAt w e.a e.l
theorem NE.Ok.keep {e : NE} {w w' : World} (h : e.Ok w) (f : Fr none_ w w') : e.Ok w' := ⟨h.least, h.high, h.len, h.le, h.at_.kept0 f⟩
def neTab (s1 s2 s3 : Nat) : List NE :=
  [⟨0, 0, none, 0, [], 1⟩, ⟨1, 0, none, 0, [], 2⟩, ⟨1, -9, none, 0, [], 2⟩, ⟨7, 7, none, 0, [], 8⟩, ⟨7, 8, none, 0, [], 8⟩, ⟨3, 8, some ⟨s1, 0, none⟩, 4, [6, 4, 3, 9], 4⟩, ⟨0, 9223372036854775807, none, 0, [], 9223372036854775807⟩, ⟨9223372036854775807, 9223372036854775807, none, 0, [], 9223372036854775807⟩,
   ⟨9223372036854775807, 9223372036854775807, some ⟨s2, 0, none⟩, 1, [5], 5⟩, ⟨2, 1, none, 0, [], 1⟩, ⟨0, 1, some ⟨s3, 0, none⟩, 2, [0, -3], 1⟩]
theorem sees_low {own high : Int} {l : List Int} {x : Int} (hx : x < 1) : vwSees own high l x = false := by
  cases e : vwSees own high l x with
  | false => rfl
  | true => have := (vwSees_iff.1 e).1; omega
theorem ne_world (w1 : World) : ∃ w2 : World, w2 = ((((w1.alloc (.cells #[.int .i64 6, .int .i64 4, .int .i64 3, .int .i64 9] 3)).alloc (.cells #[.int .i64 5] 3)).alloc (.cells #[.int .i64 0, .int .i64 (-3)] 3)).alloc (.cells #[.int .i64 0, .int .i64 0, .slice none 0 0, .int .i64 1, .int .i64 1, .int .i64 0, .slice none 0 0, .int .i64 2, .int .i64 1, .int .i64 (-9), .slice none 0 0, .int .i64 2, .int .i64 7, .int .i64 7, .slice none 0 0, .int .i64 8, .int .i64 7, .int .i64 8, .slice none 0 0, .int .i64 8, .int .i64 3, .int .i64 8, .slice (some ⟨w1.heap.size, 0, none⟩) 4 4, .int .i64 4, .int .i64 0, .int .i64 9223372036854775807, .slice none 0 0, .int .i64 9223372036854775807, .int .i64 9223372036854775807, .int .i64 9223372036854775807, .slice none 0 0, .int .i64 9223372036854775807, .int .i64 9223372036854775807, .int .i64 9223372036854775807, .slice (some ⟨w1.heap.size + 1, 0, none⟩) 1 1, .int .i64 5, .int .i64 2, .int .i64 1, .slice none 0 0, .int .i64 1, .int .i64 0, .int .i64 1, .slice (some ⟨w1.heap.size + 1 + 1, 0, none⟩) 2 2, .int .i64 1] 35)) ∧ Fr none_ w1 w2 ∧ LsAt w2 (some ⟨w1.heap.size + 1 + 1 + 1, 0, none⟩) 4 NE.cells (neTab w1.heap.size (w1.heap.size + 1) (w1.heap.size + 1 + 1)) ∧ ∀ x ∈ neTab w1.heap.size (w1.heap.size + 1) (w1.heap.size + 1 + 1), x.Ok w2 := by
  obtain ⟨v1, hv1⟩ : ∃ v, v = (w1.alloc (.cells #[.int .i64 6, .int .i64 4, .int .i64 3, .int .i64 9] 3)) := ⟨_, rfl⟩
  have z1 : v1.heap.size = w1.heap.size + 1 := by rw [hv1]; simp
  have i1 : IntsAt v1 (some ⟨w1.heap.size, 0, none⟩) [6, 4, 3, 9] := by rw [hv1]; exact ints_built w1 [6, 4, 3, 9]
  have f1 : Fr none_ w1 v1 := by rw [hv1]; exact Fr.alloc _ _ _
  obtain ⟨v2, hv2⟩ : ∃ v, v = v1.alloc (.cells #[.int .i64 5] 3) := ⟨_, rfl⟩
  have z2 : v2.heap.size = w1.heap.size + 1 + 1 := by rw [hv2]; simp [z1]
  have i2 : IntsAt v2 (some ⟨w1.heap.size + 1, 0, none⟩) [5] := by rw [hv2, ← z1]; exact ints_built v1 [5]
  have f2 : Fr none_ v1 v2 := by rw [hv2]; exact Fr.alloc _ _ _
  obtain ⟨v3, hv3⟩ : ∃ v, v = v2.alloc (.cells #[.int .i64 0, .int .i64 (-3)] 3) := ⟨_, rfl⟩
  have z3 : v3.heap.size = w1.heap.size + 1 + 1 + 1 := by rw [hv3]; simp [z2]
  have i3 : IntsAt v3 (some ⟨w1.heap.size + 1 + 1, 0, none⟩) [0, -3] := by rw [hv3, ← z2]; exact ints_built v2 [0, -3]
  have f3 : Fr none_ v2 v3 := by rw [hv3]; exact Fr.alloc _ _ _
  rw [← hv1, ← hv2, ← hv3]
  have hr := Row.new v3 ((neTab w1.heap.size (w1.heap.size + 1) (w1.heap.size + 1 + 1)).flatMap NE.cells).toArray 35
  have f4 := Fr.alloc none_ v3 (.cells ((neTab w1.heap.size (w1.heap.size + 1) (w1.heap.size + 1 + 1)).flatMap NE.cells).toArray 35)
  rw [z3] at hr
  refine ⟨v3.alloc (.cells ((neTab w1.heap.size (w1.heap.size + 1) (w1.heap.size + 1 + 1)).flatMap NE.cells).toArray 35), rfl, ((f1.trans f2).trans f3).trans f4, ?_, ?_⟩
  · refine Or.inr ⟨w1.heap.size + 1 + 1 + 1, 0, rfl, hr.lt, fun i x hx j v hv => ?_⟩
    rw [hr.cell]
    have := flat_cells NE.cells 4 (fun _ => rfl) _ i x hx j v hv
    rw [Nat.zero_add]
    simpa using this
  · have j1 := ((i1.kept0 f2).kept0 f3).kept0 f4
    have j2 := (i2.kept0 f3).kept0 f4
    have j3 := i3.kept0 f4
    intro x hx
    unfold neTab at hx
    simp only [List.mem_cons, List.not_mem_nil, or_false] at hx
    rcases hx with rfl | rfl | rfl | rfl | rfl | rfl | rfl | rfl | rfl | rfl | rfl
    all_goals first
      | exact ⟨by decide +kernel, by decide +kernel, rfl, by decide, Or.inl rfl⟩
      | exact ⟨(by decide +kernel : (4 : Int) = vwLeast 3 8 [6, 4, 3, 9]), (by decide +kernel : (8 : Int) ≤ mostI), rfl, (by decide : 4 ≤ 1000), j1⟩
      | exact ⟨(by decide +kernel : (5 : Int) = vwLeast 9223372036854775807 9223372036854775807 [5]), (by decide +kernel : (9223372036854775807 : Int) ≤ mostI), rfl, (by decide : 1 ≤ 1000), j2⟩
      | exact ⟨(by decide +kernel : (1 : Int) = vwLeast 0 1 [0, -3]), (by decide +kernel : (1 : Int) ≤ mostI), rfl, (by decide : 2 ≤ 1000), j3⟩
theorem nm_world (W wr : World) (f : Fr none_ W wr) : ∃ w4 : World, w4 = ((((wr.alloc (.cells #[.int .i64 1] 3)).alloc (.cells #[.int .i64 1, .int .i64 2, .slice (some ⟨wr.heap.size, 0, none⟩) 1 1] 25)).alloc (.cells #[.int .i64 1] 3)).alloc (.cells #[.int .i64 1, .int .i64 2, .slice (some ⟨wr.heap.size + 1 + 1, 0, none⟩) 1 1] 25)) ∧ VX W w4 (wr.heap.size + 1) 1 2 (some ⟨wr.heap.size, 0, none⟩) 1 1 [1] ∧ VX W w4 (wr.heap.size + 1 + 1 + 1) 1 2 (some ⟨wr.heap.size + 1 + 1, 0, none⟩) 1 1 [1] := by
  obtain ⟨v1, hv1⟩ : ∃ v, v = wr.alloc (.cells #[.int .i64 1] 3) := ⟨_, rfl⟩
  have z1 : v1.heap.size = wr.heap.size + 1 := by rw [hv1]; simp
  have i1 : IntsAt v1 (some ⟨wr.heap.size, 0, none⟩) [1] := by rw [hv1]; exact ints_built wr [1]
  have f1 : Fr none_ wr v1 := by rw [hv1]; exact Fr.alloc _ _ _
  obtain ⟨v2, hv2⟩ : ∃ v, v = v1.alloc (.cells #[.int .i64 1, .int .i64 2, .slice (some ⟨wr.heap.size, 0, none⟩) 1 1] 25) := ⟨_, rfl⟩
  have z2 : v2.heap.size = wr.heap.size + 1 + 1 := by rw [hv2]; simp [z1]
  have f2 : Fr none_ v1 v2 := by rw [hv2]; exact Fr.alloc _ _ _
  have r2 : Row v2 (wr.heap.size + 1) #[.int .i64 1, .int .i64 2, .slice (some ⟨wr.heap.size, 0, none⟩) 1 1] 25 := by rw [hv2, ← z1]; exact Row.new _ _ _
  have x2 : VX W v2 (wr.heap.size + 1) 1 2 (some ⟨wr.heap.size, 0, none⟩) 1 1 [1] := ⟨r2, i1.kept0 f2, rfl, by omega, (f.trans f1).trans f2⟩
  obtain ⟨v3, hv3⟩ : ∃ v, v = v2.alloc (.cells #[.int .i64 1] 3) := ⟨_, rfl⟩
  have z3 : v3.heap.size = wr.heap.size + 1 + 1 + 1 := by rw [hv3]; simp [z2]
  have i3 : IntsAt v3 (some ⟨wr.heap.size + 1 + 1, 0, none⟩) [1] := by rw [hv3, ← z2]; exact ints_built v2 [1]
  have f3 : Fr none_ v2 v3 := by rw [hv3]; exact Fr.alloc _ _ _
  have f4 := Fr.alloc none_ v3 (.cells #[.int .i64 1, .int .i64 2, .slice (some ⟨wr.heap.size + 1 + 1, 0, none⟩) 1 1] 25)
  have r4 := Row.new v3 #[.int .i64 1, .int .i64 2, .slice (some ⟨wr.heap.size + 1 + 1, 0, none⟩) 1 1] 25
  rw [z3] at r4
  rw [← hv1, ← hv2, ← hv3]
  exact ⟨_, rfl, (x2.keep f3).keep f4, ⟨r4, i3.kept0 f4, rfl, by omega, (((f.trans f1).trans f2).trans f3).trans f4⟩⟩
set_option maxHeartbeats 8000000 in
theorem walk_ViewNames (W : World) : Calls Try.prog 5 #[] W fun e w' => e = .returned (.bool true) ∧ Fr none_ W w' := by
  have AW := Lib.hid awake_any
  go_enter Try.func5, Try.ntmps5
  go_wp2_with fail
  refine (AW.out _).mono ?_
  rintro e w1 ⟨rfl, f1⟩
  have F1 := Lib.hid f1
  clear f1
  go_wp2_with fail
  obtain ⟨w2, hw2, f2, hT, hok⟩ := ne_world w1
  rw [← hw2]
  have F2 := Lib.hid (F1.out.trans f2)
  have LT := Lib.hid hT
  have OK := Lib.hid hok
  clear hw2 f2 hT hok F1
  obtain ⟨G, hG⟩ : ∃ G, G = w1.heap.size + 1 + 1 + 1 := ⟨_, rfl⟩
  rw [← hG] at LT ⊢
  have TL : Hid ((neTab w1.heap.size (w1.heap.size + 1) (w1.heap.size + 1 + 1)).length = 11) := Lib.hid rfl
  generalize neTab w1.heap.size (w1.heap.size + 1) (w1.heap.size + 1 + 1) = T at LT OK TL
  clear hG
  go_loopw [34] (fun iv wr => ∃ k : Nat, Hid (k ≤ 11) ∧ iv = .int .i64 (k : Int) ∧ Hid (Fr none_ w2 wr)) (fun iv _ => 11 - (intOf iv).toNat)
  case atStart => exact ⟨0, Nat.zero_le _, rfl, Lib.hid (Fr.refl _ _)⟩
  case round =>
    obtain ⟨k, hk, rfl, FR⟩ := hrel
    by_cases hlt : k < 11
    · obtain ⟨x, hx⟩ : ∃ x, T[k]? = some x := ⟨_, List.getElem?_eq_getElem (by rw [TL.out]; exact hlt)⟩
      have OX := Lib.hid ((OK.out x (List.mem_of_getElem? hx)).keep FR.out)
      obtain ⟨b, o, hbo, _, hc⟩ := LT.out.get hx
      cases hbo
      have q0 : wr.cell? ⟨G, 0 + k * 4 + 0, none⟩ = some (.int .i64 x.own) := FR.out.keep (hc k x hx 0 _ rfl)
      have q1 : wr.cell? ⟨G, 0 + k * 4 + 1, none⟩ = some (.int .i64 x.high) := FR.out.keep (hc k x hx 1 _ rfl)
      have q2 : wr.cell? ⟨G, 0 + k * 4 + 2, none⟩ = some (.slice x.a x.n x.n) := FR.out.keep (hc k x hx 2 _ rfl)
      have q3 : wr.cell? ⟨G, 0 + k * 4 + 3, none⟩ = some (.int .i64 x.least) := FR.out.keep (hc k x hx 3 _ rfl)
      simp only [Nat.zero_add, Nat.add_zero] at q0 q1 q2 q3
      clear hc hx
      obtain ⟨own, high, a, n, l, least⟩ := x
      simp only at q0 q1 q2 q3
      go_wp2_with fail
      obtain ⟨w3, hw3⟩ : ∃ w3 : World, w3 = wr.alloc (.cells #[.int .i64 own, .int .i64 high, .slice a n n, .int .i64 least] 35) := ⟨_, rfl⟩
      have r3 : Row w3 wr.heap.size #[.int .i64 own, .int .i64 high, .slice a n n, .int .i64 least] 35 := by rw [hw3]; exact Row.new _ _ _
      have f3 : Fr none_ wr w3 := by rw [hw3]; exact Fr.alloc _ _ _
      rw [← hw3]
      obtain ⟨Y, hY⟩ : ∃ Y, Y = wr.heap.size := ⟨_, rfl⟩
      rw [← hY] at r3 ⊢
      have c0 : w3.cell? ⟨Y, 0, none⟩ = some (.int .i64 own) := r3.cell 0
      have c1 : w3.cell? ⟨Y, 1, none⟩ = some (.int .i64 high) := r3.cell 1
      have c2 : w3.cell? ⟨Y, 2, none⟩ = some (.slice a n n) := r3.cell 2
      have c3 : w3.cell? ⟨Y, 3, none⟩ = some (.int .i64 least) := r3.cell 3
      have LEC : Hid (∀ w', Fr none_ w3 w' → Calls Try.prog 10 #[.agg #[.int .i64 own, .int .i64 high, .slice a n n]] w' fun e w'' => e = .returned (.int .i64 least) ∧ Fr none_ w' w'') := Lib.hid (fun w' f => by
        have o := (OX.out.keep f3).keep f
        have := Least_any w' own high a n n l o.at_ o.len (by have := o.le; simp only at this; omega) o.high
        rw [← o.least] at this
        exact this)
      have SNC : Hid (∀ w', Fr none_ w3 w' → ∀ x : Int, x < 1 → Calls Try.prog 9 #[.agg #[.int .i64 own, .int .i64 high, .slice a n n], .int .i64 x] w' fun e w'' => e = .returned (.bool false) ∧ Fr none_ w' w'') := Lib.hid (fun w' f x hx => by
        have o := (OX.out.keep f3).keep f
        have := Sees_any w' own high a n n l x o.at_ o.len (by have := o.le; simp only at this; omega)
        rw [sees_low hx] at this
        exact this)
      have F3 := Lib.hid (FR.out.trans f3)
      have fS : Fr none_ w3 w3 := Fr.refl _ _
      clear hw3 r3 f3 hY q0 q1 q2 q3 OX
      go_region_held3 (fun w' => Fr none_ w3 w' ∧ w'.cell? ⟨Y, 0, none⟩ = some (.int .i64 own) ∧ w'.cell? ⟨Y, 1, none⟩ = some (.int .i64 high) ∧ w'.cell? ⟨Y, 2, none⟩ = some (.slice a n n) ∧ w'.cell? ⟨Y, 3, none⟩ = some (.int .i64 least))
        (first | (go_split_ands; refine ⟨?_, ?_, ?_, ?_, ?_⟩; exact Fr.trans (by assumption) f6; all_goals exact Fr.keep f6 (by assumption)) | (go_split_ands; refine ⟨?_, ?_, ?_, ?_, ?_⟩; exact Fr.trans (by assumption) (Fr.drew _ _); all_goals assumption) | go_keep)
        (first | (go_at_call 10; refine (LEC.out _ (by first | assumption | exact Fr.drew _ _)).mono ?_; rintro e w6 ⟨rfl, f6⟩) | (go_at_call 9; refine (SNC.out _ (by first | assumption | (go_split_ands; assumption)) _ (by decide)).mono ?_; rintro e w6 ⟨rfl, f6⟩))
      rename_i hh
      have FN := Lib.hid (F3.out.trans hh.1)
      clear hh
      go_wp2_with fail
      go_roundw
      case rel => exact ⟨k + 1, hlt, by go_num, FN⟩
      case measure => simp [intOf]; omega
    · have F4 := Lib.hid (F2.out.trans FR.out)
      have NW := Lib.hid (nm_world W wr F4.out)
      clear FR
      go_upto_region 11 with fail
      obtain ⟨w4, hw4, va, vb⟩ := NW.out
      rw [← hw4]
      obtain ⟨A, hA⟩ : ∃ A, A = wr.heap.size + 1 := ⟨_, rfl⟩
      obtain ⟨B, hB⟩ : ∃ B, B = wr.heap.size + 1 + 1 + 1 := ⟨_, rfl⟩
      rw [← hA] at va
      rw [← hB] at vb
      obtain ⟨P, hP⟩ : ∃ P, P = wr.heap.size := ⟨_, rfl⟩
      obtain ⟨Q, hQ⟩ : ∃ Q, Q = wr.heap.size + 1 + 1 := ⟨_, rfl⟩
      rw [← hP] at va
      rw [← hQ] at vb
      rw [← hB, ← hQ, ← hA, ← hP]
      have V4 := Lib.hid va
      have U4 := Lib.hid vb
      clear va vb hw4 hA hB hP hQ NW
      have c0 := V4.out.c0
      have c1 := V4.out.c1
      have c2 := V4.out.c2
      have d0 := U4.out.c0
      have d1 := U4.out.c1
      have d2 := U4.out.c2
      have SM := Lib.hid (V4.out.same (o2 := 1) (h2 := 2) (n2 := 1) (c2 := 1) U4.out.at_ rfl (by omega) true (by decide +kernel))
      go_wp2_with fail
      refine SM.out.mono ?_
      rintro e w5 ⟨rfl, v5, f5⟩
      have V5 := Lib.hid v5
      clear v5 f5 c0 c1 c2 d0 d1 d2 SM V4 U4
      have c0 := V5.out.c0
      have c1 := V5.out.c1
      have c2 := V5.out.c2
      go_wp2_with fail
      refine (V5.out.same (o2 := 1) (h2 := 2) (a2 := none) (n2 := 0) (c2 := 0) (l2 := []) (Or.inl rfl) rfl (by omega) false (by decide +kernel)).mono ?_
      rintro e w6 ⟨rfl, v6, _⟩
      have V6 := Lib.hid v6
      clear v6 c0 c1 c2
      have c0 := V6.out.c0
      have c1 := V6.out.c1
      have c2 := V6.out.c2
      go_wp2_with fail
      refine ((V6.out.keep (Fr.alloc _ _ _)).same (o2 := 2) (h2 := 2) (a2 := some ⟨w6.heap.size, 0, none⟩) (n2 := 1) (c2 := 1) (l2 := [1]) (ints_built w6 [1]) rfl (by omega) false (by decide +kernel)).mono ?_
      rintro e w7 ⟨rfl, v7, _⟩
      have V7 := Lib.hid v7
      clear v7 c0 c1 c2
      have c0 := V7.out.c0
      have c1 := V7.out.c1
      have c2 := V7.out.c2
      go_wp2_with fail
      refine ((V7.out.keep (Fr.alloc _ _ _)).same (o2 := 1) (h2 := 3) (a2 := some ⟨w7.heap.size, 0, none⟩) (n2 := 1) (c2 := 1) (l2 := [1]) (ints_built w7 [1]) rfl (by omega) false (by decide +kernel)).mono ?_
      rintro e w8 ⟨rfl, v8, _⟩
      have V8 := Lib.hid v8
      clear v8 c0 c1 c2
      have c0 := V8.out.c0
      have c1 := V8.out.c1
      have c2 := V8.out.c2
      go_wp2_with fail
      refine ((V8.out.keep (Fr.alloc _ _ _)).same (o2 := 1) (h2 := 2) (a2 := some ⟨w8.heap.size, 0, none⟩) (n2 := 1) (c2 := 1) (l2 := [2]) (ints_built w8 [2]) rfl (by omega) false (by decide +kernel)).mono ?_
      rintro e w9 ⟨rfl, v9, _⟩
      have V9 := Lib.hid v9
      clear v9 c0 c1 c2
      have c0 := V9.out.c0
      have c1 := V9.out.c1
      have c2 := V9.out.c2
      go_wp2_with fail
      refine (Same_any _ 0 0 (some ⟨w9.heap.size, 0, none⟩) 0 0 [] 0 0 none 0 0 [] (Or.inl rfl) rfl (by omega) (Or.inl rfl) rfl (by omega)).mono ?_
      rintro e w10 ⟨he, f⟩
      have V10 := Lib.hid ((V9.out.keep (Fr.alloc _ _ _)).keep f)
      have hv : vwSame 0 0 [] 0 0 [] = true := by decide +kernel
      rw [hv] at he
      subst he
      clear f hv c0 c1 c2
      have c0 := V10.out.c0
      have c1 := V10.out.c1
      have c2 := V10.out.c2
      go_wp2_with fail
      refine (V10.out.sees 1 true (by decide +kernel)).mono ?_
      rintro e w11 ⟨rfl, v11, _⟩
      have V11 := Lib.hid v11
      clear v11 c0 c1 c2
      go_wp2_with fail
      go_ret
      exact ⟨rfl, V11.out.fr⟩
end Go.Proofs.Ytnnomeichppkpaa
