/-
  Package dead: the state ('DS': how many of each timestamp, and how many in all), and its memory ('DeadAt'); New, Of, All, Add, take, Less.
-/
import Derived.Test.YtkfnfflonjfglaaMax
import Derived.Test.YtkfnfflonjfglaaMem
namespace Go.Proofs.Ytkfnfflonjfglaa
open Go.RowKit
set_option linter.unusedVariables false
set_option linter.unusedSimpArgs false
set_option maxRecDepth 100000

structure DS where
  of : List (Int × Nat)
  all : Nat
def DS.cnt (s : DS) (t : Int) : Nat := (kvGet s.of t).getD 0
def dAdd (s : DS) (t : Int) : Nat × DS := if t < 1 ∨ 1048576 < t then (1, s) else if s.all = 64 then (41, s) else (0, ⟨kvPut s.of t (s.cnt t + 1), s.all + 1⟩)
def dTake (s : DS) (t : Int) (n : Nat) : DS := ⟨if s.cnt t - n = 0 then kvDel (kvPut s.of t (s.cnt t - n)) t else kvPut s.of t (s.cnt t - n), s.all - n⟩
def dLess (s : DS) (t : Int) : Bool × DS := if s.cnt t = 0 then (false, s) else (true, dTake s t 1)

/-- In memory: the block d, the map m. -/
structure DeadAt (w : World) (d m : Nat) (s : DS) : Prop where
  row : Row w d #[.map (some m), .int .i64 (s.all : Int)] 50
  map : MapAt w m (Value.int .i64) intN s.of
  ne : d ≠ m
theorem int_keyT : KeyT Try.prog 3 (Value.int .i64) := KeyT.int Try.underlying3
theorem zero_int (w : World) : (zeroValue 3).run Try.prog w = .ok (.int .i64 0) w := by kernel_rfl
section
variable {w w' : World} {d m : Nat} {s : DS}
theorem DeadAt.kept {F : Nat → Prop} (h : DeadAt w d m s) (f : Fr F w w') (hd : ¬ F d) (hm : ¬ F m) : DeadAt w' d m s := ⟨h.row.kept f hd, h.map.kept f hm, h.ne⟩
theorem DeadAt.kept0 (h : DeadAt w d m s) (f : Fr none_ w w') : DeadAt w' d m s := h.kept f (fun e => e) (fun e => e)
theorem DeadAt.lt (h : DeadAt w d m s) : d < w.heap.size ∧ m < w.heap.size := ⟨h.row.lt, h.map.lt⟩
theorem DeadAt.c0 (h : DeadAt w d m s) : w.cell? ⟨d, 0, none⟩ = some (.map (some m)) := (h.row.cell 0).trans rfl
theorem DeadAt.c1 (h : DeadAt w d m s) : w.cell? ⟨d, 1, none⟩ = some (.int .i64 (s.all : Int)) := (h.row.cell 1).trans rfl
theorem DeadAt.free (h : DeadAt w d m s) (i : Nat) : w.frozen? ⟨d, i, none⟩ = false := h.row.free i
theorem DeadAt.mapTo (h : DeadAt w d m s) {l : List (Int × Nat)} (hm : MapAt w' m (Value.int .i64) intN l) (f : Fr (one m) w w') : DeadAt w' d m { s with of := l } := ⟨h.row.kept f (fun e => h.ne e), hm, h.ne⟩
theorem DeadAt.allTo (h : DeadAt w d m s) (a : Nat) : DeadAt (w.setCell ⟨d, 1, none⟩ (.int .i64 (a : Int))) d m { s with all := a } :=
  ⟨h.row.set 1 (.int .i64 (a : Int)), h.map.kept (F := one d) (Fr.setCell _ _ ⟨d, 1, none⟩ _ (fun _ => rfl)) (fun e => h.ne e.symm), h.ne⟩
theorem DeadAt.look (h : DeadAt w d m s) (t : Int) : (Instr.lookup 48 (.map (some m)) (.int .i64 t) false).run Try.prog w = .ok (.int .i64 (s.cnt t : Int)) w := by
  have := run_lookup_at h.map Try.underlying48 int_keyT (zero_int w) t false
  rw [this]
  unfold DS.cnt
  cases kvGet s.of t <;> rfl
end

theorem build_dead (m : Nat) (w : World) : (Instr.build 50 #[(0, .map (some m))]).run Try.prog w = .ok (.agg #[.map (some m), .int .i64 0]) w := by kernel_rfl
theorem Dead_New (w : World) : Calls Try.prog 10 #[] w fun e w' => ∃ d m, e = .returned (.pointer (some ⟨d, 0, none⟩)) ∧ DeadAt w' d m ⟨[], 0⟩ ∧ Fr none_ w w' ∧ w.heap.size ≤ d ∧ w.heap.size ≤ m := by
  have hmm := @run_makeMap Try.prog
  have hbd := fun m w => build_dead m w
  go_enter Try.func10, Try.ntmps10
  go_wp2
  go_ret
  have hr := Row.new (w.alloc (.map #[] 0)) #[.map (some w.heap.size), .int .i64 0] 50
  have e : (w.alloc (.map #[] 0)).heap.size = w.heap.size + 1 := by simp
  rw [e] at hr
  exact ⟨w.heap.size + 1, w.heap.size, rfl, ⟨hr, (MapAt.new w _ _).kept (F := none_) (Fr.alloc none_ _ _) (fun e => e), by omega⟩, (Fr.alloc _ _ _).alloc_r _, by omega, Nat.le_refl _⟩
theorem Dead_All {w : World} {d m : Nat} {s : DS} (h : DeadAt w d m s) : Calls Try.prog 11 #[.pointer (some ⟨d, 0, none⟩)] w fun e w' => e = .returned (.int .i64 (s.all : Int)) ∧ w = w' := by
  have c1 := h.c1
  go_enter Try.func11, Try.ntmps11
  go_wp2
  go_ret
  exact ⟨rfl, rfl⟩
theorem Dead_Of {w : World} {d m : Nat} {s : DS} (h : DeadAt w d m s) (t : Int) : Calls Try.prog 18 #[.pointer (some ⟨d, 0, none⟩), .int .i64 t] w fun e w' => e = .returned (.int .i64 (s.cnt t : Int)) ∧ w = w' := by
  have c0 := h.c0
  have lk := h.look t
  go_enter Try.func18, Try.ntmps18
  go_wp2
  go_ret
  exact ⟨rfl, rfl⟩

set_option maxHeartbeats 1000000 in
theorem Dead_Add {w : World} {d m : Nat} {s : DS} (h : DeadAt w d m s) (ha : s.all ≤ 64) (t : Int) (hc : s.cnt t ≤ 64) : Calls Try.prog 14 #[.pointer (some ⟨d, 0, none⟩), .int .i64 t] w fun e w' => e = .returned (.int .i64 ((dAdd s t).1 : Int)) ∧ DeadAt w' d m (dAdd s t).2 ∧ Fr (two d m) w w' := by
  by_cases h1 : t < 1
  · have e : dAdd s t = (1, s) := by unfold dAdd; rw [if_pos (Or.inl h1)]
    rw [e]
    go_enter Try.func14, Try.ntmps14
    go_wp2
    go_ret
    exact ⟨rfl, h, Fr.refl _ _⟩
  by_cases h2 : 1048576 < t
  · have e : dAdd s t = (1, s) := by unfold dAdd; rw [if_pos (Or.inr h2)]
    rw [e]
    go_enter Try.func14, Try.ntmps14
    go_wp2
    go_ret
    exact ⟨rfl, h, Fr.refl _ _⟩
  have c1 := h.c1
  by_cases h3 : s.all = 64
  · have e : dAdd s t = (41, s) := by unfold dAdd; rw [if_neg (by omega), if_pos h3]
    rw [e]
    rw [h3] at c1
    have H := Lib.hid h
    clear h3 h e
    go_enter Try.func14, Try.ntmps14
    go_wp2
    go_ret
    exact ⟨rfl, H.out, Fr.refl _ _⟩
  · have e : dAdd s t = (0, ⟨kvPut s.of t (s.cnt t + 1), s.all + 1⟩) := by unfold dAdd; rw [if_neg (by omega), if_neg h3]
    rw [e]
    have b3 : ((s.all : Int) == 64) = false := beq_eq_false_iff_ne.2 (by omega)
    have c0 := h.c0
    have lk := h.look t
    have hw1 : IntKind.i64.wrap ((s.cnt t : Int) + 1) = (s.cnt t : Int) + 1 := IntWalk.i64_in _ (by omega)
    have hw2 : IntKind.i64.wrap ((s.all : Int) + 1) = (s.all : Int) + 1 := IntWalk.i64_in _ (by omega)
    have H := Lib.hid h
    generalize hcn : s.cnt t = cn at lk hw1 hc
    have HCN := Lib.hid hcn
    clear h3 h e hcn
    go_enter Try.func14, Try.ntmps14
    go_wp2_with (at_mapUpdate; refine wpMapUpdate rfl _ _ _ 48 rfl 3 3 H.out.map Try.underlying48 int_keyT t (cn + 1) rfl rfl rfl ?_; intro w1 hm1 f1; have h1' := H.out.mapTo hm1 f1; have c11 := h1'.c1; have z11 := h1'.free 1)
    go_ret
    have h2' := h1'.allTo (s.all + 1)
    have e2 : ((s.all : Int) + 1) = ((s.all + 1 : Nat) : Int) := by omega
    refine ⟨rfl, by rw [e2]; exact h2', ?_⟩
    exact (f1.mono fun k _ e => Or.inr e).trans (Fr.setCell _ _ ⟨d, 1, none⟩ _ (fun _ => Or.inl rfl))

set_option maxHeartbeats 1000000 in
theorem Dead_take {w : World} {d m : Nat} {s : DS} (h : DeadAt w d m s) (ha : s.all ≤ 64) (t : Int) (n : Nat) (hc : s.cnt t ≤ 64) (hn : n ≤ s.cnt t) (hna : n ≤ s.all) : Calls Try.prog 28 #[.pointer (some ⟨d, 0, none⟩), .int .i64 t, .int .i64 (n : Int)] w fun e w' => e = .returned (.tuple #[]) ∧ DeadAt w' d m (dTake s t n) ∧ Fr (two d m) w w' := by
  have c1 := h.c1
  have z1 := h.free 1
  have hw2 : IntKind.i64.wrap ((s.all : Int) - (n : Int)) = ((s.all - n : Nat) : Int) := by
    have e : (s.all : Int) - (n : Int) = ((s.all - n : Nat) : Int) := by omega
    rw [e]; exact IntWalk.i64_in _ (by omega)
  have hw1 : IntKind.i64.wrap ((s.cnt t : Int) - (n : Int)) = ((s.cnt t - n : Nat) : Int) := by
    have e : (s.cnt t : Int) - (n : Int) = ((s.cnt t - n : Nat) : Int) := by omega
    rw [e]; exact IntWalk.i64_in _ (by omega)
  have h1 := h.allTo (s.all - n)
  have f1 : Fr (two d m) w (w.setCell ⟨d, 1, none⟩ (.int .i64 ((s.all - n : Nat) : Int))) := Fr.setCell _ _ ⟨d, 1, none⟩ _ (fun _ => Or.inl rfl)
  have hlk0 := h1.look t
  have c0 := h.c0
  have c01 := h1.c0
  generalize hcn : s.cnt t = cn at hc hn hw1
  have hlk : (Instr.lookup 48 (.map (some m)) (.int .i64 t) false).run Try.prog (w.setCell ⟨d, 1, none⟩ (.int .i64 ((s.all - n : Nat) : Int))) = .ok (.int .i64 (cn : Int)) (w.setCell ⟨d, 1, none⟩ (.int .i64 ((s.all - n : Nat) : Int))) := by
    have := hlk0
    rw [show ({ s with all := s.all - n } : DS).cnt t = cn from hcn] at this
    exact this
  clear hlk0
  have F1 := Lib.hid f1
  have H1 := Lib.hid h1
  have HCN := Lib.hid hcn
  have hT : dTake s t n = ⟨if cn - n = 0 then kvDel (kvPut s.of t (cn - n)) t else kvPut s.of t (cn - n), s.all - n⟩ := by unfold dTake; rw [hcn]
  have HT := Lib.hid hT
  obtain ⟨r, hr⟩ : ∃ r, r = cn - n := ⟨_, rfl⟩
  rw [← hr] at hw1
  have HR := Lib.hid hr
  clear f1 h1 hcn hr h hT
  have hput : ∀ w2, MapAt w2 m (Value.int .i64) intN (kvPut s.of t r) → (Instr.lookup 48 (.map (some m)) (.int .i64 t) false).run Try.prog w2 = .ok (.int .i64 (r : Int)) w2 := by
    intro w2 hm
    have := run_lookup_at hm Try.underlying48 int_keyT (zero_int w2) t false
    rw [this, kvGet_put, if_pos rfl]; rfl
  have HP := Lib.hid hput
  clear hput
  by_cases hz : r = 0
  · have b0 : ((r : Int) == 0) = true := by rw [hz]; rfl
    have HZ := Lib.hid hz
    clear hz
    go_enter Try.func28, Try.ntmps28
    go_wp2_with (first
      | (at_mapUpdate; refine wpMapUpdate rfl _ _ _ 48 rfl 3 3 H1.out.map Try.underlying48 int_keyT t r rfl rfl rfl ?_; intro w2 hm2 f2; have h2 := H1.out.mapTo hm2 f2; have c02 := h2.c0; have lk2 := HP.out w2 hm2)
      | (at_delete; refine wpDelete rfl _ _ 48 3 rfl 3 3 hm2 Try.underlying48 int_keyT t rfl rfl ?_; intro w3 hm3 f3))
    go_end0
    have h3 := h2.mapTo hm3 f3
    refine ⟨rfl, ?_, (F1.out.trans (f2.mono fun k _ e => Or.inr e)).trans (f3.mono fun k _ e => Or.inr e)⟩
    rw [HT.out, ← HR.out, if_pos HZ.out]; exact h3
  · have b0 : ((r : Int) == 0) = false := beq_eq_false_iff_ne.2 (by omega)
    have HZ := Lib.hid hz
    clear hz
    go_enter Try.func28, Try.ntmps28
    go_wp2_with (at_mapUpdate; refine wpMapUpdate rfl _ _ _ 48 rfl 3 3 H1.out.map Try.underlying48 int_keyT t r rfl rfl rfl ?_; intro w2 hm2 f2; have h2 := H1.out.mapTo hm2 f2; have c02 := h2.c0; have lk2 := HP.out w2 hm2)
    go_end0
    refine ⟨rfl, ?_, F1.out.trans (f2.mono fun k _ e => Or.inr e)⟩
    rw [HT.out, ← HR.out, if_neg HZ.out]; exact h2

theorem Dead_Less {w : World} {d m : Nat} {s : DS} (h : DeadAt w d m s) (ha : s.all ≤ 64) (t : Int) (hc : s.cnt t ≤ s.all) : Calls Try.prog 16 #[.pointer (some ⟨d, 0, none⟩), .int .i64 t] w fun e w' => e = .returned (.bool (dLess s t).1) ∧ DeadAt w' d m (dLess s t).2 ∧ Fr (two d m) w w' := by
  have c0 := h.c0
  have lk := h.look t
  by_cases h0 : s.cnt t = 0
  · have e : dLess s t = (false, s) := by unfold dLess; rw [if_pos h0]
    rw [e]
    rw [h0] at lk
    have H := Lib.hid h
    clear h e h0
    go_enter Try.func16, Try.ntmps16
    go_wp2
    go_ret
    exact ⟨rfl, H.out, Fr.refl _ _⟩
  · have e : dLess s t = (true, dTake s t 1) := by unfold dLess; rw [if_neg h0]
    rw [e]
    have hb : ((s.cnt t : Int) == 0) = false := beq_eq_false_iff_ne.2 (by omega)
    have ht := Dead_take h ha t 1 (by omega) (by omega) (by omega)
    have HT := Lib.hid ht
    clear ht e h
    generalize s.cnt t = cn at lk hb
    generalize dTake s t 1 = s' at HT ⊢
    clear h0
    go_enter Try.func16, Try.ntmps16
    go_wp2_with fail
    refine HT.out.mono ?_
    rintro e w1 ⟨rfl, h1, f1⟩
    go_wp2
    go_ret
    exact ⟨rfl, h1, f1⟩
end Go.Proofs.Ytkfnfflonjfglaa
