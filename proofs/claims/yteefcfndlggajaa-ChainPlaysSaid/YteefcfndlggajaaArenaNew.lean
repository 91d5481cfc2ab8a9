/-
  A new arena.
-/
import Derived.Test.YteefcfndlggajaaArenaAlloc
namespace Go.Proofs.Yteefcfndlggajaa
open Go.RowKit
set_option linter.unusedVariables false
set_option linter.unusedSimpArgs false
set_option maxRecDepth 100000

theorem Row.new2 (w : World) (o : Obj) (cs : Array Value) (t : TypeId) : Row ((w.alloc o).alloc (.cells cs t)) (w.heap.size + 1) cs t := by
  have h := Row.new (w.alloc o) cs t
  have e : (w.alloc o).heap.size = w.heap.size + 1 := by simp
  rwa [e] at h
theorem Arena_New_no (w : World) (slot : Int) (h : slot < 2 ∨ 4096 < slot) :
    Calls Try.prog 49 #[.int .i64 slot] w fun e w' => e = .returned (.tuple #[.pointer none, .int .i64 1]) ∧ w = w' := by
  have hc := fun w => Page_New_no w slot h
  unfold err at hc
  have HC := Lib.hid hc
  clear hc
  go_enter Try.func49, Try.ntmps49
  go_wp2_with (go_at_call 71; refine (HC.out _).mono ?_; rintro e w1 ⟨rfl, rfl⟩)
  go_ret2
  exact ⟨rfl, rfl⟩

theorem build_arena (slot : Int) (m : Nat) (w : World) : (Instr.build 120 #[(0, .int .i64 slot), (2, .map (some m))]).run Try.prog w = .ok (.agg #[.int .i64 slot, .slice none 0 0, .map (some m), .int .i64 0, .int .i64 0]) w := by kernel_rfl
set_option maxHeartbeats 1000000 in
theorem Arena_New_yes (w : World) (slot : Nat) (h2 : 2 ≤ slot) (h3 : slot ≤ 4096) :
    Calls Try.prog 49 #[.int .i64 (slot : Int)] w fun e w' => ∃ x m, e = .returned (.tuple #[.pointer (some ⟨x, 0, none⟩), .int .i64 0]) ∧ ArenaAt w' x m none 0 [] (AS.new slot) ∧ Fr none_ w w' ∧ w.heap.size ≤ x ∧ w.heap.size ≤ m := by
  have hc := fun w => Page_New_yes w slot h2 h3
  unfold ptr err at hc
  have HC := Lib.hid hc
  clear hc
  have hmm := @run_makeMap Try.prog
  have hbd := fun m w => build_arena (slot : Int) m w
  go_enter Try.func49, Try.ntmps49
  go_wp2_with (go_at_call 71; refine (HC.out _).mono ?_; rintro e w1 ⟨p, m, rfl, hp, f1, hpb, hmb⟩)
  go_ret2
  have hr := Row.new2 w1 (.map #[] 0) #[.int .i64 (slot : Int), .slice none 0 0, .map (some w1.heap.size), .int .i64 0, .int .i64 0] 120
  have hf : Fr none_ w1 ((w1.alloc (.map #[] 0)).alloc (.cells #[.int .i64 (slot : Int), .slice none 0 0, .map (some w1.heap.size), .int .i64 0, .int .i64 0] 120)) := ((Fr.refl _ _).alloc_r _).alloc_r _
  have hm : MapAt ((w1.alloc (.map #[] 0)).alloc (.cells #[.int .i64 (slot : Int), .slice none 0 0, .map (some w1.heap.size), .int .i64 0, .int .i64 0] 120)) w1.heap.size place gen32 [] :=
    (MapAt.new w1 _ _).kept (Fr.alloc none_ _ _) (fun x => x)
  have hs1 := f1.size
  refine ⟨w1.heap.size + 1, w1.heap.size, rfl, ⟨hr, SlAt.empty _ _ _, rfl, ?_, hm, by omega, fun k hk => absurd hk (blk_none k), ?_, ?_⟩, f1.trans hf, by omega, by omega⟩
  · intro i p q hp; simp at hp
  · intro i p hp; simp at hp
  · intro i j p q hp; simp at hp
end Go.Proofs.Yteefcfndlggajaa
