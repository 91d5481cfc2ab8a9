/-
  What a step does.
-/
import Derived.Test.YtncajdefjammiaaArOf
import Derived.Deep.RegionHeld3
namespace Go.Proofs.Ytncajdefjammiaa
open Go.RowKit
set_option linter.unusedVariables false
set_option linter.unusedSimpArgs false
set_option maxRecDepth 100000

/-- The handle that is told, whether one is, and the arena behind it. -/
def StepV.does (x : StepV) (told : List Nat) (s : AS) : Nat × Bool × AS :=
  if x.what = 0 then ((aAlloc s).1, decide ((aAlloc s).2.1 = 0), (aAlloc s).2.2)
  else if x.what = 1 then (0, false, (aFree s (x.ofH told)).2)
  else if x.what = 2 then (0, false, (aWrite s (x.ofH told) x.s).2)
  else (0, false, s)

def DoPost (x : StepV) (told : List Nat) (s : AS) (w : World) (xa m : Nat) (pa : Option Addr) (ps : List (Nat × Nat)) (e : Ending) (w' : World) : Prop :=
  e = .returned (.tuple #[.int .u64 ((x.does told s).1 : Int), .bool (x.does told s).2.1]) ∧
    ∃ pa' cap' ps', ArenaAt w' xa m pa' cap' ps' (x.does told s).2.2 ∧ Fr (aOwn xa m pa ps) w w' ∧ ∀ k, aOwn xa m pa' ps' k → aOwn xa m pa ps k ∨ w.heap.size ≤ k

set_option maxHeartbeats 2000000 in
theorem do_any {w : World} {xa m : Nat} {pa : Option Addr} {cap : Nat} {ps : List (Nat × Nat)} {s : AS} (h : ArenaAt w xa m pa cap ps s) (hw : s.WF) (hu : s.used < 4611686018427387904) (hg : ∀ n o, s.genOf n o < 4294967295)
    (x : StepV) (hx : x.Ok) (told : List Nat) (hto : ∀ h ∈ told, h < 18446744073709551616) (ta : Option Addr) (tc : Nat) (hb : told.length ≤ 1000000) (ht : SlAt w ta told.length tc 32 1 (told.map vH)) :
    Calls Try.prog 13 #[.agg #[.int .u8 x.what, .int .i64 x.n, .int .u64 x.raw, .string x.s], .pointer (some ⟨xa, 0, none⟩), .slice ta told.length tc] w (DoPost x told s w xa m pa ps) := by
  have fB : Fr none_ w (w.alloc (.cells #[.int .u8 x.what, .int .i64 x.n, .int .u64 x.raw, .string x.s] 35)) := Fr.alloc _ _ _
  have hh := ofH_lt hx hto
  have hof := fun w1 (f : Fr none_ w w1) => of_any w1 x hx told ta tc hb (ht.kept0 f)
  unfold DoPost
  by_cases k0 : x.what = 0
  · have e : x.does told s = ((aAlloc s).1, decide ((aAlloc s).2.1 = 0), (aAlloc s).2.2) := by unfold StepV.does; rw [if_pos k0]
    rw [e]
    have hal := Arena_Alloc (h.kept0 fB) hw hu hg
    have hsz : (w.alloc (.cells #[.int .u8 x.what, .int .i64 x.n, .int .u64 x.raw, .string x.s] 35)).heap.size = w.heap.size + 1 := by simp
    have hk0 : (x.what : Int) = 0 := by omega
    rw [hk0] at fB hal hsz ⊢
    have he : (((aAlloc s).2.1 : Int) == 0) = decide ((aAlloc s).2.1 = 0) := by
      rw [Bool.eq_iff_iff]; simp
    generalize aAlloc s = R at hal he ⊢
    obtain ⟨r, q, s'⟩ := R
    simp only at hal he ⊢
    have Hal := Lib.hid hal
    have FB := Lib.hid fB
    have HSZ := Lib.hid hsz
    clear hal fB hsz hk0 k0 e hof h hu hg
    go_enter Try.func13, Try.ntmps13
    go_wp2_with (go_at_call 23; refine Hal.out.mono ?_; rintro e w2 ⟨rfl, pa', cap', ps', hA, f2, hown⟩)
    go_ret2
    refine ⟨rfl, pa', cap', ps', hA, FB.out.none.trans f2, fun k hk => ?_⟩
    have := HSZ.out
    rcases hown k hk with e | e
    · exact Or.inl e
    · exact Or.inr (by omega)
  have HOF := Lib.hid hof
  clear hof
  by_cases k1 : x.what = 1
  · have e : x.does told s = (0, false, (aFree s (x.ofH told)).2) := by unfold StepV.does; rw [if_neg k0, if_pos k1]
    rw [e]
    have hfr : ∀ w1, Fr none_ w w1 → Calls Try.prog 16 #[.pointer (some ⟨xa, 0, none⟩), .int .u64 (x.ofH told : Int)] w1 fun e w' => (∃ q : Int, e = .returned (.int .i64 q)) ∧ ArenaAt w' xa m pa cap ps (aFree s (x.ofH told)).2 ∧ Fr (aOwn xa m pa ps) w1 w' :=
      fun w1 f => (Arena_Free (h.kept0 f) hw hh (by omega)).mono fun e w' ⟨he, r⟩ => ⟨⟨_, he⟩, r⟩
    have hk1 : (x.what : Int) = 1 := by omega
    rw [hk1] at fB HOF ⊢
    generalize (aFree s (x.ofH told)).2 = s' at hfr ⊢
    generalize x.ofH told = H at hfr HOF
    have Hfr := Lib.hid hfr
    have FB := Lib.hid fB
    clear hfr fB hk1 k0 k1 e h hu hg hh
    go_enter Try.func13, Try.ntmps13
    go_wp2_with (first
      | (go_at_call 17; refine (HOF.out _ FB.out).mono ?_; rintro e w2 ⟨rfl, f2⟩)
      | (go_at_call 16; refine (Hfr.out _ (FB.out.trans f2)).mono ?_; rintro e w3 ⟨⟨q, rfl⟩, hA, f3⟩))
    go_ret2
    exact ⟨rfl, pa, cap, ps, hA, (FB.out.trans f2).none.trans f3, fun k hk => Or.inl hk⟩
  by_cases k2 : x.what = 2
  · have e : x.does told s = (0, false, (aWrite s (x.ofH told) x.s).2) := by unfold StepV.does; rw [if_neg k0, if_neg k1, if_pos k2]
    rw [e]
    have hwr : ∀ w1, Fr none_ w w1 → Calls Try.prog 24 #[.pointer (some ⟨xa, 0, none⟩), .int .u64 (x.ofH told : Int), .string x.s] w1 fun e w' => (∃ q : Int, e = .returned (.int .i64 q)) ∧ ArenaAt w' xa m pa cap ps (aWrite s (x.ofH told) x.s).2 ∧ Fr (aOwn xa m pa ps) w1 w' :=
      fun w1 f => (Arena_Write (h.kept0 f) hw hh x.s).mono fun e w' ⟨he, r⟩ => ⟨⟨_, he⟩, r⟩
    have hk2 : (x.what : Int) = 2 := by omega
    have hB := Row.new w #[.int .u8 x.what, .int .i64 x.n, .int .u64 x.raw, .string x.s] 35
    rw [hk2] at fB HOF hB ⊢
    obtain ⟨w1, hw1⟩ : ∃ w1, w1 = w.alloc (.cells #[.int .u8 2, .int .i64 x.n, .int .u64 x.raw, .string x.s] 35) := ⟨_, rfl⟩
    rw [← hw1] at fB hB
    have c0 : w1.cell? ⟨w.heap.size, 0, none⟩ = some (.int .u8 2) := hB.cell 0
    have c1 : w1.cell? ⟨w.heap.size, 1, none⟩ = some (.int .i64 x.n) := hB.cell 1
    have c2 : w1.cell? ⟨w.heap.size, 2, none⟩ = some (.int .u64 x.raw) := hB.cell 2
    have c3 : w1.cell? ⟨w.heap.size, 3, none⟩ = some (.string x.s) := hB.cell 3
    have nB : ¬ aOwn xa m pa ps w.heap.size := fun e => absurd (h.lt _ e) (Nat.lt_irrefl _)
    generalize (aWrite s (x.ofH told) x.s).2 = s' at hwr ⊢
    generalize x.ofH told = H at hwr HOF
    have Hwr := Lib.hid hwr
    have FB := Lib.hid fB
    have HW1 := Lib.hid hw1
    have fS : Fr (aOwn xa m pa ps) w1 w1 := Fr.refl _ _
    clear hwr fB hB hk2 k0 k1 k2 e h hu hg hh hw1
    go_enter Try.func13, Try.ntmps13
    go_wp2_with fail
    rw [← HW1.out]
    go_region_held3 (fun w' => Fr (aOwn xa m pa ps) w1 w' ∧ w'.cell? ⟨w.heap.size, 0, none⟩ = some (.int .u8 2) ∧ w'.cell? ⟨w.heap.size, 1, none⟩ = some (.int .i64 x.n) ∧ w'.cell? ⟨w.heap.size, 2, none⟩ = some (.int .u64 x.raw) ∧ w'.cell? ⟨w.heap.size, 3, none⟩ = some (.string x.s))
      (first | (go_split_ands; refine ⟨?_, ?_, ?_, ?_, ?_⟩; exact Fr.trans (by assumption) f6; all_goals exact Fr.keepF f6 nB (by assumption)) | (go_split_ands; refine ⟨?_, ?_, ?_, ?_, ?_⟩; exact Fr.trans (by assumption) f5.none; all_goals exact Fr.keep f5 (by assumption)) | (go_split_ands; refine ⟨?_, ?_, ?_, ?_, ?_⟩; exact Fr.trans (by assumption) (Fr.drew _ _); all_goals assumption) | go_keep)
      (first
        | (go_at_call 17; refine (HOF.out _ (FB.out.trans (Fr.drew none_ w1))).mono ?_; rintro e w5 ⟨rfl, f5⟩)
        | (go_at_call 24; refine (Hwr.out _ (FB.out.trans ((Fr.drew none_ w1).trans f5))).mono ?_; rintro e w6 ⟨⟨q, rfl⟩, hA, f6⟩))
    rename_i hk
    have hF := hk.1
    clear hk
    go_wp2
    go_ret2
    exact ⟨rfl, pa, cap, ps, hA, FB.out.none.trans hF, fun k hk => Or.inl hk⟩
  · have e : x.does told s = (0, false, s) := by unfold StepV.does; rw [if_neg k0, if_neg k1, if_neg k2]
    rw [e]
    have b0 : ((x.what : Int) == 0) = false := beq_eq_false_iff_ne.2 (by omega)
    have b1 : ((x.what : Int) == 1) = false := beq_eq_false_iff_ne.2 (by omega)
    have b2 : ((x.what : Int) == 2) = false := beq_eq_false_iff_ne.2 (by omega)
    have hrd : ∀ w1, Fr none_ w w1 → Calls Try.prog 15 #[.pointer (some ⟨xa, 0, none⟩), .int .u64 (x.ofH told : Int)] w1 fun e w' => (∃ v : Value, e = .returned v) ∧ Fr none_ w1 w' :=
      fun w1 f => (Arena_Read (h.kept0 f) hh hw.len).mono fun e w' ⟨he, r⟩ => ⟨⟨_, he⟩, r⟩
    generalize x.ofH told = H at hrd HOF
    have Hrd := Lib.hid hrd
    have FB := Lib.hid fB
    have HH := Lib.hid h
    have hxw := hx.what
    clear hrd fB k0 k1 k2 e h hu hg hh
    go_enter Try.func13, Try.ntmps13
    go_wp2_with (first
      | (go_at_call 17; refine (HOF.out _ FB.out).mono ?_; rintro e w2 ⟨rfl, f2⟩)
      | (go_at_call 15; refine (Hrd.out _ (FB.out.trans f2)).mono ?_; rintro e w3 ⟨⟨q, rfl⟩, f3⟩))
    go_ret2
    exact ⟨rfl, pa, cap, ps, HH.out.kept0 ((FB.out.trans f2).trans f3), ((FB.out.trans f2).trans f3).none, fun k hk => Or.inl hk⟩
end Go.Proofs.Ytncajdefjammiaa
