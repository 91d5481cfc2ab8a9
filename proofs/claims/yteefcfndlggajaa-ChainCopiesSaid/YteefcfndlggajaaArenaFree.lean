/-
  An arena's Write and Free.
-/
import Derived.Test.YteefcfndlggajaaArenaFind
import Derived.Test.YteefcfndlggajaaMin
namespace Go.Proofs.Yteefcfndlggajaa
open Go.RowKit
set_option linter.unusedVariables false
set_option linter.unusedSimpArgs false
set_option maxRecDepth 100000

theorem modify_set {α : Type} {l : List α} {i : Nat} {q : α} (h : l[i]? = some q) (f : α → α) : l.modify i f = l.set i (f q) := by
  apply List.ext_getElem?
  intro j
  rw [List.getElem?_modify]
  by_cases e : i = j
  · subst e
    rw [List.getElem?_set_self (List.getElem?_eq_some_iff.1 h).1, h]; simp
  · rw [List.getElem?_set_ne e]; simp [e]

section
variable {w : World} {x m : Nat} {pa : Option Addr} {cap : Nat} {ps : List (Nat × Nat)} {s : AS}
theorem two_own {i : Nat} {p : Nat × Nat} (h : ps[i]? = some p) {w w' : World} (f : Fr (two p.1 p.2) w w') : Fr (aOwn x m pa ps) w w' := f.mono fun k _ e => own_p h e

set_option maxHeartbeats 1000000 in
theorem Arena_Write (h : ArenaAt w x m pa cap ps s) (hw : s.WF) {hd : Nat} (hh : hd < 18446744073709551616) (b : ByteArray) :
    Calls Try.prog 46 #[.pointer (some ⟨x, 0, none⟩), .int .u64 (hd : Int), .string b] w fun e w' => e = .returned (.int .i64 ((aWrite s hd b).1 : Int)) ∧ ArenaAt w' x m pa cap ps (aWrite s hd b).2 ∧ Fr (aOwn x m pa ps) w w' := by
  have hl := hw.len
  unfold aWrite
  cases hf : aFind s hd with
  | none =>
    rw [if_neg (by simp)]
    have hc := find_no h hh hl hf
    go_enter Try.func46, Try.ntmps46
    go_wp2_with (go_at_call 61; refine hc.mono ?_; rintro e w1 ⟨rfl, f1⟩)
    go_ret
    exact ⟨rfl, h.kept0 f1, f1.none⟩
  | some bs =>
    have hc := find_yes h hh hl hf
    obtain ⟨hg, q, hq, hat⟩ := aFind_some hf
    have hlt := (List.getElem?_eq_some_iff.1 hq).1
    have hsl : q.slot = s.slot := (hw.pages q (List.mem_of_getElem? hq)).2
    simp only [Option.isSome_some, if_true]
    have hrd : ∀ w1, Fr none_ w w1 → ∀ p, ps[hN hd]? = some p → Calls Try.prog 74 #[.pointer (some ⟨p.1, 0, none⟩), .int .u16 (hO hd : Int), .string b] w1 fun e w' => e = .returned (.int .i64 ((writeR q (hO hd) b).1 : Int)) ∧ PageIs w' p.1 p.2 (writeR q (hO hd) b).2 ∧ Fr (two p.1 p.2) w1 w' :=
      fun w1 f p hp => write_any ((h.page _ p q hp hq).kept f (fun e => e) (fun e => e)) (hO hd) b
    have hres : (if b.size ≤ s.slot then ((0 : Nat), { s with pages := s.pages.modify (hN hd) fun p => p.write (hO hd / s.slot) b }) else (40, s)) = ((writeR q (hO hd) b).1, { s with pages := s.pages.set (hN hd) (writeR q (hO hd) b).2 }) := by
      unfold writeR
      rw [hat]
      simp only [Option.isSome_some, if_true, hsl]
      split
      · rw [modify_set hq]
      · simp only
        congr 1
        have : s.pages.set (hN hd) q = s.pages := by
          apply List.ext_getElem?
          intro j
          by_cases e : hN hd = j
          · subst e; rw [List.getElem?_set_self hlt, hq]
          · rw [List.getElem?_set_ne e]
        rw [this]
    rw [hres]
    generalize writeR q (hO hd) b = R at hrd
    have Hrd := Lib.hid hrd
    clear hrd hg hq hat hres
    go_enter Try.func46, Try.ntmps46
    go_wp2_with (first
      | (go_at_call 61; refine hc.mono ?_; rintro e w1 ⟨p, hp, rfl, f1⟩)
      | (go_at_call 74; refine (Hrd.out _ f1 p hp).mono ?_; rintro e w2 ⟨rfl, hp2, f2⟩))
    go_ret
    exact ⟨rfl, (h.kept0 f1).turn hp hp2 f2 hlt, f1.none.trans (two_own hp f2)⟩

theorem used_pos (hw : s.WF) {hd : Nat} {bs : List UInt8} (hf : aFind s hd = some bs) : 1 ≤ s.used := by
  obtain ⟨hg, q, hq, hat⟩ := aFind_some hf
  have hm := List.mem_of_getElem? hq
  obtain ⟨_, hk⟩ := PS.at_some hat
  have h1 := ((hw.pages q hm).1.free hk).2.2
  rw [hw.used]
  have key : ∀ l : List PS, q ∈ l → q.used ≤ (l.map PS.used).sum := by
    intro l
    induction l with
    | nil => intro h; simp at h
    | cons a r ih =>
      intro h
      simp only [List.map_cons, List.sum_cons]
      rcases List.mem_cons.1 h with rfl | h
      · omega
      · have := ih h; omega
  have := key s.pages hm
  omega
/-- The numbers of an arena turned. -/
theorem ArenaAt.nums {w1 : World} (h : ArenaAt w1 x m pa cap ps s) (u f : Nat) {w' : World} (hr : Row w' x (aCells m pa cap { s with used := u, first := f }) 120) (fr : Fr (one x) w1 w') : ArenaAt w' x m pa cap ps { s with used := u, first := f } :=
  { row := hr, sl := h.sl.kept fr (fun k hk e => by unfold one at e; exact (h.pax k hk).1 e), len := h.len,
    page := fun i p q hp hq => (h.page i p q hp hq).kept fr (fun e => (h.psx i p hp).1 e) (fun e => (h.psx i p hp).2.2.1 e),
    gen := h.gen.kept fr (fun e => h.xm e.symm), xm := h.xm, pax := h.pax, psx := h.psx, ap := h.ap }

set_option maxHeartbeats 1000000 in
theorem Arena_Free (h : ArenaAt w x m pa cap ps s) (hw : s.WF) {hd : Nat} (hh : hd < 18446744073709551616) (hu : s.used < 9223372036854775807) :
    Calls Try.prog 38 #[.pointer (some ⟨x, 0, none⟩), .int .u64 (hd : Int)] w fun e w' => e = .returned (.int .i64 ((aFree s hd).1 : Int)) ∧ ArenaAt w' x m pa cap ps (aFree s hd).2 ∧ Fr (aOwn x m pa ps) w w' := by
  have hl := hw.len
  unfold aFree
  cases hf : aFind s hd with
  | none =>
    rw [if_neg (by simp)]
    have hc := find_no h hh hl hf
    go_enter Try.func38, Try.ntmps38
    go_wp2_with (go_at_call 61; refine hc.mono ?_; rintro e w1 ⟨rfl, f1⟩)
    go_ret
    exact ⟨rfl, h.kept0 f1, f1.none⟩
  | some bs =>
    have hc := find_yes h hh hl hf
    obtain ⟨hg, q, hq, hat⟩ := aFind_some hf
    have hlt := (List.getElem?_eq_some_iff.1 hq).1
    have hsl : q.slot = s.slot := (hw.pages q (List.mem_of_getElem? hq)).2
    have hpt := Parts_any
    simp only [Option.isSome_some, if_true]
    have hc4 := fun w1 (f : Fr none_ w w1) => Fr.keep f h.c4
    have hc3 := fun w1 (f : Fr none_ w w1) => Fr.keep f h.c3
    have hfz := fun w1 (f : Fr none_ w w1) (i : Nat) => (h.kept0 f).free i
    go_enter Try.func38, Try.ntmps38
    obtain ⟨M, hM⟩ : ∃ M, M = min s.first (hN hd) := ⟨_, rfl⟩
    have HM := Lib.hid hM
    clear hM
    go_wp2_with (first
      | (go_at_call 61; refine hc.mono ?_; rintro e w1 ⟨p, hp, rfl, f1⟩; have d4 := hc4 _ f1; have d3 := hc3 _ f1; have z4 := hfz _ f1 4; have z3 := hfz _ f1 3)
      | (go_at_call 66; refine (Parts_any _ hd hh).mono ?_; rintro e w2 ⟨rfl, rfl⟩)
      | ((with_reducible refine at_slot 34 ?_); refine wpMin rfl _ _ _ rfl .i64 .i64 s.first (hN hd) M HM.out rfl rfl ?_))
    have h1 := h.kept0 f1
    have hup := used_pos hw hf
    have hrow := (h1.row.set 4 (.int .i64 (M : Int))).set 3 (.int .i64 ((s.used : Int) - 1))
    have hrow' : Row ((w1.setCell ⟨x, 4, none⟩ (.int .i64 (M : Int))).setCell ⟨x, 3, none⟩ (.int .i64 ((s.used : Int) - 1))) x (aCells m pa cap { s with used := s.used - 1, first := M }) 120 := by
      rw [show (s.used : Int) - 1 = ((s.used - 1 : Nat) : Int) by omega] at hrow ⊢
      exact hrow
    have hfr : Fr (one x) w1 ((w1.setCell ⟨x, 4, none⟩ (.int .i64 (M : Int))).setCell ⟨x, 3, none⟩ (.int .i64 ((s.used : Int) - 1))) := (Fr.setCell (one x) w1 ⟨x, 4, none⟩ _ (fun _ => rfl)).trans (Fr.setCell (one x) _ ⟨x, 3, none⟩ _ (fun _ => rfl))
    have h3 := h1.nums (s.used - 1) M hrow' hfr
    generalize ((w1.setCell ⟨x, 4, none⟩ (.int .i64 (M : Int))).setCell ⟨x, 3, none⟩ (.int .i64 ((s.used : Int) - 1))) = w3 at hfr h3 ⊢
    have hpg : PageIs w3 p.1 p.2 q := h3.page _ p q hp hq
    have hfree := Page_Free_yes hpg hat
    unfold ptr v16 err at hfree
    refine hfree.mono ?_
    rintro e w4 ⟨rfl, hp4, f4⟩
    go_wp2
    go_ret
    refine ⟨rfl, ?_, ?_⟩
    · have h4 := h3.turn hp hp4 f4 hlt
      rw [hsl] at h4
      rw [modify_set hq, ← HM.out]
      exact h4
    · exact (f1.none.trans (hfr.mono fun k _ e => by unfold one at e; subst e; exact own_x)).trans (two_own hp f4)
end
end Go.Proofs.Yteefcfndlggajaa
