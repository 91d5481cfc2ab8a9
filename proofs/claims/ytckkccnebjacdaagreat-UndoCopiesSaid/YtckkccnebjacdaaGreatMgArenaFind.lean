/-
  What asks an arena by a handle.
  Go's builtin 'min' of two.
  An arena's Write and Free.
-/
import Derived.Test.YtckkccnebjacdaaGreatMgKeys
import Derived.Test.YtckkccnebjacdaaGreatMgOwn
namespace Go.Proofs.YtckkccnebjacdaaGreat
open Go.RowKit
set_option linter.unusedVariables false
set_option linter.unusedSimpArgs false
set_option maxRecDepth 100000

section
variable {w : World} {x m : Nat} {pa : Option Addr} {cap : Nat} {ps : List (Nat × Nat)} {s : AS}
theorem hN_lt {h : Nat} (hh : h < 18446744073709551616) : hN h < 65536 := by unfold hN; omega
theorem hO_lt (h : Nat) : hO h < 65536 := by unfold hO; omega
theorem hG_lt (h : Nat) : hG h < 4294967296 := by unfold hG; omega

set_option maxHeartbeats 1000000 in
theorem find_no (h : ArenaAt w x m pa cap ps s) {hd : Nat} (hh : hd < 18446744073709551616) (hl : s.pages.length ≤ 4096) (hf : aFind s hd = none) :
    Calls Tryz.prog 87 #[.pointer (some ⟨x, 0, none⟩), .int .u64 (hd : Int)] w fun e w' => e = .returned (.tuple #[.pointer none, .int .u16 0, .int .i64 5]) ∧ Fr none_ w w' := by
  have hp := Parts_any w hd hh
  have b1 := hN_lt hh
  have b2 := hO_lt hd
  have hplace := place_pl b1 b2
  have c1 := h.c1
  have c2 := h.c2
  by_cases hlen : hN hd < s.pages.length
  · have hnl : decide (s.pages.length ≤ hN hd) = false := decide_eq_false (by omega)
    have hlookup := h.gen
    have hgen : ((kvGet s.gen (pl (hN hd) (hO hd))).map gen32).getD (.int .u32 0) = .int .u32 (s.genOf (hN hd) (hO hd) : Int) := by
      unfold AS.genOf; cases kvGet s.gen (pl (hN hd) (hO hd)) <;> rfl
    by_cases hg : s.genOf (hN hd) (hO hd) = hG hd
    · obtain ⟨q, hq⟩ : ∃ q, s.pages[hN hd]? = some q := ⟨_, List.getElem?_eq_getElem hlen⟩
      unfold aFind at hf
      rw [if_pos hg, hq] at hf
      simp only [Option.bind_some] at hf
      obtain ⟨p, hpi, hpage⟩ := h.get hq
      obtain ⟨g, rfl⟩ := h.sl.isAddr (by omega)
      have hi := Page_Is hpage (hO hd)
      rw [hf] at hi
      unfold ptr v16 at hi
      have cp := h.sl.cell (i := hN hd) (v := ptr p.1) (by rw [List.getElem?_map, hpi]; rfl)
      unfold ptr at cp
      generalize s.genOf (hN hd) (hO hd) = gg at hg hgen
      subst hg
      have Hi := Lib.hid hi
      have HG := Lib.hid hgen
      have HP := Lib.hid hplace
      clear hi hgen hplace hf hq
      go_enter Tryz.func87, Tryz.ntmps87
      go_wp2_with (first
        | (go_at_call 93; refine hp.mono ?_; rintro e w1 ⟨rfl, rfl⟩)
        | (at_lookup; refine wpLookup rfl _ _ _ _ rfl 158 144 hlookup Tryz.underlying125 place_key _ (zero_u32 _) (pl (hN hd) (hO hd)) rfl HP.out.symm ?_; rw [HG.out])
        | (go_at_call 116; refine Hi.out.mono ?_; rintro e w2 ⟨rfl, f2⟩))
      go_ret3
      exact ⟨rfl, f2⟩
    · have hgen' := hgen
      generalize s.genOf (hN hd) (hO hd) = gg at hg hgen'
      have hne : ((gg : Int) == (hG hd : Int)) = false := beq_eq_false_iff_ne.2 (by omega)
      have HG := Lib.hid hgen'
      have HP := Lib.hid hplace
      clear hgen hplace hf hgen'
      go_enter Tryz.func87, Tryz.ntmps87
      go_wp2_with (first
        | (go_at_call 93; refine hp.mono ?_; rintro e w1 ⟨rfl, rfl⟩)
        | (at_lookup; refine wpLookup rfl _ _ _ _ rfl 158 144 hlookup Tryz.underlying125 place_key _ (zero_u32 _) (pl (hN hd) (hO hd)) rfl HP.out.symm ?_; rw [HG.out]))
      go_ret3
      exact ⟨rfl, Fr.refl _ _⟩
  · have hnl : decide (s.pages.length ≤ hN hd) = true := decide_eq_true (by omega)
    clear hplace
    go_enter Tryz.func87, Tryz.ntmps87
    go_wp2_with (go_at_call 93; refine hp.mono ?_; rintro e w1 ⟨rfl, rfl⟩)
    go_ret3
    exact ⟨rfl, Fr.refl _ _⟩

theorem aFind_some {hd : Nat} {bs : List UInt8} (hf : aFind s hd = some bs) : s.genOf (hN hd) (hO hd) = hG hd ∧ ∃ q, s.pages[hN hd]? = some q ∧ q.at_ (hO hd) = some bs := by
  unfold aFind at hf
  split at hf
  · rename_i hg
    cases hq : s.pages[hN hd]? with
    | none => rw [hq] at hf; simp at hf
    | some q => rw [hq] at hf; exact ⟨hg, q, rfl, hf⟩
  · simp at hf

set_option maxHeartbeats 1000000 in
theorem find_yes (h : ArenaAt w x m pa cap ps s) {hd : Nat} (hh : hd < 18446744073709551616) (hl : s.pages.length ≤ 4096) {bs : List UInt8} (hf : aFind s hd = some bs) :
    Calls Tryz.prog 87 #[.pointer (some ⟨x, 0, none⟩), .int .u64 (hd : Int)] w fun e w' => ∃ p, ps[hN hd]? = some p ∧ e = .returned (.tuple #[.pointer (some ⟨p.1, 0, none⟩), .int .u16 (hO hd : Int), .int .i64 0]) ∧ Fr none_ w w' := by
  have hp := Parts_any w hd hh
  have b1 := hN_lt hh
  have b2 := hO_lt hd
  have hplace := place_pl b1 b2
  have c1 := h.c1
  have c2 := h.c2
  obtain ⟨hg, q, hq, hat⟩ := aFind_some hf
  have hlen : hN hd < s.pages.length := (List.getElem?_eq_some_iff.1 hq).1
  have hnl : decide (s.pages.length ≤ hN hd) = false := decide_eq_false (by omega)
  have hlookup := h.gen
  have hgen : ((kvGet s.gen (pl (hN hd) (hO hd))).map gen32).getD (.int .u32 0) = .int .u32 (s.genOf (hN hd) (hO hd) : Int) := by
    unfold AS.genOf; cases kvGet s.gen (pl (hN hd) (hO hd)) <;> rfl
  obtain ⟨p, hpi, hpage⟩ := h.get hq
  obtain ⟨g, rfl⟩ := h.sl.isAddr (by omega)
  have hi := Page_Is hpage (hO hd)
  rw [hat] at hi
  unfold ptr v16 at hi
  have cp := h.sl.cell (i := hN hd) (v := ptr p.1) (by rw [List.getElem?_map, hpi]; rfl)
  unfold ptr at cp
  have HPI := Lib.hid hpi
  rw [hg] at hgen
  have Hi := Lib.hid hi
  have HG := Lib.hid hgen
  have HP := Lib.hid hplace
  clear hi hgen hplace hf hq hat hg hpi
  go_enter Tryz.func87, Tryz.ntmps87
  go_wp2_with (first
    | (go_at_call 93; refine hp.mono ?_; rintro e w1 ⟨rfl, rfl⟩)
    | (at_lookup; refine wpLookup rfl _ _ _ _ rfl 158 144 hlookup Tryz.underlying125 place_key _ (zero_u32 _) (pl (hN hd) (hO hd)) rfl HP.out.symm ?_; rw [HG.out])
    | (go_at_call 116; refine Hi.out.mono ?_; rintro e w2 ⟨rfl, f2⟩; have c12 := Fr.keep f2 c1; have cp2 := Fr.keep f2 cp))
  go_ret3
  exact ⟨p, HPI.out, rfl, f2⟩

theorem Arena_Read (h : ArenaAt w x m pa cap ps s) {hd : Nat} (hh : hd < 18446744073709551616) (hl : s.pages.length ≤ 4096) :
    Calls Tryz.prog 81 #[.pointer (some ⟨x, 0, none⟩), .int .u64 (hd : Int)] w fun e w' => e = .returned (.tuple #[.string (strOf (aRead s hd).1), .int .i64 ((aRead s hd).2 : Int)]) ∧ Fr none_ w w' := by
  unfold aRead
  cases hf : aFind s hd with
  | none =>
    have hc := find_no h hh hl hf
    go_enter Tryz.func81, Tryz.ntmps81
    go_wp2_with (go_at_call 87; refine hc.mono ?_; rintro e w1 ⟨rfl, f1⟩)
    go_ret2
    exact ⟨rfl, f1⟩
  | some bs =>
    have hc := find_yes h hh hl hf
    obtain ⟨hg, q, hq, hat⟩ := aFind_some hf
    have hrd : ∀ w1, Fr none_ w w1 → ∀ p, ps[hN hd]? = some p → Calls Tryz.prog 112 #[.pointer (some ⟨p.1, 0, none⟩), .int .u16 (hO hd : Int)] w1 fun e w' => e = .returned (.tuple #[.string (strOf bs), .int .i64 0]) ∧ Fr none_ w1 w' :=
      fun w1 f p hp => Page_Read_yes ((h.page _ p q hp hq).kept f (fun e => e) (fun e => e)) hat
    have Hrd := Lib.hid hrd
    clear hrd hg hq hat
    go_enter Tryz.func81, Tryz.ntmps81
    go_wp2_with (first
      | (go_at_call 87; refine hc.mono ?_; rintro e w1 ⟨p, hp, rfl, f1⟩)
      | (go_at_call 112; refine (Hrd.out _ f1 p hp).mono ?_; rintro e w2 ⟨rfl, f2⟩))
    go_ret2
    exact ⟨rfl, f1.trans f2⟩

theorem Arena_Used (h : ArenaAt w x m pa cap ps s) : Calls Tryz.prog 49 #[.pointer (some ⟨x, 0, none⟩)] w fun e w' => e = .returned (.int .i64 (s.used : Int)) ∧ w = w' := by
  have c := h.c3
  go_enter Tryz.func49, Tryz.ntmps49
  go_wp2
  go_ret
  exact ⟨rfl, rfl⟩
end
end Go.Proofs.YtckkccnebjacdaaGreat
namespace Go.Proofs.YtckkccnebjacdaaGreat
open Go.RowKit
set_option linter.unusedVariables false
set_option linter.unusedSimpArgs false

theorem run_min_nat {P : Program} {w : World} (ts : Array TypeId) (t : TypeId) (k k' : IntKind) (i j m : Nat) (hm : m = min i j) : (Builtin.min_ ts t #[.int k (i : Int), .int k' (j : Int)]).run P w = .ok (.int k (m : Int)) w := by
  have e : (if (j : Int) < (i : Int) then (j : Int) else (i : Int)) = (m : Int) := by subst hm; split <;> omega
  rw [run_min_int2, e]
section arms
variable {P : Program} {ops : Array Oper} {Q : Exit → Act → World → Prop} {rest : List Oper} {o : Oper} {a : Act} {w : World}
theorem wpMin (hg : Region.wanted o (yielded ops a.tmps) = true) (x y : Operand) (ts : Array TypeId) (hop : o.op = Op.call { callee := Callee.builtin Builtin.min, args := #[x, y], argTypes := ts }) (k k' : IntKind) (i j m : Nat) (hm : m = min i j)
    (hx : a.eval x = .int k (i : Int)) (hy : a.eval y = .int k' (j : Int)) (hK : wpList P ops Q rest (a.put o.dst (.int k (m : Int))) w) : wpList P ops Q (o :: rest) a w := by
  refine wpList_go hg fun K' hK' => ?_
  unfold Oper.wp
  have hrun := run_min_nat (P := P) (w := w) ts o.type k k' i j m hm
  simp [execOp, hop, resolve, invoke, builtin, hx, hy, hrun, Result.andThen]
  exact hK' _ _ hK
end arms
end Go.Proofs.YtckkccnebjacdaaGreat
namespace Go.Proofs.YtckkccnebjacdaaGreat
open Go.RowKit
set_option linter.unusedVariables false
set_option linter.unusedSimpArgs false
set_option maxRecDepth 100000

theorem modify_set {α : Type} {l : List α} {i : Nat} {q : α} (h : l[i]? = some q) (f : α → α) : l.modify i f = l.set i (f q) := by
  apply List.ext_getElem?
  intro j
  rw [List.getElem?_modify]
  by_cases e : i = j
  · subst e
    rw [List.getElem?_set_self (List.getElem?_eq_some_iff.1 h).1, h]; simp
  · rw [List.getElem?_set_ne e]; simp [e]

section
variable {w : World} {x m : Nat} {pa : Option Addr} {cap : Nat} {ps : List (Nat × Nat)} {s : AS}
theorem two_own {i : Nat} {p : Nat × Nat} (h : ps[i]? = some p) {w w' : World} (f : Fr (two p.1 p.2) w w') : Fr (aOwn x m pa ps) w w' := f.mono fun k _ e => own_p h e

set_option maxHeartbeats 1000000 in
theorem Arena_Write (h : ArenaAt w x m pa cap ps s) (hw : s.WF) {hd : Nat} (hh : hd < 18446744073709551616) (b : ByteArray) :
    Calls Tryz.prog 54 #[.pointer (some ⟨x, 0, none⟩), .int .u64 (hd : Int), .string b] w fun e w' => e = .returned (.int .i64 ((aWrite s hd b).1 : Int)) ∧ ArenaAt w' x m pa cap ps (aWrite s hd b).2 ∧ Fr (aOwn x m pa ps) w w' := by
  have hl := hw.len
  unfold aWrite
  cases hf : aFind s hd with
  | none =>
    rw [if_neg (by simp)]
    have hc := find_no h hh hl hf
    go_enter Tryz.func54, Tryz.ntmps54
    go_wp2_with (go_at_call 87; refine hc.mono ?_; rintro e w1 ⟨rfl, f1⟩)
    go_ret
    exact ⟨rfl, h.kept0 f1, f1.none⟩
  | some bs =>
    have hc := find_yes h hh hl hf
    obtain ⟨hg, q, hq, hat⟩ := aFind_some hf
    have hlt := (List.getElem?_eq_some_iff.1 hq).1
    have hsl : q.slot = s.slot := (hw.pages q (List.mem_of_getElem? hq)).2
    simp only [Option.isSome_some, if_true]
    have hrd : ∀ w1, Fr none_ w w1 → ∀ p, ps[hN hd]? = some p → Calls Tryz.prog 88 #[.pointer (some ⟨p.1, 0, none⟩), .int .u16 (hO hd : Int), .string b] w1 fun e w' => e = .returned (.int .i64 ((writeR q (hO hd) b).1 : Int)) ∧ PageIs w' p.1 p.2 (writeR q (hO hd) b).2 ∧ Fr (two p.1 p.2) w1 w' :=
      fun w1 f p hp => write_any ((h.page _ p q hp hq).kept f (fun e => e) (fun e => e)) (hO hd) b
    have hres : (if b.size ≤ s.slot then ((0 : Nat), { s with pages := s.pages.modify (hN hd) fun p => p.write (hO hd / s.slot) b }) else (40, s)) = ((writeR q (hO hd) b).1, { s with pages := s.pages.set (hN hd) (writeR q (hO hd) b).2 }) := by
      unfold writeR
      rw [hat]
      simp only [Option.isSome_some, if_true, hsl]
      split
      · rw [modify_set hq]
      · simp only
        congr 1
        have : s.pages.set (hN hd) q = s.pages := by
          apply List.ext_getElem?
          intro j
          by_cases e : hN hd = j
          · subst e; rw [List.getElem?_set_self hlt, hq]
          · rw [List.getElem?_set_ne e]
        rw [this]
    rw [hres]
    generalize writeR q (hO hd) b = R at hrd
    have Hrd := Lib.hid hrd
    clear hrd hg hq hat hres
    go_enter Tryz.func54, Tryz.ntmps54
    go_wp2_with (first
      | (go_at_call 87; refine hc.mono ?_; rintro e w1 ⟨p, hp, rfl, f1⟩)
      | (go_at_call 88; refine (Hrd.out _ f1 p hp).mono ?_; rintro e w2 ⟨rfl, hp2, f2⟩))
    go_ret
    exact ⟨rfl, (h.kept0 f1).turn hp hp2 f2 hlt, f1.none.trans (two_own hp f2)⟩

theorem used_pos (hw : s.WF) {hd : Nat} {bs : List UInt8} (hf : aFind s hd = some bs) : 1 ≤ s.used := by
  obtain ⟨hg, q, hq, hat⟩ := aFind_some hf
  have hm := List.mem_of_getElem? hq
  obtain ⟨_, hk⟩ := PS.at_some hat
  have h1 := ((hw.pages q hm).1.free hk).2.2
  rw [hw.used]
  have key : ∀ l : List PS, q ∈ l → q.used ≤ (l.map PS.used).sum := by
    intro l
    induction l with
    | nil => intro h; simp at h
    | cons a r ih =>
      intro h
      simp only [List.map_cons, List.sum_cons]
      rcases List.mem_cons.1 h with rfl | h
      · omega
      · have := ih h; omega
  have := key s.pages hm
  omega
/-- The numbers of an arena turned. -/
theorem ArenaAt.nums {w1 : World} (h : ArenaAt w1 x m pa cap ps s) (u f : Nat) {w' : World} (hr : Row w' x (aCells m pa cap { s with used := u, first := f }) 128) (fr : Fr (one x) w1 w') : ArenaAt w' x m pa cap ps { s with used := u, first := f } :=
  { row := hr, sl := h.sl.kept fr (fun k hk e => by unfold one at e; exact (h.pax k hk).1 e), len := h.len,
    page := fun i p q hp hq => (h.page i p q hp hq).kept fr (fun e => (h.psx i p hp).1 e) (fun e => (h.psx i p hp).2.2.1 e),
    gen := h.gen.kept fr (fun e => h.xm e.symm), xm := h.xm, pax := h.pax, psx := h.psx, ap := h.ap }

set_option maxHeartbeats 1000000 in
theorem Arena_Free (h : ArenaAt w x m pa cap ps s) (hw : s.WF) {hd : Nat} (hh : hd < 18446744073709551616) (hu : s.used < 9223372036854775807) :
    Calls Tryz.prog 60 #[.pointer (some ⟨x, 0, none⟩), .int .u64 (hd : Int)] w fun e w' => e = .returned (.int .i64 ((aFree s hd).1 : Int)) ∧ ArenaAt w' x m pa cap ps (aFree s hd).2 ∧ Fr (aOwn x m pa ps) w w' := by
  have hl := hw.len
  unfold aFree
  cases hf : aFind s hd with
  | none =>
    rw [if_neg (by simp)]
    have hc := find_no h hh hl hf
    go_enter Tryz.func60, Tryz.ntmps60
    go_wp2_with (go_at_call 87; refine hc.mono ?_; rintro e w1 ⟨rfl, f1⟩)
    go_ret
    exact ⟨rfl, h.kept0 f1, f1.none⟩
  | some bs =>
    have hc := find_yes h hh hl hf
    obtain ⟨hg, q, hq, hat⟩ := aFind_some hf
    have hlt := (List.getElem?_eq_some_iff.1 hq).1
    have hsl : q.slot = s.slot := (hw.pages q (List.mem_of_getElem? hq)).2
    have hpt := Parts_any
    simp only [Option.isSome_some, if_true]
    have hc4 := fun w1 (f : Fr none_ w w1) => Fr.keep f h.c4
    have hc3 := fun w1 (f : Fr none_ w w1) => Fr.keep f h.c3
    have hfz := fun w1 (f : Fr none_ w w1) (i : Nat) => (h.kept0 f).free i
    go_enter Tryz.func60, Tryz.ntmps60
    obtain ⟨M, hM⟩ : ∃ M, M = min s.first (hN hd) := ⟨_, rfl⟩
    have HM := Lib.hid hM
    clear hM
    go_wp2_with (first
      | (go_at_call 87; refine hc.mono ?_; rintro e w1 ⟨p, hp, rfl, f1⟩; have d4 := hc4 _ f1; have d3 := hc3 _ f1; have z4 := hfz _ f1 4; have z3 := hfz _ f1 3)
      | (go_at_call 93; refine (Parts_any _ hd hh).mono ?_; rintro e w2 ⟨rfl, rfl⟩)
      | ((with_reducible refine at_slot 34 ?_); refine wpMin rfl _ _ _ rfl .i64 .i64 s.first (hN hd) M HM.out rfl rfl ?_))
    have h1 := h.kept0 f1
    have hup := used_pos hw hf
    have hrow := (h1.row.set 4 (.int .i64 (M : Int))).set 3 (.int .i64 ((s.used : Int) - 1))
    have hrow' : Row ((w1.setCell ⟨x, 4, none⟩ (.int .i64 (M : Int))).setCell ⟨x, 3, none⟩ (.int .i64 ((s.used : Int) - 1))) x (aCells m pa cap { s with used := s.used - 1, first := M }) 128 := by
      rw [show (s.used : Int) - 1 = ((s.used - 1 : Nat) : Int) by omega] at hrow ⊢
      exact hrow
    have hfr : Fr (one x) w1 ((w1.setCell ⟨x, 4, none⟩ (.int .i64 (M : Int))).setCell ⟨x, 3, none⟩ (.int .i64 ((s.used : Int) - 1))) := (Fr.setCell (one x) w1 ⟨x, 4, none⟩ _ (fun _ => rfl)).trans (Fr.setCell (one x) _ ⟨x, 3, none⟩ _ (fun _ => rfl))
    have h3 := h1.nums (s.used - 1) M hrow' hfr
    generalize ((w1.setCell ⟨x, 4, none⟩ (.int .i64 (M : Int))).setCell ⟨x, 3, none⟩ (.int .i64 ((s.used : Int) - 1))) = w3 at hfr h3 ⊢
    have hpg : PageIs w3 p.1 p.2 q := h3.page _ p q hp hq
    have hfree := Page_Free_yes hpg hat
    unfold ptr v16 err at hfree
    refine hfree.mono ?_
    rintro e w4 ⟨rfl, hp4, f4⟩
    go_wp2
    go_ret
    refine ⟨rfl, ?_, ?_⟩
    · have h4 := h3.turn hp hp4 f4 hlt
      rw [hsl] at h4
      rw [modify_set hq, ← HM.out]
      exact h4
    · exact (f1.none.trans (hfr.mono fun k _ e => by unfold one at e; subst e; exact own_x)).trans (two_own hp f4)
end
end Go.Proofs.YtckkccnebjacdaaGreat
