/-
  What asks an arena by a handle.
-/
import Derived.Test.YteefcfndlggajaaArenaKey
import Derived.Test.YteefcfndlggajaaHandle
namespace Go.Proofs.Yteefcfndlggajaa
open Go.RowKit
set_option linter.unusedVariables false
set_option linter.unusedSimpArgs false
set_option maxRecDepth 100000

section
variable {w : World} {x m : Nat} {pa : Option Addr} {cap : Nat} {ps : List (Nat × Nat)} {s : AS}
theorem hN_lt {h : Nat} (hh : h < 18446744073709551616) : hN h < 65536 := by unfold hN; omega
theorem hO_lt (h : Nat) : hO h < 65536 := by unfold hO; omega
theorem hG_lt (h : Nat) : hG h < 4294967296 := by unfold hG; omega

set_option maxHeartbeats 1000000 in
theorem find_no (h : ArenaAt w x m pa cap ps s) {hd : Nat} (hh : hd < 18446744073709551616) (hl : s.pages.length ≤ 4096) (hf : aFind s hd = none) :
    Calls Try.prog 61 #[.pointer (some ⟨x, 0, none⟩), .int .u64 (hd : Int)] w fun e w' => e = .returned (.tuple #[.pointer none, .int .u16 0, .int .i64 5]) ∧ Fr none_ w w' := by
  have hp := Parts_any w hd hh
  have b1 := hN_lt hh
  have b2 := hO_lt hd
  have hplace := place_pl b1 b2
  have c1 := h.c1
  have c2 := h.c2
  by_cases hlen : hN hd < s.pages.length
  · have hnl : decide (s.pages.length ≤ hN hd) = false := decide_eq_false (by omega)
    have hlookup := h.gen
    have hgen : ((kvGet s.gen (pl (hN hd) (hO hd))).map gen32).getD (.int .u32 0) = .int .u32 (s.genOf (hN hd) (hO hd) : Int) := by
      unfold AS.genOf; cases kvGet s.gen (pl (hN hd) (hO hd)) <;> rfl
    by_cases hg : s.genOf (hN hd) (hO hd) = hG hd
    · obtain ⟨q, hq⟩ : ∃ q, s.pages[hN hd]? = some q := ⟨_, List.getElem?_eq_getElem hlen⟩
      unfold aFind at hf
      rw [if_pos hg, hq] at hf
      simp only [Option.bind_some] at hf
      obtain ⟨p, hpi, hpage⟩ := h.get hq
      obtain ⟨g, rfl⟩ := h.sl.isAddr (by omega)
      have hi := Page_Is hpage (hO hd)
      rw [hf] at hi
      unfold ptr v16 at hi
      have cp := h.sl.cell (i := hN hd) (v := ptr p.1) (by rw [List.getElem?_map, hpi]; rfl)
      unfold ptr at cp
      generalize s.genOf (hN hd) (hO hd) = gg at hg hgen
      subst hg
      have Hi := Lib.hid hi
      have HG := Lib.hid hgen
      have HP := Lib.hid hplace
      clear hi hgen hplace hf hq
      go_enter Try.func61, Try.ntmps61
      go_wp2_with (first
        | (go_at_call 66; refine hp.mono ?_; rintro e w1 ⟨rfl, rfl⟩)
        | (at_lookup; refine wpLookup rfl _ _ _ _ rfl 127 121 hlookup Try.underlying118 place_key _ (zero_u32 _) (pl (hN hd) (hO hd)) rfl HP.out.symm ?_; rw [HG.out])
        | (go_at_call 84; refine Hi.out.mono ?_; rintro e w2 ⟨rfl, f2⟩))
      go_ret3
      exact ⟨rfl, f2⟩
    · have hgen' := hgen
      generalize s.genOf (hN hd) (hO hd) = gg at hg hgen'
      have hne : ((gg : Int) == (hG hd : Int)) = false := beq_eq_false_iff_ne.2 (by omega)
      have HG := Lib.hid hgen'
      have HP := Lib.hid hplace
      clear hgen hplace hf hgen'
      go_enter Try.func61, Try.ntmps61
      go_wp2_with (first
        | (go_at_call 66; refine hp.mono ?_; rintro e w1 ⟨rfl, rfl⟩)
        | (at_lookup; refine wpLookup rfl _ _ _ _ rfl 127 121 hlookup Try.underlying118 place_key _ (zero_u32 _) (pl (hN hd) (hO hd)) rfl HP.out.symm ?_; rw [HG.out]))
      go_ret3
      exact ⟨rfl, Fr.refl _ _⟩
  · have hnl : decide (s.pages.length ≤ hN hd) = true := decide_eq_true (by omega)
    clear hplace
    go_enter Try.func61, Try.ntmps61
    go_wp2_with (go_at_call 66; refine hp.mono ?_; rintro e w1 ⟨rfl, rfl⟩)
    go_ret3
    exact ⟨rfl, Fr.refl _ _⟩

theorem aFind_some {hd : Nat} {bs : List UInt8} (hf : aFind s hd = some bs) : s.genOf (hN hd) (hO hd) = hG hd ∧ ∃ q, s.pages[hN hd]? = some q ∧ q.at_ (hO hd) = some bs := by
  unfold aFind at hf
  split at hf
  · rename_i hg
    cases hq : s.pages[hN hd]? with
    | none => rw [hq] at hf; simp at hf
    | some q => rw [hq] at hf; exact ⟨hg, q, rfl, hf⟩
  · simp at hf

set_option maxHeartbeats 1000000 in
theorem find_yes (h : ArenaAt w x m pa cap ps s) {hd : Nat} (hh : hd < 18446744073709551616) (hl : s.pages.length ≤ 4096) {bs : List UInt8} (hf : aFind s hd = some bs) :
    Calls Try.prog 61 #[.pointer (some ⟨x, 0, none⟩), .int .u64 (hd : Int)] w fun e w' => ∃ p, ps[hN hd]? = some p ∧ e = .returned (.tuple #[.pointer (some ⟨p.1, 0, none⟩), .int .u16 (hO hd : Int), .int .i64 0]) ∧ Fr none_ w w' := by
  have hp := Parts_any w hd hh
  have b1 := hN_lt hh
  have b2 := hO_lt hd
  have hplace := place_pl b1 b2
  have c1 := h.c1
  have c2 := h.c2
  obtain ⟨hg, q, hq, hat⟩ := aFind_some hf
  have hlen : hN hd < s.pages.length := (List.getElem?_eq_some_iff.1 hq).1
  have hnl : decide (s.pages.length ≤ hN hd) = false := decide_eq_false (by omega)
  have hlookup := h.gen
  have hgen : ((kvGet s.gen (pl (hN hd) (hO hd))).map gen32).getD (.int .u32 0) = .int .u32 (s.genOf (hN hd) (hO hd) : Int) := by
    unfold AS.genOf; cases kvGet s.gen (pl (hN hd) (hO hd)) <;> rfl
  obtain ⟨p, hpi, hpage⟩ := h.get hq
  obtain ⟨g, rfl⟩ := h.sl.isAddr (by omega)
  have hi := Page_Is hpage (hO hd)
  rw [hat] at hi
  unfold ptr v16 at hi
  have cp := h.sl.cell (i := hN hd) (v := ptr p.1) (by rw [List.getElem?_map, hpi]; rfl)
  unfold ptr at cp
  have HPI := Lib.hid hpi
  rw [hg] at hgen
  have Hi := Lib.hid hi
  have HG := Lib.hid hgen
  have HP := Lib.hid hplace
  clear hi hgen hplace hf hq hat hg hpi
  go_enter Try.func61, Try.ntmps61
  go_wp2_with (first
    | (go_at_call 66; refine hp.mono ?_; rintro e w1 ⟨rfl, rfl⟩)
    | (at_lookup; refine wpLookup rfl _ _ _ _ rfl 127 121 hlookup Try.underlying118 place_key _ (zero_u32 _) (pl (hN hd) (hO hd)) rfl HP.out.symm ?_; rw [HG.out])
    | (go_at_call 84; refine Hi.out.mono ?_; rintro e w2 ⟨rfl, f2⟩; have c12 := Fr.keep f2 c1; have cp2 := Fr.keep f2 cp))
  go_ret3
  exact ⟨p, HPI.out, rfl, f2⟩

theorem Arena_Read (h : ArenaAt w x m pa cap ps s) {hd : Nat} (hh : hd < 18446744073709551616) (hl : s.pages.length ≤ 4096) :
    Calls Try.prog 32 #[.pointer (some ⟨x, 0, none⟩), .int .u64 (hd : Int)] w fun e w' => e = .returned (.tuple #[.string (strOf (aRead s hd).1), .int .i64 ((aRead s hd).2 : Int)]) ∧ Fr none_ w w' := by
  unfold aRead
  cases hf : aFind s hd with
  | none =>
    have hc := find_no h hh hl hf
    go_enter Try.func32, Try.ntmps32
    go_wp2_with (go_at_call 61; refine hc.mono ?_; rintro e w1 ⟨rfl, f1⟩)
    go_ret2
    exact ⟨rfl, f1⟩
  | some bs =>
    have hc := find_yes h hh hl hf
    obtain ⟨hg, q, hq, hat⟩ := aFind_some hf
    have hrd : ∀ w1, Fr none_ w w1 → ∀ p, ps[hN hd]? = some p → Calls Try.prog 62 #[.pointer (some ⟨p.1, 0, none⟩), .int .u16 (hO hd : Int)] w1 fun e w' => e = .returned (.tuple #[.string (strOf bs), .int .i64 0]) ∧ Fr none_ w1 w' :=
      fun w1 f p hp => Page_Read_yes ((h.page _ p q hp hq).kept f (fun e => e) (fun e => e)) hat
    have Hrd := Lib.hid hrd
    clear hrd hg hq hat
    go_enter Try.func32, Try.ntmps32
    go_wp2_with (first
      | (go_at_call 61; refine hc.mono ?_; rintro e w1 ⟨p, hp, rfl, f1⟩)
      | (go_at_call 62; refine (Hrd.out _ f1 p hp).mono ?_; rintro e w2 ⟨rfl, f2⟩))
    go_ret2
    exact ⟨rfl, f1.trans f2⟩

theorem Arena_Used (h : ArenaAt w x m pa cap ps s) : Calls Try.prog 37 #[.pointer (some ⟨x, 0, none⟩)] w fun e w' => e = .returned (.int .i64 (s.used : Int)) ∧ w = w' := by
  have c := h.c3
  go_enter Try.func37, Try.ntmps37
  go_wp2
  go_ret
  exact ⟨rfl, rfl⟩
end
end Go.Proofs.Yteefcfndlggajaa
