/-
  An arena's Alloc.
  A new arena.
-/
import Derived.Test.YtckkccnebjacdaaGreatMgArenaFind
import Derived.Test.YtckkccnebjacdaaGreatMapEntry
import Derived.Deep.RegionHeld3
import Derived.BigRegion
namespace Go.Proofs.YtckkccnebjacdaaGreat
open Go.RowKit
set_option linter.unusedVariables false
set_option linter.unusedSimpArgs false
set_option maxRecDepth 100000

section
variable {w : World} {x m : Nat} {pa : Option Addr} {cap : Nat} {ps : List (Nat × Nat)} {s : AS}

theorem full_room {p : PS} {slot : Nat} (hs : p.slot = slot) (h : p.WF) : full slot p = decide (((4096 / slot : Nat) : Int) - (p.used : Int) = 0) := by
  unfold full
  have := used_le p
  have h1 := h.fit
  have h2 := h.lo
  rw [Bool.eq_iff_iff]
  simp only [decide_eq_true_eq]
  omega

theorem ArenaAt.gens {w1 w' : World} (h : ArenaAt w1 x m pa cap ps s) {l : List (Place × Nat)} (hm : MapAt w' m place gen32 l) (fr : Fr (one m) w1 w') : ArenaAt w' x m pa cap ps { s with gen := l } :=
  { row := h.row.kept fr (fun e => h.xm e), sl := h.sl.kept fr (fun k hk e => by unfold one at e; exact (h.pax k hk).2 e), len := h.len,
    page := fun i p q hp hq => (h.page i p q hp hq).kept fr (fun e => (h.psx i p hp).2.1 e) (fun e => (h.psx i p hp).2.2.2.1 e),
    gen := hm, xm := h.xm, pax := h.pax, psx := h.psx, ap := h.ap }
theorem ptr_info : (Tryz.prog.info? 122).map (fun i => (i.zero, i.size, i.bytes)) = some (some (.pointer none), 1, 8) := by kernel_rfl
theorem ptr_cells (v : Value) (w : World) (b : Nat) (hc : w.cell? ⟨b, 0, none⟩ = some v) : ∀ (j : Nat) (u : Value), ([v] : List Value)[j]? = some u → w.cell? ((⟨b, 0, none⟩ : Addr).add j) = some u := by
  intro j u hu
  cases j with
  | zero => simp at hu; subst hu; exact hc
  | succ j => simp at hu
theorem ArenaAt.push {w1 wa w4 w5 : World} {P M : Nat} {Q0 : PS} {pa2 : Option Addr} {cap2 : Nat} (h : ArenaAt w1 x m pa cap ps s) (fa : Fr none_ w1 wa) (hP : PageIs wa P M Q0) (hPb : w1.heap.size ≤ P) (hMb : w1.heap.size ≤ M)
    (hs : SlAt w4 pa2 (s.pages.length + 1) cap2 122 1 ((ps.map fun p => ptr p.1) ++ [ptr P])) (f4 : Fr (blk pa) wa w4) (hb : ∀ k, blk pa2 k → blk pa k ∨ wa.heap.size ≤ k)
    (hr : Row w5 x (aCells m pa2 cap2 { s with pages := s.pages ++ [Q0] }) 128) (f5 : Fr (one x) w4 w5) :
    ArenaAt w5 x m pa2 cap2 (ps ++ [(P, M)]) { s with pages := s.pages ++ [Q0] } := by
  have hxl := h.lt x own_x
  have hml := h.lt m own_m
  have hPl := hP.lt
  have hsz := fa.size
  have hold : ∀ (i : Nat) (p : Nat × Nat), ps[i]? = some p → p.1 < w1.heap.size ∧ p.2 < w1.heap.size := fun i p hp => ⟨h.lt _ (own_p hp (Or.inl rfl)), h.lt _ (own_p hp (Or.inr rfl))⟩
  have hbl : ∀ k, blk pa k → k < w1.heap.size := fun k hk => h.lt k (own_pa hk)
  have hpx : ¬ blk pa2 x := fun e => by rcases hb x e with e | e; exact (h.pax x e).1 rfl; omega
  have hget : ∀ (i : Nat) (p : Nat × Nat), (ps ++ [(P, M)])[i]? = some p → (ps[i]? = some p ∧ i < ps.length) ∨ (p = (P, M) ∧ i = ps.length) := by
    intro i p hp
    by_cases hi : i < ps.length
    · rw [List.getElem?_append_left hi] at hp; exact Or.inl ⟨hp, hi⟩
    · rw [List.getElem?_append_right (by omega)] at hp
      by_cases e : i = ps.length
      · subst e; simp at hp; exact Or.inr ⟨hp.symm, rfl⟩
      · rw [List.getElem?_eq_none (by simp; omega)] at hp; simp at hp
  refine ⟨hr, ?_, by simp [h.len], ?_, ?_, h.xm, ?_, ?_, ?_⟩
  · have := hs.kept f5 (fun k hk e => by unfold one at e; subst e; exact hpx hk)
    simpa using this
  · intro i p q hp hq
    rcases hget i p hp with ⟨hp', hi⟩ | ⟨rfl, rfl⟩
    · simp only at hq
      rw [List.getElem?_append_left (by rw [← h.len]; exact hi)] at hq
      have hx := h.psx i p hp'
      exact (((h.page i p q hp' hq).kept fa (fun e => e) (fun e => e)).kept f4 hx.2.2.2.2.1 hx.2.2.2.2.2.1).kept f5 (fun e => hx.1 e) (fun e => hx.2.2.1 e)
    · simp only at hq
      rw [h.len, List.getElem?_concat_length] at hq
      simp only [Option.some.injEq] at hq
      subst hq
      exact (hP.kept f4 (fun e => by have := hbl _ e; omega) (fun e => by have := hbl _ e; omega)).kept f5 (fun e => by unfold one at e; omega) (fun e => by unfold one at e; omega)
  · exact ((h.gen.kept fa (fun e => e)).kept f4 (fun e => (h.pax m e).2 rfl)).kept f5 (fun e => h.xm e.symm)
  · intro k hk
    rcases hb k hk with e | e
    · exact h.pax k e
    · constructor <;> omega
  · intro i p hp
    rcases hget i p hp with ⟨hp', hi⟩ | ⟨rfl, rfl⟩
    · have hx := h.psx i p hp'
      have ho := hold i p hp'
      refine ⟨hx.1, hx.2.1, hx.2.2.1, hx.2.2.2.1, fun e => ?_, fun e => ?_, hx.2.2.2.2.2.2⟩
      · rcases hb _ e with e | e
        · exact hx.2.2.2.2.1 e
        · omega
      · rcases hb _ e with e | e
        · exact hx.2.2.2.2.2.1 e
        · omega
    · refine ⟨by simp only; omega, by simp only; omega, by simp only; omega, by simp only; omega, fun e => ?_, fun e => ?_, hPl.2.2⟩
      · rcases hb _ e with e | e
        · have := hbl _ e; simp only at this; omega
        · simp only at e; omega
      · rcases hb _ e with e | e
        · have := hbl _ e; simp only at this; omega
        · simp only at e; omega
  · intro i j p q hp hq hij
    rcases hget i p hp with ⟨hp', hi⟩ | ⟨rfl, rfl⟩
    · rcases hget j q hq with ⟨hq', hj⟩ | ⟨rfl, rfl⟩
      · exact h.ap i j p q hp' hq' hij
      · have := hold i p hp'
        refine ⟨?_, ?_, ?_, ?_⟩ <;> simp only <;> omega
    · rcases hget j q hq with ⟨hq', hj⟩ | ⟨rfl, rfl⟩
      · have := hold j q hq'
        refine ⟨?_, ?_, ?_, ?_⟩ <;> simp only <;> omega
      · exact absurd rfl hij
theorem kvPut_twice {K V : Type} [DecidableEq K] (l : List (K × V)) (k : K) (a b : V) : kvPut (kvPut l k a) k b = kvPut l k b := by
  induction l with
  | nil => simp [kvPut]
  | cons p r ih =>
    by_cases h : p.1 = k
    · simp [kvPut, h]
    · simp [kvPut, h, ih]
theorem alloc_prep {f : Nat} {q : PS} {S1 : AS} (hw : s.WF) (hg : ∀ n o, s.genOf n o < 4294967295) (hadv : Hid (adv s.slot s.pages f = adv s.slot s.pages s.first)) (hq : s.pages[f]? = some q) (hqw : q.WF ∧ q.slot = s.slot) (hfu : full s.slot q = false) (hS : S1 = { s with first := f }) :
    ∃ k q', Hid (q.alloc = some (k, q')) ∧ ∃ o, Hid (k * q.slot = o) ∧ o < 65536 ∧ ∃ G, G < 4294967295 ∧ Hid (S1.genOf f o = G) ∧ Hid (aAlloc s = (mkH f o (G + 1), 0, { S1 with pages := S1.pages.set f q', gen := kvPut S1.gen (pl f o) (G + 1), used := S1.used + 1 })) := by
  have hai := hqw.1.alloc_iff
  have hle : q.used ≤ 4096 / q.slot := by
    have := used_le q
    have := (Nat.le_div_iff_mul_le (k := q.slot) (x := q.slots.length) (y := 4096) (by have := hqw.1.lo; omega)).2 hqw.1.fit
    omega
  have hlt : q.used < 4096 / q.slot := by
    unfold full at hfu
    have := of_decide_eq_false hfu
    rw [hqw.2] at hle ⊢; omega
  rw [decide_eq_true hlt] at hai
  obtain ⟨⟨k, q'⟩, ha⟩ := Option.isSome_iff_exists.1 hai
  obtain ⟨w1, w2, w3, w4, w5⟩ := hqw.1.alloc ha
  have e : adv s.slot s.pages s.first = f := by
    rw [← hadv.out]; exact adv_here (fun p hp => by rw [hq] at hp; cases hp; exact hfu)
  have hfl := (List.getElem?_eq_some_iff.1 hq).1
  refine ⟨k, q', ha, _, rfl, by omega, _, hg f (k * q.slot), by rw [hS]; exact rfl, ?_⟩
  show aAlloc s = _
  unfold aAlloc
  simp only [e]
  rw [if_neg (by omega)]
  have hgr : s.grown = s.pages := by unfold AS.grown; rw [e, if_neg (by omega)]
  rw [hgr, hq]
  simp only [Option.bind_some, ha]
  unfold AS.giveAt
  rw [hgr, hqw.2, hS]

theorem alloc_prep2 {f : Nat} {S1 : AS} (hw : s.WF) (hg : ∀ n o, s.genOf n o < 4294967295) (hadv : Hid (adv s.slot s.pages f = adv s.slot s.pages s.first)) (hfe : f = s.pages.length) (hmax : ¬ s.pages.length = 4096) (hS : S1 = { s with first := f, pages := s.pages ++ [PS.new s.slot] }) :
    ∃ k q', Hid ((PS.new s.slot).alloc = some (k, q')) ∧ ∃ o, Hid (k * (PS.new s.slot).slot = o) ∧ o < 65536 ∧ ∃ G, G < 4294967295 ∧ Hid (S1.genOf f o = G) ∧ Hid (aAlloc s = (mkH f o (G + 1), 0, { S1 with pages := S1.pages.set f q', gen := kvPut S1.gen (pl f o) (G + 1), used := S1.used + 1 })) := by
  have ha : (PS.new s.slot).alloc = some (0, { slot := s.slot, slots := [some (zeros s.slot)], back := [] }) := by
    unfold PS.new PS.alloc
    simp only [List.length_nil, List.nil_append]
    rw [if_pos (by have := hw.hi; omega)]
  have e : adv s.slot s.pages s.first = s.pages.length := by
    rw [← hadv.out, hfe]
    have := adv_le (slot := s.slot) (pages := s.pages) (f := s.pages.length) (Nat.le_refl _)
    omega
  refine ⟨0, _, ha, 0, Nat.zero_mul _, by omega, _, hg f 0, by rw [hS]; exact rfl, ?_⟩
  show aAlloc s = _
  have hgr : s.grown = s.pages ++ [PS.new s.slot] := by unfold AS.grown; rw [e, if_pos rfl]
  unfold aAlloc
  simp only [e]
  rw [if_neg (by intro h; exact hmax h.2), hgr, List.getElem?_concat_length]
  simp only [Option.bind_some, ha]
  unfold AS.giveAt
  rw [hgr, hS, hfe, Nat.zero_mul]

def firstOf (x : Nat) (w : World) : Nat := match w.cell? ⟨x, 4, none⟩ with | some v => (intOf v).toNat | none => 0

set_option maxHeartbeats 4000000 in
theorem Arena_Alloc (h : ArenaAt w x m pa cap ps s) (hw : s.WF) (hu : s.used < 4611686018427387904) (hg : ∀ n o, s.genOf n o < 4294967295) :
    Calls Tryz.prog 98 #[.pointer (some ⟨x, 0, none⟩)] w fun e w' => e = .returned (.tuple #[.int .u64 ((aAlloc s).1 : Int), .int .i64 ((aAlloc s).2.1 : Int)]) ∧
      ∃ pa' cap' ps', ArenaAt w' x m pa' cap' ps' (aAlloc s).2.2 ∧ Fr (aOwn x m pa ps) w w' ∧ ∀ k, aOwn x m pa' ps' k → aOwn x m pa ps k ∨ w.heap.size ≤ k := by
  have hl := hw.len
  have h0 := h
  have hfr0 : Fr (aOwn x m pa ps) w w := Fr.refl _ _
  go_enter Tryz.func98, Tryz.ntmps98
  go_wp2
  go_loopw [34] (fun u wr => ∃ f : Nat, Hid (f ≤ s.pages.length) ∧ Hid (adv s.slot s.pages f = adv s.slot s.pages s.first) ∧ ArenaAt wr x m pa cap ps { s with first := f } ∧ Fr (aOwn x m pa ps) w wr) (fun _ wr => s.pages.length - firstOf x wr)
  case atStart => exact ⟨s.first, hw.first, rfl, h0, hfr0⟩
  case round =>
    obtain ⟨f, hf, hadv, hA, hfr⟩ := hrel
    clear h0 hfr0
    have c0 := hA.c0
    have c1 := hA.c1
    have c4 := hA.c4
    have z4 := hA.free 4
    simp only at c0 c1 c4
    by_cases hlt : f < s.pages.length
    · obtain ⟨q, hq⟩ : ∃ q, s.pages[f]? = some q := ⟨_, List.getElem?_eq_getElem hlt⟩
      have hqw := hw.pages q (List.mem_of_getElem? hq)
      obtain ⟨p, hpi, hpage⟩ := hA.get (i := f) (q := q) hq
      obtain ⟨g, rfl⟩ := hA.sl.isAddr (show 0 < s.pages.length by omega)
      have cp := hA.sl.cell (i := f) (v := ptr p.1) (by rw [List.getElem?_map, hpi]; rfl)
      unfold ptr at cp
      have cR : ∀ n, Calls Tryz.prog 124 #[.pointer (some ⟨p.1, 0, none⟩)] (wr.drewN n) fun e w' => e = .returned (.int .i64 (((4096 / s.slot : Nat) : Int) - (q.used : Int))) ∧ ∃ m, w' = (wr.drewN n).drewN m := by
        intro n
        have := Page_Room (hpage.drewN n)
        rw [hqw.2] at this
        exact this.mono fun e w' ⟨he, hw⟩ => ⟨he, 1, hw⟩
      have hfull := full_room hqw.2 hqw.1
      have hlti : (f : Int) < (s.pages.length : Int) := by omega
      have hd : decide ((f : Int) < (s.pages.length : Int)) = true := decide_eq_true hlti
      have CR := Lib.hid cR
      have HQ := Lib.hid hq
      have HPI := Lib.hid hpi
      have HQW := Lib.hid hqw
      clear cR
      cases hfu : full s.slot q with
      | true =>
        rw [hfu] at hfull
        have hroom : ((4096 / s.slot : Nat) : Int) - (q.used : Int) = 0 := of_decide_eq_true hfull.symm
        rw [hroom] at CR
        have HFU := Lib.hid hfu
        clear hq hpi hqw hfull hroom hpage hfu
        go_wp2_with fail
        go_quiet (first
          | (go_at_call 124; exact Calls.quiet_of (CR.out _)))
        have hA1 := hA.kept0 (Fr.drewN none_ wr nq)
        have hrow : Row ((wr.drewN nq).setCell ⟨x, 4, none⟩ (.int .i64 ((f : Int) + 1))) x (aCells m (some ⟨g, 0, none⟩) cap { s with used := s.used, first := f + 1 }) 128 := by
          have := hA1.row.set 4 (.int .i64 ((f : Int) + 1))
          rw [show (f : Int) + 1 = ((f + 1 : Nat) : Int) by omega] at this ⊢
          exact this
        have hA2 : ArenaAt _ x m (some ⟨g, 0, none⟩) cap ps { s with first := f + 1 } := hA1.nums s.used (f + 1) hrow (Fr.setCell (one x) _ ⟨x, 4, none⟩ _ (fun _ => rfl))
        have hfr2 : Fr (aOwn x m (some ⟨g, 0, none⟩) ps) w ((wr.drewN nq).setCell ⟨x, 4, none⟩ (.int .i64 ((f : Int) + 1))) := (hfr.trans (Fr.drewN _ wr nq)).trans (Fr.setCell _ _ ⟨x, 4, none⟩ _ (fun _ => own_x))
        have HA2 := Lib.hid hA2
        have HF2 := Lib.hid hfr2
        have e1 : firstOf x wr = f := by unfold firstOf; rw [c4]; rfl
        have HE1 := Lib.hid e1
        have hf5 := Lib.hid (adv_step HQ.out HFU.out)
        clear hA1 hrow hA2 hfr2 e1
        go_wp2
        go_roundw
        case rel => exact ⟨f + 1, hlt, hf5.out.symm.trans hadv, HA2.out, HF2.out⟩
        case measure =>
          have e2 : firstOf x ((wr.drewN nq).setCell ⟨x, 4, none⟩ (.int .i64 ((f : Int) + 1))) = f + 1 := by unfold firstOf; rw [HA2.out.c4]; rfl
          rw [HE1.out, e2]; omega
      | false =>
        rw [hfu] at hfull
        have hroom0 := of_decide_eq_false hfull.symm
        generalize ((4096 / s.slot : Nat) : Int) - (q.used : Int) = R at CR hroom0
        have hroom : (R == 0) = false := beq_eq_false_iff_ne.2 hroom0
        have hne : ((f : Int) == (s.pages.length : Int)) = false := beq_eq_false_iff_ne.2 (by omega)
        have HFU := Lib.hid hfu
        clear hq hpi hqw hpage hfu hfull
        go_wp2_with fail
        go_quiet (first
          | (go_at_call 124; exact Calls.quiet_of (CR.out _)))
        have hA1 := hA.kept0 (Fr.drewN none_ wr nq)
        have hfr1 := hfr.trans (Fr.drewN (aOwn x m (some ⟨g, 0, none⟩) ps) wr nq)
        generalize wr.drewN nq = w1 at hA1 hfr1 ⊢
        have c0 := hA1.c0
        have c1 := hA1.c1
        have c4 := hA1.c4
        simp only at c0 c1 c4
        -- PREP B
        go_wp2_with fail
        go_quiet (fail)
        go_wp2_with fail
        have hA2 := hA1.kept0 (Fr.drewN none_ w1 nq)
        have hfr2 := hfr1.trans (Fr.drewN (aOwn x m (some ⟨g, 0, none⟩) ps) w1 nq)
        generalize w1.drewN nq = w2 at hA2 hfr2 ⊢
        obtain ⟨S1, hS1⟩ : ∃ S1 : AS, S1 = { s with first := f } := ⟨_, rfl⟩
        rw [← hS1] at hA2
        have HS1 := Lib.hid (show S1.first = f by rw [hS1])
        have HSU := Lib.hid (show S1.used = s.used by rw [hS1])
        have HQ1 := Lib.hid (show S1.pages[f]? = some q by rw [hS1]; exact HQ.out)
        obtain ⟨k, q', HAL, o, HO, hob, G, hGb, HG, HRES⟩ := alloc_prep hw hg hadv HQ.out HQW.out HFU.out hS1
        obtain ⟨pa0, hpa0⟩ : ∃ pa0, pa0 = (some ⟨g, 0, none⟩ : Option Addr) := ⟨_, rfl⟩
        rw [← hpa0] at hA2
        have HB1 : Hid (∀ k, aOwn x m pa0 ps k → aOwn x m (some ⟨g, 0, none⟩) ps k ∨ w.heap.size ≤ k) := fun k hk => Or.inl (by rw [hpa0] at hk; exact hk)
        clear hpa0
        clear cp
        clear hA hA1 hfr hfr1 c0 c1 c4 hw hg hS1 h hne hroom hroom0 hd hlti z4
        obtain ⟨cap1, hcap1⟩ : ∃ c, c = cap := ⟨_, rfl⟩
        rw [← hcap1] at hA2
        have t1 := hA2.c1
        have t2 := hA2.c2
        have t3 := hA2.c3
        have t4 := hA2.c4
        have z3 := hA2.free 3
        rw [HS1.out] at t4
        obtain ⟨p, hpi, hpage⟩ := hA2.get HQ1.out
        have hlt1 : f < S1.pages.length := (List.getElem?_eq_some_iff.1 HQ1.out).1
        obtain ⟨g, rfl⟩ := hA2.sl.isAddr (by omega)
        have cp := hA2.sl.cell (i := f) (v := ptr p.1) (by rw [List.getElem?_map, hpi]; rfl)
        unfold ptr at cp
        have hpx := hA2.psx f p hpi
        have nx : ¬ two p.1 p.2 x := by unfold two; omega
        have ng : ¬ two p.1 p.2 g := by
          intro e
          rcases e with e | e
          · exact hpx.2.2.2.2.1 ⟨_, rfl, e⟩
          · exact hpx.2.2.2.2.2.1 ⟨_, rfl, e⟩
        have hal : ∀ w', Fr none_ w2 w' → Calls Tryz.prog 125 #[.pointer (some ⟨p.1, 0, none⟩)] w' fun e w'' => e = .returned (.tuple #[.int .u16 (o : Int), .int .i64 0]) ∧ PageIs w'' p.1 p.2 q' ∧ Fr (two p.1 p.2) w' w'' := by
          intro w' fr
          have := Page_Alloc_yes (hpage.kept fr (fun e => e) (fun e => e)) HAL.out
          rw [HO.out] at this
          exact this
        have Hal := Lib.hid hal
        have HPI1 := Lib.hid hpi
        have HPX := Lib.hid hpx
        clear hal hpage hpi hpx
        have fS : Fr (two p.1 p.2) w2 w2 := Fr.refl _ _
        have hfi : (f : Int) < (S1.pages.length : Int) := by omega
        go_region_held3 (fun w' => Fr (two p.1 p.2) w2 w' ∧ w'.cell? ⟨x, 1, none⟩ = some (.slice (some ⟨g, 0, none⟩) S1.pages.length cap1) ∧ w'.cell? ⟨x, 4, none⟩ = some (.int .i64 (f : Int)) ∧ w'.cell? ⟨g, f, none⟩ = some (.pointer (some ⟨p.1, 0, none⟩)))
          (first | (go_split_ands; refine ⟨?_, ?_, ?_, ?_⟩; exact Fr.trans (by assumption) f5; exact Fr.keepF f5 nx (by assumption); exact Fr.keepF f5 nx (by assumption); exact Fr.keepF f5 ng (by assumption)) | (go_split_ands; refine ⟨?_, ?_, ?_, ?_⟩; exact Fr.trans (by assumption) (Fr.drew _ _); all_goals assumption) | go_keep)
          (first | (go_at_call 125; refine (Hal.out _ (Fr.drew none_ w2)).mono ?_; rintro e w5 ⟨rfl, hp5, f5⟩))
        rename_i hh
        clear hh
        have hA5 := (hA2.kept0 (Fr.drew none_ w2)).turn HPI1.out hp5 f5 hlt1
        have hfr5 := (hfr2.trans (Fr.drew _ w2)).step f5 (fun i hi e => (HB1.out _ (own_p HPI1.out e)).resolve_right (by omega))
        clear t1 t2 t3 t4 z3 cp fS hp5 f5 hA2 hfr2
        have t4 := hA5.c4
        have t2 := hA5.c2
        have t3 := hA5.c3
        have z3 := hA5.free 3
        simp only [HS1.out] at t4
        go_wp2_with fail
        have hB := Row.new w5 #[.int .u16 (f : Int), .int .u16 (o : Int)] 158
        have hA6 := hA5.kept0 (Fr.alloc none_ w5 (.cells #[.int .u16 (f : Int), .int .u16 (o : Int)] 158))
        have hfr6 := hfr5.alloc_r (.cells #[.int .u16 (f : Int), .int .u16 (o : Int)] 158)
        obtain ⟨B, hBe⟩ : ∃ B, B = w5.heap.size := ⟨_, rfl⟩
        rw [← hBe] at hB ⊢
        have hBn : ∀ k, aOwn x m (some ⟨g, 0, none⟩) ps k → k ≠ B := fun k hk => by have := hA5.lt k hk; omega
        have hBw : w.heap.size ≤ B := by have := hfr5.size; omega
        generalize w5.alloc (.cells #[.int .u16 (f : Int), .int .u16 (o : Int)] 158) = w6 at hB hA6 hfr6 ⊢
        clear t2 t3 t4 z3 hA5 hfr5 hBe
        have b0 : w6.cell? ⟨B, 0, none⟩ = some (.int .u16 (f : Int)) := hB.cell 0
        have b1 : w6.cell? ⟨B, 1, none⟩ = some (.int .u16 (o : Int)) := hB.cell 1
        have t2 := hA6.c2
        have hlk : (Instr.lookup 125 (.map (some m)) (.agg #[.int .u16 (f : Int), .int .u16 (o : Int)]) false).run Tryz.prog w6 = .ok (.int .u32 (G : Int)) w6 := by
          have := run_lookup_at hA6.gen Tryz.underlying125 place_key (zero_u32 w6) (pl f o) false
          rw [place_pl (by omega) hob] at this
          rw [this]
          have e : ((kvGet S1.gen (pl f o)).map gen32).getD (.int .u32 0) = .int .u32 (S1.genOf f o : Int) := by
            unfold AS.genOf; cases kvGet S1.gen (pl f o) <;> rfl
          simp only [Bool.false_eq_true, if_false]
          rw [e, HG.out]
        have hE := run_entry_at (P := Tryz.prog) (hA6.gen.kept (Fr.drew none_ w6) (fun e => e)) Tryz.underlying125 place_key (pl f o) 0 (fun w => zero_u32 w)
        have hgd : (kvGet S1.gen (pl f o)).getD 0 = G := HG.out
        simp only [hgd] at hE
        obtain ⟨w7, born, hE1, hE2, hE3⟩ := hE
        obtain ⟨w8, hE4, hE5, hE6⟩ := run_store_entry (P := Tryz.prog) hE2 125 (G + 1)
        have hlk2 : (Instr.lookup 125 (.map (some m)) (.agg #[.int .u16 (f : Int), .int .u16 (o : Int)]) false).run Tryz.prog w7 = .ok (.int .u32 (G : Int)) w7 := by
          have := run_lookup_at hE2.1 Tryz.underlying125 place_key (zero_u32 w7) (pl f o) false
          rw [place_pl (by omega) hob] at this
          rw [this, kvGet_put, if_pos rfl]; rfl
        rw [place_pl (by omega) hob] at hE1
        have hmap : kvPut (kvPut S1.gen (pl f o) G) (pl f o) (G + 1) = kvPut S1.gen (pl f o) (G + 1) := kvPut_twice _ _ _ _
        rw [hmap] at hE5
        have k1 : (Instr.lookup 125 (.map (some m)) (.agg #[.int .u16 (f : Int), .int .u16 (o : Int)]) false).run Tryz.prog w6.drew = .ok (.int .u32 (G : Int)) w6.drew := by
          have := run_lookup_at (hA6.gen.kept (Fr.drew none_ w6) (fun e => e)) Tryz.underlying125 place_key (zero_u32 w6.drew) (pl f o) false
          rw [place_pl (by omega) hob] at this
          rw [this]
          have e : ((kvGet S1.gen (pl f o)).map gen32).getD (.int .u32 0) = .int .u32 (S1.genOf f o : Int) := by
            unfold AS.genOf; cases kvGet S1.gen (pl f o) <;> rfl
          simp only [Bool.false_eq_true, if_false]
          rw [e, HG.out]
        have k2 : (Instr.mapEntry 125 (.map (some m)) (.agg #[.int .u16 (f : Int), .int .u16 (o : Int)])).run Tryz.prog w6.drew = .ok (.tuple #[.int .u32 (G : Int), .int .i64 (born : Int)]) w7 := hE1
        have k3 : (Instr.entryStore 125 (.map (some m)) (.int .i64 (born : Int)) (.int .u32 ((G : Int) + 1))).run Tryz.prog w7 = .ok () w8 := hE4
        have d0 : w6.drew.cell? ⟨B, 0, none⟩ = some (.int .u16 (f : Int)) := b0
        have d1 : w6.drew.cell? ⟨B, 1, none⟩ = some (.int .u16 (o : Int)) := b1
        have d2 : w6.drew.cell? ⟨x, 2, none⟩ = some (.map (some m)) := t2
        have HE := Lib.hid (And.intro hE2 (And.intro hE3 (And.intro hE5 hE6)))
        clear hE1 hE2 hE3 hE4 hE5 hE6 hlk b0 b1 t2 hgd hmap
        go_region
        obtain ⟨_, e3, e5, e6⟩ := HE.out
        have hA8 := (hA6.kept0 (Fr.drew none_ w6)).gens e5 (e3.trans e6)
        have hfr8 := (hfr6.trans (Fr.drew _ w6)).step (e3.trans e6) (fun i hi e => by unfold one at e; subst e; exact own_m)
        have hB8 : Row w8 B #[.int .u16 (f : Int), .int .u16 (o : Int)] 158 := (hB.drew).kept (e3.trans e6) (fun e => by unfold one at e; exact hBn m own_m e.symm)
        obtain ⟨G1, hG1⟩ : ∃ G1, G1 = G + 1 := ⟨_, rfl⟩
        rw [← hG1] at HRES hA8
        have hG1b : G1 < 4294967296 := by omega
        clear hA6 hfr6 hB e3 e5 e6 HE k1 k2 k3 d0 d1 d2 hlk2 hG1 hGb HG
        have t3 := hA8.c3
        have z3 := hA8.free 3
        simp only [HSU.out] at t3
        have hub : IntKind.i64.wrap ((s.used : Int) + 1) = (s.used : Int) + 1 := IntWalk.i64_in _ (by omega)
        go_wp2_with fail
        have hrow9 : Row (w8.setCell ⟨x, 3, none⟩ (.int .i64 ((s.used : Int) + 1))) x (aCells m (some ⟨g, 0, none⟩) cap1 { S1 with pages := S1.pages.set f q', gen := kvPut S1.gen (pl f o) G1, used := S1.used + 1, first := S1.first }) 128 := by
          have := hA8.row.set 3 (.int .i64 ((s.used : Int) + 1))
          rw [show (s.used : Int) + 1 = ((S1.used + 1 : Nat) : Int) by rw [HSU.out]; omega] at this ⊢
          exact this
        have hfx : Fr (one x) w8 (w8.setCell ⟨x, 3, none⟩ (.int .i64 ((s.used : Int) + 1))) := Fr.setCell (one x) _ ⟨x, 3, none⟩ _ (fun _ => rfl)
        have hA9 := hA8.nums (S1.used + 1) S1.first hrow9 hfx
        have hfr9 := hfr8.step hfx (fun i hi e => by unfold one at e; subst e; exact own_x)
        have hB9 := hB8.kept hfx (fun e => by unfold one at e; exact hBn x own_x e.symm)
        generalize w8.setCell ⟨x, 3, none⟩ (.int .i64 ((s.used : Int) + 1)) = w9 at hA9 hfr9 hB9 ⊢
        clear hA8 hfr8 hB8 hrow9 hfx t3 z3 hub
        have b0 : w9.cell? ⟨B, 0, none⟩ = some (.int .u16 (f : Int)) := hB9.cell 0
        have b1 : w9.cell? ⟨B, 1, none⟩ = some (.int .u16 (o : Int)) := hB9.cell 1
        have t2 := hA9.c2
        have hfb : f < 65536 := by omega
        have hlk : ∀ n, (Instr.lookup 125 (.map (some m)) (.agg #[.int .u16 (f : Int), .int .u16 (o : Int)]) false).run Tryz.prog (w9.drewN n) = .ok (.int .u32 (G1 : Int)) (w9.drewN n) := by
          intro n
          have := run_lookup_at (hA9.gen.kept (Fr.drewN none_ w9 n) (fun e => e)) Tryz.underlying125 place_key (zero_u32 (w9.drewN n)) (pl f o) false
          rw [place_pl hfb hob] at this
          rw [this, kvGet_put, if_pos rfl]; rfl
        have hhd : ∀ n, Calls Tryz.prog 126 #[.int .u16 (f : Int), .int .u16 (o : Int), .int .u32 (G1 : Int)] (w9.drewN n) fun e w' => e = .returned (.int .u64 (mkH f o G1 : Int)) ∧ w' = w9.drewN n := fun n => (Handle_any (w9.drewN n) f o G1 hfb hob hG1b).mono fun e w' ⟨he, hw⟩ => ⟨he, hw.symm⟩
        have HHD := Lib.hid hhd
        clear hhd
        go_quiet (first
          | (go_at_call 126; exact Calls.quiet_of_same (HHD.out _)))
        go_wp2
        go_ret2
        rw [HRES.out]
        exact ⟨rfl, _, _, _, hA9.kept0 (Fr.drewN none_ w9 _), hfr9.trans (Fr.drewN _ w9 _), HB1.out⟩
    · -- PREP C
      have hfe : f = s.pages.length := by have := hf; unfold Hid at this; omega
      have hd : decide ((f : Int) < (s.pages.length : Int)) = false := decide_eq_false (by omega)
      have hq1 : ((f : Int) == (s.pages.length : Int)) = true := by rw [hfe]; simp
      have hfl : f ≤ 4096 := by omega
      have HFE := Lib.hid hfe
      clear hfe
      go_wp2_with fail
      go_quiet (fail)
      have hA1 := hA.kept0 (Fr.drewN none_ wr nq)
      have hfr1 := hfr.trans (Fr.drewN (aOwn x m pa ps) wr nq)
      generalize wr.drewN nq = w1 at hA1 hfr1 ⊢
      have c0 := hA1.c0
      have c1 := hA1.c1
      have c4 := hA1.c4
      simp only at c0 c1 c4
      clear hA hfr
      go_wp2_with fail
      go_quiet (fail)
      have hA0 := hA1.kept0 (Fr.drewN none_ w1 nq)
      have hfr0 := hfr1.trans (Fr.drewN (aOwn x m pa ps) w1 nq)
      generalize w1.drewN nq = w0 at hA0 hfr0 ⊢
      have c0 := hA0.c0
      have c1 := hA0.c1
      have z1 := hA0.free 1
      simp only at c0 c1
      clear hA1 hfr1 hd hq1 c4 z4
      by_cases hmax : s.pages.length = 4096
      · have hm : ((s.pages.length : Int) == 4096) = true := by rw [hmax]; rfl
        go_wp2_with fail
        go_ret2
        have e : adv s.slot s.pages s.first = s.pages.length := by
          rw [← hadv.out, HFE.out]
          have := adv_le (slot := s.slot) (pages := s.pages) (f := s.pages.length) (Nat.le_refl _)
          omega
        have hres : aAlloc s = (0, 41, { s with first := f }) := by
          unfold aAlloc; simp only [e]; rw [if_pos ⟨trivial, hmax⟩, HFE.out]
        rw [hres]
        exact ⟨rfl, _, _, _, hA0, hfr0, fun k hk => Or.inl hk⟩
      · have hm : ((s.pages.length : Int) == 4096) = false := beq_eq_false_iff_ne.2 (by omega)
        have hnew := fun w => Page_New_yes w s.slot hw.lo hw.hi
        unfold ptr err at hnew
        have HNew := Lib.hid hnew
        clear hnew
        go_wp2_with (first
          | (go_at_call 79; refine (HNew.out _).mono ?_; rintro e w3 ⟨P, M, rfl, hP, f3, hPb, hMb⟩; have d1 := Fr.keep f3 c1; have z3 := (hA0.kept0 f3).free 1; have hA3 := hA0.kept0 f3)
          | (at_builtin; refine wpAppend rfl _ _ _ rfl 122 (.pointer none) 1 8 Tryz.underlying126 ptr_info rfl (hA3.sl.kept0 (Fr.alloc _ _ _)) rfl ⟨w3.heap.size, 0, none⟩ 1 1 [ptr P] rfl rfl (ptr_cells _ _ _ (by simp [ptr])) (by simp [ptr, Value.oneCell']) (by omega) (by simp [maxLen]; omega) (by show (s.pages.length + 1) * 8 ≤ _; omega) ?_; intro pa2 cap2 w4 hs4 f4 hb4; have z4 := (hA3.row.kept ((Fr.alloc none_ _ _).none.trans f4) (fun e => (hA3.pax x e).1 rfl)).free 1; have y1 := Fr.keepF ((Fr.alloc none_ _ _).none.trans f4) (fun e => (hA3.pax x e).1 rfl) d1))
        have hr4 := hA3.row.kept ((Fr.alloc none_ w3 (.cells #[.pointer (some ⟨P, 0, none⟩)] 122)).none.trans f4) (fun e => (hA3.pax x e).1 rfl)
        obtain ⟨S1, hS1⟩ : ∃ S1 : AS, S1 = { s with first := f, pages := s.pages ++ [PS.new s.slot] } := ⟨_, rfl⟩
        have hrow5 : Row (w4.setCell ⟨x, 1, none⟩ (.slice pa2 (s.pages.length + 1) cap2)) x (aCells m pa2 cap2 { { s with first := f } with pages := s.pages ++ [PS.new s.slot] }) 128 := by
          have := hr4.set 1 (.slice pa2 (s.pages.length + 1) cap2)
          unfold aCells at this ⊢
          simpa using this
        have hA2 := hA0.push (f3.trans (Fr.alloc none_ w3 (.cells #[.pointer (some ⟨P, 0, none⟩)] 122))) (hP.kept (Fr.alloc none_ w3 _) (fun e => e) (fun e => e)) hPb hMb hs4 f4 hb4 hrow5 (Fr.setCell (one x) w4 ⟨x, 1, none⟩ _ (fun _ => rfl))
        have hfr2 : Fr (aOwn x m pa ps) w (w4.setCell ⟨x, 1, none⟩ (.slice pa2 (s.pages.length + 1) cap2)) := (((hfr0.trans f3.none).trans (Fr.alloc _ w3 (.cells #[.pointer (some ⟨P, 0, none⟩)] 122))).trans (f4.mono fun k _ e => own_pa e)).trans (Fr.setCell _ w4 ⟨x, 1, none⟩ _ (fun _ => own_x))
        have hB1 : ∀ k, aOwn x m pa2 (ps ++ [(P, M)]) k → aOwn x m pa ps k ∨ w.heap.size ≤ k := by
          have hs0 := hfr0.size
          have hs3 := (f3.trans (Fr.alloc none_ w3 (.cells #[.pointer (some ⟨P, 0, none⟩)] 122))).size
          rintro k (rfl | rfl | hk | ⟨i, p, hp, hk⟩)
          · exact Or.inl own_x
          · exact Or.inl own_m
          · rcases hb4 k hk with e | e
            · exact Or.inl (own_pa e)
            · exact Or.inr (by omega)
          · by_cases hi : i < ps.length
            · rw [List.getElem?_append_left hi] at hp; exact Or.inl (own_p hp hk)
            · rw [List.getElem?_append_right (by omega)] at hp
              have : p = (P, M) := by
                by_cases e : i - ps.length = 0
                · rw [e] at hp; simp at hp; exact hp.symm
                · rw [List.getElem?_eq_none (by simp; omega)] at hp; simp at hp
              subst this
              rcases hk with hk | hk <;> exact Or.inr (by simp only at hk; omega)
        have HB1 := Lib.hid hB1
        obtain ⟨ps1, hps1⟩ : ∃ ps1, ps1 = ps ++ [(P, M)] := ⟨_, rfl⟩
        rw [← hps1] at hA2 HB1
        replace hA2 : ArenaAt (w4.setCell ⟨x, 1, none⟩ (.slice pa2 (s.pages.length + 1) cap2)) x m pa2 cap2 ps1 S1 := by rw [hS1]; exact hA2
        generalize w4.setCell ⟨x, 1, none⟩ (.slice pa2 (s.pages.length + 1) cap2) = w2 at hA2 hfr2 ⊢
        obtain ⟨k, q', HAL, o, HO, hob, G, hGb, HG, HRES⟩ := alloc_prep2 hw hg hadv HFE.out hmax hS1
        have HS1 := Lib.hid (show S1.first = f by rw [hS1])
        have HSU := Lib.hid (show S1.used = s.used by rw [hS1])
        have HQ1 := Lib.hid (show S1.pages[f]? = some (PS.new s.slot) by rw [hS1, HFE.out]; exact List.getElem?_concat_length)
        obtain ⟨cap1, hcap1⟩ : ∃ c, c = cap2 := ⟨_, rfl⟩
        rw [← hcap1] at hA2
        clear hr4 hrow5 hB1 hps1 hS1 hw hg hA0 hfr0 hA3 hP f3 hs4 f4 hb4 c0 c1 d1 z1 z3 z4 y1 hm hmax h
        have t1 := hA2.c1
        have t2 := hA2.c2
        have t3 := hA2.c3
        have t4 := hA2.c4
        have z3 := hA2.free 3
        rw [HS1.out] at t4
        obtain ⟨p, hpi, hpage⟩ := hA2.get HQ1.out
        have hlt1 : f < S1.pages.length := (List.getElem?_eq_some_iff.1 HQ1.out).1
        obtain ⟨g, rfl⟩ := hA2.sl.isAddr (by omega)
        have cp := hA2.sl.cell (i := f) (v := ptr p.1) (by rw [List.getElem?_map, hpi]; rfl)
        unfold ptr at cp
        have hpx := hA2.psx f p hpi
        have nx : ¬ two p.1 p.2 x := by unfold two; omega
        have ng : ¬ two p.1 p.2 g := by
          intro e
          rcases e with e | e
          · exact hpx.2.2.2.2.1 ⟨_, rfl, e⟩
          · exact hpx.2.2.2.2.2.1 ⟨_, rfl, e⟩
        have hal : ∀ w', Fr none_ w2 w' → Calls Tryz.prog 125 #[.pointer (some ⟨p.1, 0, none⟩)] w' fun e w'' => e = .returned (.tuple #[.int .u16 (o : Int), .int .i64 0]) ∧ PageIs w'' p.1 p.2 q' ∧ Fr (two p.1 p.2) w' w'' := by
          intro w' fr
          have := Page_Alloc_yes (hpage.kept fr (fun e => e) (fun e => e)) HAL.out
          rw [HO.out] at this
          exact this
        have Hal := Lib.hid hal
        have HPI1 := Lib.hid hpi
        have HPX := Lib.hid hpx
        clear hal hpage hpi hpx
        have fS : Fr (two p.1 p.2) w2 w2 := Fr.refl _ _
        have hfi : (f : Int) < (S1.pages.length : Int) := by omega
        go_region_held3 (fun w' => Fr (two p.1 p.2) w2 w' ∧ w'.cell? ⟨x, 1, none⟩ = some (.slice (some ⟨g, 0, none⟩) S1.pages.length cap1) ∧ w'.cell? ⟨x, 4, none⟩ = some (.int .i64 (f : Int)) ∧ w'.cell? ⟨g, f, none⟩ = some (.pointer (some ⟨p.1, 0, none⟩)))
          (first | (go_split_ands; refine ⟨?_, ?_, ?_, ?_⟩; exact Fr.trans (by assumption) f5; exact Fr.keepF f5 nx (by assumption); exact Fr.keepF f5 nx (by assumption); exact Fr.keepF f5 ng (by assumption)) | (go_split_ands; refine ⟨?_, ?_, ?_, ?_⟩; exact Fr.trans (by assumption) (Fr.drew _ _); all_goals assumption) | go_keep)
          (first | (go_at_call 125; refine (Hal.out _ (Fr.drew none_ w2)).mono ?_; rintro e w5 ⟨rfl, hp5, f5⟩))
        rename_i hh
        clear hh
        have hA5 := (hA2.kept0 (Fr.drew none_ w2)).turn HPI1.out hp5 f5 hlt1
        have hfr5 := (hfr2.trans (Fr.drew _ w2)).step f5 (fun i hi e => (HB1.out _ (own_p HPI1.out e)).resolve_right (by omega))
        clear t1 t2 t3 t4 z3 cp fS hp5 f5 hA2 hfr2
        have t4 := hA5.c4
        have t2 := hA5.c2
        have t3 := hA5.c3
        have z3 := hA5.free 3
        simp only [HS1.out] at t4
        go_wp2_with fail
        have hB := Row.new w5 #[.int .u16 (f : Int), .int .u16 (o : Int)] 158
        have hA6 := hA5.kept0 (Fr.alloc none_ w5 (.cells #[.int .u16 (f : Int), .int .u16 (o : Int)] 158))
        have hfr6 := hfr5.alloc_r (.cells #[.int .u16 (f : Int), .int .u16 (o : Int)] 158)
        obtain ⟨B, hBe⟩ : ∃ B, B = w5.heap.size := ⟨_, rfl⟩
        rw [← hBe] at hB ⊢
        have hBn : ∀ k, aOwn x m (some ⟨g, 0, none⟩) ps1 k → k ≠ B := fun k hk => by have := hA5.lt k hk; omega
        have hBw : w.heap.size ≤ B := by have := hfr5.size; omega
        generalize w5.alloc (.cells #[.int .u16 (f : Int), .int .u16 (o : Int)] 158) = w6 at hB hA6 hfr6 ⊢
        clear t2 t3 t4 z3 hA5 hfr5 hBe
        have b0 : w6.cell? ⟨B, 0, none⟩ = some (.int .u16 (f : Int)) := hB.cell 0
        have b1 : w6.cell? ⟨B, 1, none⟩ = some (.int .u16 (o : Int)) := hB.cell 1
        have t2 := hA6.c2
        have hlk : (Instr.lookup 125 (.map (some m)) (.agg #[.int .u16 (f : Int), .int .u16 (o : Int)]) false).run Tryz.prog w6 = .ok (.int .u32 (G : Int)) w6 := by
          have := run_lookup_at hA6.gen Tryz.underlying125 place_key (zero_u32 w6) (pl f o) false
          rw [place_pl (by omega) hob] at this
          rw [this]
          have e : ((kvGet S1.gen (pl f o)).map gen32).getD (.int .u32 0) = .int .u32 (S1.genOf f o : Int) := by
            unfold AS.genOf; cases kvGet S1.gen (pl f o) <;> rfl
          simp only [Bool.false_eq_true, if_false]
          rw [e, HG.out]
        have hE := run_entry_at (P := Tryz.prog) (hA6.gen.kept (Fr.drew none_ w6) (fun e => e)) Tryz.underlying125 place_key (pl f o) 0 (fun w => zero_u32 w)
        have hgd : (kvGet S1.gen (pl f o)).getD 0 = G := HG.out
        simp only [hgd] at hE
        obtain ⟨w7, born, hE1, hE2, hE3⟩ := hE
        obtain ⟨w8, hE4, hE5, hE6⟩ := run_store_entry (P := Tryz.prog) hE2 125 (G + 1)
        have hlk2 : (Instr.lookup 125 (.map (some m)) (.agg #[.int .u16 (f : Int), .int .u16 (o : Int)]) false).run Tryz.prog w7 = .ok (.int .u32 (G : Int)) w7 := by
          have := run_lookup_at hE2.1 Tryz.underlying125 place_key (zero_u32 w7) (pl f o) false
          rw [place_pl (by omega) hob] at this
          rw [this, kvGet_put, if_pos rfl]; rfl
        rw [place_pl (by omega) hob] at hE1
        have hmap : kvPut (kvPut S1.gen (pl f o) G) (pl f o) (G + 1) = kvPut S1.gen (pl f o) (G + 1) := kvPut_twice _ _ _ _
        rw [hmap] at hE5
        have k1 : (Instr.lookup 125 (.map (some m)) (.agg #[.int .u16 (f : Int), .int .u16 (o : Int)]) false).run Tryz.prog w6.drew = .ok (.int .u32 (G : Int)) w6.drew := by
          have := run_lookup_at (hA6.gen.kept (Fr.drew none_ w6) (fun e => e)) Tryz.underlying125 place_key (zero_u32 w6.drew) (pl f o) false
          rw [place_pl (by omega) hob] at this
          rw [this]
          have e : ((kvGet S1.gen (pl f o)).map gen32).getD (.int .u32 0) = .int .u32 (S1.genOf f o : Int) := by
            unfold AS.genOf; cases kvGet S1.gen (pl f o) <;> rfl
          simp only [Bool.false_eq_true, if_false]
          rw [e, HG.out]
        have k2 : (Instr.mapEntry 125 (.map (some m)) (.agg #[.int .u16 (f : Int), .int .u16 (o : Int)])).run Tryz.prog w6.drew = .ok (.tuple #[.int .u32 (G : Int), .int .i64 (born : Int)]) w7 := hE1
        have k3 : (Instr.entryStore 125 (.map (some m)) (.int .i64 (born : Int)) (.int .u32 ((G : Int) + 1))).run Tryz.prog w7 = .ok () w8 := hE4
        have d0 : w6.drew.cell? ⟨B, 0, none⟩ = some (.int .u16 (f : Int)) := b0
        have d1 : w6.drew.cell? ⟨B, 1, none⟩ = some (.int .u16 (o : Int)) := b1
        have d2 : w6.drew.cell? ⟨x, 2, none⟩ = some (.map (some m)) := t2
        have HE := Lib.hid (And.intro hE2 (And.intro hE3 (And.intro hE5 hE6)))
        clear hE1 hE2 hE3 hE4 hE5 hE6 hlk b0 b1 t2 hgd hmap
        go_region
        obtain ⟨_, e3, e5, e6⟩ := HE.out
        have hA8 := (hA6.kept0 (Fr.drew none_ w6)).gens e5 (e3.trans e6)
        have hfr8 := (hfr6.trans (Fr.drew _ w6)).step (e3.trans e6) (fun i hi e => by unfold one at e; subst e; exact own_m)
        have hB8 : Row w8 B #[.int .u16 (f : Int), .int .u16 (o : Int)] 158 := (hB.drew).kept (e3.trans e6) (fun e => by unfold one at e; exact hBn m own_m e.symm)
        obtain ⟨G1, hG1⟩ : ∃ G1, G1 = G + 1 := ⟨_, rfl⟩
        rw [← hG1] at HRES hA8
        have hG1b : G1 < 4294967296 := by omega
        clear hA6 hfr6 hB e3 e5 e6 HE k1 k2 k3 d0 d1 d2 hlk2 hG1 hGb HG
        have t3 := hA8.c3
        have z3 := hA8.free 3
        simp only [HSU.out] at t3
        have hub : IntKind.i64.wrap ((s.used : Int) + 1) = (s.used : Int) + 1 := IntWalk.i64_in _ (by omega)
        go_wp2_with fail
        have hrow9 : Row (w8.setCell ⟨x, 3, none⟩ (.int .i64 ((s.used : Int) + 1))) x (aCells m (some ⟨g, 0, none⟩) cap1 { S1 with pages := S1.pages.set f q', gen := kvPut S1.gen (pl f o) G1, used := S1.used + 1, first := S1.first }) 128 := by
          have := hA8.row.set 3 (.int .i64 ((s.used : Int) + 1))
          rw [show (s.used : Int) + 1 = ((S1.used + 1 : Nat) : Int) by rw [HSU.out]; omega] at this ⊢
          exact this
        have hfx : Fr (one x) w8 (w8.setCell ⟨x, 3, none⟩ (.int .i64 ((s.used : Int) + 1))) := Fr.setCell (one x) _ ⟨x, 3, none⟩ _ (fun _ => rfl)
        have hA9 := hA8.nums (S1.used + 1) S1.first hrow9 hfx
        have hfr9 := hfr8.step hfx (fun i hi e => by unfold one at e; subst e; exact own_x)
        have hB9 := hB8.kept hfx (fun e => by unfold one at e; exact hBn x own_x e.symm)
        generalize w8.setCell ⟨x, 3, none⟩ (.int .i64 ((s.used : Int) + 1)) = w9 at hA9 hfr9 hB9 ⊢
        clear hA8 hfr8 hB8 hrow9 hfx t3 z3 hub
        have b0 : w9.cell? ⟨B, 0, none⟩ = some (.int .u16 (f : Int)) := hB9.cell 0
        have b1 : w9.cell? ⟨B, 1, none⟩ = some (.int .u16 (o : Int)) := hB9.cell 1
        have t2 := hA9.c2
        have hfb : f < 65536 := by omega
        have hlk : ∀ n, (Instr.lookup 125 (.map (some m)) (.agg #[.int .u16 (f : Int), .int .u16 (o : Int)]) false).run Tryz.prog (w9.drewN n) = .ok (.int .u32 (G1 : Int)) (w9.drewN n) := by
          intro n
          have := run_lookup_at (hA9.gen.kept (Fr.drewN none_ w9 n) (fun e => e)) Tryz.underlying125 place_key (zero_u32 (w9.drewN n)) (pl f o) false
          rw [place_pl hfb hob] at this
          rw [this, kvGet_put, if_pos rfl]; rfl
        have hhd : ∀ n, Calls Tryz.prog 126 #[.int .u16 (f : Int), .int .u16 (o : Int), .int .u32 (G1 : Int)] (w9.drewN n) fun e w' => e = .returned (.int .u64 (mkH f o G1 : Int)) ∧ w' = w9.drewN n := fun n => (Handle_any (w9.drewN n) f o G1 hfb hob hG1b).mono fun e w' ⟨he, hw⟩ => ⟨he, hw.symm⟩
        have HHD := Lib.hid hhd
        clear hhd
        go_quiet (first
          | (go_at_call 126; exact Calls.quiet_of_same (HHD.out _)))
        go_wp2
        go_ret2
        rw [HRES.out]
        exact ⟨rfl, _, _, _, hA9.kept0 (Fr.drewN none_ w9 _), hfr9.trans (Fr.drewN _ w9 _), HB1.out⟩
end
end Go.Proofs.YtckkccnebjacdaaGreat
namespace Go.Proofs.YtckkccnebjacdaaGreat
open Go.RowKit
set_option linter.unusedVariables false
set_option linter.unusedSimpArgs false
set_option maxRecDepth 100000

theorem Row.new2 (w : World) (o : Obj) (cs : Array Value) (t : TypeId) : Row ((w.alloc o).alloc (.cells cs t)) (w.heap.size + 1) cs t := by
  have h := Row.new (w.alloc o) cs t
  have e : (w.alloc o).heap.size = w.heap.size + 1 := by simp
  rwa [e] at h
theorem Arena_New_no (w : World) (slot : Int) (h : slot < 2 ∨ 4096 < slot) :
    Calls Tryz.prog 47 #[.int .i64 slot] w fun e w' => e = .returned (.tuple #[.pointer none, .int .i64 1]) ∧ w = w' := by
  have hc := fun w => Page_New_no w slot h
  unfold err at hc
  have HC := Lib.hid hc
  clear hc
  go_enter Tryz.func47, Tryz.ntmps47
  go_wp2_with (go_at_call 79; refine (HC.out _).mono ?_; rintro e w1 ⟨rfl, rfl⟩)
  go_ret2
  exact ⟨rfl, rfl⟩

theorem build_arena (slot : Int) (m : Nat) (w : World) : (Instr.build 128 #[(0, .int .i64 slot), (2, .map (some m))]).run Tryz.prog w = .ok (.agg #[.int .i64 slot, .slice none 0 0, .map (some m), .int .i64 0, .int .i64 0]) w := by kernel_rfl
set_option maxHeartbeats 1000000 in
theorem Arena_New_yes (w : World) (slot : Nat) (h2 : 2 ≤ slot) (h3 : slot ≤ 4096) :
    Calls Tryz.prog 47 #[.int .i64 (slot : Int)] w fun e w' => ∃ x m, e = .returned (.tuple #[.pointer (some ⟨x, 0, none⟩), .int .i64 0]) ∧ ArenaAt w' x m none 0 [] (AS.new slot) ∧ Fr none_ w w' ∧ w.heap.size ≤ x ∧ w.heap.size ≤ m := by
  have hc := fun w => Page_New_yes w slot h2 h3
  unfold ptr err at hc
  have HC := Lib.hid hc
  clear hc
  have hmm := @run_makeMap Tryz.prog
  have hbd := fun m w => build_arena (slot : Int) m w
  go_enter Tryz.func47, Tryz.ntmps47
  go_wp2_with (go_at_call 79; refine (HC.out _).mono ?_; rintro e w1 ⟨p, m, rfl, hp, f1, hpb, hmb⟩)
  go_ret2
  have hr := Row.new2 w1 (.map #[] 0) #[.int .i64 (slot : Int), .slice none 0 0, .map (some w1.heap.size), .int .i64 0, .int .i64 0] 128
  have hf : Fr none_ w1 ((w1.alloc (.map #[] 0)).alloc (.cells #[.int .i64 (slot : Int), .slice none 0 0, .map (some w1.heap.size), .int .i64 0, .int .i64 0] 128)) := ((Fr.refl _ _).alloc_r _).alloc_r _
  have hm : MapAt ((w1.alloc (.map #[] 0)).alloc (.cells #[.int .i64 (slot : Int), .slice none 0 0, .map (some w1.heap.size), .int .i64 0, .int .i64 0] 128)) w1.heap.size place gen32 [] :=
    (MapAt.new w1 _ _).kept (Fr.alloc none_ _ _) (fun x => x)
  have hs1 := f1.size
  refine ⟨w1.heap.size + 1, w1.heap.size, rfl, ⟨hr, SlAt.empty _ _ _, rfl, ?_, hm, by omega, fun k hk => absurd hk (blk_none k), ?_, ?_⟩, f1.trans hf, by omega, by omega⟩
  · intro i p q hp; simp at hp
  · intro i p hp; simp at hp
  · intro i j p q hp; simp at hp
end Go.Proofs.YtckkccnebjacdaaGreat
