/-
  The statements' 'run' of layer 3: a page to which steps were done, and the offsets that are used.
-/
import Derived.Test.YtdbnopfpopeefaaPgAwake
import Derived.Deep.RegionHeld3
namespace Go.Proofs.Ytdbnopfpopeefaa
open Go.RowKit
set_option linter.unusedVariables false
set_option linter.unusedSimpArgs false
set_option maxRecDepth 100000

def stepRun (slot : Nat) (st : PS × List Nat) (x : StepV) : PS × List Nat :=
  if x.kind = 0 then
    match st.1.alloc with
    | some (k, s') => (s', st.2 ++ [k * slot])
    | none => st
  else if x.kind = 1 then
    if (st.1.at_ (x.offset slot)).isSome then (st.1.free (x.offset slot / slot), st.2.filter (fun o => decide (o ≠ x.offset slot))) else st
  else if x.kind = 2 then
    if (st.1.at_ (x.offset slot)).isSome ∧ x.s.size ≤ slot then (st.1.write (x.offset slot / slot) x.s, st.2) else st
  else st
def runTo (slot : Nat) (l : List StepV) (k : Nat) : PS × List Nat := (l.take k).foldl (stepRun slot) (PS.new slot, [])
theorem runTo_succ (slot : Nat) (l : List StepV) (k : Nat) (x : StepV) (h : l[k]? = some x) : runTo slot l (k + 1) = stepRun slot (runTo slot l k) x := by
  unfold runTo; rw [take_succ_get l k x h, List.foldl_append]; rfl
theorem runTo_all (slot : Nat) (l : List StepV) (k : Nat) (h : l.length ≤ k) : runTo slot l k = l.foldl (stepRun slot) (PS.new slot, []) := by
  unfold runTo; rw [List.take_of_length_le h]
theorem alloc_slot {s s' : PS} {k : Nat} (h : s.alloc = some (k, s')) : s'.slot = s.slot := by
  unfold PS.alloc at h
  split at h
  · simp only [Option.some.injEq, Prod.mk.injEq] at h; rw [← h.2]
  · split at h
    · simp only [Option.some.injEq, Prod.mk.injEq] at h; rw [← h.2]
    · simp at h
theorem stepRun_slot (slot : Nat) (st : PS × List Nat) (x : StepV) : (stepRun slot st x).1.slot = st.1.slot := by
  unfold stepRun
  split
  · split
    · rename_i h; exact alloc_slot h
    · rfl
  · split
    · split <;> rfl
    · split
      · split <;> rfl
      · rfl
theorem runTo_slot (slot : Nat) (l : List StepV) (k : Nat) : (runTo slot l k).1.slot = slot := by
  unfold runTo
  have : ∀ (l : List StepV) (st : PS × List Nat), (l.foldl (stepRun slot) st).1.slot = st.1.slot := by
    intro l
    induction l with
    | nil => intro st; rfl
    | cons x r ih => intro st; rw [List.foldl_cons, ih, stepRun_slot]
  exact this _ _

theorem u16_info : (Try.prog.info? 23).map (fun i => (i.zero, i.size, i.bytes)) = some (some (.int .u16 0), 1, 2) := by kernel_rfl

/-- What holds of the page and of the list after some steps. -/
structure RunRel (w0 : World) (p m : Nat) (st : PS × List Nat) (k : Nat) (a : Option Addr) (n cap : Nat) (wr : World) : Prop where
  page : PageIs wr p m st.1
  sl : SlAt wr a n cap 23 1 (st.2.map v16)
  len : n = st.2.length
  le : n ≤ k
  fr : Fr none_ w0 wr
  own : ∀ j, blk a j → w0.heap.size ≤ j ∧ j ≠ p ∧ j ≠ m
  pb : w0.heap.size ≤ p ∧ w0.heap.size ≤ m

theorem RunRel.page_step {w0 wr w1 : World} {p m : Nat} {st : PS × List Nat} {k : Nat} {a : Option Addr} {n cap : Nat} (h : RunRel w0 p m st k a n cap wr) {s' : PS} (hp : PageIs w1 p m s') (f : Fr (two p m) wr w1) : RunRel w0 p m (s', st.2) (k + 1) a n cap w1 :=
  ⟨hp, h.sl.kept f (fun j hj e => by rcases e with e | e; exact (h.own j hj).2.1 e; exact (h.own j hj).2.2 e), h.len, by have := h.le; omega,
    h.fr.step f (fun i hi e => by have := h.pb; rcases e with rfl | rfl <;> omega), h.own, h.pb⟩

/-- An offset more in the list. -/
theorem RunRel.push {w0 w1 wa w2 : World} {p m : Nat} {st : PS × List Nat} {k : Nat} {a a2 : Option Addr} {n cap cap2 : Nat} (h : RunRel w0 p m st k a n cap w1) (hn : n + 1 ≤ k) {of : Nat} (fa : Fr none_ w1 wa)
    (hs : SlAt w2 a2 (n + 1) cap2 23 1 (st.2.map v16 ++ [v16 of])) (f : Fr (blk a) wa w2) (hb : ∀ j, blk a2 j → blk a j ∨ wa.heap.size ≤ j) : RunRel w0 p m (st.1, st.2 ++ [of]) k a2 (n + 1) cap2 w2 := by
  have hlt := h.page.lt
  have fr : Fr (blk a) w1 w2 := fa.none.trans f
  have hsz := fa.size
  have hz := h.fr.size
  refine ⟨h.page.kept fr (fun e => (h.own p e).2.1 rfl) (fun e => (h.own m e).2.2 rfl), by simpa using hs, by simp [h.len], hn, h.fr.step fr (fun i hi e => by have := (h.own i e).1; omega), fun j hj => ?_, h.pb⟩
  rcases hb j hj with q | q
  · exact h.own j q
  · refine ⟨by omega, ?_, ?_⟩ <;> omega

theorem u16_cells (x : Nat) (w : World) (b : Nat) (hc : w.cell? ⟨b, 0, none⟩ = some (.int .u16 (x : Int))) : ∀ (j : Nat) (u : Value), ([v16 x] : List Value)[j]? = some u → w.cell? ((⟨b, 0, none⟩ : Addr).add j) = some u := by
  intro j u hu
  cases j with
  | zero => simp at hu; subst hu; exact hc
  | succ j => simp at hu

set_option maxHeartbeats 1000000 in
theorem run_no (w : World) (slot : Int) (hs : slot < 2 ∨ 4096 < slot) (v : Value) :
    Calls Try.prog 11 #[.int .i64 slot, v] w fun e w' => e = .returned (.tuple #[.pointer none, .slice none 0 0, .bool false]) ∧ w = w' := by
  have hc := Page_New_no w slot hs
  unfold err at hc
  go_enter Try.func11, Try.ntmps11
  go_wp2_with (go_at_call 17; refine hc.mono ?_; rintro e w' ⟨rfl, rfl⟩)
  go_ret3
  exact ⟨rfl, rfl⟩

/-- The list without an offset, as the inner loop makes it. -/
def without (l : List Nat) (of : Nat) : List Nat := l.filter (fun o => decide (o ≠ of))
theorem without_succ (l : List Nat) (of j x : Nat) (h : l[j]? = some x) : without (l.take (j + 1)) of = if x = of then without (l.take j) of else without (l.take j) of ++ [x] := by
  unfold without
  rw [take_succ_get l j x h, List.filter_append]
  by_cases e : x = of <;> simp [e]
structure RestRel (wf : World) (p m : Nat) (s : PS) (ua : Option Addr) (un uc : Nat) (u : List Nat) (of j : Nat) (a : Option Addr) (n cap : Nat) (wr : World) : Prop where
  page : PageIs wr p m s
  ul : SlAt wr ua un uc 23 1 (u.map v16)
  sl : SlAt wr a n cap 23 1 ((without (u.take j) of).map v16)
  len : n = (without (u.take j) of).length
  le : n ≤ j
  fr : Fr none_ wf wr
  own : ∀ i, blk a i → wf.heap.size ≤ i
theorem RestRel.skip {wf wr w1 : World} {p m : Nat} {s : PS} {ua : Option Addr} {un uc : Nat} {u : List Nat} {of j : Nat} {a : Option Addr} {n cap : Nat} (h : RestRel wf p m s ua un uc u of j a n cap wr) (f : Fr none_ wr w1) : RestRel wf p m s ua un uc u of j a n cap w1 :=
  ⟨h.page.kept f (fun e => e) (fun e => e), h.ul.kept0 f, h.sl.kept0 f, h.len, h.le, h.fr.trans f, h.own⟩
theorem RestRel.same {wf wr : World} {p m : Nat} {s : PS} {ua : Option Addr} {un uc : Nat} {u : List Nat} {of j : Nat} {a : Option Addr} {n cap : Nat} (h : RestRel wf p m s ua un uc u of j a n cap wr) (hx : u[j]? = some of) : RestRel wf p m s ua un uc u of (j + 1) a n cap wr := by
  have e : without (u.take (j + 1)) of = without (u.take j) of := by rw [without_succ u of j of hx, if_pos rfl]
  exact ⟨h.page, h.ul, by rw [e]; exact h.sl, by rw [e]; exact h.len, by have := h.le; omega, h.fr, h.own⟩
theorem RestRel.push {wf w1 wa w2 : World} {p m : Nat} {s : PS} {ua : Option Addr} {un uc : Nat} {u : List Nat} {of j : Nat} {a a2 : Option Addr} {n cap cap2 x : Nat} (h : RestRel wf p m s ua un uc u of j a n cap w1) (hx : u[j]? = some x) (hne : x ≠ of) (hpb : p < wf.heap.size ∧ m < wf.heap.size) (hub : ∀ i, blk ua i → i < wf.heap.size) (fa : Fr none_ w1 wa)
    (hs : SlAt w2 a2 (n + 1) cap2 23 1 ((without (u.take j) of).map v16 ++ [v16 x])) (f : Fr (blk a) wa w2) (hb : ∀ i, blk a2 i → blk a i ∨ wa.heap.size ≤ i) : RestRel wf p m s ua un uc u of (j + 1) a2 (n + 1) cap2 w2 := by
  have fr : Fr (blk a) w1 w2 := fa.none.trans f
  have hsz := fa.size
  have hz := h.fr.size
  have e : without (u.take (j + 1)) of = without (u.take j) of ++ [x] := by rw [without_succ u of j x hx, if_neg hne]
  refine ⟨h.page.kept fr (fun q => by have := h.own p q; omega) (fun q => by have := h.own m q; omega), h.ul.kept fr (fun i hi q => by have := h.own i q; have := hub i hi; omega), by rw [e]; simpa using hs, by rw [e]; simp [h.len], by have := h.le; omega,
    h.fr.step fr (fun i hi q => by have := h.own i q; omega), fun i hi => ?_⟩
  rcases hb i hi with q | q
  · exact h.own i q
  · omega

theorem RunRel.rest {w0 wf wr : World} {p m : Nat} {s : PS} {u : List Nat} {k : Nat} {ua : Option Addr} {un uc of j : Nat} {a : Option Addr} {n cap : Nat} (h : RunRel w0 p m (s, u) k ua un uc wf) (q : RestRel wf p m s ua un uc u of j a n cap wr) (hj : u.length ≤ j) :
    RunRel w0 p m (s, without u of) k a n cap wr := by
  have e : u.take j = u := List.take_of_length_le hj
  have hsl := q.sl
  have hl := q.len
  rw [e] at hsl hl
  have hlt := h.page.lt
  have hz := h.fr.size
  have hle : (without u of).length ≤ u.length := List.length_filter_le _ _
  have h1 := h.len
  have h2 := h.le
  refine ⟨q.page, hsl, hl, ?_, h.fr.trans q.fr, fun i hi => ?_, h.pb⟩
  · show n ≤ k
    simp only at h1; omega
  · have := q.own i hi; refine ⟨by omega, ?_, ?_⟩ <;> omega

def RunPost (w : World) (slot : Nat) (l : List StepV) (e : Ending) (w' : World) : Prop :=
  ∃ p m a n cap, e = .returned (.tuple #[.pointer (some ⟨p, 0, none⟩), .slice a n cap, .bool true]) ∧ RunRel w p m (l.foldl (stepRun slot) (PS.new slot, [])) l.length a n cap w'

def Slot.is (v : Value) (P : Value → Prop) : Prop := P v

set_option maxHeartbeats 4000000 in
theorem run_yes (w : World) (slot : Nat) (h2 : 2 ≤ slot) (h3 : slot ≤ 4096) (la : Option Addr) (lc : Nat) (l : List StepV) (hl : StepsAt w la l) (hn : l.length ≤ 2000) :
    Calls Try.prog 11 #[.int .i64 slot, .slice la l.length lc] w (RunPost w slot l) := by
  have hnew := Page_New_yes w slot h2 h3
  unfold ptr err at hnew
  go_enter Try.func11, Try.ntmps11
  go_wp2_with fail
  refine hnew.mono ?_
  rintro e w0 ⟨p, m, rfl, h0, f0, hp, hm⟩
  go_wp2
  have hr0 : RunRel w p m (runTo slot l 0) 0 none 0 0 w0 := ⟨h0, SlAt.empty _ _ _, rfl, Nat.le_refl _, f0, fun j hj => absurd hj (blk_none j), hp, hm⟩
  clear h0 f0 hp hm
  go_loopw [9, 10] (fun u i wr => ∃ (k n cap : Nat) (a : Option Addr), Hid (k ≤ l.length) ∧ i = .int .i64 k ∧ u = .slice a n cap ∧ RunRel w p m (runTo slot l k) k a n cap wr) (fun _ i _ => l.length - (intOf i).toNat)
  case atStart => exact ⟨0, 0, 0, none, Nat.zero_le _, rfl, rfl, hr0⟩
  case round =>
    obtain ⟨k, n, cap, a, hk, rfl, rfl, hr⟩ := hrel
    clear hr0
    by_cases hlt : k < l.length
    · obtain ⟨x, hx⟩ : ∃ x, l[k]? = some x := ⟨l[k], List.getElem?_eq_getElem hlt⟩
      have hxo := hl.ok x (List.mem_of_getElem? hx)
      have hsucc := runTo_succ slot l k x hx
      have hslot := runTo_slot slot l k
      generalize hS : runTo slot l k = st at hr hsucc hslot
      have hSucc := Lib.hid hsucc
      have HS := Lib.hid hS
      have Hslot := Lib.hid hslot
      have Hlen := Lib.hid hr.len
      have hle := hr.le
      clear hsucc hS hslot
      rcases hl.at_ with h0 | ⟨b, o, rfl, hb, hc⟩
      · rw [h0] at hlt; exact absurd hlt (by simp)
      have hlr := hl.kept hr.fr (fun _ _ e => e)
      obtain ⟨c0, c1, c2, c3⟩ := hc k x hx
      have hbw : b < w.heap.size := hb
      have d0 := (hr.fr.cell (p := ⟨b, o + k * 4, none⟩) hb (fun e => e)).trans c0
      have d1 := (hr.fr.cell (p := ⟨b, o + k * 4 + 1, none⟩) hb (fun e => e)).trans c1
      have d2 := (hr.fr.cell (p := ⟨b, o + k * 4 + 2, none⟩) hb (fun e => e)).trans c2
      have d3 := (hr.fr.cell (p := ⟨b, o + k * 4 + 3, none⟩) hb (fun e => e)).trans c3
      have HC := Lib.hid (And.intro c0 (And.intro c1 (And.intro c2 c3)))
      clear c0 c1 c2 c3 hc
      have Hx := Lib.hid hx
      clear hx
      by_cases k0 : x.kind = 0
      · rw [k0] at d0
        have Hk := Lib.hid k0
        clear k0
        cases ha : st.1.alloc with
        | none =>
          have hal := Page_Alloc_no hr.page ha
          have hst : stepRun slot st x = st := by unfold stepRun; rw [if_pos Hk.out, ha]
          have Hst := Lib.hid hst
          unfold ptr v16 err at hal
          clear ha hst
          go_wp2_with (go_at_call 14; refine hal.mono ?_; rintro e w1 ⟨rfl, rfl⟩)
          go_roundw
          case rel =>
            refine ⟨k + 1, n, cap, a, hlt, by go_num, rfl, ?_⟩
            rw [hSucc.out, Hst.out]
            exact hr.page_step (w1 := wr.drew) hr.page (Fr.drew _ _)
          case measure => simp [intOf]; omega
        | some ks =>
          obtain ⟨ki, s'⟩ := ks
          have hal := Page_Alloc_yes hr.page ha
          rw [Hslot.out] at hal
          have hst : stepRun slot st x = (s', st.2 ++ [ki * slot]) := by unfold stepRun; rw [if_pos Hk.out, ha]
          generalize ki * slot = of at hal hst
          have Hst := Lib.hid hst
          unfold ptr v16 err at hal
          clear ha hst
          go_wp2_with (first
            | (go_at_call 14; refine hal.mono ?_; rintro e w1 ⟨rfl, hp1, f1⟩; have hr1 := hr.page_step hp1 f1)
            | (at_builtin; refine wpAppend rfl _ _ _ rfl 23 (.int .u16 0) 1 2 Try.underlying29 u16_info rfl (hr1.sl.kept0 (Fr.alloc _ _ _)) rfl ⟨w1.heap.size, 0, none⟩ 1 1 [v16 of] rfl rfl (u16_cells _ _ _ (by simp)) (by simp [v16, Value.oneCell']) (by omega) (by simp [maxLen]; omega) (by omega) ?_; intro a2 cap2 w2 hs2 f2 hb2))
          go_roundw
          case rel =>
            refine ⟨k + 1, n + 1, cap2, a2, hlt, by go_num, rfl, ?_⟩
            rw [hSucc.out, Hst.out]
            exact hr1.push (by omega) (Fr.alloc _ _ _) hs2 f2 hb2
          case measure => simp [intOf]; omega
      by_cases k1 : x.kind = 1
      · rw [k1] at d0
        have Hk := Lib.hid k1
        have Hk0 := Lib.hid k0
        clear k0 k1
        have hoff := off_any wr x hxo slot h3 (.int .u8 1) (.string x.s)
        unfold v16 at hoff
        cases hu : st.1.at_ (x.offset slot) with
        | none =>
          have hst : stepRun slot st x = st := by unfold stepRun; rw [if_neg Hk0.out, if_pos Hk.out, hu]; rfl
          have hfr : ∀ w1, Fr none_ wr w1 → Calls Try.prog 15 #[.pointer (some ⟨p, 0, none⟩), .int .u16 (x.offset slot : Int)] w1 fun e w' => e = .returned (.int .i64 5) ∧ Fr none_ w1 w' :=
            fun w1 f => Page_Free_no (hr.page.kept f (fun e => e) (fun e => e)) hu
          have Hfr := Lib.hid hfr
          have Hst := Lib.hid hst
          clear hu hst hfr
          generalize x.offset slot = of at hoff Hfr
          go_wp2_with (first
            | (go_at_call 13; refine hoff.mono ?_; rintro e w1 ⟨rfl, f1⟩)
            | (go_at_call 15; refine (Hfr.out _ f1).mono ?_; rintro e w2 ⟨rfl, f2⟩))
          go_roundw
          case rel =>
            refine ⟨k + 1, n, cap, a, hlt, by go_num, rfl, ?_⟩
            rw [hSucc.out, Hst.out]
            have f := f1.trans f2
            exact hr.page_step (hr.page.kept f (fun e => e) (fun e => e)) f.none
          case measure => simp [intOf]; omega
        | some bs =>
          have hst : stepRun slot st x = (st.1.free (x.offset slot / slot), without st.2 (x.offset slot)) := by unfold stepRun; rw [if_neg Hk0.out, if_pos Hk.out, hu]; rfl
          have hfr : ∀ w1, Fr none_ wr w1 → Calls Try.prog 15 #[.pointer (some ⟨p, 0, none⟩), .int .u16 (x.offset slot : Int)] w1 fun e w' => e = .returned (.int .i64 0) ∧ PageIs w' p m (st.1.free (x.offset slot / slot)) ∧ Fr (two p m) w1 w' := by
            intro w1 f
            have := Page_Free_yes (hr.page.kept f (fun e => e) (fun e => e)) hu
            rw [Hslot.out] at this; exact this
          have Hfr := Lib.hid hfr
          have Hst := Lib.hid hst
          have hoffA := fun w => off_any w x hxo slot h3 (.int .u8 1) (.string x.s)
          unfold v16 at hoffA
          clear hu hst hfr
          generalize hof : x.offset slot = of at hoff Hfr Hst hoffA
          have Hof := Lib.hid hof
          clear hof
          have HoffA := Lib.hid hoffA
          clear hoffA
          go_wp2_with (first
            | (go_at_call 13; refine hoff.mono ?_; rintro e w1 ⟨rfl, f1⟩)
            | (go_at_call 15; refine (Hfr.out _ f1).mono ?_; rintro e w2 ⟨rfl, hp2, f2⟩; have hr2 := hr.page_step hp2 (f1.none.trans f2)))
          have hrest0 : RestRel w2 p m (st.1.free (of / slot)) a n cap st.2 of 0 none 0 0 w2 := ⟨hr2.page, hr2.sl, SlAt.empty _ _ _, rfl, Nat.le_refl _, Fr.refl _ _, fun i hi => absurd hi (blk_none i)⟩
          go_loopw [13, 14] (fun u i wi => ∃ (j n2 cap2 : Nat) (a2 : Option Addr), Hid (j ≤ n) ∧ i = .int .i64 j ∧ u = .slice a2 n2 cap2 ∧ RestRel w2 p m (st.1.free (of / slot)) a n cap st.2 of j a2 n2 cap2 wi) (fun _ i _ => n - (intOf i).toNat)
          case atStart => exact ⟨0, 0, 0, none, Nat.zero_le _, rfl, rfl, hrest0⟩
          case round =>
            obtain ⟨j, n2, cap2, a2, hj, rfl, rfl, hq⟩ := hrel
            clear hrest0
            by_cases hjn : j < n
            · obtain ⟨y, hy⟩ : ∃ y, st.2[j]? = some y := ⟨st.2[j]'(by rw [← Hlen.out]; exact hjn), List.getElem?_eq_getElem _⟩
              obtain ⟨g, rfl⟩ := hr.sl.isAddr (by omega)
              have cu := hq.ul.cell (i := j) (v := v16 y) (by rw [List.getElem?_map, hy]; rfl)
              unfold v16 at cu
              have fAll := hr2.fr.trans hq.fr
              have e0 := (fAll.cell (p := ⟨b, o + k * 4, none⟩) hb (fun e => e)).trans HC.out.1
              have e1 := (fAll.cell (p := ⟨b, o + k * 4 + 1, none⟩) hb (fun e => e)).trans HC.out.2.1
              have e2 := (fAll.cell (p := ⟨b, o + k * 4 + 2, none⟩) hb (fun e => e)).trans HC.out.2.2.1
              have e3 := (fAll.cell (p := ⟨b, o + k * 4 + 3, none⟩) hb (fun e => e)).trans HC.out.2.2.2
              rw [Hk.out] at e0
              replace e0 := (show _ = some (Value.int .u8 1) from e0)
              have Hy := Lib.hid hy
              clear hy
              have fS : Fr none_ wr wr := Fr.refl _ _
              go_wp2_with fail
              go_region_held3 (fun w' => Fr none_ wr w' ∧ w'.cell? ⟨g, j, none⟩ = some (.int .u16 (y : Int)) ∧ w'.cell? ⟨b, o + k * 4, none⟩ = some (.int .u8 1) ∧ w'.cell? ⟨b, o + k * 4 + 1, none⟩ = some (.int .u16 (x.slot : Int)) ∧ w'.cell? ⟨b, o + k * 4 + 2, none⟩ = some (.int .u16 (x.off : Int)) ∧ w'.cell? ⟨b, o + k * 4 + 3, none⟩ = some (.string x.s))
                (first | (go_split_ands; refine ⟨?_, ?_, ?_, ?_, ?_, ?_⟩; exact Fr.trans (by assumption) (by assumption); all_goals exact Fr.keep (by assumption) (by assumption)) | (go_split_ands; refine ⟨?_, ?_, ?_, ?_, ?_, ?_⟩; exact Fr.trans (by assumption) (Fr.drew _ _); all_goals assumption) | go_keep)
                (first | (go_at_call 13; refine (HoffA.out _).mono ?_; rintro e w5 ⟨rfl, f5⟩))
              rename_i hh
              have hq5 := hq.skip hh.1
              have hu5 := hh.2.1
              clear hh cu e0 e1 e2 e3
              by_cases hyo : y = of
              · subst hyo
                go_wp2
                go_roundw
                case rel => exact ⟨j + 1, n2, cap2, a2, hjn, by go_num, rfl, hq5.same Hy.out⟩
                case measure => simp [intOf]; omega
              · have hy1 : ((y : Int) != (of : Int)) = true := bne_iff_ne.2 (by omega)
                have hle2 := hq5.le
                go_wp2_with (at_builtin; refine wpAppend rfl _ _ _ rfl 23 (.int .u16 0) 1 2 Try.underlying29 u16_info rfl (hq5.sl.kept0 (Fr.alloc _ _ _)) rfl ⟨w5.heap.size, 0, none⟩ 1 1 [v16 y] rfl rfl (u16_cells _ _ _ (by simp)) (by simp [v16, Value.oneCell']) (by omega) (by simp [maxLen]; omega) (by omega) ?_; intro a3 cap3 w6 hs6 f6 hb6)
                go_roundw
                case rel => exact ⟨j + 1, n2 + 1, cap3, a3, hjn, by go_num, rfl, hq5.push Hy.out hyo ⟨hr2.page.lt.1, hr2.page.lt.2.1⟩ (fun i hi => hr2.sl.lt i hi) (Fr.alloc _ _ _) hs6 f6 hb6⟩
                case measure => simp [intOf]; omega
            · go_wp2
              go_roundw
              case rel =>
                have ej : j = n := by have := hj.out; omega
                refine ⟨k + 1, n2, cap2, a2, hlt, by go_num, rfl, ?_⟩
                rw [hSucc.out, Hst.out]
                exact hr2.rest hq (by rw [ej]; exact Nat.le_of_eq Hlen.out.symm)
              case measure => simp [intOf]; omega
      by_cases k2 : x.kind = 2
      · rw [k2] at d0
        replace d0 := (show _ = some (Value.int .u8 2) from d0)
        have hst2 : (stepRun slot st x).2 = st.2 := by
          unfold stepRun; rw [if_neg k0, if_neg k1, if_pos k2]; split <;> rfl
        have hwr : ∀ w1, Fr none_ wr w1 → Calls Try.prog 16 #[.pointer (some ⟨p, 0, none⟩), .int .u16 (x.offset slot : Int), .string x.s] w1 fun e w' => ∃ r : Int, e = .returned (.int .i64 r) ∧ PageIs w' p m (stepRun slot st x).1 ∧ Fr (one p) w1 w' := by
          intro w1 f
          have hp1 := hr.page.kept f (fun e => e) (fun e => e)
          have hs1 := Hslot.out
          unfold stepRun
          rw [if_neg k0, if_neg k1, if_pos k2]
          cases hu : st.1.at_ (x.offset slot) with
          | none =>
            rw [if_neg (by simp)]
            exact (Page_Write_no hp1 hu x.s).mono fun e w' ⟨he, hf⟩ => ⟨5, he, hp1.kept hf (fun e => e) (fun e => e), hf.none⟩
          | some bs =>
            by_cases hsz : x.s.size ≤ slot
            · rw [if_pos ⟨rfl, hsz⟩]
              have := Page_Write_yes hp1 hu x.s (by rw [hs1]; exact hsz)
              rw [hs1] at this
              exact this.mono fun e w' ⟨he, hp, hf⟩ => ⟨0, he, hp, hf⟩
            · rw [if_neg (fun q => hsz q.2)]
              exact (Page_Write_big hp1 hu x.s (by rw [hs1]; omega)).mono fun e w' ⟨he, hf⟩ => ⟨40, he, hp1.kept hf (fun e => e) (fun e => e), hf.none⟩
        have hoffA := fun w => off_any w x hxo slot h3 (.int .u8 2) (.string x.s)
        unfold v16 at hoffA
        generalize x.offset slot = of at hoffA hwr
        have Hwr := Lib.hid hwr
        have HoffA := Lib.hid hoffA
        have Hst2 := Lib.hid hst2
        have hbp : ¬ one p b := fun e => by unfold one at e; have := hr.pb; omega
        clear hwr hoffA hst2 k0 k1 k2
        have fS : Fr (one p) wr wr := Fr.refl _ _
        go_wp2_with fail
        go_region_held3 (fun w' => Fr (one p) wr w' ∧ w'.cell? ⟨b, o + k * 4, none⟩ = some (.int .u8 2) ∧ w'.cell? ⟨b, o + k * 4 + 1, none⟩ = some (.int .u16 (x.slot : Int)) ∧ w'.cell? ⟨b, o + k * 4 + 2, none⟩ = some (.int .u16 (x.off : Int)) ∧ w'.cell? ⟨b, o + k * 4 + 3, none⟩ = some (.string x.s))
          (first | (go_split_ands; refine ⟨?_, ?_, ?_, ?_, ?_⟩; exact Fr.trans (by assumption) f6; all_goals exact Fr.keepF f6 hbp (by assumption)) | (go_split_ands; refine ⟨?_, ?_, ?_, ?_, ?_⟩; exact Fr.trans (by assumption) f5.none; all_goals exact Fr.keep f5 (by assumption)) | (go_split_ands; refine ⟨?_, ?_, ?_, ?_, ?_⟩; exact Fr.trans (by assumption) (Fr.drew _ _); all_goals assumption) | go_keep)
          (first
            | (go_at_call 13; refine (HoffA.out _).mono ?_; rintro e w5 ⟨rfl, f5⟩)
            | (go_at_call 16; refine (Hwr.out _ ((Fr.drew none_ wr).trans f5)).mono ?_; rintro e w6 ⟨r6, rfl, hp6, f6⟩))
        rename_i hh
        have hF := hh.1
        clear hh
        go_wp2
        go_roundw
        case rel =>
          refine ⟨k + 1, n, cap, a, hlt, by go_num, rfl, ?_⟩
          rw [hSucc.out]
          have hq := hr.page_step hp6 (hF.mono fun i _ e => Or.inl e)
          rw [← Hst2.out] at hq
          exact hq
        case measure => simp [intOf]; omega
      · have hst : stepRun slot st x = st := by unfold stepRun; rw [if_neg k0, if_neg k1, if_neg k2]
        have Hst := Lib.hid hst
        have b0 : ((x.kind : Int) == 0) = false := beq_eq_false_iff_ne.2 (by omega)
        have b1 : ((x.kind : Int) == 1) = false := beq_eq_false_iff_ne.2 (by omega)
        have b2 : ((x.kind : Int) == 2) = false := beq_eq_false_iff_ne.2 (by omega)
        clear hst k0 k1 k2
        go_wp2
        go_roundw
        case rel =>
          refine ⟨k + 1, n, cap, a, hlt, by go_num, rfl, ?_⟩
          rw [hSucc.out, Hst.out]
          exact hr.page_step hr.page (Fr.refl _ _)
        case measure => simp [intOf]; omega
    · have hend : l.foldl (stepRun slot) (PS.new slot, []) = runTo slot l k := (runTo_all slot l k (by omega)).symm
      have Hend := Lib.hid hend
      clear hend
      go_wp2
      go_ret3
      refine ⟨p, m, a, n, cap, rfl, ?_⟩
      rw [Hend.out]
      have e : k = l.length := by have := hk.out; omega
      rw [e] at hr ⊢
      exact hr
end Go.Proofs.Ytdbnopfpopeefaa
