/-
  The closure of PageCopies: steps that are done to a page, and what is told.
-/
import Derived.Test.YtekojokdeimgpaaPgOps
namespace Go.Proofs.Ytekojokdeimgpaa
open Go.RowKit
set_option linter.unusedVariables false
set_option linter.unusedSimpArgs false
set_option maxRecDepth 100000

def tail2 (q : Nat) : ByteArray := strOf [0, UInt8.ofNat q]
def stepAll (slot : Nat) (s : PS) (x : StepV) : ByteArray × PS :=
  if x.kind = 0 then (strOf [UInt8.ofNat ((allocR s).1 / 256), UInt8.ofNat (allocR s).1] ++ tail2 (allocR s).2.1, (allocR s).2.2)
  else if x.kind = 1 then (ByteArray.empty ++ tail2 (freeR s (x.offset slot)).1, (freeR s (x.offset slot)).2)
  else if x.kind = 2 then (ByteArray.empty ++ tail2 (writeR s (x.offset slot) x.s).1, (writeR s (x.offset slot) x.s).2)
  else (strOf (readR s (x.offset slot)).1 ++ tail2 (readR s (x.offset slot)).2, s)
def stepAll' (slot : Nat) (st : List ByteArray × PS) (x : StepV) : List ByteArray × PS := (st.1 ++ [(stepAll slot st.2 x).1], (stepAll slot st.2 x).2)
def allTo (slot : Nat) (s : PS) (l : List StepV) (k : Nat) : List ByteArray × PS := (l.take k).foldl (stepAll' slot) ([], s)
theorem allTo_succ (slot : Nat) (s : PS) (l : List StepV) (k : Nat) (x : StepV) (h : l[k]? = some x) : allTo slot s l (k + 1) = stepAll' slot (allTo slot s l k) x := by
  unfold allTo; rw [take_succ_get l k x h, List.foldl_append]; rfl

structure AllInv (slot k : Nat) (st : List ByteArray × PS) : Prop where
  wf : st.2.WF
  slot : st.2.slot = slot
  len : st.1.length = k
theorem stepAll_wf {slot : Nat} {s : PS} (h : s.WF) (hs : s.slot = slot) (x : StepV) : (stepAll slot s x).2.WF ∧ (stepAll slot s x).2.slot = slot := by
  unfold stepAll
  split
  · exact ⟨(allocR_wf h).1, (allocR_slot s).trans hs⟩
  · split
    · exact ⟨(freeR_wf h _).1, (freeR_slot s _).trans hs⟩
    · split
      · exact ⟨(writeR_wf h _ _).1, (writeR_slot s _ _).trans hs⟩
      · exact ⟨h, hs⟩
theorem AllInv.run {slot : Nat} {s : PS} (h : s.WF) (hs : s.slot = slot) (l : List StepV) : ∀ k, k ≤ l.length → AllInv slot k (allTo slot s l k) := by
  intro k
  induction k with
  | zero => intro _; exact ⟨h, hs, rfl⟩
  | succ k ih =>
    intro hk
    obtain ⟨q1, q2, q3⟩ := ih (by omega)
    rw [allTo_succ slot s l k _ (List.getElem?_eq_getElem (by omega))]
    obtain ⟨r1, r2⟩ := stepAll_wf q1 q2 (l[k]'(by omega))
    exact ⟨r1, r2, by simp [stepAll', q3]⟩

theorem StepsAt.blk_lt {w : World} {a : Option Addr} {l : List StepV} (h : StepsAt w a l) (hn : l ≠ []) : ∀ k, blk a k → k < w.heap.size := by
  rcases h.at_ with h0 | ⟨b, o, rfl, hb, _⟩
  · exact absurd h0 hn
  · intro k hk
    obtain ⟨_, h, e⟩ := hk
    cases h; subst e; exact hb

/-- The loop's world. -/
structure AllRel (w0 : World) (p m : Nat) (st : List ByteArray × PS) (a : Option Addr) (n cap : Nat) (wr : World) : Prop where
  page : PageIs wr p m st.2
  sl : SlAt wr a n cap 9 1 (st.1.map Value.string)
  fr : Fr (two p m) w0 wr
  own : ∀ i, blk a i → w0.heap.size ≤ i
theorem AllRel.to {w0 wr w1 : World} {p m : Nat} {st : List ByteArray × PS} {a : Option Addr} {n cap : Nat} (h : AllRel w0 p m st a n cap wr) (hlt : p < w0.heap.size ∧ m < w0.heap.size) {s' : PS} (hp : PageIs w1 p m s') (f : Fr (two p m) wr w1) : AllRel w0 p m (st.1, s') a n cap w1 :=
  ⟨hp, h.sl.kept f (fun j hj e => by have := h.own j hj; rcases e with rfl | rfl <;> omega), h.fr.trans f, h.own⟩
theorem AllRel.push {w0 w1 wa w2 : World} {p m : Nat} {st : List ByteArray × PS} {a a2 : Option Addr} {n cap cap2 : Nat} {x : ByteArray} (h : AllRel w0 p m st a n cap w1) (hlt : p < w0.heap.size ∧ m < w0.heap.size) (fa : Fr none_ w1 wa)
    (hs : SlAt w2 a2 (n + 1) cap2 9 1 (st.1.map Value.string ++ [.string x])) (f : Fr (blk a) wa w2) (hb : ∀ i, blk a2 i → blk a i ∨ wa.heap.size ≤ i) : AllRel w0 p m (st.1 ++ [x], st.2) a2 (n + 1) cap2 w2 := by
  have fr : Fr (blk a) w1 w2 := fa.none.trans f
  have hsz := fa.size
  have hz := h.fr.size
  refine ⟨h.page.kept fr (fun q => by have := h.own p q; omega) (fun q => by have := h.own m q; omega), by simpa using hs,
    h.fr.step fr (fun i hi q => by have := h.own i q; omega), fun i hi => ?_⟩
  rcases hb i hi with q | q
  · exact h.own i q
  · omega

theorem Row.new2 (w : World) (o : Obj) (cs : Array Value) (t : TypeId) : Row ((w.alloc o).alloc (.cells cs t)) (w.heap.size + 1) cs t := by
  have h := Row.new (w.alloc o) cs t
  have e : (w.alloc o).heap.size = w.heap.size + 1 := by simp
  rwa [e] at h
theorem Row.new3 (w : World) (o o2 : Obj) (cs : Array Value) (t : TypeId) : Row (((w.alloc o).alloc o2).alloc (.cells cs t)) (w.heap.size + 1 + 1) cs t := by
  have h := Row.new2 (w.alloc o) o2 cs t
  have e : (w.alloc o).heap.size = w.heap.size + 1 := by simp
  rwa [e] at h
theorem hilo_at (r : Nat) (hr : r < 65536) : ∀ i, i < 2 → (#[.int .u8 ((r : Int) / 256), .int .u8 ((r : Int) % 256)] : Array Value)[0 + i]? = some (byteV (([UInt8.ofNat (r / 256), UInt8.ofNat r] : List UInt8).getD i 0)) := by
  intro i hi
  rcases (by omega : i = 0 ∨ i = 1) with rfl | rfl
  · have e : byteV (UInt8.ofNat (r / 256)) = .int .u8 ((r : Int) / 256) := by
      unfold byteV
      rw [UInt8.toNat_ofNat', Nat.mod_eq_of_lt (by omega)]; rfl
    simp [e]
  · have e : byteV (UInt8.ofNat r) = .int .u8 ((r : Int) % 256) := by
      unfold byteV
      rw [UInt8.toNat_ofNat']; rfl
    simp [e]
theorem zq_at (q : Nat) (hq : q < 256) : ∀ i, i < 2 → (#[.int .u8 0, .int .u8 (q : Int)] : Array Value)[0 + i]? = some (byteV (([0, UInt8.ofNat q] : List UInt8).getD i 0)) := by
  intro i hi
  rcases (by omega : i = 0 ∨ i = 1) with rfl | rfl
  · rfl
  · have e : byteV (UInt8.ofNat q) = .int .u8 (q : Int) := by
      unfold byteV
      rw [UInt8.toNat_ofNat', Nat.mod_eq_of_lt hq]
    simp [e]
theorem tail2_size (q : Nat) : (tail2 q).size = 2 := by unfold tail2; rw [strOf_size]; rfl

set_option maxHeartbeats 4000000 in
theorem all_calls (w : World) (slot : Nat) (h3 : slot ≤ 4096) (la : Option Addr) (lc : Nat) (l : List StepV) (hl : StepsAt w la l) (hn : l.length ≤ 2000) (p m : Nat) (s : PS) (hp : PageIs w p m s) (hwf : s.WF) (hsl : s.slot = slot) (hla : l ≠ [] → ∀ k, blk la k → ¬ two p m k) (bm bs : Nat)
    (cm : w.cell? ⟨bm, 0, none⟩ = some (.slice la l.length lc)) (cs : w.cell? ⟨bs, 0, none⟩ = some (.int .i64 (slot : Int))) (hbm : ¬ two p m bm) (hbs : ¬ two p m bs) :
    Calls Try.prog 22 #[.pointer (some ⟨p, 0, none⟩), .pointer (some ⟨bm, 0, none⟩), .pointer (some ⟨bs, 0, none⟩)] w fun e w' => ∃ a cap, e = .returned (.slice a l.length cap) ∧ AllRel w p m (allTo slot s l l.length) a l.length cap w' := by
  have hlt := hp.lt
  have hlt' : p < w.heap.size ∧ m < w.heap.size := ⟨hlt.1, hlt.2.1⟩
  have hr0 : AllRel w p m (allTo slot s l 0) none 0 0 w := ⟨hp, SlAt.empty _ _ _, Fr.refl _ _, fun j hj => absurd hj (blk_none j)⟩
  have hinv := AllInv.run hwf hsl l
  have Hinv := Lib.hid hinv
  have Hlt := Lib.hid hlt'
  have Hl := Lib.hid hl
  have Hla := Lib.hid hla
  have Hcm := Lib.hid cm
  have Hcs := Lib.hid cs
  clear hinv hlt' hp hl hla hlt
  go_enter Try.func22, Try.ntmps22
  go_wp2
  clear cm cs
  go_loopw [5, 6] (fun u i wr => ∃ (k cap : Nat) (a : Option Addr), Hid (k ≤ l.length) ∧ i = .int .i64 k ∧ u = .slice a k cap ∧ AllRel w p m (allTo slot s l k) a k cap wr) (fun _ i _ => l.length - (intOf i).toNat)
  case atStart => exact ⟨0, 0, none, Nat.zero_le _, rfl, rfl, hr0⟩
  case round =>
    obtain ⟨k, cap, a, hk, rfl, rfl, hr⟩ := hrel
    clear hr0
    have cm := Fr.keepF hr.fr hbm Hcm.out
    have cs := Fr.keepF hr.fr hbs Hcs.out
    by_cases hlt : k < l.length
    · obtain ⟨x, hx⟩ : ∃ x, l[k]? = some x := ⟨l[k], List.getElem?_eq_getElem hlt⟩
      have hxo := Hl.out.ok x (List.mem_of_getElem? hx)
      have hsucc := allTo_succ slot s l k x hx
      obtain ⟨i1, i2, i3⟩ := Hinv.out k (by omega)
      generalize allTo slot s l k = st at hr hsucc i1 i2 i3
      rcases Hl.out.at_ with h0 | ⟨b, o, rfl, hb, hc⟩
      · rw [h0] at hlt; exact absurd hlt (by simp)
      obtain ⟨c0, c1, c2, c3⟩ := hc k x hx
      have hbt : ¬ two p m b := Hla.out (fun e => by rw [e] at hlt; exact absurd hlt (by simp)) b ⟨_, rfl, rfl⟩
      have d0 := Fr.keepF hr.fr hbt c0
      have d1 := Fr.keepF hr.fr hbt c1
      have d2 := Fr.keepF hr.fr hbt c2
      have d3 := Fr.keepF hr.fr hbt c3
      have hoff := fun w => off_any w x hxo slot h3 (.int .u8 x.kind) (.string x.s)
      unfold v16 at hoff
      have hxk := hxo.kind
      have hxs := hxo.s
      have Hsucc := Lib.hid hsucc
      have HI := Lib.hid (And.intro i1 (And.intro i2 i3))
      have Hoff := Lib.hid hoff
      have hof : ∃ of, of = x.offset slot := ⟨_, rfl⟩
      obtain ⟨of, hof⟩ := hof
      rw [← hof] at hoff
      have Hoff := Lib.hid hoff
      have Hof := Lib.hid hof
      clear c0 c1 c2 c3 hc hx hsucc i1 i2 i3 hoff hof hxo
      have fS : Fr none_ wr wr := Fr.refl _ _
      go_wp2_with fail
      go_region_held3 (fun w' => Fr none_ wr w' ∧ w'.cell? ⟨bm, 0, none⟩ = some (.slice (some ⟨b, o, none⟩) l.length lc) ∧ w'.cell? ⟨bs, 0, none⟩ = some (.int .i64 (slot : Int)) ∧ w'.cell? ⟨b, o + k * 4, none⟩ = some (.int .u8 (x.kind : Int)) ∧ w'.cell? ⟨b, o + k * 4 + 1, none⟩ = some (.int .u16 (x.slot : Int)) ∧ w'.cell? ⟨b, o + k * 4 + 2, none⟩ = some (.int .u16 (x.off : Int)) ∧ w'.cell? ⟨b, o + k * 4 + 3, none⟩ = some (.string x.s))
        (first | (go_split_ands; refine ⟨?_, ?_, ?_, ?_, ?_, ?_, ?_⟩; exact Fr.trans (by assumption) f5; all_goals exact Fr.keep f5 (by assumption)) | (go_split_ands; refine ⟨?_, ?_, ?_, ?_, ?_, ?_, ?_⟩; exact Fr.trans (by assumption) (Fr.drew _ _); all_goals assumption) | go_keep)
        (first | (go_at_call 13; refine (Hoff.out _).mono ?_; rintro e w5 ⟨rfl, f5⟩))
      rename_i hh
      obtain ⟨hF, e1, e2, e3, e4, e5, e6⟩ := hh
      clear d0 d1 d2 d3 cm cs e2 fS
      have hr5 := hr.to Hlt.out (hr.page.kept hF (fun e => e) (fun e => e)) hF.none
      by_cases k0 : x.kind = 0
      · rw [k0] at e3
        have hal := alloc_any hr5.page
        have hwr := allocR_wf HI.out.1
        have hst : stepAll slot st.2 x = (strOf [UInt8.ofNat ((allocR st.2).1 / 256), UInt8.ofNat (allocR st.2).1] ++ tail2 (allocR st.2).2.1, (allocR st.2).2.2) := by unfold stepAll; rw [if_pos k0]
        have Hst := Lib.hid hst
        have Hk := Lib.hid k0
        have hrb := hwr.2.1
        have hqb := hwr.2.2
        simp only at hal
        generalize hR : allocR st.2 = R at hal hrb hqb
        obtain ⟨r, q, s'⟩ := R
        have HR := Lib.hid hR
        simp only at hal hrb hqb
        clear hwr hst k0 hR e4 e5 e6
        go_wp2_with (first
          | (go_at_call 14; refine hal.mono ?_; rintro e w6 ⟨rfl, hp6, f6⟩; have hr6 := hr5.to Hlt.out hp6 f6)
          | ((with_reducible refine at_slot 49 ?_); refine wpString rfl _ _ _ 5 rfl (Row.new _ #[.int .u8 ((r : Int) / 256), .int .u8 ((r : Int) % 256)] 5) Try.underlying43 Try.underlying5 Try.underlying9 0 2 2 rfl [UInt8.ofNat (r / 256), UInt8.ofNat r] rfl (hilo_at r hrb) ?_)
          | ((with_reducible refine at_slot 70 ?_); refine wpString rfl _ _ _ 5 rfl (Row.new2 _ _ #[.int .u8 0, .int .u8 (q : Int)] 5) Try.underlying43 Try.underlying5 Try.underlying9 0 2 2 rfl [0, UInt8.ofNat q] rfl (zq_at q hqb) ?_)
          | ((with_reducible refine at_slot 71 ?_); refine wpAddStr rfl _ _ _ _ rfl (strOf [UInt8.ofNat (r / 256), UInt8.ofNat r]) (tail2 q) rfl rfl (by rw [strOf_size, tail2_size]; simp) _ rfl ?_)
          | (at_builtin; refine wpAppend rfl _ _ _ rfl 9 (.string ByteArray.empty) 1 16 Try.underlying32 string_info rfl (hr6.sl.kept0 (((Fr.alloc none_ _ _).alloc_r _).alloc_r _)) rfl ⟨w6.heap.size + 1 + 1, 0, none⟩ 1 1 [.string (strOf [UInt8.ofNat (r / 256), UInt8.ofNat r] ++ tail2 q)] rfl rfl (str_cells _ _ _ ((Row.new3 w6 _ _ #[.string (strOf [UInt8.ofNat (r / 256), UInt8.ofNat r] ++ tail2 q)] 9).cell 0)) (by simp [Value.oneCell']) (by omega) (by simp [maxLen]; omega) (by omega) ?_; intro a2 cap2 w9 hs9 f9 hb9))
        go_roundw
        case rel =>
          refine ⟨k + 1, cap2, a2, hlt, by go_num, rfl, ?_⟩
          rw [Hsucc.out]
          unfold stepAll'
          rw [Hst.out, HR.out]
          exact hr6.push Hlt.out (((Fr.alloc none_ _ _).alloc_r _).alloc_r _) hs9 f9 hb9
        case measure => simp [intOf]; omega
      by_cases k1 : x.kind = 1
      · rw [k1] at e3
        have hal := free_any hr5.page of
        have hwr := freeR_wf HI.out.1 of
        have hst : stepAll slot st.2 x = (ByteArray.empty ++ tail2 (freeR st.2 of).1, (freeR st.2 of).2) := by unfold stepAll; rw [if_neg k0, if_pos k1, ← Hof.out]
        have Hst := Lib.hid hst
        have Hk := Lib.hid k1
        have hqb := hwr.2
        simp only at hal
        generalize hR : freeR st.2 of = R at hal hqb
        obtain ⟨q, s'⟩ := R
        have HR := Lib.hid hR
        simp only at hal hqb
        clear hwr hst k0 k1 hR e4 e5 e6
        go_wp2_with (first
          | (go_at_call 15; refine hal.mono ?_; rintro e w6 ⟨rfl, hp6, f6⟩; have hr6 := hr5.to Hlt.out hp6 f6)
          | ((with_reducible refine at_slot 70 ?_); refine wpString rfl _ _ _ 5 rfl (Row.new _ #[.int .u8 0, .int .u8 (q : Int)] 5) Try.underlying43 Try.underlying5 Try.underlying9 0 2 2 rfl [0, UInt8.ofNat q] rfl (zq_at q hqb) ?_)
          | ((with_reducible refine at_slot 71 ?_); refine wpAddStr rfl _ _ _ _ rfl ByteArray.empty (tail2 q) rfl rfl (by rw [tail2_size]; simp) _ rfl ?_)
          | (at_builtin; refine wpAppend rfl _ _ _ rfl 9 (.string ByteArray.empty) 1 16 Try.underlying32 string_info rfl (hr6.sl.kept0 ((Fr.alloc none_ _ _).alloc_r _)) rfl _ 1 1 [.string (ByteArray.empty ++ tail2 q)] rfl rfl (str_cells _ _ _ (by simp)) (by simp [Value.oneCell']) (by omega) (by simp [maxLen]; omega) (by omega) ?_; intro a2 cap2 w9 hs9 f9 hb9))
        go_roundw
        case rel =>
          refine ⟨k + 1, cap2, a2, hlt, by go_num, rfl, ?_⟩
          rw [Hsucc.out]
          unfold stepAll'
          rw [Hst.out, HR.out]
          exact hr6.push Hlt.out ((Fr.alloc none_ _ _).alloc_r _) hs9 f9 hb9
        case measure => simp [intOf]; omega
      by_cases k2 : x.kind = 2
      · rw [k2] at e3
        have hal := write_any hr5.page of x.s
        have hwr := writeR_wf HI.out.1 of x.s
        have hst : stepAll slot st.2 x = (ByteArray.empty ++ tail2 (writeR st.2 of x.s).1, (writeR st.2 of x.s).2) := by unfold stepAll; rw [if_neg k0, if_neg k1, if_pos k2, ← Hof.out]
        have Hst := Lib.hid hst
        have Hk := Lib.hid k2
        have hqb := hwr.2
        simp only at hal
        generalize hR : writeR st.2 of x.s = R at hal hqb
        obtain ⟨q, s'⟩ := R
        have HR := Lib.hid hR
        simp only at hal hqb
        clear hwr hst k0 k1 k2 hR e4 e5
        go_wp2_with (first
          | (go_at_call 16; refine hal.mono ?_; rintro e w6 ⟨rfl, hp6, f6⟩; have hr6 := hr5.to Hlt.out hp6 f6)
          | ((with_reducible refine at_slot 70 ?_); refine wpString rfl _ _ _ 5 rfl (Row.new _ #[.int .u8 0, .int .u8 (q : Int)] 5) Try.underlying43 Try.underlying5 Try.underlying9 0 2 2 rfl [0, UInt8.ofNat q] rfl (zq_at q hqb) ?_)
          | ((with_reducible refine at_slot 71 ?_); refine wpAddStr rfl _ _ _ _ rfl ByteArray.empty (tail2 q) rfl rfl (by rw [tail2_size]; simp) _ rfl ?_)
          | (at_builtin; refine wpAppend rfl _ _ _ rfl 9 (.string ByteArray.empty) 1 16 Try.underlying32 string_info rfl (hr6.sl.kept0 ((Fr.alloc none_ _ _).alloc_r _)) rfl _ 1 1 [.string (ByteArray.empty ++ tail2 q)] rfl rfl (str_cells _ _ _ (by simp)) (by simp [Value.oneCell']) (by omega) (by simp [maxLen]; omega) (by omega) ?_; intro a2 cap2 w9 hs9 f9 hb9))
        go_roundw
        case rel =>
          refine ⟨k + 1, cap2, a2, hlt, by go_num, rfl, ?_⟩
          rw [Hsucc.out]
          unfold stepAll'
          rw [Hst.out, HR.out]
          exact hr6.push Hlt.out ((Fr.alloc none_ _ _).alloc_r _) hs9 f9 hb9
        case measure => simp [intOf]; omega
      · have hal := read_any hr5.page of
        have hqb := readR_b st.2 of
        have hlb := readR_len HI.out.1 of
        rw [HI.out.2.1] at hlb
        have hst : stepAll slot st.2 x = (strOf (readR st.2 of).1 ++ tail2 (readR st.2 of).2, st.2) := by unfold stepAll; rw [if_neg k0, if_neg k1, if_neg k2, ← Hof.out]
        have Hst := Lib.hid hst
        have b0 : ((x.kind : Int) == 0) = false := beq_eq_false_iff_ne.2 (by omega)
        have b1 : ((x.kind : Int) == 1) = false := beq_eq_false_iff_ne.2 (by omega)
        have b2 : ((x.kind : Int) == 2) = false := beq_eq_false_iff_ne.2 (by omega)
        simp only at hal
        generalize hR : readR st.2 of = R at hal hqb hlb
        obtain ⟨bs, q⟩ := R
        have HR := Lib.hid hR
        simp only at hal hqb hlb
        clear hst k0 k1 k2 hR e4 e5 e6
        go_wp2_with (first
          | (go_at_call 12; refine hal.mono ?_; rintro e w6 ⟨rfl, f6⟩; have hr6 := hr5.to Hlt.out (hr5.page.kept f6 (fun e => e) (fun e => e)) f6.none)
          | ((with_reducible refine at_slot 70 ?_); refine wpString rfl _ _ _ 5 rfl (Row.new _ #[.int .u8 0, .int .u8 (q : Int)] 5) Try.underlying43 Try.underlying5 Try.underlying9 0 2 2 rfl [0, UInt8.ofNat q] rfl (zq_at q hqb) ?_)
          | ((with_reducible refine at_slot 71 ?_); refine wpAddStr rfl _ _ _ _ rfl (strOf bs) (tail2 q) rfl rfl (by rw [strOf_size, tail2_size]; omega) _ rfl ?_)
          | (at_builtin; refine wpAppend rfl _ _ _ rfl 9 (.string ByteArray.empty) 1 16 Try.underlying32 string_info rfl (hr6.sl.kept0 ((Fr.alloc none_ _ _).alloc_r _)) rfl _ 1 1 [.string (strOf bs ++ tail2 q)] rfl rfl (str_cells _ _ _ (by simp)) (by simp [Value.oneCell']) (by omega) (by simp [maxLen]; omega) (by omega) ?_; intro a2 cap2 w9 hs9 f9 hb9))
        go_roundw
        case rel =>
          refine ⟨k + 1, cap2, a2, hlt, by go_num, rfl, ?_⟩
          rw [Hsucc.out]
          unfold stepAll'
          rw [Hst.out, HR.out]
          exact hr6.push Hlt.out ((Fr.alloc none_ _ _).alloc_r _) hs9 f9 hb9
        case measure => simp [intOf]; omega
    · go_wp2
      go_ret
      have e : k = l.length := by have := hk.out; omega
      subst e
      exact ⟨a, cap, rfl, hr⟩
end Go.Proofs.Ytekojokdeimgpaa
