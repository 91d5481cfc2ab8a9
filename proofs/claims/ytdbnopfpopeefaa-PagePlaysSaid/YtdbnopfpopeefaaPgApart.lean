/-
  The walk of PageApart: whatever the steps, it returns true and writes nothing that was there.
-/
import Derived.Test.YtdbnopfpopeefaaPgPure
import Derived.Test.YtdbnopfpopeefaaPgArgs
namespace Go.Proofs.Ytdbnopfpopeefaa
open Go.RowKit
set_option linter.unusedVariables false
set_option linter.unusedSimpArgs false
set_option maxRecDepth 100000

/-- What the slots hold that are told. -/
def conts (s : PS) (u : List Nat) : List ByteArray := u.map fun o => strOf ((s.at_ o).getD [])
theorem conts_length (s : PS) (u : List Nat) : (conts s u).length = u.length := by simp [conts]
theorem string_info : (Try.prog.info? 9).map (fun i => (i.zero, i.size, i.bytes)) = some (some (.string ByteArray.empty), 1, 16) := by kernel_rfl
theorem str_cells (x : ByteArray) (w : World) (b : Nat) (hc : w.cell? ⟨b, 0, none⟩ = some (.string x)) : ∀ (j : Nat) (u : Value), ([Value.string x] : List Value)[j]? = some u → w.cell? ((⟨b, 0, none⟩ : Addr).add j) = some u := by
  intro j u hu
  cases j with
  | zero => simp at hu; subst hu; exact hc
  | succ j => simp at hu

/-- A list of strings that a loop collects, beside a page and a list of offsets. -/
structure Collect (wf : World) (p m : Nat) (s : PS) (ua : Option Addr) (un uc : Nat) (u : List Nat) (L : List ByteArray) (a : Option Addr) (n cap : Nat) (wr : World) : Prop where
  page : PageIs wr p m s
  ul : SlAt wr ua un uc 23 1 (u.map v16)
  sl : SlAt wr a n cap 9 1 (L.map Value.string)
  len : n = L.length
  fr : Fr none_ wf wr
  own : ∀ i, blk a i → wf.heap.size ≤ i
theorem Collect.skip {wf wr w1 : World} {p m : Nat} {s : PS} {ua : Option Addr} {un uc : Nat} {u : List Nat} {L : List ByteArray} {a : Option Addr} {n cap : Nat} (h : Collect wf p m s ua un uc u L a n cap wr) (f : Fr none_ wr w1) : Collect wf p m s ua un uc u L a n cap w1 :=
  ⟨h.page.kept f (fun e => e) (fun e => e), h.ul.kept0 f, h.sl.kept0 f, h.len, h.fr.trans f, h.own⟩
theorem Collect.push {wf w1 wa w2 : World} {p m : Nat} {s : PS} {ua : Option Addr} {un uc : Nat} {u : List Nat} {L : List ByteArray} {a a2 : Option Addr} {n cap cap2 : Nat} {x : ByteArray} (h : Collect wf p m s ua un uc u L a n cap w1) (hpb : p < wf.heap.size ∧ m < wf.heap.size) (hub : ∀ i, blk ua i → i < wf.heap.size) (fa : Fr none_ w1 wa)
    (hs : SlAt w2 a2 (n + 1) cap2 9 1 (L.map Value.string ++ [.string x])) (f : Fr (blk a) wa w2) (hb : ∀ i, blk a2 i → blk a i ∨ wa.heap.size ≤ i) : Collect wf p m s ua un uc u (L ++ [x]) a2 (n + 1) cap2 w2 := by
  have fr : Fr (blk a) w1 w2 := fa.none.trans f
  have hsz := fa.size
  have hz := h.fr.size
  refine ⟨h.page.kept fr (fun q => by have := h.own p q; omega) (fun q => by have := h.own m q; omega), h.ul.kept fr (fun i hi q => by have := h.own i q; have := hub i hi; omega), by simpa using hs, by simp [h.len],
    h.fr.step fr (fun i hi q => by have := h.own i q; omega), fun i hi => ?_⟩
  rcases hb i hi with q | q
  · exact h.own i q
  · omega

theorem notLong {l : List StepV} (h : isLong l = false) : l.length ≤ 2000 := by
  unfold isLong at h
  have := of_decide_eq_false h
  have := longSum_length l
  omega

/-- What one call makes of the other slots. -/
structure OneOp (w : World) (p m : Nat) (s : PS) (kp : Nat → Prop) (w' : World) (s' : PS) : Prop where
  page : PageIs w' p m s'
  fr : Fr (two p m) w w'
  keep : ∀ o, (s.at_ o).isSome = true → kp o → s'.at_ o = s.at_ o
theorem alloc_op {w : World} {p m : Nat} {s : PS} (h : PageIs w p m s) (hw : s.WF) : Calls Try.prog 14 #[.pointer (some ⟨p, 0, none⟩)] w fun e w' => ∃ r q s', e = .returned (.tuple #[.int .u16 r, .int .i64 q]) ∧ OneOp w p m s (fun _ => True) w' s' := by
  cases ha : s.alloc with
  | none => exact (Page_Alloc_no h ha).mono fun e w' ⟨he, hw⟩ => ⟨0, 41, s, he, by subst hw; exact ⟨h, Fr.drew _ _, fun _ _ _ => rfl⟩⟩
  | some ks =>
    obtain ⟨k, s'⟩ := ks
    obtain ⟨_, q2, q3, _⟩ := hw.alloc ha
    refine (Page_Alloc_yes h ha).mono fun e w' ⟨he, hp, hf⟩ => ⟨_, 0, s', he, hp, hf, fun o ho _ => ?_⟩
    rw [q3 o, if_neg]
    intro e; rw [e, q2] at ho; simp at ho
theorem free_op {w : World} {p m : Nat} {s : PS} (h : PageIs w p m s) (hw : s.WF) (off : Nat) : Calls Try.prog 15 #[.pointer (some ⟨p, 0, none⟩), .int .u16 (off : Int)] w fun e w' => ∃ q s', e = .returned (.int .i64 q) ∧ OneOp w p m s (fun o => o ≠ off) w' s' := by
  cases ha : s.at_ off with
  | none => exact (Page_Free_no h ha).mono fun e w' ⟨he, hf⟩ => ⟨5, s, he, h.kept hf (fun e => e) (fun e => e), hf.none, fun _ _ _ => rfl⟩
  | some bs =>
    obtain ⟨e0, hk⟩ := PS.at_some ha
    obtain ⟨_, q2, _⟩ := hw.free hk
    refine (Page_Free_yes h ha).mono fun e w' ⟨he, hp, hf⟩ => ⟨0, _, he, hp, hf, fun o ho hne => ?_⟩
    rw [q2 o, ← e0, if_neg hne]
theorem write_op {w : World} {p m : Nat} {s : PS} (h : PageIs w p m s) (hw : s.WF) (off : Nat) (b : ByteArray) : Calls Try.prog 16 #[.pointer (some ⟨p, 0, none⟩), .int .u16 (off : Int), .string b] w fun e w' => ∃ q s', e = .returned (.int .i64 q) ∧ OneOp w p m s (fun o => o ≠ off) w' s' := by
  cases ha : s.at_ off with
  | none => exact (Page_Write_no h ha b).mono fun e w' ⟨he, hf⟩ => ⟨5, s, he, h.kept hf (fun e => e) (fun e => e), hf.none, fun _ _ _ => rfl⟩
  | some bs =>
    by_cases hb : b.size ≤ s.slot
    · obtain ⟨e0, hk⟩ := PS.at_some ha
      obtain ⟨_, q2, _⟩ := hw.write hk b hb
      refine (Page_Write_yes h ha b hb).mono fun e w' ⟨he, hp, hf⟩ => ⟨0, _, he, hp, hf.mono fun k _ e => Or.inl e, fun o ho hne => ?_⟩
      rw [q2 o, ← e0, if_neg hne]
    · exact (Page_Write_big h ha b (by omega)).mono fun e w' ⟨he, hf⟩ => ⟨40, s, he, h.kept hf (fun e => e) (fun e => e), hf.none, fun _ _ _ => rfl⟩
theorem read_op {w : World} {p m : Nat} {s : PS} (h : PageIs w p m s) (off : Nat) : Calls Try.prog 12 #[.pointer (some ⟨p, 0, none⟩), .int .u16 (off : Int)] w fun e w' => ∃ q, e = .returned (.tuple #[.string (strOf ((s.at_ off).getD [])), .int .i64 q]) ∧ Fr none_ w w' := by
  cases ha : s.at_ off with
  | none => exact (Page_Read_no h ha).mono fun e w' ⟨he, hf⟩ => ⟨5, he, hf⟩
  | some bs => exact (Page_Read_yes h ha).mono fun e w' ⟨he, hf⟩ => ⟨0, he, hf⟩

/-- The second loop's world. -/
structure CompareRel (wf : World) (p m : Nat) (s : PS) (ua : Option Addr) (un uc : Nat) (u : List Nat) (a : Option Addr) (n cap : Nat) (L : List ByteArray) (wr : World) : Prop where
  page : PageIs wr p m s
  ul : SlAt wr ua un uc 23 1 (u.map v16)
  sl : SlAt wr a n cap 9 1 (L.map Value.string)
  fr : Fr none_ wf wr
theorem CompareRel.skip {wf wr w1 : World} {p m : Nat} {s : PS} {ua : Option Addr} {un uc : Nat} {u : List Nat} {a : Option Addr} {n cap : Nat} {L : List ByteArray} (h : CompareRel wf p m s ua un uc u a n cap L wr) (f : Fr none_ wr w1) : CompareRel wf p m s ua un uc u a n cap L w1 :=
  ⟨h.page.kept f (fun e => e) (fun e => e), h.ul.kept0 f, h.sl.kept0 f, h.fr.trans f⟩
theorem Collect.after {wf wr w5 w6 : World} {p m : Nat} {s s6 : PS} {ua : Option Addr} {un uc : Nat} {u : List Nat} {L : List ByteArray} {a : Option Addr} {n cap : Nat} {kp : Nat → Prop} (h : Collect wf p m s ua un uc u L a n cap wr) (hlt : p < wf.heap.size ∧ m < wf.heap.size) (hu : ∀ j, blk ua j → j ≠ p ∧ j ≠ m) (f : Fr none_ wr w5) (o : OneOp w5 p m s kp w6 s6) : CompareRel w6 p m s6 ua un uc u a n cap L w6 :=
  ⟨o.page, (h.ul.kept0 f).kept o.fr (fun j hj e => by rcases e with e | e; exact (hu j hj).1 e; exact (hu j hj).2 e), (h.sl.kept0 f).kept o.fr (fun j hj e => by have := h.own j hj; rcases e with rfl | rfl <;> omega), Fr.refl _ _⟩

set_option maxHeartbeats 4000000 in
theorem walk_PageApart (W : World) (slot : Int) (ws : (Lit.int .i64 slot).wf = true) (a1 : Option Addr) (c1 : Nat) (l1 : List StepV) (h1 : StepsAt W a1 l1) (x2 : StepV) (hx2 : x2.Ok) :
   Calls Try.prog 3 #[.int .i64 slot, .slice a1 l1.length c1, .agg #[.int .u8 x2.kind, .int .u16 x2.slot, .int .u16 x2.off, .string x2.s]] W fun e w' => e = .returned (.bool true) ∧ Fr none_ W w' := by
  have hlong := fun w h => long_any w a1 c1 l1 h
  have Hlong := Lib.hid hlong
  clear hlong
  have fb := Fr.alloc none_ W (.cells #[.int .u8 x2.kind, .int .u16 x2.slot, .int .u16 x2.off, .string x2.s] 25)
  have h1b := h1.kept fb (fun _ _ e => e)
  cases hL : isLong l1 with
  | true =>
    have hlg := Hlong.out _ h1b
    rw [hL] at hlg
    have Hlg := Lib.hid hlg
    have FB := Lib.hid fb
    clear hlg hL h1b fb
    go_enter Try.func3, Try.ntmps3
    go_wp2_with (first
      | (go_at_call 9; refine Hlg.out.mono ?_; rintro e w1 ⟨rfl, rfl⟩)
      | (go_at_call 10; refine (awake_any _).mono ?_; rintro e w2 ⟨rfl, f2⟩))
    go_ret
    exact ⟨rfl, FB.out.trans f2⟩
  | false =>
    have hlg := Hlong.out _ h1b
    rw [hL] at hlg
    have hn := notLong hL
    have Hlg := Lib.hid hlg
    have FB := Lib.hid fb
    have H1b := Lib.hid h1b
    clear hlg hL h1b fb
    by_cases hS : 5000 < x2.s.size
    · have hS' : decide ((5000 : Int) < (x2.s.size : Int)) = true := decide_eq_true (by omega)
      go_enter Try.func3, Try.ntmps3
      go_wp2_with (first
        | (go_at_call 9; refine Hlg.out.mono ?_; rintro e w1 ⟨rfl, rfl⟩)
        | (go_at_call 10; refine (awake_any _).mono ?_; rintro e w2 ⟨rfl, f2⟩))
      go_ret
      exact ⟨rfl, FB.out.trans f2⟩
    · by_cases hs : 2 ≤ slot ∧ slot ≤ 4096
      · obtain ⟨sl, rfl⟩ := Int.eq_ofNat_of_zero_le (show 0 ≤ slot by omega)
        have s2 : 2 ≤ sl := by omega
        have s3 : sl ≤ 4096 := by omega
        have hry := fun w h => run_yes w sl s2 s3 a1 c1 l1 h hn
        obtain ⟨hinv, hisl⟩ := UInv.run s2 s3 l1
        unfold RunPost at hry
        generalize l1.foldl (stepRun sl) (PS.new sl, []) = st at hry hinv hisl
        have Hry := Lib.hid hry
        have Hslot := Lib.hid hisl
        obtain ⟨wb, hwb⟩ : ∃ wb, wb = W.alloc (.cells #[.int .u8 x2.kind, .int .u16 x2.slot, .int .u16 x2.off, .string x2.s] 25) := ⟨_, rfl⟩
        have HB : Hid ((wb.cell? ⟨W.heap.size, 0, none⟩ = some (.int .u8 x2.kind) ∧ wb.cell? ⟨W.heap.size, 1, none⟩ = some (.int .u16 x2.slot)) ∧ (wb.cell? ⟨W.heap.size, 2, none⟩ = some (.int .u16 x2.off) ∧ wb.cell? ⟨W.heap.size, 3, none⟩ = some (.string x2.s)) ∧ wb.heap.size = W.heap.size + 1) := by
          subst hwb
          refine ⟨⟨?_, ?_⟩, ⟨?_, ?_⟩, by simp⟩ <;> simp
        have HWb := Lib.hid hwb
        clear hs ws hry hisl hwb
        go_enter Try.func3, Try.ntmps3
        go_wp2_with (first
          | (go_at_call 9; refine Hlg.out.mono ?_; rintro e w1 ⟨rfl, rfl⟩)
          | (go_at_call 10; refine (awake_any _).mono ?_; rintro e w2 ⟨rfl, f2⟩)
          | (go_at_call 11; refine (Hry.out _ (H1b.out.kept f2 (fun _ _ e => e))).mono ?_; rintro e w3 ⟨p, m, ua, un, uc, rfl, hr⟩))
        rw [← HWb.out] at f2
        have FB2 := FB.out
        rw [← HWb.out] at FB2
        have fb3 := f2.trans hr.fr
        have hlt := hr.page.lt
        have hub := hr.sl.lt
        have HU := Lib.hid hr.len
        have hc0 : Collect w3 p m st.1 ua un uc st.2 (conts st.1 (st.2.take 0)) none 0 0 w3 := ⟨hr.page, hr.sl, SlAt.empty _ _ _, rfl, Fr.refl _ _, fun i hi => absurd hi (blk_none i)⟩
        have hle := hr.le
        have hbx : ¬ two p m W.heap.size := fun e => by have := hr.pb; have := f2.size; have := HB.out.2.2; rcases e with e | e <;> omega
        have hpw : W.heap.size ≤ p ∧ W.heap.size ≤ m := by have := hr.pb; have := f2.size; have := HB.out.2.2; omega
        clear f2 FB Hlg H1b Hry
        go_loopw [10, 11] (fun u i wr => ∃ (k n cap : Nat) (a : Option Addr), Hid (k ≤ un) ∧ i = .int .i64 k ∧ u = .slice a n cap ∧ Hid (n = k) ∧ Collect w3 p m st.1 ua un uc st.2 (conts st.1 (st.2.take k)) a n cap wr) (fun _ i _ => un - (intOf i).toNat)
        case atStart => exact ⟨0, 0, 0, none, Nat.zero_le _, rfl, rfl, rfl, hc0⟩
        case round =>
          obtain ⟨k, n, cap, a, hk, rfl, rfl, hnk, hc⟩ := hrel
          clear hc0
          by_cases hlt1 : k < un
          · obtain ⟨o, ho⟩ : ∃ o, st.2[k]? = some o := ⟨st.2[k]'(by rw [← HU.out]; exact hlt1), List.getElem?_eq_getElem _⟩
            obtain ⟨g, rfl⟩ := hr.sl.isAddr (by omega)
            have cu := hc.ul.cell (i := k) (v := v16 o) (by rw [List.getElem?_map, ho]; rfl)
            unfold v16 at cu
            obtain ⟨bs, hbs⟩ := Option.isSome_iff_exists.1 ((hinv.mem o).1 (List.mem_of_getElem? ho))
            have hbl : bs.length = sl := by
              obtain ⟨_, hk⟩ := PS.at_some hbs
              rw [hinv.wf.len _ _ hk, Hslot.out]
            have hrd := Page_Read_yes hc.page hbs
            unfold ptr v16 err at hrd
            have hsz : (strOf bs).size = sl := by rw [strOf_size, hbl]
            have Hbs := Lib.hid hbs
            have Hoo := Lib.hid ho
            have hle2 : n ≤ 2000 := by have := hnk.out; omega
            generalize hst : strOf bs = sb at hrd hsz
            have Hst := Lib.hid hst
            have hne : ((sb.size : Int) != (sl : Int)) = false := by rw [hsz]; simp
            have Hrd := Lib.hid hrd
            clear hbs hbl ho hst hrd hsz
            go_wp2_with (first
              | (go_at_call 12; refine Hrd.out.mono ?_; rintro e w5 ⟨rfl, f5⟩; have hc5 := hc.skip f5)
              | (at_builtin; refine wpAppend rfl _ _ _ rfl 9 (.string ByteArray.empty) 1 16 Try.underlying32 string_info rfl (hc5.sl.kept0 (Fr.alloc _ _ _)) rfl ⟨w5.heap.size, 0, none⟩ 1 1 [.string sb] rfl rfl (str_cells _ _ _ (by simp)) (by simp [Value.oneCell']) (by omega) (by simp [maxLen]; omega) (by omega) ?_; intro a2 cap2 w6 hs6 f6 hb6))
            go_roundw
            case rel =>
              have e : conts st.1 (st.2.take (k + 1)) = conts st.1 (st.2.take k) ++ [sb] := by
                rw [take_succ_get _ _ _ Hoo.out]
                unfold conts
                rw [List.map_append, List.map_singleton, Hbs.out, ← Hst.out]; rfl
              refine ⟨k + 1, n + 1, cap2, a2, hlt1, by go_num, rfl, ?_, ?_⟩
              · have := hnk.out; show n + 1 = k + 1; omega
              · rw [e]; exact hc5.push ⟨hlt.1, hlt.2.1⟩ hub (Fr.alloc _ _ _) hs6 f6 hb6
            case measure => simp [intOf]; omega
          · have ek : st.2.take k = st.2 := List.take_of_length_le (by have := HU.out; omega)
            have Hk' := Lib.hid (show k = un by have := hk.out; omega)
            rw [ek] at hc
            have fw := fb3.trans hc.fr
            have b0 := Fr.keep fw HB.out.1.1
            have b1 := Fr.keep fw HB.out.1.2
            have b2 := Fr.keep fw HB.out.2.1.1
            have b3 := Fr.keep fw HB.out.2.1.2
            have hkd := hx2.kind
            by_cases k0 : x2.kind = 0
            · rw [k0] at b0
              replace b0 := (show _ = some (Value.int .u8 0) from b0)
              have hoff := off_any wr x2 hx2 sl s3 (.int .u8 0) (.string x2.s)
              unfold v16 at hoff
              generalize x2.offset sl = of at hoff
              clear ek
              go_wp2_with (first
                | (go_at_call 13; refine hoff.mono ?_; rintro e w5 ⟨rfl, f5⟩; have b05 := Fr.keep f5 b0)
                | (go_at_call 14; refine (alloc_op (hc.page.kept f5 (fun e => e) (fun e => e)) hinv.wf).mono ?_; rintro e w6 ⟨r6, q6, s6, rfl, h6⟩))
              have hqw := hc.after ⟨hlt.1, hlt.2.1⟩ (fun j hj => (hr.own j hj).2) f5 h6
              go_loopw [15] (fun i wr => ∃ (j : Nat), Hid (j ≤ un) ∧ i = .int .i64 j ∧ CompareRel w6 p m s6 ua un uc st.2 a n cap (conts st.1 st.2) wr) (fun i _ => un - (intOf i).toNat)
              case atStart => exact ⟨0, Nat.zero_le _, rfl, hqw⟩
              case round =>
                obtain ⟨j, hj, rfl, hm⟩ := hrel
                clear hqw
                by_cases hjn : j < un
                · obtain ⟨y, hy⟩ : ∃ y, st.2[j]? = some y := ⟨st.2[j]'(by rw [← HU.out]; exact hjn), List.getElem?_eq_getElem _⟩
                  obtain ⟨g, rfl⟩ := hr.sl.isAddr (by omega)
                  have hjn2 : j < n := by have := hnk.out; have := Hk'.out; omega
                  obtain ⟨g2, rfl⟩ := hm.sl.isAddr (by omega)
                  have cu := hm.ul.cell (i := j) (v := v16 y) (by rw [List.getElem?_map, hy]; rfl)
                  unfold v16 at cu
                  have hcy : (conts st.1 st.2)[j]? = some (strOf ((st.1.at_ y).getD [])) := by unfold conts; rw [List.getElem?_map, hy]; rfl
                  have cs := hm.sl.cell (i := j) (v := .string (strOf ((st.1.at_ y).getD []))) (by rw [List.getElem?_map, hcy]; rfl)
                  have hyu := (hinv.mem y).1 (List.mem_of_getElem? hy)
                  have hkp := h6.keep y hyu
                  have hrd := read_op hm.page y
                  clear hcy hyu hy
                  have e0 := Fr.keep hm.fr (Fr.keepF h6.fr (p := ⟨W.heap.size, 0, none⟩) hbx (Fr.keep f5 b0))
                  generalize hX : strOf ((st.1.at_ y).getD []) = X at cs
                  generalize hY : strOf ((s6.at_ y).getD []) = Y at hrd
                  have Hrd := Lib.hid hrd
                  have HX := Lib.hid hX
                  have HY := Lib.hid hY
                  have Hkp := Lib.hid hkp
                  clear hrd hX hY hkp
                  by_cases hXY : Y = X
                  · have hd : (!decide (Y = X)) = false := by simp [hXY]
                    have Hd := Lib.hid hd
                    clear hd
                    go_wp2_with (first
                      | (go_at_call 12; refine Hrd.out.mono ?_; rintro e w7 ⟨q7, rfl, f7⟩; have cs7 := Fr.keep f7 cs)
                      | ((with_reducible refine at_slot 106 ?_); refine wpNeqStr rfl _ _ _ _ rfl Y X rfl rfl ?_; rw [Hd.out]))
                    go_roundw
                    case rel => exact ⟨j + 1, hjn, by go_num, hm.skip f7⟩
                    case measure => simp [intOf]; omega
                  · exact absurd (by rw [← HX.out, ← HY.out, Hkp.out trivial]) hXY
                · go_wp2
                  go_ret
                  exact ⟨rfl, Fr.step (((FB2.trans fb3).trans hc.fr).trans f5) (h6.fr.trans hm.fr.none) (fun i hi e => by have := hpw; rcases e with rfl | rfl <;> omega)⟩
            by_cases k1 : x2.kind = 1
            · rw [k1] at b0
              replace b0 := (show _ = some (Value.int .u8 1) from b0)
              have hoff := off_any wr x2 hx2 sl s3 (.int .u8 1) (.string x2.s)
              unfold v16 at hoff
              generalize x2.offset sl = of at hoff
              clear ek
              go_wp2_with (first
                | (go_at_call 13; refine hoff.mono ?_; rintro e w5 ⟨rfl, f5⟩; have b05 := Fr.keep f5 b0)
                | (go_at_call 15; refine (free_op (hc.page.kept f5 (fun e => e) (fun e => e)) hinv.wf of).mono ?_; rintro e w6 ⟨q6, s6, rfl, h6⟩))
              have hqw := hc.after ⟨hlt.1, hlt.2.1⟩ (fun j hj => (hr.own j hj).2) f5 h6
              go_loopw [15] (fun i wr => ∃ (j : Nat), Hid (j ≤ un) ∧ i = .int .i64 j ∧ CompareRel w6 p m s6 ua un uc st.2 a n cap (conts st.1 st.2) wr) (fun i _ => un - (intOf i).toNat)
              case atStart => exact ⟨0, Nat.zero_le _, rfl, hqw⟩
              case round =>
                obtain ⟨j, hj, rfl, hm⟩ := hrel
                clear hqw
                by_cases hjn : j < un
                · obtain ⟨y, hy⟩ : ∃ y, st.2[j]? = some y := ⟨st.2[j]'(by rw [← HU.out]; exact hjn), List.getElem?_eq_getElem _⟩
                  obtain ⟨g, rfl⟩ := hr.sl.isAddr (by omega)
                  have hjn2 : j < n := by have := hnk.out; have := Hk'.out; omega
                  obtain ⟨g2, rfl⟩ := hm.sl.isAddr (by omega)
                  have cu := hm.ul.cell (i := j) (v := v16 y) (by rw [List.getElem?_map, hy]; rfl)
                  unfold v16 at cu
                  have hcy : (conts st.1 st.2)[j]? = some (strOf ((st.1.at_ y).getD [])) := by unfold conts; rw [List.getElem?_map, hy]; rfl
                  have cs := hm.sl.cell (i := j) (v := .string (strOf ((st.1.at_ y).getD []))) (by rw [List.getElem?_map, hcy]; rfl)
                  have hyu := (hinv.mem y).1 (List.mem_of_getElem? hy)
                  have hkp := h6.keep y hyu
                  have hrd := read_op hm.page y
                  clear hcy hyu hy
                  have e0 := Fr.keep hm.fr (Fr.keepF h6.fr (p := ⟨W.heap.size, 0, none⟩) hbx (Fr.keep f5 b0))
                  generalize hX : strOf ((st.1.at_ y).getD []) = X at cs
                  generalize hY : strOf ((s6.at_ y).getD []) = Y at hrd
                  have Hrd := Lib.hid hrd
                  have HX := Lib.hid hX
                  have HY := Lib.hid hY
                  have Hkp := Lib.hid hkp
                  clear hrd hX hY hkp
                  by_cases hXY : Y = X
                  · have hd : (!decide (Y = X)) = false := by simp [hXY]
                    have Hd := Lib.hid hd
                    clear hd
                    go_wp2_with (first
                      | (go_at_call 12; refine Hrd.out.mono ?_; rintro e w7 ⟨q7, rfl, f7⟩; have cs7 := Fr.keep f7 cs)
                      | ((with_reducible refine at_slot 106 ?_); refine wpNeqStr rfl _ _ _ _ rfl Y X rfl rfl ?_; rw [Hd.out]))
                    go_roundw
                    case rel => exact ⟨j + 1, hjn, by go_num, hm.skip f7⟩
                    case measure => simp [intOf]; omega
                  · have hd : (!decide (Y = X)) = true := by simp [hXY]
                    have Hd := Lib.hid hd
                    have hyo : y = of := by
                      apply Classical.byContradiction
                      intro hne
                      have := Hkp.out (hne)
                      exact hXY (by rw [← HX.out, ← HY.out, this])
                    subst hyo
                    have hyy : ((y : Int) != (y : Int)) = false := by simp
                    clear hd
                    go_wp2_with (first
                      | (go_at_call 12; refine Hrd.out.mono ?_; rintro e w7 ⟨q7, rfl, f7⟩; have cs7 := Fr.keep f7 cs; have cu7 := Fr.keep f7 cu; have e7 := Fr.keep f7 e0)
                      | ((with_reducible refine at_slot 106 ?_); refine wpNeqStr rfl _ _ _ _ rfl Y X rfl rfl ?_; rw [Hd.out]))
                    go_roundw
                    case rel => exact ⟨j + 1, hjn, by go_num, hm.skip f7⟩
                    case measure => simp [intOf]; omega
                · go_wp2
                  go_ret
                  exact ⟨rfl, Fr.step (((FB2.trans fb3).trans hc.fr).trans f5) (h6.fr.trans hm.fr.none) (fun i hi e => by have := hpw; rcases e with rfl | rfl <;> omega)⟩
            · have n0 : ((x2.kind : Int) == 0) = false := beq_eq_false_iff_ne.2 (by omega)
              have n1 : ((x2.kind : Int) == 1) = false := beq_eq_false_iff_ne.2 (by omega)
              have hoff := off_any wr x2 hx2 sl s3 (.int .u8 x2.kind) (.string x2.s)
              unfold v16 at hoff
              generalize x2.offset sl = of at hoff
              clear ek k0 k1
              go_wp2_with (first
                | (go_at_call 13; refine hoff.mono ?_; rintro e w5 ⟨rfl, f5⟩; have b05 := Fr.keep f5 b0; have b35 := Fr.keep f5 b3)
                | (go_at_call 16; refine (write_op (hc.page.kept f5 (fun e => e) (fun e => e)) hinv.wf of x2.s).mono ?_; rintro e w6 ⟨q6, s6, rfl, h6⟩))
              have hqw := hc.after ⟨hlt.1, hlt.2.1⟩ (fun j hj => (hr.own j hj).2) f5 h6
              go_loopw [15] (fun i wr => ∃ (j : Nat), Hid (j ≤ un) ∧ i = .int .i64 j ∧ CompareRel w6 p m s6 ua un uc st.2 a n cap (conts st.1 st.2) wr) (fun i _ => un - (intOf i).toNat)
              case atStart => exact ⟨0, Nat.zero_le _, rfl, hqw⟩
              case round =>
                obtain ⟨j, hj, rfl, hm⟩ := hrel
                clear hqw
                by_cases hjn : j < un
                · obtain ⟨y, hy⟩ : ∃ y, st.2[j]? = some y := ⟨st.2[j]'(by rw [← HU.out]; exact hjn), List.getElem?_eq_getElem _⟩
                  obtain ⟨g, rfl⟩ := hr.sl.isAddr (by omega)
                  have hjn2 : j < n := by have := hnk.out; have := Hk'.out; omega
                  obtain ⟨g2, rfl⟩ := hm.sl.isAddr (by omega)
                  have cu := hm.ul.cell (i := j) (v := v16 y) (by rw [List.getElem?_map, hy]; rfl)
                  unfold v16 at cu
                  have hcy : (conts st.1 st.2)[j]? = some (strOf ((st.1.at_ y).getD [])) := by unfold conts; rw [List.getElem?_map, hy]; rfl
                  have cs := hm.sl.cell (i := j) (v := .string (strOf ((st.1.at_ y).getD []))) (by rw [List.getElem?_map, hcy]; rfl)
                  have hyu := (hinv.mem y).1 (List.mem_of_getElem? hy)
                  have hkp := h6.keep y hyu
                  have hrd := read_op hm.page y
                  clear hcy hyu hy
                  have e0 := Fr.keep hm.fr (Fr.keepF h6.fr (p := ⟨W.heap.size, 0, none⟩) hbx (Fr.keep f5 b0))
                  generalize hX : strOf ((st.1.at_ y).getD []) = X at cs
                  generalize hY : strOf ((s6.at_ y).getD []) = Y at hrd
                  have Hrd := Lib.hid hrd
                  have HX := Lib.hid hX
                  have HY := Lib.hid hY
                  have Hkp := Lib.hid hkp
                  clear hrd hX hY hkp
                  by_cases hXY : Y = X
                  · have hd : (!decide (Y = X)) = false := by simp [hXY]
                    have Hd := Lib.hid hd
                    clear hd
                    go_wp2_with (first
                      | (go_at_call 12; refine Hrd.out.mono ?_; rintro e w7 ⟨q7, rfl, f7⟩; have cs7 := Fr.keep f7 cs)
                      | ((with_reducible refine at_slot 106 ?_); refine wpNeqStr rfl _ _ _ _ rfl Y X rfl rfl ?_; rw [Hd.out]))
                    go_roundw
                    case rel => exact ⟨j + 1, hjn, by go_num, hm.skip f7⟩
                    case measure => simp [intOf]; omega
                  · have hd : (!decide (Y = X)) = true := by simp [hXY]
                    have Hd := Lib.hid hd
                    have hyo : y = of := by
                      apply Classical.byContradiction
                      intro hne
                      have := Hkp.out (hne)
                      exact hXY (by rw [← HX.out, ← HY.out, this])
                    subst hyo
                    have hyy : ((y : Int) != (y : Int)) = false := by simp
                    clear hd
                    go_wp2_with (first
                      | (go_at_call 12; refine Hrd.out.mono ?_; rintro e w7 ⟨q7, rfl, f7⟩; have cs7 := Fr.keep f7 cs; have cu7 := Fr.keep f7 cu; have e7 := Fr.keep f7 e0)
                      | ((with_reducible refine at_slot 106 ?_); refine wpNeqStr rfl _ _ _ _ rfl Y X rfl rfl ?_; rw [Hd.out]))
                    go_roundw
                    case rel => exact ⟨j + 1, hjn, by go_num, hm.skip f7⟩
                    case measure => simp [intOf]; omega
                · go_wp2
                  go_ret
                  exact ⟨rfl, Fr.step (((FB2.trans fb3).trans hc.fr).trans f5) (h6.fr.trans hm.fr.none) (fun i hi e => by have := hpw; rcases e with rfl | rfl <;> omega)⟩
      · have hrn := fun w v => run_no w slot (by omega) v
        have Hrn := Lib.hid hrn
        clear hrn hs
        go_enter Try.func3, Try.ntmps3
        go_wp2_with (first
          | (go_at_call 9; refine Hlg.out.mono ?_; rintro e w1 ⟨rfl, rfl⟩)
          | (go_at_call 10; refine (awake_any _).mono ?_; rintro e w2 ⟨rfl, f2⟩)
          | (go_at_call 11; refine (Hrn.out _ _).mono ?_; rintro e w3 ⟨rfl, rfl⟩))
        go_ret
        exact ⟨rfl, FB.out.trans f2⟩
end Go.Proofs.Ytdbnopfpopeefaa
