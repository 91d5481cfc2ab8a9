/-
  Slices of handles: Clone, IndexFunc, DeleteFunc (of the one handle that a cell holds). 
-/
import Derived.Test.YtckkccnebjacdaaUnS
import Derived.Test.YtckkccnebjacdaaMgHeld
import Derived.Test.YtckkccnebjacdaaMgRange
import Derived.Deep.QuietTactic
import Derived.BigQuiet
import Derived.Deep.DeepCutAuto
namespace Go.Proofs.Ytckkccnebjacdaa
open Go.RowKit
set_option linter.unusedVariables false
set_option linter.unusedSimpArgs false
set_option maxRecDepth 100000

def hvN (h : Nat) : Value := .int .u64 (h : Int)
def hvC (h : Nat) : List Value := [hvN h]
theorem hInfo : (Try.prog.info? 32).map (fun i => (i.zero, i.size, i.bytes)) = some (some (.int .u64 0), 1, 8) := by kernel_rfl
theorem hv_flat (l : List Nat) : l.flatMap hvC = l.map hvN := flat_one hvN l
set_option maxHeartbeats 1000000 in
theorem clone_h (w : World) (a : Option Addr) (n c : Nat) (l : List Nat) (h : LsAt w a 1 hvC l) (hn : n = l.length) (hb : n ≤ 1000000000) :
    Calls Try.prog 33 #[.slice a n c] w fun e w' => ∃ a' cap', e = .returned (.slice a' n cap') ∧ SlAt w' a' n cap' 32 1 (l.map hvN) ∧ Fr none_ w w' ∧ (∀ k, blk a' k → w.heap.size ≤ k) ∧ (l = [] → a = none → a' = none) := by
  cases a with
  | none =>
    have hl : l = [] := by
      rcases h with h | ⟨_, _, h, _⟩
      · exact h
      · cases h
    subst hl
    simp only [List.length_nil] at hn
    subst hn
    clear h hb
    have hq := fun w => Go.Lib.run_eql_slice_nil (P := Try.prog) w 33 _ none 0 c 0 0 Try.underlying33
    go_enter Try.func33, Try.ntmps33
    go_wp2_with fail
    go_ret
    exact ⟨none, 0, rfl, SlAt.empty _ _ _, Fr.refl _ _, fun k hk => absurd hk (blk_none k), fun _ _ => rfl⟩
  | some ad =>
    have HL := Lib.hid h
    have HN := Lib.hid hn
    have RA := Lib.hid (Row.new w #[] 32)
    have hs0 : SlAt (w.alloc (.cells #[] 32)) (some ⟨w.heap.size, 0, none⟩) 0 0 32 1 [] := ⟨rfl, Nat.le_refl _, Nat.zero_le _, (fun h => by cases h), fun ad had => by
      cases had; exact ⟨rfl, rfl, _, RA.out, rfl, rfl⟩⟩
    have HS0 := Lib.hid hs0
    have FA := Lib.hid (Fr.alloc none_ w (.cells #[] 32))
    clear h hn hs0
    have hq := fun w => Go.Lib.run_eql_slice_nil (P := Try.prog) w 33 _ (some ad) n c 0 0 Try.underlying33
    go_enter Try.func33, Try.ntmps33
    go_wp2_with ((with_reducible refine at_slot 7 ?_); refine wpAppendLs (cells := hvC) rfl _ _ _ rfl 32 (.int .u64 0) 1 8 Try.underlying33 hInfo rfl HS0.out (HL.out.kept0 FA.out) HN.out (fun _ => rfl) (by intro x u hu; rw [List.mem_singleton.1 hu]; rfl) rfl rfl (by unfold maxLen; omega) (by omega) ?_; intro a' cap' w2 hs2 f2 hb2; have S2 := Lib.hid hs2; have F2 := Lib.hid f2; have B2 := Lib.hid hb2; clear hs2 f2 hb2)
    go_ret
    refine ⟨a', cap', by rfl, ?_, FA.out.step F2.out (fun i hi e => by rw [blk_some] at e; omega), fun k hk => ?_, fun _ e => by cases e⟩
    · have := S2.out
      rw [Nat.zero_add, List.nil_append, hv_flat] at this
      exact this
    · rcases B2.out k hk with q | q
      · rw [blk_some] at q; omega
      · simp at q; omega
theorem Free1 (w : World) (q hd x : Nat) (hq : w.cell? ⟨q, 0, none⟩ = some (.int .u64 (hd : Int))) :
    Calls Try.prog 34 #[.int .u64 (x : Int), .pointer (some ⟨q, 0, none⟩)] w fun e w' => e = .returned (.bool (decide (x = hd))) ∧ w = w' := by
  have hd' : decide ((x : Int) = (hd : Int)) = decide (x = hd) := by
    by_cases e : x = hd
    · subst e; simp
    · have : ¬ (x : Int) = (hd : Int) := by omega
      simp [e, this]
  go_enter Try.func34, Try.ntmps34
  go_wp2_with fail
  go_ret
  refine ⟨?_, rfl⟩
  by_cases e : x = hd
  · subst e; simp
  · have : ¬ (x : Int) = (hd : Int) := by omega
    simp [e, this]
/-- Where a handle stands; -1: it does not. -/
def idxH (hd : Nat) (l : List Nat) : Int := match l.findIdx? (fun x => decide (x = hd)) with | some i => (i : Int) | none => -1
theorem idxH_some {hd : Nat} {l : List Nat} {k : Nat} (h : l[k]? = some hd) (hb : ∀ j, j < k → l[j]? ≠ some hd) : idxH hd l = (k : Int) := by
  unfold idxH
  have : l.findIdx? (fun x => decide (x = hd)) = some k := by
    rw [List.findIdx?_eq_some_iff_getElem]
    have hk := (List.getElem?_eq_some_iff.1 h).1
    refine ⟨hk, ?_, fun j hj => ?_⟩
    · have := (List.getElem?_eq_some_iff.1 h).2
      simp [this]
    · have := hb j hj
      rw [List.getElem?_eq_getElem (by omega)] at this
      simpa using this
  rw [this]
theorem idxH_none {hd : Nat} {l : List Nat} (hb : ∀ j, j < l.length → l[j]? ≠ some hd) : idxH hd l = -1 := by
  unfold idxH
  have : l.findIdx? (fun x => decide (x = hd)) = none := by
    rw [List.findIdx?_eq_none_iff]
    intro x hx
    obtain ⟨i, hi, rfl⟩ := List.getElem_of_mem hx
    have := hb i hi
    rw [List.getElem?_eq_getElem hi] at this
    simpa using this
  rw [this]
set_option maxHeartbeats 2000000 in
theorem index_h (w : World) (a : Option Addr) (n c : Nat) (l : List Nat) (h : LsAt w a 1 hvC l) (hn : n = l.length) (hb : n ≤ 1000000000) (q hd : Nat) (hq : w.cell? ⟨q, 0, none⟩ = some (.int .u64 (hd : Int))) :
    Calls Try.prog 54 #[.slice a n c, .func (.func 34) #[] #[.pointer (some ⟨q, 0, none⟩)]] w fun e w' => e = .returned (.int .i64 (idxH hd l)) ∧ w = w' := by
  have HL := Lib.hid h
  have HN := Lib.hid hn
  have HF := Lib.hid (fun x => Free1 w q hd x hq)
  clear h hn
  go_enter Try.func54, Try.ntmps54
  go_wp2_with fail
  go_loop [8] (fun i => ∃ k : Nat, i = .int .i64 k ∧ Hid (k ≤ n) ∧ Hid (∀ j, j < k → l[j]? ≠ some hd)) (fun i => n - (intOf i).toNat)
  case atStart => exact ⟨0, rfl, Nat.zero_le _, fun j hj => by omega⟩
  case round =>
    obtain ⟨k, rfl, hk, hbf⟩ := hrel
    by_cases hlt : k < n
    · obtain ⟨x, hx⟩ : ∃ x, l[k]? = some x := ⟨l[k]'(by rw [← HN.out]; exact hlt), List.getElem?_eq_getElem _⟩
      obtain ⟨b, o, rfl, _, hc⟩ := HL.out.get hx
      have ck : w.cell? ⟨b, o + k, none⟩ = some (.int .u64 (x : Int)) := by have := hc k x hx 0 (hvN x) rfl; rw [Nat.mul_one, Nat.add_zero] at this; exact this
      have HFX := Lib.hid (HF.out x)
      have wk : IntKind.i64.wrap ((k : Int) + 1) = ((k + 1 : Nat) : Int) := by rw [show (k : Int) + 1 = ((k + 1 : Nat) : Int) by omega]; exact IntWalk.i64_in _ (by omega)
      have HX := Lib.hid hx
      clear hc hx
      by_cases e : x = hd
      · have HR := Lib.hid (idxH_some (by rw [HX.out, e]) hbf.out)
        have ed : decide (x = hd) = true := by simpa using e
        rw [ed] at HFX
        clear e ed
        go_wp2_with fail
        refine HFX.out.mono ?_
        rintro e w1 ⟨rfl, rfl⟩
        go_wp2_with fail
        go_ret
        exact ⟨by rw [HR.out]; rfl, rfl⟩
      · have ed : decide (x = hd) = false := by simpa using e
        rw [ed] at HFX
        have HB := Lib.hid (show ∀ j, j < k + 1 → l[j]? ≠ some hd from fun j hj => by
          rcases Nat.lt_or_ge j k with q | q
          · exact hbf.out j q
          · have : j = k := by omega
            subst this; rw [HX.out]; intro q; cases q; exact e rfl)
        clear ed
        go_wp2_with fail
        refine HFX.out.mono ?_
        rintro e w1 ⟨rfl, rfl⟩
        go_wp2_with fail
        go_round
        case rel => exact ⟨k + 1, by first | rfl | (rw [wk]), hlt, HB.out⟩
        case measure => simp [intOf]; omega
    · have hke : k = n := by have := hk.out; omega
      have HR := Lib.hid (idxH_none (l := l) (hd := hd) (fun j hj => hbf.out j (by rw [hke, HN.out]; exact hj)))
      clear hke
      go_wp2_with fail
      go_ret
      exact ⟨by rw [HR.out]; rfl, rfl⟩
def notH (hd : Nat) (l : List Nat) : List Nat := l.filter (fun x => decide (x ≠ hd))
theorem notH_snoc (hd : Nat) (l : List Nat) (x : Nat) : notH hd (l ++ [x]) = if x = hd then notH hd l else notH hd l ++ [x] := by
  unfold notH
  rw [List.filter_append]
  by_cases e : x = hd <;> simp [e]
theorem notH_le (hd : Nat) (l : List Nat) : (notH hd l).length ≤ l.length := List.length_filter_le _ _
theorem notH_none {hd : Nat} {l : List Nat} (h : idxH hd l = -1) : notH hd l = l := by
  unfold idxH at h
  cases e : l.findIdx? (fun x => decide (x = hd)) with
  | some i => rw [e] at h; exfalso; have h : (i : Int) = -1 := h; omega
  | none =>
    rw [List.findIdx?_eq_none_iff] at e
    unfold notH
    rw [List.filter_eq_self]
    intro x hx
    have := e x hx
    simpa using this
theorem idxH_pos {hd : Nat} {l : List Nat} (h : idxH hd l ≠ -1) : ∃ k : Nat, idxH hd l = (k : Int) ∧ l[k]? = some hd ∧ ∀ j, j < k → l[j]? ≠ some hd := by
  unfold idxH at h ⊢
  cases e : l.findIdx? (fun x => decide (x = hd)) with
  | none => rw [e] at h; exact absurd rfl h
  | some i =>
    rw [List.findIdx?_eq_some_iff_getElem] at e
    obtain ⟨h1, h2, h3⟩ := e
    refine ⟨i, rfl, ?_, fun j hj q => ?_⟩
    · rw [List.getElem?_eq_getElem h1]
      simpa using h2
    · have := h3 j hj
      have hjl : j < l.length := by omega
      rw [List.getElem?_eq_getElem hjl] at q
      simp at q
      exact this (by simpa using q)
theorem notH_take {hd : Nat} {l : List Nat} {k : Nat} (hb : ∀ j, j < k → l[j]? ≠ some hd) : notH hd (l.take k) = l.take k := by
  unfold notH
  rw [List.filter_eq_self]
  intro x hx
  obtain ⟨i, hi, rfl⟩ := List.getElem_of_mem hx
  have hi' : i < k := by rw [List.length_take] at hi; omega
  have := hb i hi'
  rw [List.getElem_take]
  have hl : i < l.length := by rw [List.length_take] at hi; omega
  rw [List.getElem?_eq_getElem hl] at this
  simpa using this
/-- Between two rounds of DeleteFunc: what is kept stands in front; from j on nothing has turned. -/
structure DelR (w0 : World) (g cap n : Nat) (l : List Nat) (hd : Nat) (i j : Nat) (w : World) : Prop where
  len : i = (notH hd (l.take j)).length
  lt : i < j
  jn : j ≤ n
  fr : Fr (one g) w0 w
  row : ∃ cur, Row w g cur 32 ∧ cur.size = cap ∧ cur.toList.take i = (notH hd (l.take j)).map hvN ∧ ∀ m x, j ≤ m → l[m]? = some x → cur[m]? = some (hvN x)
theorem zeroH (w : World) : (zeroValue 32).run Try.prog w = .ok (.int .u64 0) w := by kernel_rfl
set_option maxHeartbeats 4000000 in
theorem delete_h (w : World) (a : Option Addr) (n cap : Nat) (l : List Nat) (h : SlAt w a n cap 32 1 (l.map hvN)) (hn : n = l.length) (hb : n ≤ 1000000000) (q hd : Nat) (hq : w.cell? ⟨q, 0, none⟩ = some (.int .u64 (hd : Int))) (hqa : ¬ blk a q) (n' : Nat) (hn' : n' = (notH hd l).length) :
    Calls Try.prog 32 #[.slice a n cap, .func (.func 34) #[] #[.pointer (some ⟨q, 0, none⟩)]] w fun e w' => e = .returned (.slice a n' cap) ∧ SlAt w' a n' cap 32 1 ((notH hd l).map hvN) ∧ Fr (blk a) w w' := by
  have hls := h.ls1 (enc := hvN) hn
  have HI := Lib.hid (index_h w a n cap l hls hn hb q hd hq)
  have HN := Lib.hid hn
  have HS := Lib.hid h
  have HN' := Lib.hid hn'
  clear hls hn hn'
  by_cases hix : idxH hd l = -1
  · have e := notH_none hix
    rw [hix] at HI
    have HE := Lib.hid e
    clear hix e h
    go_enter Try.func32, Try.ntmps32
    go_wp2_with fail
    refine HI.out.mono ?_
    rintro e w1 ⟨rfl, rfl⟩
    go_wp2_with fail
    go_ret
    have hnn : n' = n := by rw [HN'.out, HE.out, HN.out]
    rw [hnn, HE.out]
    exact ⟨rfl, HS.out, Fr.refl _ _⟩
  obtain ⟨k, hk, hkl, hkb⟩ := idxH_pos hix
  have hkn : k < n := by rw [HN.out]; exact (List.getElem?_eq_some_iff.1 hkl).1
  obtain ⟨g, rfl⟩ := h.isAddr (by omega)
  obtain ⟨s1, s2, s3, _, s5⟩ := h
  obtain ⟨_, _, cur, r3, r4, r5⟩ := s5 _ rfl
  simp only [Nat.mul_one] at s1 r4 r5
  have hgq : ¬ g = q := fun e => hqa ((blk_some _ _ _).2 e)
  have h0 : DelR w g cap n l hd k (k + 1) w := by
    have ht : notH hd (l.take (k + 1)) = l.take k := by
      rw [List.take_add_one, hkl]
      show notH hd (l.take k ++ [hd]) = _
      rw [notH_snoc, if_pos rfl, notH_take hkb]
    refine ⟨by rw [ht, List.length_take]; have := HN.out; omega, by omega, by omega, Fr.refl _ _, cur, r3, r4, ?_, fun m x hm hx => ?_⟩
    · rw [ht, List.map_take, ← r5, List.take_take, Nat.min_eq_left (by omega)]
    · have hml : m < n := by rw [HN.out]; exact (List.getElem?_eq_some_iff.1 hx).1
      have : (cur.toList.take n)[m]? = some (hvN x) := by rw [r5, List.getElem?_map, hx]; rfl
      rw [List.getElem?_take, if_pos hml] at this
      simpa using this
  rw [hk] at HI
  have H0 := Lib.hid h0
  have HC := Lib.hid (And.intro s2 s3)
  have HQ := Lib.hid hq
  have wk : IntKind.i64.wrap ((k : Int) + 1) = ((k + 1 : Nat) : Int) := by rw [show (k : Int) + 1 = ((k + 1 : Nat) : Int) by omega]; exact IntWalk.i64_in _ (by omega)
  have hkne : ¬ (k : Int) = -1 := by omega
  have HKN := Lib.hid hkn
  obtain ⟨k1, hk1⟩ : ∃ k1, k1 = k + 1 := ⟨_, rfl⟩
  rw [← hk1] at wk H0
  have hk1n : k1 ≤ n := by omega
  clear hix hk hkl hkb r3 r4 r5 s1 s2 s3 s5 h0 hq hqa hk1
  go_enter Try.func32, Try.ntmps32
  go_wp2_with fail
  refine HI.out.mono ?_
  rintro e w1 ⟨rfl, rfl⟩
  go_wp2_with fail
  go_loopw [5, 6] (fun iv jv wr => ∃ i j : Nat, iv = .int .i64 i ∧ jv = .int .i64 j ∧ Hid (j ≤ n) ∧ Hid (i < n) ∧ Hid (DelR w g cap n l hd i j wr)) (fun iv jv _ => n - (intOf jv).toNat)
  case atStart => exact ⟨k, k1, rfl, by first | rfl | (rw [wk]), hk1n, HKN.out, H0.out⟩
  case round =>
    obtain ⟨i, j, rfl, rfl, hj, hi, hd'⟩ := hrel
    clear H0 wk hkne hk1n
    have hjn := hj.out
    have hin := hi.out
    by_cases hlt : j < n
    · obtain ⟨x, hx⟩ : ∃ x, l[j]? = some x := ⟨l[j]'(by rw [← HN.out]; exact hlt), List.getElem?_eq_getElem _⟩
      obtain ⟨cur, r3, r4, r5, r6⟩ := hd'.out.row
      have cj : wr.cell? ⟨g, j, none⟩ = some (.int .u64 (x : Int)) := (r3.cell j).trans (r6 j x (Nat.le_refl _) hx)
      have hqr : wr.cell? ⟨q, 0, none⟩ = some (.int .u64 (hd : Int)) := hd'.out.fr.keepF (fun e => hgq e.symm) HQ.out
      have HFX := Lib.hid (Free1 wr q hd x hqr)
      have wj : IntKind.i64.wrap ((j : Int) + 1) = ((j + 1 : Nat) : Int) := by rw [show (j : Int) + 1 = ((j + 1 : Nat) : Int) by omega]; exact IntWalk.i64_in _ (by omega)
      have hsn : notH hd (l.take (j + 1)) = notH hd (l.take j ++ [x]) := by rw [List.take_add_one, hx]; rfl
      by_cases e : x = hd
      · have ed : decide (x = hd) = true := by simpa using e
        rw [ed] at HFX
        have HX := Lib.hid (show DelR w g cap n l hd i (j + 1) wr from by
          rw [notH_snoc, if_pos e] at hsn
          refine ⟨by rw [hsn]; exact hd'.out.len, by have := hd'.out.lt; omega, hlt, hd'.out.fr, cur, r3, r4, by rw [hsn]; exact r5, fun m y hm hy => r6 m y (by omega) hy⟩)
        clear e ed r3 r4 r5 r6 hsn hx hqr
        go_wp2_with fail
        refine HFX.out.mono ?_
        rintro e w1 ⟨rfl, rfl⟩
        go_wp2_with fail
        go_roundw
        case rel =>
          refine ⟨_, _, _, _, _, _, _, _, _, _, _, _, _, _, _, _, _, _, _, _, _, _, _, ?_, rfl⟩
          exact ⟨i, j + 1, rfl, by first | rfl | (rw [wj]), hlt, hin, HX.out⟩
        case measure => simp [intOf]; omega
      · have ed : decide (x = hd) = false := by simpa using e
        rw [ed] at HFX
        have wi : IntKind.i64.wrap ((i : Int) + 1) = ((i + 1 : Nat) : Int) := by rw [show (i : Int) + 1 = ((i + 1 : Nat) : Int) by omega]; exact IntWalk.i64_in _ (by omega)
        have hil := hd'.out.lt
        have hcap := HC.out.1
        obtain ⟨u, hu⟩ : ∃ u, cur[i]? = some u := ⟨_, Array.getElem?_eq_getElem (by rw [r4]; omega)⟩
        have ci : wr.cell? ⟨g, i, none⟩ = some u := (r3.cell i).trans hu
        have zi := r3.free i
        have HX := Lib.hid (show DelR w g cap n l hd (i + 1) (j + 1) (wr.setCell ⟨g, i, none⟩ (.int .u64 (x : Int))) from by
          rw [notH_snoc, if_neg e] at hsn
          refine ⟨by rw [hsn, List.length_append, ← hd'.out.len]; rfl, by omega, hlt, hd'.out.fr.trans (Fr.setCell (one g) wr ⟨g, i, none⟩ _ (fun _ => rfl)), cur.setIfInBounds i (.int .u64 (x : Int)), r3.set i _, by rw [Array.size_setIfInBounds]; exact r4, ?_, fun m y hm hy => ?_⟩
          · rw [hsn, List.map_append, ← r5, Array.toList_setIfInBounds]
            have hcl : i < cur.toList.length := by rw [Array.length_toList, r4]; omega
            rw [List.take_add_one, List.take_set_of_le (Nat.le_refl _), List.getElem?_set_self hcl]; rfl
          · rw [Array.getElem?_setIfInBounds, if_neg (by omega)]
            exact r6 m y (by omega) hy)
        have hin1 : i + 1 < n ∨ i + 1 = n := by omega
        have HIN := Lib.hid (show i + 1 < n by omega)
        clear hin1 e ed r3 r4 r5 r6 hsn hx hqr hu hil hcap
        go_wp2_with fail
        refine HFX.out.mono ?_
        rintro e w1 ⟨rfl, rfl⟩
        go_wp2_with fail
        go_roundw
        case rel =>
          refine ⟨_, _, _, _, _, _, _, _, _, _, _, _, _, _, _, _, _, _, _, _, _, _, _, ?_, rfl⟩
          exact ⟨i + 1, j + 1, by first | rfl | (rw [wi]), by first | rfl | (rw [wj]), hlt, HIN.out, HX.out⟩
        case measure => simp [intOf]; omega
    · have hje : j = n := by omega
      obtain ⟨cur, r3, r4, r5, r6⟩ := hd'.out.row
      have hie := hd'.out.len
      rw [hje, HN.out, List.take_length] at hie r5
      have hii : i = n' := by rw [HN'.out]; exact hie
      have hcap := HC.out.1
      have R3 := Lib.hid r3
      have R5 := Lib.hid (And.intro r4 (And.intro r5 hii))
      have HFR := Lib.hid hd'.out.fr
      have hne : ¬ cap = i := by omega
      have hne2 : ¬ i = cap := by omega
      have hicap : i ≤ cap := by omega
      have hsz : i + (n - i) ≤ cur.size := by rw [r4]; omega
      have HSZ := Lib.hid hsz
      clear r3 r4 r5 r6 hie hii hje hd' hsz
      go_wp2_with ((with_reducible refine at_clear ?_); refine wpClear rfl _ _ rfl R3.out 32 (.int .u64 0) Try.underlying33 zeroH rfl rfl i (n - i) (cap - i) (by first | rfl | simp [hne, hne2]) HSZ.out ?_; intro w2 r2 f2; have R2 := Lib.hid r2; have F2 := Lib.hid f2; clear r2 f2)
      go_ret
      obtain ⟨q1, q2, q3⟩ := R5.out
      refine ⟨by rw [← q3]; rfl, ⟨?_, ?_, HC.out.2, (fun h => by cases h), fun ad had => ?_⟩, (HFR.out.trans F2.out).mono fun k _ e => (blk_some _ _ _).2 e.symm⟩
      · rw [List.length_map, HN'.out, Nat.mul_one]
      · rw [← q3]; omega
      · cases had
        refine ⟨rfl, rfl, _, R2.out, by rw [putAtA_size _ _ _ (by simp; have := HSZ.out; omega), q1, Nat.mul_one], ?_⟩
        unfold putAtA putAt
        rw [Nat.mul_one, ← q3, List.append_assoc]
        have hl : (cur.toList.take i).length = i := by rw [List.length_take, Array.length_toList, q1]; omega
        rw [List.take_left' hl, q2]
end Go.Proofs.Ytckkccnebjacdaa
