/-
  Slices of handles: Clone, IndexFunc, DeleteFunc (of the one handle that a cell holds).
  Package undo: the segments in memory: a map of slices of handles, each on a block of its own.
-/
import Derived.Test.YtckkccnebjacdaaGreatUnS
import Derived.Test.YtckkccnebjacdaaGreatMgHeld
import Derived.Test.YtckkccnebjacdaaGreatMgRange
import Derived.Deep.QuietTactic
import Derived.BigQuiet
import Derived.Deep.DeepCutAuto
import Derived.Test.YtckkccnebjacdaaGreatMgOwn
namespace Go.Proofs.YtckkccnebjacdaaGreat
open Go.RowKit
set_option linter.unusedVariables false
set_option linter.unusedSimpArgs false
set_option maxRecDepth 100000

def hvN (h : Nat) : Value := .int .u64 (h : Int)
def hvC (h : Nat) : List Value := [hvN h]
theorem hInfo : (Tryz.prog.info? 32).map (fun i => (i.zero, i.size, i.bytes)) = some (some (.int .u64 0), 1, 8) := by kernel_rfl
theorem hv_flat (l : List Nat) : l.flatMap hvC = l.map hvN := flat_one hvN l
set_option maxHeartbeats 1000000 in
theorem clone_h (w : World) (a : Option Addr) (n c : Nat) (l : List Nat) (h : LsAt w a 1 hvC l) (hn : n = l.length) (hb : n ≤ 1000000000) :
    Calls Tryz.prog 58 #[.slice a n c] w fun e w' => ∃ a' cap', e = .returned (.slice a' n cap') ∧ SlAt w' a' n cap' 32 1 (l.map hvN) ∧ Fr none_ w w' ∧ (∀ k, blk a' k → w.heap.size ≤ k) ∧ (l = [] → a = none → a' = none) := by
  cases a with
  | none =>
    have hl : l = [] := by
      rcases h with h | ⟨_, _, h, _⟩
      · exact h
      · cases h
    subst hl
    simp only [List.length_nil] at hn
    subst hn
    clear h hb
    have hq := fun w => Go.Lib.run_eql_slice_nil (P := Tryz.prog) w 33 _ none 0 c 0 0 Tryz.underlying33
    go_enter Tryz.func58, Tryz.ntmps58
    go_wp2_with fail
    go_ret
    exact ⟨none, 0, rfl, SlAt.empty _ _ _, Fr.refl _ _, fun k hk => absurd hk (blk_none k), fun _ _ => rfl⟩
  | some ad =>
    have HL := Lib.hid h
    have HN := Lib.hid hn
    have RA := Lib.hid (Row.new w #[] 32)
    have hs0 : SlAt (w.alloc (.cells #[] 32)) (some ⟨w.heap.size, 0, none⟩) 0 0 32 1 [] := ⟨rfl, Nat.le_refl _, Nat.zero_le _, (fun h => by cases h), fun ad had => by
      cases had; exact ⟨rfl, rfl, _, RA.out, rfl, rfl⟩⟩
    have HS0 := Lib.hid hs0
    have FA := Lib.hid (Fr.alloc none_ w (.cells #[] 32))
    clear h hn hs0
    have hq := fun w => Go.Lib.run_eql_slice_nil (P := Tryz.prog) w 33 _ (some ad) n c 0 0 Tryz.underlying33
    go_enter Tryz.func58, Tryz.ntmps58
    go_wp2_with ((with_reducible refine at_slot 7 ?_); refine wpAppendLs (cells := hvC) rfl _ _ _ rfl 32 (.int .u64 0) 1 8 Tryz.underlying33 hInfo rfl HS0.out (HL.out.kept0 FA.out) HN.out (fun _ => rfl) (by intro x u hu; rw [List.mem_singleton.1 hu]; rfl) rfl rfl (by unfold maxLen; omega) (by omega) ?_; intro a' cap' w2 hs2 f2 hb2; have S2 := Lib.hid hs2; have F2 := Lib.hid f2; have B2 := Lib.hid hb2; clear hs2 f2 hb2)
    go_ret
    refine ⟨a', cap', by rfl, ?_, FA.out.step F2.out (fun i hi e => by rw [blk_some] at e; omega), fun k hk => ?_, fun _ e => by cases e⟩
    · have := S2.out
      rw [Nat.zero_add, List.nil_append, hv_flat] at this
      exact this
    · rcases B2.out k hk with q | q
      · rw [blk_some] at q; omega
      · simp at q; omega
theorem Free1 (w : World) (q hd x : Nat) (hq : w.cell? ⟨q, 0, none⟩ = some (.int .u64 (hd : Int))) :
    Calls Tryz.prog 59 #[.int .u64 (x : Int), .pointer (some ⟨q, 0, none⟩)] w fun e w' => e = .returned (.bool (decide (x = hd))) ∧ w = w' := by
  have hd' : decide ((x : Int) = (hd : Int)) = decide (x = hd) := by
    by_cases e : x = hd
    · subst e; simp
    · have : ¬ (x : Int) = (hd : Int) := by omega
      simp [e, this]
  go_enter Tryz.func59, Tryz.ntmps59
  go_wp2_with fail
  go_ret
  refine ⟨?_, rfl⟩
  by_cases e : x = hd
  · subst e; simp
  · have : ¬ (x : Int) = (hd : Int) := by omega
    simp [e, this]
/-- Where a handle stands; -1: it does not. -/
def idxH (hd : Nat) (l : List Nat) : Int := match l.findIdx? (fun x => decide (x = hd)) with | some i => (i : Int) | none => -1
theorem idxH_some {hd : Nat} {l : List Nat} {k : Nat} (h : l[k]? = some hd) (hb : ∀ j, j < k → l[j]? ≠ some hd) : idxH hd l = (k : Int) := by
  unfold idxH
  have : l.findIdx? (fun x => decide (x = hd)) = some k := by
    rw [List.findIdx?_eq_some_iff_getElem]
    have hk := (List.getElem?_eq_some_iff.1 h).1
    refine ⟨hk, ?_, fun j hj => ?_⟩
    · have := (List.getElem?_eq_some_iff.1 h).2
      simp [this]
    · have := hb j hj
      rw [List.getElem?_eq_getElem (by omega)] at this
      simpa using this
  rw [this]
theorem idxH_none {hd : Nat} {l : List Nat} (hb : ∀ j, j < l.length → l[j]? ≠ some hd) : idxH hd l = -1 := by
  unfold idxH
  have : l.findIdx? (fun x => decide (x = hd)) = none := by
    rw [List.findIdx?_eq_none_iff]
    intro x hx
    obtain ⟨i, hi, rfl⟩ := List.getElem_of_mem hx
    have := hb i hi
    rw [List.getElem?_eq_getElem hi] at this
    simpa using this
  rw [this]
set_option maxHeartbeats 2000000 in
theorem index_h (w : World) (a : Option Addr) (n c : Nat) (l : List Nat) (h : LsAt w a 1 hvC l) (hn : n = l.length) (hb : n ≤ 1000000000) (q hd : Nat) (hq : w.cell? ⟨q, 0, none⟩ = some (.int .u64 (hd : Int))) :
    Calls Tryz.prog 92 #[.slice a n c, .func (.func 59) #[] #[.pointer (some ⟨q, 0, none⟩)]] w fun e w' => e = .returned (.int .i64 (idxH hd l)) ∧ w = w' := by
  have HL := Lib.hid h
  have HN := Lib.hid hn
  have HF := Lib.hid (fun x => Free1 w q hd x hq)
  clear h hn
  go_enter Tryz.func92, Tryz.ntmps92
  go_wp2_with fail
  go_loop [8] (fun i => ∃ k : Nat, i = .int .i64 k ∧ Hid (k ≤ n) ∧ Hid (∀ j, j < k → l[j]? ≠ some hd)) (fun i => n - (intOf i).toNat)
  case atStart => exact ⟨0, rfl, Nat.zero_le _, fun j hj => by omega⟩
  case round =>
    obtain ⟨k, rfl, hk, hbf⟩ := hrel
    by_cases hlt : k < n
    · obtain ⟨x, hx⟩ : ∃ x, l[k]? = some x := ⟨l[k]'(by rw [← HN.out]; exact hlt), List.getElem?_eq_getElem _⟩
      obtain ⟨b, o, rfl, _, hc⟩ := HL.out.get hx
      have ck : w.cell? ⟨b, o + k, none⟩ = some (.int .u64 (x : Int)) := by have := hc k x hx 0 (hvN x) rfl; rw [Nat.mul_one, Nat.add_zero] at this; exact this
      have HFX := Lib.hid (HF.out x)
      have wk : IntKind.i64.wrap ((k : Int) + 1) = ((k + 1 : Nat) : Int) := by rw [show (k : Int) + 1 = ((k + 1 : Nat) : Int) by omega]; exact IntWalk.i64_in _ (by omega)
      have HX := Lib.hid hx
      clear hc hx
      by_cases e : x = hd
      · have HR := Lib.hid (idxH_some (by rw [HX.out, e]) hbf.out)
        have ed : decide (x = hd) = true := by simpa using e
        rw [ed] at HFX
        clear e ed
        go_wp2_with fail
        refine HFX.out.mono ?_
        rintro e w1 ⟨rfl, rfl⟩
        go_wp2_with fail
        go_ret
        exact ⟨by rw [HR.out]; rfl, rfl⟩
      · have ed : decide (x = hd) = false := by simpa using e
        rw [ed] at HFX
        have HB := Lib.hid (show ∀ j, j < k + 1 → l[j]? ≠ some hd from fun j hj => by
          rcases Nat.lt_or_ge j k with q | q
          · exact hbf.out j q
          · have : j = k := by omega
            subst this; rw [HX.out]; intro q; cases q; exact e rfl)
        clear ed
        go_wp2_with fail
        refine HFX.out.mono ?_
        rintro e w1 ⟨rfl, rfl⟩
        go_wp2_with fail
        go_round
        case rel => exact ⟨k + 1, by first | rfl | (rw [wk]), hlt, HB.out⟩
        case measure => simp [intOf]; omega
    · have hke : k = n := by have := hk.out; omega
      have HR := Lib.hid (idxH_none (l := l) (hd := hd) (fun j hj => hbf.out j (by rw [hke, HN.out]; exact hj)))
      clear hke
      go_wp2_with fail
      go_ret
      exact ⟨by rw [HR.out]; rfl, rfl⟩
def notH (hd : Nat) (l : List Nat) : List Nat := l.filter (fun x => decide (x ≠ hd))
theorem notH_snoc (hd : Nat) (l : List Nat) (x : Nat) : notH hd (l ++ [x]) = if x = hd then notH hd l else notH hd l ++ [x] := by
  unfold notH
  rw [List.filter_append]
  by_cases e : x = hd <;> simp [e]
theorem notH_le (hd : Nat) (l : List Nat) : (notH hd l).length ≤ l.length := List.length_filter_le _ _
theorem notH_none {hd : Nat} {l : List Nat} (h : idxH hd l = -1) : notH hd l = l := by
  unfold idxH at h
  cases e : l.findIdx? (fun x => decide (x = hd)) with
  | some i => rw [e] at h; exfalso; have h : (i : Int) = -1 := h; omega
  | none =>
    rw [List.findIdx?_eq_none_iff] at e
    unfold notH
    rw [List.filter_eq_self]
    intro x hx
    have := e x hx
    simpa using this
theorem idxH_pos {hd : Nat} {l : List Nat} (h : idxH hd l ≠ -1) : ∃ k : Nat, idxH hd l = (k : Int) ∧ l[k]? = some hd ∧ ∀ j, j < k → l[j]? ≠ some hd := by
  unfold idxH at h ⊢
  cases e : l.findIdx? (fun x => decide (x = hd)) with
  | none => rw [e] at h; exact absurd rfl h
  | some i =>
    rw [List.findIdx?_eq_some_iff_getElem] at e
    obtain ⟨h1, h2, h3⟩ := e
    refine ⟨i, rfl, ?_, fun j hj q => ?_⟩
    · rw [List.getElem?_eq_getElem h1]
      simpa using h2
    · have := h3 j hj
      have hjl : j < l.length := by omega
      rw [List.getElem?_eq_getElem hjl] at q
      simp at q
      exact this (by simpa using q)
theorem notH_take {hd : Nat} {l : List Nat} {k : Nat} (hb : ∀ j, j < k → l[j]? ≠ some hd) : notH hd (l.take k) = l.take k := by
  unfold notH
  rw [List.filter_eq_self]
  intro x hx
  obtain ⟨i, hi, rfl⟩ := List.getElem_of_mem hx
  have hi' : i < k := by rw [List.length_take] at hi; omega
  have := hb i hi'
  rw [List.getElem_take]
  have hl : i < l.length := by rw [List.length_take] at hi; omega
  rw [List.getElem?_eq_getElem hl] at this
  simpa using this
/-- Between two rounds of DeleteFunc: what is kept stands in front; from j on nothing has turned. -/
structure DelR (w0 : World) (g cap n : Nat) (l : List Nat) (hd : Nat) (i j : Nat) (w : World) : Prop where
  len : i = (notH hd (l.take j)).length
  lt : i < j
  jn : j ≤ n
  fr : Fr (one g) w0 w
  row : ∃ cur, Row w g cur 32 ∧ cur.size = cap ∧ cur.toList.take i = (notH hd (l.take j)).map hvN ∧ ∀ m x, j ≤ m → l[m]? = some x → cur[m]? = some (hvN x)
theorem zeroH (w : World) : (zeroValue 32).run Tryz.prog w = .ok (.int .u64 0) w := by kernel_rfl
set_option maxHeartbeats 4000000 in
theorem delete_h (w : World) (a : Option Addr) (n cap : Nat) (l : List Nat) (h : SlAt w a n cap 32 1 (l.map hvN)) (hn : n = l.length) (hb : n ≤ 1000000000) (q hd : Nat) (hq : w.cell? ⟨q, 0, none⟩ = some (.int .u64 (hd : Int))) (hqa : ¬ blk a q) (n' : Nat) (hn' : n' = (notH hd l).length) :
    Calls Tryz.prog 57 #[.slice a n cap, .func (.func 59) #[] #[.pointer (some ⟨q, 0, none⟩)]] w fun e w' => e = .returned (.slice a n' cap) ∧ SlAt w' a n' cap 32 1 ((notH hd l).map hvN) ∧ Fr (blk a) w w' := by
  have hls := h.ls1 (enc := hvN) hn
  have HI := Lib.hid (index_h w a n cap l hls hn hb q hd hq)
  have HN := Lib.hid hn
  have HS := Lib.hid h
  have HN' := Lib.hid hn'
  clear hls hn hn'
  by_cases hix : idxH hd l = -1
  · have e := notH_none hix
    rw [hix] at HI
    have HE := Lib.hid e
    clear hix e h
    go_enter Tryz.func57, Tryz.ntmps57
    go_wp2_with fail
    refine HI.out.mono ?_
    rintro e w1 ⟨rfl, rfl⟩
    go_wp2_with fail
    go_ret
    have hnn : n' = n := by rw [HN'.out, HE.out, HN.out]
    rw [hnn, HE.out]
    exact ⟨rfl, HS.out, Fr.refl _ _⟩
  obtain ⟨k, hk, hkl, hkb⟩ := idxH_pos hix
  have hkn : k < n := by rw [HN.out]; exact (List.getElem?_eq_some_iff.1 hkl).1
  obtain ⟨g, rfl⟩ := h.isAddr (by omega)
  obtain ⟨s1, s2, s3, _, s5⟩ := h
  obtain ⟨_, _, cur, r3, r4, r5⟩ := s5 _ rfl
  simp only [Nat.mul_one] at s1 r4 r5
  have hgq : ¬ g = q := fun e => hqa ((blk_some _ _ _).2 e)
  have h0 : DelR w g cap n l hd k (k + 1) w := by
    have ht : notH hd (l.take (k + 1)) = l.take k := by
      rw [List.take_add_one, hkl]
      show notH hd (l.take k ++ [hd]) = _
      rw [notH_snoc, if_pos rfl, notH_take hkb]
    refine ⟨by rw [ht, List.length_take]; have := HN.out; omega, by omega, by omega, Fr.refl _ _, cur, r3, r4, ?_, fun m x hm hx => ?_⟩
    · rw [ht, List.map_take, ← r5, List.take_take, Nat.min_eq_left (by omega)]
    · have hml : m < n := by rw [HN.out]; exact (List.getElem?_eq_some_iff.1 hx).1
      have : (cur.toList.take n)[m]? = some (hvN x) := by rw [r5, List.getElem?_map, hx]; rfl
      rw [List.getElem?_take, if_pos hml] at this
      simpa using this
  rw [hk] at HI
  have H0 := Lib.hid h0
  have HC := Lib.hid (And.intro s2 s3)
  have HQ := Lib.hid hq
  have wk : IntKind.i64.wrap ((k : Int) + 1) = ((k + 1 : Nat) : Int) := by rw [show (k : Int) + 1 = ((k + 1 : Nat) : Int) by omega]; exact IntWalk.i64_in _ (by omega)
  have hkne : ¬ (k : Int) = -1 := by omega
  have HKN := Lib.hid hkn
  obtain ⟨k1, hk1⟩ : ∃ k1, k1 = k + 1 := ⟨_, rfl⟩
  rw [← hk1] at wk H0
  have hk1n : k1 ≤ n := by omega
  clear hix hk hkl hkb r3 r4 r5 s1 s2 s3 s5 h0 hq hqa hk1
  go_enter Tryz.func57, Tryz.ntmps57
  go_wp2_with fail
  refine HI.out.mono ?_
  rintro e w1 ⟨rfl, rfl⟩
  go_wp2_with fail
  go_loopw [5, 6] (fun iv jv wr => ∃ i j : Nat, iv = .int .i64 i ∧ jv = .int .i64 j ∧ Hid (j ≤ n) ∧ Hid (i < n) ∧ Hid (DelR w g cap n l hd i j wr)) (fun iv jv _ => n - (intOf jv).toNat)
  case atStart => exact ⟨k, k1, rfl, by first | rfl | (rw [wk]), hk1n, HKN.out, H0.out⟩
  case round =>
    obtain ⟨i, j, rfl, rfl, hj, hi, hd'⟩ := hrel
    clear H0 wk hkne hk1n
    have hjn := hj.out
    have hin := hi.out
    by_cases hlt : j < n
    · obtain ⟨x, hx⟩ : ∃ x, l[j]? = some x := ⟨l[j]'(by rw [← HN.out]; exact hlt), List.getElem?_eq_getElem _⟩
      obtain ⟨cur, r3, r4, r5, r6⟩ := hd'.out.row
      have cj : wr.cell? ⟨g, j, none⟩ = some (.int .u64 (x : Int)) := (r3.cell j).trans (r6 j x (Nat.le_refl _) hx)
      have hqr : wr.cell? ⟨q, 0, none⟩ = some (.int .u64 (hd : Int)) := hd'.out.fr.keepF (fun e => hgq e.symm) HQ.out
      have HFX := Lib.hid (Free1 wr q hd x hqr)
      have wj : IntKind.i64.wrap ((j : Int) + 1) = ((j + 1 : Nat) : Int) := by rw [show (j : Int) + 1 = ((j + 1 : Nat) : Int) by omega]; exact IntWalk.i64_in _ (by omega)
      have hsn : notH hd (l.take (j + 1)) = notH hd (l.take j ++ [x]) := by rw [List.take_add_one, hx]; rfl
      by_cases e : x = hd
      · have ed : decide (x = hd) = true := by simpa using e
        rw [ed] at HFX
        have HX := Lib.hid (show DelR w g cap n l hd i (j + 1) wr from by
          rw [notH_snoc, if_pos e] at hsn
          refine ⟨by rw [hsn]; exact hd'.out.len, by have := hd'.out.lt; omega, hlt, hd'.out.fr, cur, r3, r4, by rw [hsn]; exact r5, fun m y hm hy => r6 m y (by omega) hy⟩)
        clear e ed r3 r4 r5 r6 hsn hx hqr
        go_wp2_with fail
        refine HFX.out.mono ?_
        rintro e w1 ⟨rfl, rfl⟩
        go_wp2_with fail
        go_roundw
        case rel =>
          refine ⟨_, _, _, _, _, _, _, _, _, _, _, _, _, _, _, _, _, _, _, _, _, _, _, ?_, rfl⟩
          exact ⟨i, j + 1, rfl, by first | rfl | (rw [wj]), hlt, hin, HX.out⟩
        case measure => simp [intOf]; omega
      · have ed : decide (x = hd) = false := by simpa using e
        rw [ed] at HFX
        have wi : IntKind.i64.wrap ((i : Int) + 1) = ((i + 1 : Nat) : Int) := by rw [show (i : Int) + 1 = ((i + 1 : Nat) : Int) by omega]; exact IntWalk.i64_in _ (by omega)
        have hil := hd'.out.lt
        have hcap := HC.out.1
        obtain ⟨u, hu⟩ : ∃ u, cur[i]? = some u := ⟨_, Array.getElem?_eq_getElem (by rw [r4]; omega)⟩
        have ci : wr.cell? ⟨g, i, none⟩ = some u := (r3.cell i).trans hu
        have zi := r3.free i
        have HX := Lib.hid (show DelR w g cap n l hd (i + 1) (j + 1) (wr.setCell ⟨g, i, none⟩ (.int .u64 (x : Int))) from by
          rw [notH_snoc, if_neg e] at hsn
          refine ⟨by rw [hsn, List.length_append, ← hd'.out.len]; rfl, by omega, hlt, hd'.out.fr.trans (Fr.setCell (one g) wr ⟨g, i, none⟩ _ (fun _ => rfl)), cur.setIfInBounds i (.int .u64 (x : Int)), r3.set i _, by rw [Array.size_setIfInBounds]; exact r4, ?_, fun m y hm hy => ?_⟩
          · rw [hsn, List.map_append, ← r5, Array.toList_setIfInBounds]
            have hcl : i < cur.toList.length := by rw [Array.length_toList, r4]; omega
            rw [List.take_add_one, List.take_set_of_le (Nat.le_refl _), List.getElem?_set_self hcl]; rfl
          · rw [Array.getElem?_setIfInBounds, if_neg (by omega)]
            exact r6 m y (by omega) hy)
        have hin1 : i + 1 < n ∨ i + 1 = n := by omega
        have HIN := Lib.hid (show i + 1 < n by omega)
        clear hin1 e ed r3 r4 r5 r6 hsn hx hqr hu hil hcap
        go_wp2_with fail
        refine HFX.out.mono ?_
        rintro e w1 ⟨rfl, rfl⟩
        go_wp2_with fail
        go_roundw
        case rel =>
          refine ⟨_, _, _, _, _, _, _, _, _, _, _, _, _, _, _, _, _, _, _, _, _, _, _, ?_, rfl⟩
          exact ⟨i + 1, j + 1, by first | rfl | (rw [wi]), by first | rfl | (rw [wj]), hlt, HIN.out, HX.out⟩
        case measure => simp [intOf]; omega
    · have hje : j = n := by omega
      obtain ⟨cur, r3, r4, r5, r6⟩ := hd'.out.row
      have hie := hd'.out.len
      rw [hje, HN.out, List.take_length] at hie r5
      have hii : i = n' := by rw [HN'.out]; exact hie
      have hcap := HC.out.1
      have R3 := Lib.hid r3
      have R5 := Lib.hid (And.intro r4 (And.intro r5 hii))
      have HFR := Lib.hid hd'.out.fr
      have hne : ¬ cap = i := by omega
      have hne2 : ¬ i = cap := by omega
      have hicap : i ≤ cap := by omega
      have hsz : i + (n - i) ≤ cur.size := by rw [r4]; omega
      have HSZ := Lib.hid hsz
      clear r3 r4 r5 r6 hie hii hje hd' hsz
      go_wp2_with ((with_reducible refine at_clear ?_); refine wpClear rfl _ _ rfl R3.out 32 (.int .u64 0) Tryz.underlying33 zeroH rfl rfl i (n - i) (cap - i) (by first | rfl | simp [hne, hne2]) HSZ.out ?_; intro w2 r2 f2; have R2 := Lib.hid r2; have F2 := Lib.hid f2; clear r2 f2)
      go_ret
      obtain ⟨q1, q2, q3⟩ := R5.out
      refine ⟨by rw [← q3]; rfl, ⟨?_, ?_, HC.out.2, (fun h => by cases h), fun ad had => ?_⟩, (HFR.out.trans F2.out).mono fun k _ e => (blk_some _ _ _).2 e.symm⟩
      · rw [List.length_map, HN'.out, Nat.mul_one]
      · rw [← q3]; omega
      · cases had
        refine ⟨rfl, rfl, _, R2.out, by rw [putAtA_size _ _ _ (by simp; have := HSZ.out; omega), q1, Nat.mul_one], ?_⟩
        unfold putAtA putAt
        rw [Nat.mul_one, ← q3, List.append_assoc]
        have hl : (cur.toList.take i).length = i := by rw [List.length_take, Array.length_toList, q1]; omega
        rw [List.take_left' hl, q2]
end Go.Proofs.YtckkccnebjacdaaGreat
namespace Go.Proofs.YtckkccnebjacdaaGreat
open Go.RowKit
set_option linter.unusedVariables false
set_option linter.unusedSimpArgs false
set_option maxRecDepth 100000

structure SgV where
  a : Option Addr
  cap : Nat
  l : List Nat
def sgEv (p : SgV) : Value := .slice p.a p.l.length p.cap
theorem kvPut_mem {K V : Type} [DecidableEq K] : ∀ {l : List (K × V)} {k : K} {v : V} {p : K × V}, (l.map (·.1)).Nodup → p ∈ kvPut l k v → p = (k, v) ∨ (p ∈ l ∧ p.1 ≠ k)
  | [], k, v, p, _, h => by
    unfold kvPut at h
    left; simpa using h
  | x :: r, k, v, p, hn, h => by
    simp only [List.map_cons, List.nodup_cons] at hn
    unfold kvPut at h
    by_cases e : x.1 = k
    · rw [if_pos e] at h
      rcases List.mem_cons.1 h with h | h
      · exact Or.inl h
      · right
        refine ⟨List.mem_cons_of_mem _ h, fun q => hn.1 ?_⟩
        rw [e, ← q]; exact List.mem_map_of_mem h
    · rw [if_neg e] at h
      rcases List.mem_cons.1 h with h | h
      · right; subst h; exact ⟨by simp, e⟩
      · rcases kvPut_mem hn.2 h with q | ⟨q1, q2⟩
        · exact Or.inl q
        · exact Or.inr ⟨List.mem_cons_of_mem _ q1, q2⟩
theorem kvDel_mem {K V : Type} [DecidableEq K] {l : List (K × V)} {k : K} {p : K × V} (h : p ∈ kvDel l k) : p ∈ l ∧ p.1 ≠ k := by
  unfold kvDel at h
  have := List.mem_filter.1 h
  exact ⟨this.1, by simpa using this.2⟩
theorem kvGet_mem {K V : Type} [DecidableEq K] {l : List (K × V)} {k : K} {v : V} (h : kvGet l k = some v) : (k, v) ∈ l := by
  unfold kvGet at h
  obtain ⟨p, hp, he⟩ := Option.map_eq_some_iff.1 h
  have h1 := List.find?_some hp
  have h2 := List.mem_of_find?_eq_some hp
  simp at h1
  obtain ⟨p1, p2⟩ := p
  simp at h1 he
  subst h1; subst he; exact h2
theorem mem_kvGet {K V : Type} [DecidableEq K] : ∀ {l : List (K × V)} {k : K} {v : V}, (l.map (·.1)).Nodup → (k, v) ∈ l → kvGet l k = some v
  | [], k, v, _, h => by simp at h
  | x :: r, k, v, hn, h => by
    simp only [List.map_cons, List.nodup_cons] at hn
    rw [kvGet_cons]
    rcases List.mem_cons.1 h with h | h
    · subst h; simp
    · have : x.1 ≠ k := fun e => hn.1 (by rw [e]; exact List.mem_map_of_mem h)
      rw [if_neg this]; exact mem_kvGet hn.2 h

/-- In memory: the map m; which slice each key has, and which handles stand there. -/
structure SegM (w : World) (m : Nat) (vs : List (Int × SgV)) : Prop where
  map : MapAt w m (Value.int .i64) sgEv vs
  sl : ∀ p ∈ vs, SlAt w p.2.a p.2.l.length p.2.cap 32 1 (p.2.l.map hvN)
  ne : ∀ p ∈ vs, p.2.l ≠ []
  apart : ∀ p ∈ vs, ∀ q ∈ vs, p.1 ≠ q.1 → ∀ k, blk p.2.a k → ¬ blk q.2.a k
  off : ∀ p ∈ vs, ¬ blk p.2.a m
def segOf (vs : List (Int × SgV)) (k : Int) : List Nat := match kvGet vs k with | some p => p.l | none => []
def segOwn (m : Nat) (vs : List (Int × SgV)) : Nat → Prop := fun k => k = m ∨ ∃ p ∈ vs, blk p.2.a k
section
variable {w w' : World} {m : Nat} {vs : List (Int × SgV)}
theorem SegM.kept {G : Nat → Prop} (h : SegM w m vs) (f : Fr G w w') (hn : ∀ k, segOwn m vs k → ¬ G k) : SegM w' m vs :=
  ⟨h.map.kept f (hn m (Or.inl rfl)), fun p hp => (h.sl p hp).kept f (fun k hk => hn k (Or.inr ⟨p, hp, hk⟩)), h.ne, h.apart, h.off⟩
theorem SegM.kept0 (h : SegM w m vs) (f : Fr none_ w w') : SegM w' m vs := h.kept f (fun _ _ e => e)
theorem SegM.lt (h : SegM w m vs) : ∀ k, segOwn m vs k → k < w.heap.size := by
  rintro k (rfl | ⟨p, hp, hk⟩)
  · exact h.map.lt
  · exact (h.sl p hp).lt k hk
theorem SegM.nodup (h : SegM w m vs) : (vs.map (·.1)).Nodup := h.map.nodup
theorem SegM.get (h : SegM w m vs) {k : Int} {p : SgV} (e : kvGet vs k = some p) : SlAt w p.a p.l.length p.cap 32 1 (p.l.map hvN) ∧ segOf vs k = p.l ∧ p.l ≠ [] ∧ ¬ blk p.a m ∧ ∀ b, blk p.a b → segOwn m vs b := by
  have hm := kvGet_mem e
  refine ⟨h.sl _ hm, by unfold segOf; rw [e], h.ne _ hm, h.off _ hm, fun b hb => Or.inr ⟨_, hm, hb⟩⟩
theorem SegM.new (w : World) : SegM (w.alloc (.map #[] 0)) w.heap.size [] :=
  ⟨MapAt.new w _ _, fun p h => by simp at h, fun p h => by simp at h, fun p h => by simp at h, fun p h => by simp at h⟩
/-- What a key's slice is, where the key has none: nil. -/
def sgGet (vs : List (Int × SgV)) (k : Int) : SgV := (kvGet vs k).getD ⟨none, 0, []⟩
theorem sgGet_l (k : Int) : (sgGet vs k).l = segOf vs k := by unfold sgGet segOf; cases kvGet vs k <;> rfl
theorem SegM.at_ (h : SegM w m vs) (k : Int) : SlAt w (sgGet vs k).a (sgGet vs k).l.length (sgGet vs k).cap 32 1 ((sgGet vs k).l.map hvN) ∧ ¬ blk (sgGet vs k).a m ∧ (∀ b, blk (sgGet vs k).a b → segOwn m vs b) ∧ (∀ q ∈ vs, q.1 ≠ k → ∀ b, blk (sgGet vs k).a b → ¬ blk q.2.a b) ∧ ((sgGet vs k).l = [] → (sgGet vs k).a = none ∧ (sgGet vs k).cap = 0) := by
  unfold sgGet
  cases e : kvGet vs k with
  | none => exact ⟨SlAt.empty _ _ _, blk_none _, fun b hb => absurd hb (blk_none b), fun q _ _ b hb => absurd hb (blk_none b), fun _ => ⟨rfl, rfl⟩⟩
  | some p =>
    have hm := kvGet_mem e
    exact ⟨h.sl _ hm, h.off _ hm, fun b hb => Or.inr ⟨_, hm, hb⟩, fun q hq hne => h.apart (k, p) hm q hq (fun e => hne e.symm), fun q => absurd q (h.ne _ hm)⟩
/-- A key's slice is another one: by what an append, or a clone, has handed back. -/
theorem SegM.put (h : SegM w m vs) {w1 w2 : World} {k : Int} {v : SgV} (f1 : Fr (blk (sgGet vs k).a) w w1) (hs : SlAt w1 v.a v.l.length v.cap 32 1 (v.l.map hvN)) (hne : v.l ≠ []) (hb : ∀ b, blk v.a b → blk (sgGet vs k).a b ∨ w.heap.size ≤ b)
    (hm : MapAt w2 m (Value.int .i64) sgEv (kvPut vs k v)) (f2 : Fr (one m) w1 w2) :
    SegM w2 m (kvPut vs k v) ∧ (∀ b, segOwn m (kvPut vs k v) b → segOwn m vs b ∨ w.heap.size ≤ b) ∧ (∀ x, segOf (kvPut vs k v) x = if k = x then v.l else segOf vs x) := by
  obtain ⟨_, o1, o2, o3, _⟩ := h.at_ k
  have hlt := h.map.lt
  have hv : ¬ blk v.a m := fun q => by
    rcases hb m q with e | e
    · exact o1 e
    · omega
  have hold : ∀ p ∈ vs, p.1 ≠ k → ∀ b, blk p.2.a b → ¬ blk v.a b := fun p hp hk b hb1 hb2 => by
    rcases hb b hb2 with e | e
    · exact o3 p hp hk b e hb1
    · have := (h.sl p hp).lt b hb1; omega
  refine ⟨⟨hm, fun p hp => ?_, fun p hp => ?_, fun p hp q hq hpq b hb1 hb2 => ?_, fun p hp => ?_⟩, fun b hb1 => ?_, fun x => ?_⟩
  · rcases kvPut_mem h.nodup hp with rfl | ⟨hp, hk⟩
    · exact hs.kept f2 (fun b hb1 e => hv (by unfold one at e; subst e; exact hb1))
    · exact ((h.sl p hp).kept f1 (fun b hb1 e => o3 p hp hk b e hb1)).kept f2 (fun b hb1 e => h.off p hp (by unfold one at e; subst e; exact hb1))
  · rcases kvPut_mem h.nodup hp with rfl | ⟨hp, _⟩
    · exact hne
    · exact h.ne p hp
  · rcases kvPut_mem h.nodup hp with rfl | ⟨hp, hk⟩
    · rcases kvPut_mem h.nodup hq with rfl | ⟨hq, hk'⟩
      · exact hpq rfl
      · exact hold q hq hk' b hb2 hb1
    · rcases kvPut_mem h.nodup hq with rfl | ⟨hq, hk'⟩
      · exact hold p hp hk b hb1 hb2
      · exact h.apart p hp q hq hpq b hb1 hb2
  · rcases kvPut_mem h.nodup hp with rfl | ⟨hp, _⟩
    · exact hv
    · exact h.off p hp
  · rcases hb1 with rfl | ⟨p, hp, hb1⟩
    · exact Or.inl (Or.inl rfl)
    · rcases kvPut_mem h.nodup hp with rfl | ⟨hp, _⟩
      · rcases hb b hb1 with e | e
        · exact Or.inl (o2 b e)
        · exact Or.inr e
      · exact Or.inl (Or.inr ⟨p, hp, hb1⟩)
  · unfold segOf
    rw [kvGet_put]
    by_cases e : k = x
    · rw [if_pos e, if_pos e]
    · rw [if_neg e, if_neg e]
/-- A key is gone. -/
theorem SegM.del (h : SegM w m vs) {w2 : World} {k : Int} (hm : MapAt w2 m (Value.int .i64) sgEv (kvDel vs k)) (f2 : Fr (one m) w w2) :
    SegM w2 m (kvDel vs k) ∧ (∀ b, segOwn m (kvDel vs k) b → segOwn m vs b) ∧ (∀ x, segOf (kvDel vs k) x = if k = x then [] else segOf vs x) := by
  refine ⟨⟨hm, fun p hp => ?_, fun p hp => h.ne p (kvDel_mem hp).1, fun p hp q hq => h.apart p (kvDel_mem hp).1 q (kvDel_mem hq).1, fun p hp => h.off p (kvDel_mem hp).1⟩, fun b hb1 => ?_, fun x => ?_⟩
  · have hp' := (kvDel_mem hp).1
    exact (h.sl p hp').kept f2 (fun b hb1 e => h.off p hp' (by unfold one at e; subst e; exact hb1))
  · rcases hb1 with rfl | ⟨p, hp, hb1⟩
    · exact Or.inl rfl
    · exact Or.inr ⟨p, (kvDel_mem hp).1, hb1⟩
  · unfold segOf
    rw [kvGet_del]
    by_cases e : k = x
    · rw [if_pos e, if_pos e]
    · rw [if_neg e, if_neg e]
theorem zero_hs (w : World) : (zeroValue 33).run Tryz.prog w = .ok (.slice none 0 0) w := by kernel_rfl
theorem int_keyU : KeyT Tryz.prog 3 (Value.int .i64) := KeyT.int Tryz.underlying3
theorem sg_look (vs : List (Int × SgV)) (k : Int) : ((kvGet vs k).map sgEv).getD (.slice none 0 0) = .slice (sgGet vs k).a (sgGet vs k).l.length (sgGet vs k).cap := by
  unfold sgGet sgEv
  cases kvGet vs k <;> rfl
theorem SegM.look (h : SegM w m vs) (k : Int) : (Instr.lookup 80 (.map (some m)) (.int .i64 k) false).run Tryz.prog w = .ok (.slice (sgGet vs k).a (sgGet vs k).l.length (sgGet vs k).cap) w := by
  have := run_lookup_at h.map Tryz.underlying80 int_keyU (zero_hs w) k false
  rw [this]
  simp only [Bool.false_eq_true, if_false]
  rw [sg_look]
end
end Go.Proofs.YtckkccnebjacdaaGreat
