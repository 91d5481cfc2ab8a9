/-
  The reference of layer 10: a row of times in a struct; what New, Of, Pass do.
-/
import Derived.Test.YtkfnfflonjfglaaDdRowsLaw
namespace Go.Proofs.Ytkfnfflonjfglaa
open Go.RowKit
set_option linter.unusedVariables false
set_option linter.unusedSimpArgs false
set_option maxRecDepth 100000

theorem int_info8 : (Try.prog.info? 3).map (fun i => (i.zero, i.size, i.bytes)) = some (some (.int .i64 0), 1, 8) := by kernel_rfl
/-- The reference at block r: its times l. -/
structure RefAt (w : World) (r : Nat) (a : Option Addr) (cap : Nat) (l : List Int) : Prop where
  row : Row w r #[.slice a l.length cap] 58
  sl : SlAt w a l.length cap 3 1 (l.map (Value.int .i64))
  ap : ¬ blk a r
section
variable {w w' : World} {r : Nat} {a : Option Addr} {cap : Nat} {l : List Int}
theorem RefAt.kept {F : Nat → Prop} (h : RefAt w r a cap l) (f : Fr F w w') (hr : ¬ F r) (ha : ∀ k, blk a k → ¬ F k) : RefAt w' r a cap l := ⟨h.row.kept f hr, h.sl.kept f ha, h.ap⟩
theorem RefAt.kept0 (h : RefAt w r a cap l) (f : Fr none_ w w') : RefAt w' r a cap l := h.kept f (fun e => e) (fun _ _ e => e)
theorem RefAt.c0 (h : RefAt w r a cap l) : w.cell? ⟨r, 0, none⟩ = some (.slice a l.length cap) := (h.row.cell 0).trans rfl
theorem RefAt.free (h : RefAt w r a cap l) (i : Nat) : w.frozen? ⟨r, i, none⟩ = false := h.row.free i
end

theorem Ref_New (w : World) : Calls Try.prog 21 #[] w fun e w' => ∃ r, e = .returned (.pointer (some ⟨r, 0, none⟩)) ∧ RefAt w' r none 0 [] ∧ Fr none_ w w' ∧ w.heap.size ≤ r := by
  go_enter Try.func21, Try.ntmps21
  go_wp2
  go_ret
  exact ⟨w.heap.size, rfl, ⟨Row.new w _ _, SlAt.empty _ _ _, blk_none _⟩, Fr.alloc _ _ _, Nat.le_refl _⟩

theorem Ref_Of {w : World} {r : Nat} {a : Option Addr} {cap : Nat} {l : List Int} (h : RefAt w r a cap l) (hl : l.length ≤ 1000) (t : Int) :
    Calls Try.prog 27 #[.pointer (some ⟨r, 0, none⟩), .int .i64 t] w fun e w' => e = .returned (.int .i64 (l.count t : Int)) ∧ w = w' := by
  have c0 := h.c0
  have H := Lib.hid h
  clear h
  go_enter Try.func27, Try.ntmps27
  go_wp2
  go_loop [5, 6] (fun u i => ∃ k c : Nat, Hid (k ≤ l.length) ∧ i = .int .i64 k ∧ u = .int .i64 c ∧ Hid (c = (l.take k).count t)) (fun _ i => l.length - (intOf i).toNat)
  case atStart => exact ⟨0, 0, Nat.zero_le _, rfl, rfl, rfl⟩
  case round =>
    obtain ⟨k, c, hk, rfl, rfl, hc⟩ := hrel
    by_cases hlt : k < l.length
    · obtain ⟨v, hv⟩ : ∃ v, l[k]? = some v := ⟨l[k], List.getElem?_eq_getElem hlt⟩
      obtain ⟨g, rfl⟩ := H.out.sl.isAddr (by omega)
      have ck := H.out.sl.cell (i := k) (v := .int .i64 v) (by rw [List.getElem?_map, hv]; rfl)
      have hcs : (l.take (k + 1)).count t = (l.take k).count t + if v = t then 1 else 0 := by
        rw [take_succ_get2 _ _ _ hv, List.count_append, List.count_singleton]; simp
      have hcb : c ≤ 1000 := by have := hc.out; have := List.count_le_length (a := t) (l := l.take k); rw [List.length_take] at this; omega
      have hco := hc.out
      by_cases e : v = t
      · rw [if_pos e, ← hco] at hcs
        have HCS := Lib.hid hcs.symm
        subst e
        clear hcs hco hv
        go_wp2
        go_round
        case rel => exact ⟨k + 1, c + 1, hlt, by go_num, by go_num, HCS⟩
        case measure => simp [intOf]; omega
      · rw [if_neg e, ← hco] at hcs
        have HCS := Lib.hid hcs.symm
        have e2 : (v == t) = false := beq_eq_false_iff_ne.2 e
        clear hcs hco hv
        go_wp2
        go_round
        case rel => exact ⟨k + 1, c, hlt, by go_num, rfl, HCS⟩
        case measure => simp [intOf]; omega
    · have hke : k = l.length := by have := hk.out; omega
      have hco := hc.out
      rw [hke, List.take_length] at hco
      subst hco
      clear hke
      go_wp2
      go_ret
      exact ⟨rfl, rfl⟩
theorem one_cell0 (v : Value) (w : World) (b : Nat) (hc : w.cell? ⟨b, 0, none⟩ = some v) : ∀ (j : Nat) (u : Value), ([v] : List Value)[j]? = some u → w.cell? ((⟨b, 0, none⟩ : Addr).add j) = some u := by
  intro j u hu
  cases j with
  | zero => simp at hu; subst hu; exact hc
  | succ j => simp at hu

/-- Behind some rounds: the reference as it was, a new row. -/
structure RlRel (w0 : World) (r : Nat) (a : Option Addr) (cap : Nat) (l : List Int) (n : Nat) (b : Option Addr) (bc : Nat) (out : List Int) (wr : World) : Prop where
  ref : RefAt wr r a cap l
  sl : SlAt wr b n bc 3 1 (out.map (Value.int .i64))
  len : n = out.length
  fr : Fr none_ w0 wr
  own : ∀ j, blk b j → w0.heap.size ≤ j
theorem RlRel.push {w0 wr wa w2 : World} {r n : Nat} {a b b' : Option Addr} {cap bc bc' : Nat} {l out : List Int} (h0 : RefAt w0 r a cap l) (h : RlRel w0 r a cap l n b bc out wr) (fa : Fr none_ wr wa) {v : Int} (hs : SlAt w2 b' (n + 1) bc' 3 1 (out.map (Value.int .i64) ++ [.int .i64 v])) (f : Fr (blk b) wa w2) (hb : ∀ k, blk b' k → blk b k ∨ wa.heap.size ≤ k) : RlRel w0 r a cap l (n + 1) b' bc' (out ++ [v]) w2 := by
  have hz := h.fr.size
  have hz2 := fa.size
  have fr : Fr (blk b) wr w2 := fa.none.trans f
  refine ⟨h.ref.kept fr (fun e => by have := h.own r e; have := h0.row.lt; omega) (fun k hk e => by have := h.own k e; have := h0.sl.lt k hk; omega), by simpa using hs, by rw [List.length_append, ← h.len]; rfl, h.fr.step fr (fun i hi e => by have := h.own i e; omega), ?_⟩
  intro k hk
  rcases hb k hk with q | q
  · exact h.own k q
  · omega
/-- The row is put into the struct. -/
theorem RlRel.put {w0 wr : World} {r n : Nat} {a b : Option Addr} {cap bc : Nat} {l out : List Int} (h0 : RefAt w0 r a cap l) (h : RlRel w0 r a cap l n b bc out wr) : RefAt (wr.setCell ⟨r, 0, none⟩ (.slice b n bc)) r b bc out ∧ Fr (one r) w0 (wr.setCell ⟨r, 0, none⟩ (.slice b n bc)) := by
  have hn : ¬ blk b r := fun e => by have := h.own r e; have := h0.row.lt; omega
  have hl := h.len
  subst hl
  have hrow := h.ref.row.set 0 (.slice b out.length bc)
  have f : Fr (one r) wr (wr.setCell ⟨r, 0, none⟩ (.slice b out.length bc)) := Fr.setCell _ _ ⟨r, 0, none⟩ _ (fun _ => rfl)
  exact ⟨⟨hrow, h.sl.kept f (fun k hk e => hn (e ▸ hk)), hn⟩, h.fr.none.trans f⟩

set_option maxHeartbeats 2000000 in
theorem Ref_Pass {w : World} {r : Nat} {a : Option Addr} {cap : Nat} {l : List Int} (h : RefAt w r a cap l) (hl : l.length ≤ 1000) (fl : Int) :
    Calls Try.prog 25 #[.pointer (some ⟨r, 0, none⟩), .int .i64 fl] w fun e w' => e = .returned (.int .i64 ((l.length : Int) - ((l.filter (fun t => decide (fl < t))).length : Int))) ∧ (∃ b bc, RefAt w' r b bc (l.filter (fun t => decide (fl < t))) ∧ ∀ k, blk b k → blk a k ∨ w.heap.size ≤ k) ∧ Fr (one r) w w' := by
  have H := Lib.hid h
  have hr0 : RlRel w r a cap l 0 none 0 (((l.take 0).filter (fun t => decide (fl < t)))) w := ⟨h, SlAt.empty _ _ _, rfl, Fr.refl _ _, fun j hj => absurd hj (blk_none j)⟩
  clear h
  go_enter Try.func25, Try.ntmps25
  go_wp2_with fail
  go_loopw [5, 6] (fun u i wr => ∃ (k n bc : Nat) (b : Option Addr), Hid (k ≤ l.length) ∧ i = .int .i64 k ∧ u = .slice b n bc ∧ RlRel w r a cap l n b bc ((l.take k).filter (fun t => decide (fl < t))) wr) (fun _ i _ => l.length - (intOf i).toNat)
  case atStart => exact ⟨0, 0, 0, none, Nat.zero_le _, rfl, rfl, hr0⟩
  case round =>
    obtain ⟨k, n, bc, b, hk, rfl, rfl, hr⟩ := hrel
    clear hr0
    have c0 := hr.ref.c0
    by_cases hlt : k < l.length
    · obtain ⟨v, hv⟩ : ∃ v, l[k]? = some v := ⟨l[k], List.getElem?_eq_getElem hlt⟩
      obtain ⟨g, rfl⟩ := hr.ref.sl.isAddr (by omega)
      have ck := hr.ref.sl.cell (i := k) (v := .int .i64 v) (by rw [List.getElem?_map, hv]; rfl)
      have hnb : n ≤ 1000 := by
        rw [hr.len]
        have := List.length_filter_le (fun t => decide (fl < t)) (l.take k)
        rw [List.length_take] at this
        omega
      have htk : (l.take (k + 1)).filter (fun t => decide (fl < t)) = (l.take k).filter (fun t => decide (fl < t)) ++ if fl < v then [v] else [] := by
        rw [take_succ_get2 _ _ _ hv, List.filter_append]
        by_cases e : fl < v <;> simp [e]
      by_cases e : fl < v
      · rw [if_pos e] at htk
        have HT := Lib.hid htk
        clear htk hv
        go_wp2_with (at_builtin; refine wpAppend rfl _ _ _ rfl 3 (.int .i64 0) 1 8 Try.underlying31 int_info8 rfl (hr.sl.kept0 (Fr.alloc _ _ _)) rfl ⟨wr.heap.size, 0, none⟩ 1 1 [.int .i64 v] rfl rfl (one_cell0 _ _ _ (by simp)) (by simp [Value.oneCell']) (by omega) (by simp [maxLen]; omega) (by omega) ?_; intro b2 bc2 w6 hs6 f6 hb6)
        have hr6 := RlRel.push H.out hr (Fr.alloc none_ _ _) hs6 f6 hb6
        rw [← HT.out] at hr6
        go_roundw
        case rel => exact ⟨k + 1, n + 1, bc2, b2, hlt, by go_num, rfl, hr6⟩
        case measure => simp [intOf]; omega
      · rw [if_neg e, List.append_nil] at htk
        rw [← htk] at hr
        clear htk hv
        go_wp2_with fail
        go_roundw
        case rel => exact ⟨k + 1, n, bc, b, hlt, by go_num, rfl, hr⟩
        case measure => simp [intOf]; omega
    · have hke : k = l.length := by have := hk.out; omega
      rw [hke, List.take_length] at hr
      have hlen := hr.len
      have hle := List.length_filter_le (fun t => decide (fl < t)) l
      obtain ⟨p1, p2⟩ := RlRel.put H.out hr
      have fz := hr.ref.free 0
      have hw : IntKind.i64.wrap ((l.length : Int) - (n : Int)) = (l.length : Int) - (n : Int) := IntWalk.i64_in _ (by omega)
      have HR := Lib.hid (show RefAt _ r b bc _ ∧ Fr (one r) _ _ from ⟨p1, p2⟩)
      have HOW := Lib.hid (show ∀ k, blk b k → blk a k ∨ w.heap.size ≤ k from fun k hk => Or.inr (hr.own k hk))
      have HL := Lib.hid hlen
      clear p1 p2 hke hr hlen
      go_wp2_with fail
      go_ret
      exact ⟨by rw [← HL.out]; rfl, ⟨b, bc, HR.out.1, HOW.out⟩, HR.out.2⟩
end Go.Proofs.Ytkfnfflonjfglaa
