/-
  The reference of layer 3 in memory: a struct with three rows; 'place', 'Is', 'Read', 'Used', 'Room', 'New'.
  The reference of layer 3: Used, Room, Alloc, Free.
  The reference of layer 3: what a store into one of its rows, or of a row into the struct, leaves (plain).
  The reference of layer 3: Free.
  The reference of layer 3: Alloc.
-/
import Derived.Test.YteefcfndlggajaaMgSlice
import Derived.Test.YteefcfndlggajaaAppendS
import Derived.Test.YteefcfndlggajaaMax
import Derived.Deep.QuietTactic
import Derived.BigQuiet
namespace Go.Proofs.Yteefcfndlggajaa
open Go.RowKit
set_option linter.unusedVariables false
set_option linter.unusedSimpArgs false
set_option maxRecDepth 100000

theorem rp_u8_info : (Try.prog.info? 5).map (fun i => (i.zero, i.size, i.bytes)) = some (some (.int .u8 0), 1, 1) := by kernel_rfl
theorem rp_str_info : (Try.prog.info? 9).map (fun i => (i.zero, i.size, i.bytes)) = some (some (.string ByteArray.empty), 1, 16) := by kernel_rfl
theorem rp_bool_info : (Try.prog.info? 4).map (fun i => (i.zero, i.size, i.bytes)) = some (some (.bool false), 1, 1) := by kernel_rfl
theorem rp_int_info : (Try.prog.info? 3).map (fun i => (i.zero, i.size, i.bytes)) = some (some (.int .i64 0), 1, 8) := by kernel_rfl

def usesOf (s : PS) : List Value := s.slots.map fun o => Value.bool o.isSome
/-- The reference at block x: the rows of bytes, of what is used, of what was given back. -/
structure RPAt (w : World) (x : Nat) (ba ua ka : Option Addr) (bc uc kc : Nat) (s : PS) (Bs : List ByteArray) : Prop where
  row : Row w x #[.int .i64 (s.slot : Int), .slice ba s.slots.length bc, .slice ua s.slots.length uc, .slice ka s.back.length kc] 164
  bs : SlAt w ba s.slots.length bc 9 1 (Bs.map Value.string)
  us : SlAt w ua s.slots.length uc 4 1 (usesOf s)
  ks : SlAt w ka s.back.length kc 3 1 (s.back.reverse.map intN)
  val : ∀ (k : Nat) (b : List UInt8), s.slots[k]? = some (some b) → Bs[k]? = some (strOf b)
  xb : ¬ blk ba x
  xu : ¬ blk ua x
  xk : ¬ blk ka x
  bu : ∀ k, blk ba k → ¬ blk ua k
  bk : ∀ k, blk ba k → ¬ blk ka k
  uk : ∀ k, blk ua k → ¬ blk ka k
/-- Its blocks. -/
def rown (x : Nat) (ba ua ka : Option Addr) : Nat → Prop := fun k => k = x ∨ blk ba k ∨ blk ua k ∨ blk ka k
section
variable {w w' : World} {x : Nat} {ba ua ka : Option Addr} {bc uc kc : Nat} {s : PS} {Bs : List ByteArray}
theorem RPAt.kept {F : Nat → Prop} (h : RPAt w x ba ua ka bc uc kc s Bs) (f : Fr F w w') (hF : ∀ k, rown x ba ua ka k → ¬ F k) : RPAt w' x ba ua ka bc uc kc s Bs :=
  ⟨h.row.kept f (hF x (Or.inl rfl)), h.bs.kept f (fun k hk => hF k (Or.inr (Or.inl hk))), h.us.kept f (fun k hk => hF k (Or.inr (Or.inr (Or.inl hk)))), h.ks.kept f (fun k hk => hF k (Or.inr (Or.inr (Or.inr hk)))), h.val, h.xb, h.xu, h.xk, h.bu, h.bk, h.uk⟩
theorem RPAt.kept0 (h : RPAt w x ba ua ka bc uc kc s Bs) (f : Fr none_ w w') : RPAt w' x ba ua ka bc uc kc s Bs := h.kept f (fun _ _ e => e)
theorem RPAt.c0 (h : RPAt w x ba ua ka bc uc kc s Bs) : w.cell? ⟨x, 0, none⟩ = some (.int .i64 (s.slot : Int)) := (h.row.cell 0).trans rfl
theorem RPAt.c1 (h : RPAt w x ba ua ka bc uc kc s Bs) : w.cell? ⟨x, 1, none⟩ = some (.slice ba s.slots.length bc) := (h.row.cell 1).trans rfl
theorem RPAt.c2 (h : RPAt w x ba ua ka bc uc kc s Bs) : w.cell? ⟨x, 2, none⟩ = some (.slice ua s.slots.length uc) := (h.row.cell 2).trans rfl
theorem RPAt.c3 (h : RPAt w x ba ua ka bc uc kc s Bs) : w.cell? ⟨x, 3, none⟩ = some (.slice ka s.back.length kc) := (h.row.cell 3).trans rfl
theorem RPAt.free (h : RPAt w x ba ua ka bc uc kc s Bs) (i : Nat) : w.frozen? ⟨x, i, none⟩ = false := h.row.free i
theorem RPAt.lt (h : RPAt w x ba ua ka bc uc kc s Bs) : ∀ k, rown x ba ua ka k → k < w.heap.size := by
  intro k hk
  rcases hk with rfl | hk | hk | hk
  · exact h.row.lt
  · exact h.bs.lt k hk
  · exact h.us.lt k hk
  · exact h.ks.lt k hk
theorem RPAt.blen (h : RPAt w x ba ua ka bc uc kc s Bs) : Bs.length = s.slots.length := by have := h.bs.1; simpa using this
theorem usesOf_get {s : PS} {k : Nat} {o : Option (List UInt8)} (h : s.slots[k]? = some o) : (usesOf s)[k]? = some (.bool o.isSome) := by unfold usesOf; rw [List.getElem?_map, h]; rfl
end

theorem Rp_New_no (w : World) (slot : Int) (h : slot < 2 ∨ 4096 < slot) :
    Calls Try.prog 78 #[.int .i64 slot] w fun e w' => e = .returned (.tuple #[.pointer none, .int .i64 1]) ∧ w = w' := by
  by_cases h1 : slot < 2
  · go_enter Try.func78, Try.ntmps78
    go_wp2
    first | go_ret | go_ret2
    exact ⟨rfl, rfl⟩
  · have h2 : 4096 < slot := by omega
    go_enter Try.func78, Try.ntmps78
    go_wp2
    first | go_ret | go_ret2
    exact ⟨rfl, rfl⟩
theorem Rp_New_yes (w : World) (slot : Nat) (h2 : 2 ≤ slot) (h3 : slot ≤ 4096) :
    Calls Try.prog 78 #[.int .i64 (slot : Int)] w fun e w' => ∃ x, e = .returned (.tuple #[.pointer (some ⟨x, 0, none⟩), .int .i64 0]) ∧ RPAt w' x none none none 0 0 0 (PS.new slot) [] ∧ Fr none_ w w' ∧ w.heap.size ≤ x := by
  have a1 : ¬ (slot : Int) < 2 := by omega
  have a2 : ¬ (4096 : Int) < (slot : Int) := by omega
  have a3 : ¬ slot < 2 := by omega
  have a4 : ¬ 4096 < slot := by omega
  go_enter Try.func78, Try.ntmps78
  go_wp2
  first | go_ret | go_ret2
  refine ⟨w.heap.size, rfl, ⟨Row.new w _ _, SlAt.empty _ _ _, SlAt.empty _ _ _, SlAt.empty _ _ _, ?_, blk_none _, blk_none _, blk_none _, fun k hk => absurd hk (blk_none k), fun k hk => absurd hk (blk_none k), fun k hk => absurd hk (blk_none k)⟩, Fr.alloc _ _ _, Nat.le_refl _⟩
  intro k b hk
  simp [PS.new] at hk

section
variable {w w' : World} {x : Nat} {ba ua ka : Option Addr} {bc uc kc : Nat} {s : PS} {Bs : List ByteArray}
def placeOf (s : PS) (off : Nat) : Nat := if (s.at_ off).isSome then off / s.slot else 0
set_option maxHeartbeats 1000000 in
theorem Rp_place (h : RPAt w x ba ua ka bc uc kc s Bs) (hw : s.WF) (off : Nat) (ho : off < 65536) :
    Calls Try.prog 104 #[.pointer (some ⟨x, 0, none⟩), .int .u16 (off : Int)] w fun e w' => e = .returned (.tuple #[.int .i64 (placeOf s off : Int), .bool (s.at_ off).isSome]) ∧ w = w' := by
  have c0 := h.c0
  have c2 := h.c2
  have hlo := hw.lo
  have hfit := hw.fit
  have hsl : s.slots.length ≤ 4096 := by
    have : s.slots.length * 1 ≤ s.slots.length * s.slot := Nat.mul_le_mul_left _ (by omega)
    omega
  obtain ⟨K, hK⟩ : ∃ K, K = off / s.slot := ⟨_, rfl⟩
  have hKb : K ≤ 65535 := by rw [hK]; have := Nat.div_le_self off s.slot; omega
  have hq1 : (off : Int).tdiv (s.slot : Int) = (K : Int) := by rw [hK]; rfl
  have hq2 : (off : Int) / (s.slot : Int) = (K : Int) := by rw [hK]; rfl
  have hz : ¬ (s.slot : Int) = 0 := by omega
  have hz2 : ¬ s.slot = 0 := by omega
  have hPle : K * s.slot ≤ off := by rw [hK]; exact Nat.div_mul_le_self _ _
  have hPe : K * s.slot = off ↔ off % s.slot = 0 := by
    have := Nat.div_add_mod off s.slot
    rw [Nat.mul_comm] at this
    rw [hK]
    omega
  obtain ⟨P, hP⟩ : ∃ P, P = K * s.slot := ⟨_, rfl⟩
  have hm1 : IntKind.i64.wrap ((K : Int) * (s.slot : Int)) = (P : Int) := by rw [hP, ← Int.natCast_mul]; exact IntWalk.i64_in _ (by omega)
  have hw0 : IntKind.i64.wrap (K : Int) = (K : Int) := IntWalk.i64_in _ (by omega)
  have ho1 : IntKind.i64.wrap (off : Int) = (off : Int) := IntWalk.i64_in _ (by omega)
  rw [← hP] at hPe hPle
  have hat : s.at_ off = if P = off then (s.slots[K]?).join else none := by
    unfold PS.at_
    rw [hK]
    by_cases e : off % s.slot = 0
    · rw [if_pos e, if_pos (hPe.2 e)]
    · rw [if_neg e, if_neg (fun q => e (hPe.1 q))]
  by_cases e1 : P = off
  · rw [if_pos e1] at hat
    have b1 : ((P : Int) != (off : Int)) = false := by rw [e1]; exact bne_self_eq_false _
    by_cases e2 : K < s.slots.length
    · obtain ⟨o, hso⟩ : ∃ o, s.slots[K]? = some o := ⟨s.slots[K], List.getElem?_eq_getElem e2⟩
      rw [hso] at hat
      have hge : ¬ (s.slots.length : Int) ≤ (K : Int) := by omega
      obtain ⟨g, rfl⟩ := h.us.isAddr (by omega)
      have cu := h.us.cell (usesOf_get hso)
      cases o with
      | none =>
        have hans : placeOf s off = 0 ∧ (s.at_ off).isSome = false := by unfold placeOf; rw [hat]; exact ⟨rfl, rfl⟩
        rw [hans.1, hans.2]
        simp only [Option.isSome_none] at cu
        clear hat hPe hP hK hso hans h hw e1
        go_enter Try.func104, Try.ntmps104
        go_wp2_with fail
        first | go_ret | go_ret2
        exact ⟨rfl, rfl⟩
      | some bs =>
        have hans : placeOf s off = K ∧ (s.at_ off).isSome = true := by unfold placeOf; rw [hat, hK]; exact ⟨rfl, rfl⟩
        rw [hans.1, hans.2]
        simp only [Option.isSome_some] at cu
        clear hat hPe hP hK hso hans h hw e1
        go_enter Try.func104, Try.ntmps104
        go_wp2_with fail
        first | go_ret | go_ret2
        exact ⟨rfl, rfl⟩
    · have hge : (s.slots.length : Int) ≤ (K : Int) := by omega
      have hans : placeOf s off = 0 ∧ (s.at_ off).isSome = false := by unfold placeOf; rw [hat, List.getElem?_eq_none (by omega)]; exact ⟨rfl, rfl⟩
      rw [hans.1, hans.2]
      clear hat hPe hP hK hans h hw e1
      go_enter Try.func104, Try.ntmps104
      go_wp2_with fail
      first | go_ret | go_ret2
      exact ⟨rfl, rfl⟩
  · have b1 : ((P : Int) != (off : Int)) = true := bne_iff_ne.2 (by omega)
    rw [if_neg e1] at hat
    have hans : placeOf s off = 0 ∧ (s.at_ off).isSome = false := by unfold placeOf; rw [hat]; exact ⟨rfl, rfl⟩
    rw [hans.1, hans.2]
    clear hat hPe hP hK hans h hw e1
    go_enter Try.func104, Try.ntmps104
    go_wp2_with fail
    first | go_ret | go_ret2
    exact ⟨rfl, rfl⟩
theorem Rp_Is (h : RPAt w x ba ua ka bc uc kc s Bs) (hw : s.WF) (off : Nat) (ho : off < 65536) :
    Calls Try.prog 103 #[.pointer (some ⟨x, 0, none⟩), .int .u16 (off : Int)] w fun e w' => e = .returned (.bool (s.at_ off).isSome) ∧ w = w' := by
  have G := Lib.hid (Rp_place h hw off ho)
  clear h
  generalize (s.at_ off).isSome = b at G ⊢
  go_enter Try.func103, Try.ntmps103
  go_wp2_with fail
  refine G.out.mono ?_
  rintro e w1 ⟨rfl, rfl⟩
  go_wp2_with fail
  first | go_ret | go_ret2
  exact ⟨rfl, rfl⟩
end
end Go.Proofs.Yteefcfndlggajaa
namespace Go.Proofs.Yteefcfndlggajaa
open Go.RowKit
set_option linter.unusedVariables false
set_option linter.unusedSimpArgs false
set_option maxRecDepth 100000

theorem rp_take_succ {α : Type} (l : List α) (k : Nat) (x : α) (h : l[k]? = some x) : l.take (k + 1) = l.take k ++ [x] := by
  rw [List.take_add_one, h]; rfl
theorem PS.WF.nslots {s : PS} (hw : s.WF) : s.slots.length ≤ 2048 := by
  have := hw.lo
  have := hw.fit
  have : s.slots.length * 2 ≤ s.slots.length * s.slot := Nat.mul_le_mul_left _ (by omega)
  omega
section
variable {w w' : World} {x : Nat} {ba ua ka : Option Addr} {bc uc kc : Nat} {s : PS} {Bs : List ByteArray}
theorem Rp_Used (h : RPAt w x ba ua ka bc uc kc s Bs) (hw : s.WF) :
    Calls Try.prog 102 #[.pointer (some ⟨x, 0, none⟩)] w fun e w' => e = .returned (.int .i64 (s.used : Int)) ∧ w = w' := by
  have c2 := h.c2
  have hn := hw.nslots
  have H := Lib.hid h
  clear h hw
  obtain ⟨n, hnn⟩ : ∃ n, n = s.slots.length := ⟨_, rfl⟩
  rw [← hnn] at c2 hn
  have HN := Lib.hid hnn
  clear hnn
  go_enter Try.func102, Try.ntmps102
  go_wp2_with fail
  go_loop [3, 4] (fun u i => ∃ k c : Nat, Hid (k ≤ n) ∧ i = .int .i64 k ∧ u = .int .i64 c ∧ Hid (c = ((s.slots.take k).filter (·.isSome)).length)) (fun _ i => n - (intOf i).toNat)
  case atStart => exact ⟨0, 0, Nat.zero_le _, rfl, rfl, rfl⟩
  case round =>
    obtain ⟨k, c, hk, rfl, rfl, hc⟩ := hrel
    by_cases hlt : k < n
    · obtain ⟨o, ho⟩ : ∃ o, s.slots[k]? = some o := ⟨s.slots[k]'(by rw [← HN.out]; exact hlt), List.getElem?_eq_getElem _⟩
      obtain ⟨g, hg⟩ := H.out.us.isAddr (by rw [← HN.out]; omega)
      subst hg
      have cu := H.out.us.cell (usesOf_get ho)
      have hcb : c ≤ 2048 := by
        rw [hc.out]
        have := List.length_filter_le (fun o : Option (List UInt8) => o.isSome) (s.slots.take k)
        rw [List.length_take] at this
        omega
      have hcs : ((s.slots.take (k + 1)).filter (·.isSome)).length = ((s.slots.take k).filter (·.isSome)).length + if o.isSome then 1 else 0 := by
        rw [rp_take_succ _ _ _ ho, List.filter_append, List.length_append]
        cases o <;> simp
      rw [← hc.out] at hcs
      cases hos : o.isSome with
      | true =>
        rw [hos] at cu hcs
        have HCS := Lib.hid hcs.symm
        clear hcs ho hos
        go_wp2_with fail
        go_round
        case rel => exact ⟨k + 1, c + 1, hlt, by go_num, by go_num, HCS.out⟩
        case measure => simp [intOf]; omega
      | false =>
        rw [hos] at cu hcs
        have HCS := Lib.hid hcs.symm
        clear hcs ho hos
        go_wp2_with fail
        go_round
        case rel => exact ⟨k + 1, c, hlt, by go_num, rfl, HCS.out⟩
        case measure => simp [intOf]; omega
    · have hke : k = n := by have := hk.out; omega
      have hcu : c = s.used := by
        rw [hc.out, hke, HN.out, List.take_length]; rfl
      clear hke
      go_wp2_with fail
      go_ret
      exact ⟨by rw [← hcu]; rfl, rfl⟩
theorem Rp_Room (h : RPAt w x ba ua ka bc uc kc s Bs) (hw : s.WF) :
    Calls Try.prog 93 #[.pointer (some ⟨x, 0, none⟩)] w fun e w' => e = .returned (.int .i64 (((4096 / s.slot : Nat) : Int) - (s.used : Int))) ∧ Fr none_ w w' := by
  have c0 := h.c0
  have gu : ∀ n, Calls Try.prog 102 #[.pointer (some ⟨x, 0, none⟩)] (w.drewN n) fun e w' => e = .returned (.int .i64 (s.used : Int)) ∧ w' = w.drewN n := fun n => (Rp_Used (h.kept0 (Fr.drewN none_ w n)) hw).mono fun e w' q => ⟨q.1, q.2.symm⟩
  have hlo := hw.lo
  have hhi := hw.hi
  have hub : s.used ≤ 2048 := by
    have := hw.nslots
    have := List.length_filter_le (fun o : Option (List UInt8) => o.isSome) s.slots
    unfold PS.used; omega
  obtain ⟨Q, hQ⟩ : ∃ Q, Q = 4096 / s.slot := ⟨_, rfl⟩
  have hQb : Q ≤ 4096 := by rw [hQ]; exact Nat.div_le_self _ _
  have hq1 : (4096 : Int).tdiv (s.slot : Int) = (Q : Int) := by rw [hQ]; rfl
  have hq2 : (4096 : Int) / (s.slot : Int) = (Q : Int) := by rw [hQ]; rfl
  have hz : ¬ (s.slot : Int) = 0 := by omega
  have hz2 : ¬ s.slot = 0 := by omega
  have hw1 : IntKind.i64.wrap (Q : Int) = (Q : Int) := IntWalk.i64_in _ (by omega)
  have hw2 : IntKind.i64.wrap ((Q : Int) - (s.used : Int)) = (Q : Int) - (s.used : Int) := IntWalk.i64_in _ (by omega)
  have hw3 : wrap64 ((Q : Int) - (s.used : Int)) = (Q : Int) - (s.used : Int) := by unfold wrap64; omega
  rw [← hQ]
  generalize s.used = u at gu hub hw2 hw3 ⊢
  have GU := Lib.hid gu
  clear gu hQ h hw
  go_enter Try.func93, Try.ntmps93
  go_wp2_with fail
  go_quiet (first | (go_at_call 102; exact Calls.quiet_of_same (GU.out _)))
  go_wp2_with fail
  go_ret
  exact ⟨rfl, Fr.drewN _ _ _⟩

/-- The reference behind a turn. -/
def RPost (w : World) (x : Nat) (ba ua ka : Option Addr) (s' : PS) (w' : World) : Prop :=
  ∃ ba' ua' ka' bc' uc' kc' Bs', RPAt w' x ba' ua' ka' bc' uc' kc' s' Bs' ∧ (∀ k, rown x ba' ua' ka' k → rown x ba ua ka k ∨ w.heap.size ≤ k) ∧ Fr (rown x ba ua ka) w w'
end
end Go.Proofs.Yteefcfndlggajaa
namespace Go.Proofs.Yteefcfndlggajaa
open Go.RowKit
set_option linter.unusedVariables false
set_option linter.unusedSimpArgs false
set_option maxRecDepth 100000

/-- The struct at x, of three rows, whatever these hold. -/
structure RR (w : World) (x : Nat) (slot : Nat) (ba : Option Addr) (bn bc : Nat) (Bv : List Value) (ua : Option Addr) (un uc : Nat) (Uv : List Value) (ka : Option Addr) (kn kc : Nat) (Kv : List Value) : Prop where
  row : Row w x #[.int .i64 (slot : Int), .slice ba bn bc, .slice ua un uc, .slice ka kn kc] 164
  bs : SlAt w ba bn bc 9 1 Bv
  us : SlAt w ua un uc 4 1 Uv
  ks : SlAt w ka kn kc 3 1 Kv
  xb : ¬ blk ba x
  xu : ¬ blk ua x
  xk : ¬ blk ka x
  bu : ∀ k, blk ba k → ¬ blk ua k
  bk : ∀ k, blk ba k → ¬ blk ka k
  uk : ∀ k, blk ua k → ¬ blk ka k
section
variable {w w' : World} {x slot bn bc un uc kn kc : Nat} {ba ua ka a' : Option Addr} {Bv Uv Kv xs : List Value} {s : PS} {Bs : List ByteArray} {n' c' : Nat}
theorem RPAt.raw (h : RPAt w x ba ua ka bc uc kc s Bs) : RR w x s.slot ba s.slots.length bc (Bs.map Value.string) ua s.slots.length uc (usesOf s) ka s.back.length kc (s.back.reverse.map intN) :=
  ⟨h.row, h.bs, h.us, h.ks, h.xb, h.xu, h.xk, h.bu, h.bk, h.uk⟩
theorem RR.up (h : RR w x s.slot ba s.slots.length bc (Bs.map Value.string) ua s.slots.length uc (usesOf s) ka s.back.length kc (s.back.reverse.map intN)) (hv : ∀ (k : Nat) (b : List UInt8), s.slots[k]? = some (some b) → Bs[k]? = some (strOf b)) : RPAt w x ba ua ka bc uc kc s Bs :=
  ⟨h.row, h.bs, h.us, h.ks, hv, h.xb, h.xu, h.xk, h.bu, h.bk, h.uk⟩
theorem RR.kept {F : Nat → Prop} (h : RR w x slot ba bn bc Bv ua un uc Uv ka kn kc Kv) (f : Fr F w w') (hF : ∀ k, rown x ba ua ka k → ¬ F k) : RR w' x slot ba bn bc Bv ua un uc Uv ka kn kc Kv :=
  ⟨h.row.kept f (hF x (Or.inl rfl)), h.bs.kept f (fun k hk => hF k (Or.inr (Or.inl hk))), h.us.kept f (fun k hk => hF k (Or.inr (Or.inr (Or.inl hk)))), h.ks.kept f (fun k hk => hF k (Or.inr (Or.inr (Or.inr hk)))), h.xb, h.xu, h.xk, h.bu, h.bk, h.uk⟩
theorem RR.kept0 (h : RR w x slot ba bn bc Bv ua un uc Uv ka kn kc Kv) (f : Fr none_ w w') : RR w' x slot ba bn bc Bv ua un uc Uv ka kn kc Kv := h.kept f (fun _ _ e => e)
theorem RR.c0 (h : RR w x slot ba bn bc Bv ua un uc Uv ka kn kc Kv) : w.cell? ⟨x, 0, none⟩ = some (.int .i64 (slot : Int)) := (h.row.cell 0).trans rfl
theorem RR.c1 (h : RR w x slot ba bn bc Bv ua un uc Uv ka kn kc Kv) : w.cell? ⟨x, 1, none⟩ = some (.slice ba bn bc) := (h.row.cell 1).trans rfl
theorem RR.c2 (h : RR w x slot ba bn bc Bv ua un uc Uv ka kn kc Kv) : w.cell? ⟨x, 2, none⟩ = some (.slice ua un uc) := (h.row.cell 2).trans rfl
theorem RR.c3 (h : RR w x slot ba bn bc Bv ua un uc Uv ka kn kc Kv) : w.cell? ⟨x, 3, none⟩ = some (.slice ka kn kc) := (h.row.cell 3).trans rfl
theorem RR.z (h : RR w x slot ba bn bc Bv ua un uc Uv ka kn kc Kv) (i : Nat) : w.frozen? ⟨x, i, none⟩ = false := h.row.free i
theorem RR.lt (h : RR w x slot ba bn bc Bv ua un uc Uv ka kn kc Kv) : ∀ k, rown x ba ua ka k → k < w.heap.size := by
  intro k hk
  rcases hk with rfl | hk | hk | hk
  · exact h.row.lt
  · exact h.bs.lt k hk
  · exact h.us.lt k hk
  · exact h.ks.lt k hk
theorem RR.u_set {g : Nat} (h : RR w x slot ba bn bc Bv (some ⟨g, 0, none⟩) un uc Uv ka kn kc Kv) (i : Nat) (v : Value) : RR (w.setCell ⟨g, i, none⟩ v) x slot ba bn bc Bv (some ⟨g, 0, none⟩) un uc (Uv.set i v) ka kn kc Kv ∧ Fr (rown x ba (some ⟨g, 0, none⟩) ka) w (w.setCell ⟨g, i, none⟩ v) := by
  have f : Fr (one g) w (w.setCell ⟨g, i, none⟩ v) := Fr.setCell _ _ _ _ (fun _ => rfl)
  have hg : ∀ k, one g k → blk (some ⟨g, 0, none⟩) k := fun k e => (blk_some g 0 k).2 e.symm
  exact ⟨⟨h.row.kept f (fun e => h.xu (hg _ e)), h.bs.kept f (fun k hk e => h.bu k hk (hg _ e)), h.us.setAt i v, h.ks.kept f (fun k hk e => h.uk k (hg _ e) hk), h.xb, h.xu, h.xk, h.bu, h.bk, h.uk⟩, f.mono fun k _ e => Or.inr (Or.inr (Or.inl (hg _ e)))⟩
theorem RR.b_set {g : Nat} (h : RR w x slot (some ⟨g, 0, none⟩) bn bc Bv ua un uc Uv ka kn kc Kv) (i : Nat) (v : Value) : RR (w.setCell ⟨g, i, none⟩ v) x slot (some ⟨g, 0, none⟩) bn bc (Bv.set i v) ua un uc Uv ka kn kc Kv ∧ Fr (rown x (some ⟨g, 0, none⟩) ua ka) w (w.setCell ⟨g, i, none⟩ v) := by
  have f : Fr (one g) w (w.setCell ⟨g, i, none⟩ v) := Fr.setCell _ _ _ _ (fun _ => rfl)
  have hg : ∀ k, one g k → blk (some ⟨g, 0, none⟩) k := fun k e => (blk_some g 0 k).2 e.symm
  exact ⟨⟨h.row.kept f (fun e => h.xb (hg _ e)), h.bs.setAt i v, h.us.kept f (fun k hk e => h.bu k (hg _ e) hk), h.ks.kept f (fun k hk e => h.bk k (hg _ e) hk), h.xb, h.xu, h.xk, h.bu, h.bk, h.uk⟩, f.mono fun k _ e => Or.inr (Or.inl (hg _ e))⟩
/-- A new value of the field 'Back': a slice of the same row, or a row that no other field has. -/
theorem RR.k_put (h : RR w x slot ba bn bc Bv ua un uc Uv ka kn kc Kv) (hs : SlAt w a' n' c' 3 1 xs) (hb : ∀ k, blk a' k → ¬ (k = x ∨ blk ba k ∨ blk ua k)) : RR (w.setCell ⟨x, 3, none⟩ (.slice a' n' c')) x slot ba bn bc Bv ua un uc Uv a' n' c' xs ∧ Fr (rown x ba ua ka) w (w.setCell ⟨x, 3, none⟩ (.slice a' n' c')) := by
  have f : Fr (one x) w (w.setCell ⟨x, 3, none⟩ (.slice a' n' c')) := Fr.setCell _ _ _ _ (fun _ => rfl)
  have hr := h.row.set 3 (.slice a' n' c')
  exact ⟨⟨hr, h.bs.kept f (fun k hk e => h.xb (e ▸ hk)), h.us.kept f (fun k hk e => h.xu (e ▸ hk)), hs.kept f (fun k hk e => hb k hk (Or.inl e)), h.xb, h.xu, fun e => hb x e (Or.inl rfl), h.bu, fun k h1 h2 => hb k h2 (Or.inr (Or.inl h1)), fun k h1 h2 => hb k h2 (Or.inr (Or.inr h1))⟩, f.mono fun k _ e => Or.inl e⟩
theorem RR.u_put (h : RR w x slot ba bn bc Bv ua un uc Uv ka kn kc Kv) (f0 : Fr (blk ua) w w') (hs : SlAt w' a' n' c' 4 1 xs) (hb : ∀ k, blk a' k → blk ua k ∨ w.heap.size ≤ k) : RR (w'.setCell ⟨x, 2, none⟩ (.slice a' n' c')) x slot ba bn bc Bv a' n' c' xs ka kn kc Kv ∧ Fr (rown x ba ua ka) w (w'.setCell ⟨x, 2, none⟩ (.slice a' n' c')) ∧ w'.frozen? ⟨x, 2, none⟩ = false ∧ w'.cell? ⟨x, 2, none⟩ = some (.slice ua un uc) := by
  have f : Fr (one x) w' (w'.setCell ⟨x, 2, none⟩ (.slice a' n' c')) := Fr.setCell _ _ _ _ (fun _ => rfl)
  have hr0 := h.row.kept f0 h.xu
  have hr := hr0.set 2 (.slice a' n' c')
  have hlt := h.lt
  have hap : ∀ k, blk a' k → ¬ (k = x ∨ blk ba k ∨ blk ka k) := by
    intro k hk e
    rcases hb k hk with q | q
    · rcases e with rfl | e | e
      · exact h.xu q
      · exact h.bu k e q
      · exact h.uk k q e
    · rcases e with rfl | e | e
      · have := hlt k (Or.inl rfl); omega
      · have := hlt k (Or.inr (Or.inl e)); omega
      · have := hlt k (Or.inr (Or.inr (Or.inr e))); omega
  refine ⟨⟨hr, (h.bs.kept f0 (fun k hk e => h.bu k hk e)).kept f (fun k hk e => h.xb (e ▸ hk)), hs.kept f (fun k hk e => hap k hk (Or.inl e)), (h.ks.kept f0 (fun k hk e => h.uk k e hk)).kept f (fun k hk e => h.xk (e ▸ hk)), h.xb, fun e => hap x e (Or.inl rfl), h.xk, fun k h1 h2 => hap k h2 (Or.inr (Or.inl h1)), h.bk, fun k h1 h2 => hap k h1 (Or.inr (Or.inr h2))⟩, ?_, hr0.free 2, (hr0.cell 2).trans rfl⟩
  exact (f0.mono fun k _ e => Or.inr (Or.inr (Or.inl e))).trans (f.mono fun k _ e => Or.inl e)
theorem RR.b_put (h : RR w x slot ba bn bc Bv ua un uc Uv ka kn kc Kv) (f0 : Fr (blk ba) w w') (hs : SlAt w' a' n' c' 9 1 xs) (hb : ∀ k, blk a' k → blk ba k ∨ w.heap.size ≤ k) : RR (w'.setCell ⟨x, 1, none⟩ (.slice a' n' c')) x slot a' n' c' xs ua un uc Uv ka kn kc Kv ∧ Fr (rown x ba ua ka) w (w'.setCell ⟨x, 1, none⟩ (.slice a' n' c')) ∧ w'.frozen? ⟨x, 1, none⟩ = false ∧ w'.cell? ⟨x, 1, none⟩ = some (.slice ba bn bc) := by
  have f : Fr (one x) w' (w'.setCell ⟨x, 1, none⟩ (.slice a' n' c')) := Fr.setCell _ _ _ _ (fun _ => rfl)
  have hr0 := h.row.kept f0 h.xb
  have hr := hr0.set 1 (.slice a' n' c')
  have hlt := h.lt
  have hap : ∀ k, blk a' k → ¬ (k = x ∨ blk ua k ∨ blk ka k) := by
    intro k hk e
    rcases hb k hk with q | q
    · rcases e with rfl | e | e
      · exact h.xb q
      · exact h.bu k q e
      · exact h.bk k q e
    · rcases e with rfl | e | e
      · have := hlt k (Or.inl rfl); omega
      · have := hlt k (Or.inr (Or.inr (Or.inl e))); omega
      · have := hlt k (Or.inr (Or.inr (Or.inr e))); omega
  refine ⟨⟨hr, hs.kept f (fun k hk e => hap k hk (Or.inl e)), (h.us.kept f0 (fun k hk e => h.bu k e hk)).kept f (fun k hk e => h.xu (e ▸ hk)), (h.ks.kept f0 (fun k hk e => h.bk k e hk)).kept f (fun k hk e => h.xk (e ▸ hk)), fun e => hap x e (Or.inl rfl), h.xu, h.xk, fun k h1 h2 => hap k h1 (Or.inr (Or.inl h2)), fun k h1 h2 => hap k h1 (Or.inr (Or.inr h2)), h.uk⟩, ?_, hr0.free 1, (hr0.cell 1).trans rfl⟩
  exact (f0.mono fun k _ e => Or.inr (Or.inl e)).trans (f.mono fun k _ e => Or.inl e)
end

/-! the plain state -/
theorem uses_free (s : PS) (K : Nat) : usesOf (s.free K) = (usesOf s).set K (.bool false) := by unfold usesOf PS.free; rw [List.map_set]; rfl
theorem uses_write (s : PS) (K : Nat) (b : ByteArray) {old : List UInt8} (h : s.slots[K]? = some (some old)) : usesOf (s.write K b) = usesOf s := by
  unfold usesOf PS.write
  simp only
  apply List.ext_getElem?
  intro j
  rw [List.getElem?_map, List.getElem?_map, List.getElem?_set]
  by_cases e : K = j
  · subst e
    have := (List.getElem?_eq_some_iff.1 h).1
    rw [if_pos rfl, if_pos this, h]; rfl
  · rw [if_neg e]
end Go.Proofs.Yteefcfndlggajaa
namespace Go.Proofs.Yteefcfndlggajaa
open Go.RowKit
set_option linter.unusedVariables false
set_option linter.unusedSimpArgs false
set_option maxRecDepth 100000

section
variable {w w' : World} {x : Nat} {ba ua ka : Option Addr} {bc uc kc : Nat} {s : PS} {Bs : List ByteArray}
theorem two_new {w1 w3 w5 : World} {o1 o2 : Obj} {a0 a3 a5 : Option Addr} (h0 : ∀ k, blk a0 k → w1.heap.size ≤ k) (f3 : Fr (blk a0) (w1.alloc o1) w3) (hb3 : ∀ k, blk a3 k → blk a0 k ∨ (w1.alloc o1).heap.size ≤ k)
    (f5 : Fr (blk a3) (w3.alloc o2) w5) (hb5 : ∀ k, blk a5 k → blk a3 k ∨ (w3.alloc o2).heap.size ≤ k) : Fr none_ w1 w5 ∧ ∀ k, blk a5 k → w1.heap.size ≤ k := by
  have g1 : Fr none_ w1 w3 := (Fr.alloc none_ w1 o1).step f3 (fun i hi e => by have := h0 i e; omega)
  have z1 := (Fr.alloc none_ w1 o1).size
  have h3 : ∀ k, blk a3 k → w1.heap.size ≤ k := fun k hk => by
    rcases hb3 k hk with q | q
    · exact h0 k q
    · omega
  have g2 := g1.trans (Fr.alloc none_ w3 o2)
  have z2 := g2.size
  refine ⟨g2.step f5 (fun i hi e => by have := h3 i e; omega), fun k hk => ?_⟩
  rcases hb5 k hk with q | q
  · exact h3 k q
  · omega
theorem RPost.same (h : RPAt w x ba ua ka bc uc kc s Bs) : RPost w x ba ua ka s w := ⟨_, _, _, _, _, _, _, h, fun k hk => Or.inl hk, Fr.refl _ _⟩
set_option maxHeartbeats 1000000 in
theorem Rp_Free (h : RPAt w x ba ua ka bc uc kc s Bs) (hw : s.WF) (off : Nat) (ho : off < 65536) :
    Calls Try.prog 99 #[.pointer (some ⟨x, 0, none⟩), .int .u16 (off : Int)] w fun e w' => e = .returned (.int .i64 ((freeR s off).1 : Int)) ∧ RPost w x ba ua ka (freeR s off).2 w' := by
  have G := Lib.hid (Rp_place h hw off ho)
  have H := Lib.hid h
  cases ha : s.at_ off with
  | none =>
    have hr : freeR s off = (5, s) := by unfold freeR; rw [ha]; rfl
    rw [hr]
    rw [ha] at G
    simp only [Option.isSome_none] at G
    generalize placeOf s off = K at G
    clear h ha hr
    go_enter Try.func99, Try.ntmps99
    go_wp2_with fail
    refine G.out.mono ?_
    rintro e w1 ⟨rfl, rfl⟩
    go_wp2_with fail
    go_ret
    exact ⟨rfl, RPost.same H.out⟩
  | some bs =>
    have hr : freeR s off = (0, s.free (off / s.slot)) := by unfold freeR; rw [ha]; rfl
    rw [hr]
    have hpl : placeOf s off = off / s.slot := by unfold placeOf; rw [ha]; rfl
    rw [ha, hpl] at G
    have hk := (PS.at_some ha).2
    have hlt := (List.getElem?_eq_some_iff.1 hk).1
    have hn := hw.nslots
    have hbl : s.back.length ≤ 2048 := by
      have hsub := List.Nodup.length_le_of_subset (l₂ := List.range s.slots.length) hw.nodup (fun j hj => List.mem_range.2 (List.getElem?_eq_some_iff.1 ((hw.backs j).1 hj)).1)
      rw [List.length_range] at hsub
      omega
    obtain ⟨g, rfl⟩ := h.us.isAddr (by omega)
    have cu := h.us.cell (usesOf_get hk)
    simp only [Option.isSome_some] at cu G
    have zu := h.us.free (off / s.slot)
    have c2 := h.c2
    generalize hKK : off / s.slot = K at G cu zu hlt hk ⊢
    obtain ⟨q1, fq1⟩ := h.raw.u_set K (.bool false)
    have q2 := q1.kept0 (Fr.alloc none_ _ (.cells #[] 3))
    have c3 := q2.c3
    have m0 := SlAt.made' (w.setCell ⟨g, K, none⟩ (.bool false)) 3 1
    have he : (w.setCell ⟨g, K, none⟩ (.bool false)).heap.size = w.heap.size := by simp
    rw [he] at m0
    have Q1 := Lib.hid q1
    have H0 := Lib.hid (show ∀ k, blk (some ⟨w.heap.size, 0, none⟩) k → (w.setCell ⟨g, K, none⟩ (.bool false)).heap.size ≤ k from fun k hk => by rw [blk_some] at hk; omega)
    have FQ1 := Lib.hid fq1
    have HK := Lib.hid hk
    obtain ⟨n, hnn⟩ : ∃ n, n = s.slots.length := ⟨_, rfl⟩
    obtain ⟨nb, hnb⟩ : ∃ nb, nb = s.back.length := ⟨_, rfl⟩
    have hks := q2.ks
    rw [← hnn] at hlt hn c2
    rw [← hnb] at hbl c3 hks
    have HNB := Lib.hid hnb
    clear ha hr hpl hk hKK h q1 fq1 q2 hnn hnb hw
    have hKb : K ≤ 65535 := by omega
    go_enter Try.func99, Try.ntmps99
    go_wp2_with fail
    refine G.out.mono ?_
    rintro e w1 ⟨rfl, rfl⟩
    go_wp2_with (first
      | ((with_reducible refine at_slot 27 ?_); refine wpAppendS rfl _ _ _ rfl 3 (.int .i64 0) 1 8 Try.underlying162 rp_int_info rfl m0 hks rfl rfl (by intro u hu; obtain ⟨_, _, rfl⟩ := List.mem_map.1 hu; rfl) (by simp [maxLen]; omega) (by omega) ?_; intro a3 k3 w3 hs3 f3 hb3; rw [Nat.zero_add, List.nil_append] at hs3)
      | ((with_reducible refine at_slot 30 ?_); refine wpAppendS rfl _ _ _ rfl 3 (.int .i64 0) 1 8 Try.underlying162 rp_int_info rfl (hs3.kept0 (Fr.alloc none_ _ (.cells #[.int .i64 (K : Int)] 3))) (SlAt.one w3 3 (.int .i64 (K : Int))) rfl rfl (by intro u hu; simp at hu; subst hu; rfl) (by simp [maxLen]; omega) (by omega) ?_; intro a5 k5 w5 hs5 f5 hb5; have N5 := two_new H0.out f3 hb3 f5 hb5; have q5 := Q1.out.kept0 N5.1; have c35 := q5.c3; have z35 := q5.z 3))
    have hlt5 := Q1.out.lt
    obtain ⟨q6, f6⟩ := q5.k_put hs5 (fun k hk e => by
      have := N5.2 k hk
      have := hlt5 k (by rcases e with e | e | e; exact Or.inl e; exact Or.inr (Or.inl e); exact Or.inr (Or.inr (Or.inl e)))
      omega)
    go_ret
    have e1 : (s.free K).slots.length = s.slots.length := by simp [PS.free]
    have e2 : (s.free K).back.length = s.back.length + 1 := by simp [PS.free]
    have e4 : (s.free K).back.reverse.map intN = s.back.reverse.map intN ++ [.int .i64 (K : Int)] := by simp [PS.free, intN]
    refine ⟨rfl, ba, some ⟨g, 0, none⟩, a5, bc, uc, k5, Bs, RR.up (s := s.free K) ?_ ?_, ?_, ?_⟩
    · rw [e1, e2, e4, uses_free, ← HNB.out]
      exact q6
    · intro j b hj
      have hj' : (s.slots.set K none)[j]? = some (some b) := hj
      rw [List.getElem?_set] at hj'
      split at hj'
      · split at hj' <;> cases hj'
      · exact H.out.val j b hj'
    · intro k hk
      rcases hk with e | e | e | e
      · exact Or.inl (Or.inl e)
      · exact Or.inl (Or.inr (Or.inl e))
      · exact Or.inl (Or.inr (Or.inr (Or.inl e)))
      · right
        have := N5.2 k e
        rw [he] at this
        exact this
    · exact (FQ1.out.trans N5.1.none).trans f6
end
end Go.Proofs.Yteefcfndlggajaa
namespace Go.Proofs.Yteefcfndlggajaa
open Go.RowKit
set_option linter.unusedVariables false
set_option linter.unusedSimpArgs false
set_option maxRecDepth 100000

section
variable {w w' : World} {x : Nat} {ba ua ka : Option Addr} {bc uc kc : Nat} {s : PS} {Bs : List ByteArray}
set_option maxHeartbeats 2000000 in
theorem Rp_Alloc_back (h : RPAt w x ba ua ka bc uc kc s Bs) (hw : s.WF) {k : Nat} {r : List Nat} (hb : s.back = k :: r) :
    Calls Try.prog 94 #[.pointer (some ⟨x, 0, none⟩)] w fun e w' => e = .returned (.tuple #[.int .u16 ((k * s.slot : Nat) : Int), .int .i64 0]) ∧ RPost w x ba ua ka { s with slots := s.slots.set k (some (zeros s.slot)), back := r } w' := by
  have hlo := hw.lo
  have hhi := hw.hi
  have hk : s.slots[k]? = some none := (hw.backs k).1 (by rw [hb]; simp)
  have hklt := (List.getElem?_eq_some_iff.1 hk).1
  have hkf : k * s.slot + s.slot ≤ 4096 := by
    have : (k + 1) * s.slot ≤ s.slots.length * s.slot := Nat.mul_le_mul_right _ (by omega)
    have e : (k + 1) * s.slot = k * s.slot + s.slot := by rw [Nat.add_mul]; omega
    have := hw.fit; omega
  have hbl : s.back.length = r.length + 1 := by rw [hb]; rfl
  have hbs : s.back.length ≤ 4096 := by
    have hsub := List.Nodup.length_le_of_subset (l₂ := List.range s.slots.length) hw.nodup (fun j hj => List.mem_range.2 (List.getElem?_eq_some_iff.1 ((hw.backs j).1 hj)).1)
    rw [List.length_range] at hsub
    have := hw.nslots
    omega
  obtain ⟨gu, rfl⟩ := h.us.isAddr (by omega)
  obtain ⟨gb, rfl⟩ := h.bs.isAddr (by omega)
  obtain ⟨gk, rfl⟩ := h.ks.isAddr (by omega)
  have hraw := h.raw
  have hkv : (s.back.reverse.map intN)[r.length]? = some (.int .i64 (k : Int)) := by
    rw [hb, List.reverse_cons, List.getElem?_map, List.getElem?_append_right (by simp), List.length_reverse, Nat.sub_self]; rfl
  have hkc : (s.back.reverse.map intN).take r.length = r.reverse.map intN := by
    rw [hb, List.reverse_cons, List.map_append]
    exact List.take_left' (by simp)
  obtain ⟨sl, hsl⟩ : ∃ sl, sl = s.slot := ⟨_, rfl⟩
  obtain ⟨nr, hnr⟩ : ∃ nr, nr = r.length := ⟨_, rfl⟩
  obtain ⟨n, hn⟩ : ∃ n, n = s.slots.length := ⟨_, rfl⟩
  obtain ⟨P, hP⟩ : ∃ P, P = k * s.slot := ⟨_, rfl⟩
  rw [← hP]
  have HH := Lib.hid h
  have HKC := Lib.hid hkc
  have c0 := h.c0
  rw [hbl] at hraw
  rw [← hnr] at hraw hkv hkc hbl
  rw [← hsl] at hraw c0 hlo hhi hkf hP
  rw [← hn] at hraw hklt
  rw [← hP] at hkf
  have hpm : IntKind.i64.wrap ((k : Int) * (sl : Int)) = (P : Int) := by rw [hP, ← Int.natCast_mul]; exact IntWalk.i64_in _ (by rw [← hP]; omega)
  have hpu : IntKind.u16.wrap (P : Int) = (P : Int) := by rw [IntKind.wrap_u16]; omega
  obtain ⟨nb, hnb⟩ : ∃ nb, nb = nr + 1 := ⟨_, rfl⟩
  rw [← hnb] at hraw
  have hn1 : IntKind.i64.wrap ((nb : Int) - 1) = (nr : Int) := by rw [show (nb : Int) - 1 = (nr : Int) by omega]; exact IntWalk.i64_in _ (by omega)
  have hn2 : wrap64 ((nb : Int) - 1) = (nr : Int) := by rw [show (nb : Int) - 1 = (nr : Int) by omega]; unfold wrap64; omega
  have hp0 : (0 : Int) < (nb : Int) := by omega
  have hp1 : nr < nb := by omega
  have HNB := Lib.hid hnb
  have hcap : nr ≤ kc := by have := hraw.ks.2.1; omega
  have HP := Lib.hid hP
  have HSL := Lib.hid hsl
  have HN := Lib.hid hn
  have HNR := Lib.hid hnr
  have HB := Lib.hid hb
  have HK := Lib.hid hk
  clear hsl hn hnr hP h hkc hb hbl hbs hk hw hnb
  have R0 := Lib.hid hraw
  clear hraw
  go_enter Try.func94, Try.ntmps94
  go_wp2_with (first
    | ((with_reducible refine at_slot 10 ?_); refine wpMakeBytes rfl _ _ _ 5 rfl Try.underlying80 rp_u8_info .i64 .i64 sl sl rfl rfl (Nat.le_refl _) (by omega) ?_; intro w1 hrow f1 hs1; clear hs1; have R1 := Lib.hid (R0.out.kept0 f1); have c3 := R1.out.c3; have ck := R1.out.ks.cell hkv)
    | ((with_reducible refine at_slot 11 ?_); refine wpString rfl _ _ _ 5 rfl hrow Try.underlying80 Try.underlying5 Try.underlying9 0 sl sl rfl (zeros sl) List.length_replicate (fun i hi => by simp [zeros, List.getD, hi]) ?_))
  generalize hB : strOf (zeros sl) = B
  have HB2 := Lib.hid hB
  clear hB hkv
  go_quiet (fail)
  have z3 := R1.out.z 3
  go_wp2_with fail
  go_region
  have r2 := R1.out.kept0 (Fr.drewN none_ w1 (nq + 1))
  obtain ⟨q3, g3⟩ := r2.k_put (r2.ks.cut (m := nr) (by omega)) (fun j hj e => by
    rcases e with rfl | e | e
    · exact r2.xk hj
    · exact r2.bk j e hj
    · exact r2.uk j e hj)
  obtain ⟨q4, g4⟩ := q3.u_set k (.bool true)
  obtain ⟨q5, g5⟩ := q4.b_set k (.string B)
  have c2 := q3.c2
  have cu := q3.us.cell (i := k) (v := .bool false) (usesOf_get HK.out)
  have zu := q3.us.free k
  have c1 := q4.c1
  have hBl : k < (Bs.map Value.string).length := by rw [q3.bs.1]; omega
  have cb := q4.bs.cell (i := k) (List.getElem?_eq_getElem hBl)
  have zb := q4.bs.free k
  have c05 := q5.c0
  generalize (Bs.map Value.string)[k] = bv at cb
  have HQ5 := Lib.hid q5
  have HG := Lib.hid (((f1.trans (Fr.drewN none_ w1 (nq + 1))).none.trans g3).trans (g4.trans g5))
  clear r2 q3 g3 q4 g4 q5 g5 hBl ck c3 c0 z3 hn1 hn2 hp0 hp1 hcap
  go_wp2_with fail
  go_ret2
  have q5 := HQ5.out
  refine ⟨rfl, some ⟨gb, 0, none⟩, some ⟨gu, 0, none⟩, some ⟨gk, 0, none⟩, bc, uc, kc, Bs.set k B, RR.up (s := { s with slots := s.slots.set k (some (zeros s.slot)), back := r }) ?_ ?_, fun _ hk => Or.inl hk, HG.out⟩
  · have e1 : (usesOf { s with slots := s.slots.set k (some (zeros s.slot)), back := r }) = (usesOf s).set k (.bool true) := by unfold usesOf; rw [List.map_set]; rfl
    have e2 : (Bs.set k B).map Value.string = (Bs.map Value.string).set k (.string B) := by rw [List.map_set]
    rw [e1, e2]
    simp only [List.length_set]
    rw [← HSL.out, ← HN.out, ← HNR.out, ← HKC.out, ← HNR.out]
    exact q5
  · intro j b hj
    have hj' : (s.slots.set k (some (zeros s.slot)))[j]? = some (some b) := hj
    rw [List.getElem?_set] at hj'
    rw [List.getElem?_set]
    by_cases e : k = j
    · subst e
      rw [if_pos rfl] at hj' ⊢
      have hl : k < s.slots.length := by rw [← HN.out]; exact hklt
      rw [if_pos hl] at hj'
      rw [if_pos (by rw [HH.out.blen]; exact hl)]
      cases hj'
      rw [← HSL.out, HB2.out]
    · rw [if_neg e] at hj' ⊢
      exact HH.out.val j b hj'
theorem rp_room {s : PS} (hlo : 2 ≤ s.slot) : (s.slots.length + 1) * s.slot ≤ 4096 ↔ ¬ 4096 / s.slot ≤ s.slots.length := by
  rw [← Nat.le_div_iff_mul_le (by omega)]; omega
set_option maxHeartbeats 2000000 in
theorem Rp_Alloc_full (h : RPAt w x ba ua ka bc uc kc s Bs) (hw : s.WF) (hb : s.back = []) (hf : ¬ (s.slots.length + 1) * s.slot ≤ 4096) :
    Calls Try.prog 94 #[.pointer (some ⟨x, 0, none⟩)] w fun e w' => e = .returned (.tuple #[.int .u16 0, .int .i64 41]) ∧ RPost w x ba ua ka s w' := by
  have hlo := hw.lo
  have hhi := hw.hi
  rw [rp_room hlo] at hf
  have hnn := hw.nslots
  have HH := Lib.hid h
  obtain ⟨sl, hsl⟩ : ∃ sl, sl = s.slot := ⟨_, rfl⟩
  obtain ⟨n, hn⟩ : ∃ n, n = s.slots.length := ⟨_, rfl⟩
  have hraw := h.raw
  have hb0 : s.back.length = 0 := by rw [hb]; rfl
  have c0 := h.c0
  rw [hb0] at hraw
  rw [← hsl] at hraw c0 hlo hhi hf
  rw [← hn] at hraw hf hnn
  obtain ⟨Q, hQ⟩ : ∃ Q, Q = 4096 / sl := ⟨_, rfl⟩
  rw [← hQ] at hf
  have hQb : Q ≤ 4096 := by rw [hQ]; exact Nat.div_le_self _ _
  have hq1 : (4096 : Int).tdiv (sl : Int) = (Q : Int) := by rw [hQ]; rfl
  have hq2 : (4096 : Int) / (sl : Int) = (Q : Int) := by rw [hQ]; rfl
  have hz : ¬ (sl : Int) = 0 := by omega
  have hz2 : ¬ sl = 0 := by omega
  have hw1 : IntKind.i64.wrap (Q : Int) = (Q : Int) := IntWalk.i64_in _ (by omega)
  have hge : (Q : Int) ≤ (n : Int) := by omega
  have hge2 : Q ≤ n := by omega
  have R0 := Lib.hid hraw
  clear hraw hQ hn hsl hf h hw hb hb0
  go_enter Try.func94, Try.ntmps94
  go_wp2_with (first
    | ((with_reducible refine at_slot 10 ?_); refine wpMakeBytes rfl _ _ _ 5 rfl Try.underlying80 rp_u8_info .i64 .i64 sl sl rfl rfl (Nat.le_refl _) (by omega) ?_; intro w1 hrow f1 hs1; clear hs1; have R1 := Lib.hid (R0.out.kept0 f1); have c3 := R1.out.c3; have c2 := R1.out.c2)
    | ((with_reducible refine at_slot 11 ?_); refine wpString rfl _ _ _ 5 rfl hrow Try.underlying80 Try.underlying5 Try.underlying9 0 sl sl rfl (zeros sl) List.length_replicate (fun i hi => by simp [zeros, List.getD, hi]) ?_))
  generalize hB : strOf (zeros sl) = B
  clear hB
  have c01 := R1.out.c0
  go_quiet (fail)
  go_wp2_with fail
  go_ret2
  have fN := f1.trans (Fr.drewN none_ w1 nq)
  exact ⟨rfl, _, _, _, _, _, _, _, HH.out.kept0 fN, fun k hk => Or.inl hk, fN.none⟩
set_option maxHeartbeats 4000000 in
theorem Rp_Alloc_more (h : RPAt w x ba ua ka bc uc kc s Bs) (hw : s.WF) (hb : s.back = []) (hf : (s.slots.length + 1) * s.slot ≤ 4096) :
    Calls Try.prog 94 #[.pointer (some ⟨x, 0, none⟩)] w fun e w' => e = .returned (.tuple #[.int .u16 ((s.slots.length * s.slot : Nat) : Int), .int .i64 0]) ∧ RPost w x ba ua ka { s with slots := s.slots ++ [some (zeros s.slot)] } w' := by
  have hlo := hw.lo
  have hhi := hw.hi
  have hfit : s.slots.length * s.slot + s.slot ≤ 4096 := by
    have e : (s.slots.length + 1) * s.slot = s.slots.length * s.slot + s.slot := by rw [Nat.add_mul]; omega
    omega
  rw [rp_room hlo] at hf
  have hnn := hw.nslots
  have HH := Lib.hid h
  obtain ⟨P, hP⟩ : ∃ P, P = s.slots.length * s.slot := ⟨_, rfl⟩
  rw [← hP] at hfit ⊢
  obtain ⟨sl, hsl⟩ : ∃ sl, sl = s.slot := ⟨_, rfl⟩
  obtain ⟨n, hn⟩ : ∃ n, n = s.slots.length := ⟨_, rfl⟩
  have hraw := h.raw
  have hb0 : s.back.length = 0 := by rw [hb]; rfl
  have c0 := h.c0
  rw [hb0] at hraw
  rw [← hsl] at hraw c0 hlo hhi hf hP hfit
  rw [← hn] at hraw hf hnn hP
  obtain ⟨Q, hQ⟩ : ∃ Q, Q = 4096 / sl := ⟨_, rfl⟩
  rw [← hQ] at hf
  have hQb : Q ≤ 4096 := by rw [hQ]; exact Nat.div_le_self _ _
  have hq1 : (4096 : Int).tdiv (sl : Int) = (Q : Int) := by rw [hQ]; rfl
  have hq2 : (4096 : Int) / (sl : Int) = (Q : Int) := by rw [hQ]; rfl
  have hz : ¬ (sl : Int) = 0 := by omega
  have hz2 : ¬ sl = 0 := by omega
  have hw1 : IntKind.i64.wrap (Q : Int) = (Q : Int) := IntWalk.i64_in _ (by omega)
  have hge : ¬ (Q : Int) ≤ (n : Int) := by omega
  have hge2 : ¬ Q ≤ n := by omega
  have hpm : IntKind.i64.wrap ((n : Int) * (sl : Int)) = (P : Int) := by rw [hP, ← Int.natCast_mul]; exact IntWalk.i64_in _ (by rw [← hP]; omega)
  have hpu : IntKind.u16.wrap (P : Int) = (P : Int) := by rw [IntKind.wrap_u16]; omega
  have R0 := Lib.hid hraw
  have HP := Lib.hid hP
  have HSL := Lib.hid hsl
  have HN := Lib.hid hn
  have HB0 := Lib.hid hb0
  clear hraw hQ hn hsl hf h hw hb hb0 hP
  go_enter Try.func94, Try.ntmps94
  go_wp2_with (first
    | ((with_reducible refine at_slot 10 ?_); refine wpMakeBytes rfl _ _ _ 5 rfl Try.underlying80 rp_u8_info .i64 .i64 sl sl rfl rfl (Nat.le_refl _) (by omega) ?_; intro w1 hrow f1 hs1; clear hs1; have R1 := Lib.hid (R0.out.kept0 f1); have c3 := R1.out.c3; have c2 := R1.out.c2)
    | ((with_reducible refine at_slot 11 ?_); refine wpString rfl _ _ _ 5 rfl hrow Try.underlying80 Try.underlying5 Try.underlying9 0 sl sl rfl (zeros sl) List.length_replicate (fun i hi => by simp [zeros, List.getD, hi]) ?_))
  generalize hB : strOf (zeros sl) = B
  have HB2 := Lib.hid hB
  clear hB
  have c01 := R1.out.c0
  go_quiet (fail)
  have R2 := Lib.hid (R1.out.kept0 (Fr.drewN none_ w1 nq))
  have R3 := Lib.hid (R2.out.kept0 (Fr.alloc none_ _ (.cells #[.bool true] 4)))
  have oneU := SlAt.one (w1.drewN nq) 4 (.bool true)
  have hes : (w1.drewN nq).heap.size = w1.heap.size := by simp
  rw [hes] at oneU
  have c2a := R3.out.c2
  clear hq1 hq2 hz hz2 hw1 hge hge2 c01 c3
  go_wp2_with (first
    | ((with_reducible refine at_slot 81 ?_); refine wpAppendS rfl _ _ _ rfl 4 (.bool false) 1 1 Try.underlying161 rp_bool_info rfl R3.out.us oneU rfl rfl (by intro u hu; simp at hu; subst hu; rfl) (by simp [maxLen]; omega) (by omega) ?_; intro a3 k3 w3 hs3 f3 hb3; have U := Lib.hid (R3.out.u_put f3 hs3 hb3); have z2 := U.out.2.2.1; have c2b := U.out.2.2.2; have R4 := Lib.hid (U.out.1.kept0 (Fr.alloc none_ _ (.cells #[.string B] 9))); have c1a := R4.out.c1; have oneB := SlAt.one (w3.setCell ⟨x, 2, none⟩ (.slice a3 (n + 1) k3)) 9 (.string B); have hes3 : (w3.setCell ⟨x, 2, none⟩ (.slice a3 (n + 1) k3)).heap.size = w3.heap.size := (by simp); rw [hes3] at oneB; have c1b := U.out.1.c1)
    | ((with_reducible refine at_slot 91 ?_); refine wpAppendS rfl _ _ _ rfl 9 (.string ByteArray.empty) 1 16 Try.underlying160 rp_str_info rfl R4.out.bs oneB rfl rfl (by intro u hu; simp at hu; subst hu; rfl) (by simp [maxLen]; omega) (by omega) ?_; intro a6 k6 w6 hs6 f6 hb6; have V := Lib.hid (R4.out.b_put f6 hs6 hb6); have z1 := V.out.2.2.1; have c1c := V.out.2.2.2))
  have V1 := Lib.hid V.out.1
  have V2 := Lib.hid V.out.2.1
  clear V z1 c1c
  generalize (w6.setCell ⟨x, 1, none⟩ (.slice a6 (n + 1) k6)) = w7 at V1 V2 ⊢
  have c2V := V1.out.c2
  have c0V := V1.out.c0
  obtain ⟨N1, hN1⟩ : ∃ N1, N1 = n + 1 := ⟨_, rfl⟩
  rw [← hN1] at c2V
  have hm1 : IntKind.i64.wrap ((N1 : Int) - 1) = (n : Int) := by rw [show (N1 : Int) - 1 = (n : Int) by omega]; exact IntWalk.i64_in _ (by omega)
  have hm2 : wrap64 ((N1 : Int) - 1) = (n : Int) := by rw [show (N1 : Int) - 1 = (n : Int) by omega]; unfold wrap64; omega
  have HS6 := Lib.hid (And.intro hb3 hb6)
  have HFR := Lib.hid (((f1.trans (Fr.drewN none_ w1 nq)).trans (Fr.alloc none_ _ (.cells #[.bool true] 4))).none.trans U.out.2.1)
  clear hN1 c1b c1a c2b z2 c2 c2a c0 oneB oneU hb3 hb6 hs3 hs6 f3 hes hes3
  go_quiet (fail)
  go_wp2_with fail
  go_ret2
  have Y := V1.out
  obtain ⟨hb3, hb6⟩ := HS6.out
  have zf := f1.size
  have hg3 : ∀ j, blk a3 j → blk ua j ∨ w.heap.size ≤ j := fun j hj => by
    rcases hb3 j hj with q | q
    · exact Or.inl q
    · simp at q; omega
  have hg6 : ∀ j, blk a6 j → blk ba j ∨ w.heap.size ≤ j := fun j hj => by
    rcases hb6 j hj with q | q
    · exact Or.inl q
    · have z1 := HFR.out.size
      have z2 := (Fr.alloc none_ (w3.setCell ⟨x, 2, none⟩ (.slice a3 (n + 1) k3)) (.cells #[.string B] 9)).size
      omega
  have fA : Fr (rown x ba ua ka) w w7 := ((HFR.out.trans (Fr.alloc none_ _ (.cells #[.string B] 9)).none).step V2.out (fun i hi e => by
    rcases e with e | e | e | e
    · exact Or.inl e
    · exact Or.inr (Or.inl e)
    · rcases hg3 i e with q | q
      · exact Or.inr (Or.inr (Or.inl q))
      · omega
    · exact Or.inr (Or.inr (Or.inr e))))
  have e1 : usesOf { s with slots := s.slots ++ [some (zeros s.slot)] } = usesOf s ++ [.bool true] := by unfold usesOf; rw [List.map_append]; rfl
  have e2 : (Bs ++ [B]).map Value.string = Bs.map Value.string ++ [.string B] := by rw [List.map_append]; rfl
  refine ⟨rfl, a6, a3, ka, k6, k3, kc, Bs ++ [B], RR.up (s := { s with slots := s.slots ++ [some (zeros s.slot)] }) ?_ ?_, ?_, fA.trans (Fr.drewN _ _ _)⟩
  · rw [e1, e2]
    simp only [List.length_append, List.length_singleton]
    rw [← HSL.out, ← HN.out, HB0.out]
    exact Y.kept0 (Fr.drewN _ _ _)
  · intro j b hj
    have hj' : (s.slots ++ [some (zeros s.slot)])[j]? = some (some b) := hj
    have hbl := HH.out.blen
    by_cases e : j < s.slots.length
    · rw [List.getElem?_append_left e] at hj'
      rw [List.getElem?_append_left (by omega)]
      exact HH.out.val j b hj'
    · have hje : j = s.slots.length := by
        have := (List.getElem?_eq_some_iff.1 hj').1
        simp at this; omega
      subst hje
      rw [List.getElem?_append_right (Nat.le_refl _), Nat.sub_self] at hj'
      rw [← hbl, List.getElem?_append_right (Nat.le_refl _), Nat.sub_self]
      simp at hj' ⊢
      rw [← hj', ← HSL.out, HB2.out]
  · intro j hj
    rcases hj with e | e | e | e
    · exact Or.inl (Or.inl e)
    · rcases hg6 j e with q | q
      · exact Or.inl (Or.inr (Or.inl q))
      · exact Or.inr q
    · rcases hg3 j e with q | q
      · exact Or.inl (Or.inr (Or.inr (Or.inl q)))
      · exact Or.inr q
    · exact Or.inl (Or.inr (Or.inr (Or.inr e)))
theorem Rp_Alloc (h : RPAt w x ba ua ka bc uc kc s Bs) (hw : s.WF) :
    Calls Try.prog 94 #[.pointer (some ⟨x, 0, none⟩)] w fun e w' => e = .returned (.tuple #[.int .u16 ((allocR s).1 : Int), .int .i64 ((allocR s).2.1 : Int)]) ∧ RPost w x ba ua ka (allocR s).2.2 w' := by
  cases hb : s.back with
  | cons k r =>
    have e : allocR s = (k * s.slot, 0, { s with slots := s.slots.set k (some (zeros s.slot)), back := r }) := by unfold allocR PS.alloc; rw [hb]
    rw [e]; exact Rp_Alloc_back h hw hb
  | nil =>
    by_cases hf : (s.slots.length + 1) * s.slot ≤ 4096
    · have e : allocR s = (s.slots.length * s.slot, 0, { s with slots := s.slots ++ [some (zeros s.slot)] }) := by unfold allocR PS.alloc; rw [hb]; simp only; rw [if_pos hf]
      rw [e]; exact Rp_Alloc_more h hw hb hf
    · have e : allocR s = (0, 41, s) := by unfold allocR PS.alloc; rw [hb]; simp only; rw [if_neg hf]
      rw [e]; exact Rp_Alloc_full h hw hb hf
end
end Go.Proofs.Yteefcfndlggajaa
