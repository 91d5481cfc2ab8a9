/-
  The reference of layer 3 in memory: a struct with three rows; 'place', 'Is', 'Read', 'Used', 'Room', 'New'.
-/
import Derived.Test.YtdbnopfpopeefaaPgOps
import Derived.Test.YtdbnopfpopeefaaAppend0
import Derived.Test.YtdbnopfpopeefaaMax
import Derived.Deep.QuietTactic
import Derived.BigQuiet
namespace Go.Proofs.Ytdbnopfpopeefaa
open Go.RowKit
set_option linter.unusedVariables false
set_option linter.unusedSimpArgs false
set_option maxRecDepth 100000

theorem rp_str_info : (Try.prog.info? 9).map (fun i => (i.zero, i.size, i.bytes)) = some (some (.string ByteArray.empty), 1, 16) := by kernel_rfl
theorem rp_bool_info : (Try.prog.info? 4).map (fun i => (i.zero, i.size, i.bytes)) = some (some (.bool false), 1, 1) := by kernel_rfl
theorem rp_int_info : (Try.prog.info? 3).map (fun i => (i.zero, i.size, i.bytes)) = some (some (.int .i64 0), 1, 8) := by kernel_rfl

def usesOf (s : PS) : List Value := s.slots.map fun o => Value.bool o.isSome
/-- The reference at block x: the rows of bytes, of what is used, of what was given back. -/
structure RPAt (w : World) (x : Nat) (ba ua ka : Option Addr) (bc uc kc : Nat) (s : PS) (Bs : List ByteArray) : Prop where
  row : Row w x #[.int .i64 (s.slot : Int), .slice ba s.slots.length bc, .slice ua s.slots.length uc, .slice ka s.back.length kc] 62
  bs : SlAt w ba s.slots.length bc 9 1 (Bs.map Value.string)
  us : SlAt w ua s.slots.length uc 4 1 (usesOf s)
  ks : SlAt w ka s.back.length kc 3 1 (s.back.reverse.map intN)
  val : ∀ (k : Nat) (b : List UInt8), s.slots[k]? = some (some b) → Bs[k]? = some (strOf b)
  xb : ¬ blk ba x
  xu : ¬ blk ua x
  xk : ¬ blk ka x
  bu : ∀ k, blk ba k → ¬ blk ua k
  bk : ∀ k, blk ba k → ¬ blk ka k
  uk : ∀ k, blk ua k → ¬ blk ka k
/-- Its blocks. -/
def rown (x : Nat) (ba ua ka : Option Addr) : Nat → Prop := fun k => k = x ∨ blk ba k ∨ blk ua k ∨ blk ka k
section
variable {w w' : World} {x : Nat} {ba ua ka : Option Addr} {bc uc kc : Nat} {s : PS} {Bs : List ByteArray}
theorem RPAt.kept {F : Nat → Prop} (h : RPAt w x ba ua ka bc uc kc s Bs) (f : Fr F w w') (hF : ∀ k, rown x ba ua ka k → ¬ F k) : RPAt w' x ba ua ka bc uc kc s Bs :=
  ⟨h.row.kept f (hF x (Or.inl rfl)), h.bs.kept f (fun k hk => hF k (Or.inr (Or.inl hk))), h.us.kept f (fun k hk => hF k (Or.inr (Or.inr (Or.inl hk)))), h.ks.kept f (fun k hk => hF k (Or.inr (Or.inr (Or.inr hk)))), h.val, h.xb, h.xu, h.xk, h.bu, h.bk, h.uk⟩
theorem RPAt.kept0 (h : RPAt w x ba ua ka bc uc kc s Bs) (f : Fr none_ w w') : RPAt w' x ba ua ka bc uc kc s Bs := h.kept f (fun _ _ e => e)
theorem RPAt.c0 (h : RPAt w x ba ua ka bc uc kc s Bs) : w.cell? ⟨x, 0, none⟩ = some (.int .i64 (s.slot : Int)) := (h.row.cell 0).trans rfl
theorem RPAt.c1 (h : RPAt w x ba ua ka bc uc kc s Bs) : w.cell? ⟨x, 1, none⟩ = some (.slice ba s.slots.length bc) := (h.row.cell 1).trans rfl
theorem RPAt.c2 (h : RPAt w x ba ua ka bc uc kc s Bs) : w.cell? ⟨x, 2, none⟩ = some (.slice ua s.slots.length uc) := (h.row.cell 2).trans rfl
theorem RPAt.c3 (h : RPAt w x ba ua ka bc uc kc s Bs) : w.cell? ⟨x, 3, none⟩ = some (.slice ka s.back.length kc) := (h.row.cell 3).trans rfl
theorem RPAt.free (h : RPAt w x ba ua ka bc uc kc s Bs) (i : Nat) : w.frozen? ⟨x, i, none⟩ = false := h.row.free i
theorem RPAt.lt (h : RPAt w x ba ua ka bc uc kc s Bs) : ∀ k, rown x ba ua ka k → k < w.heap.size := by
  intro k hk
  rcases hk with rfl | hk | hk | hk
  · exact h.row.lt
  · exact h.bs.lt k hk
  · exact h.us.lt k hk
  · exact h.ks.lt k hk
theorem RPAt.blen (h : RPAt w x ba ua ka bc uc kc s Bs) : Bs.length = s.slots.length := by have := h.bs.1; simpa using this
theorem usesOf_get {s : PS} {k : Nat} {o : Option (List UInt8)} (h : s.slots[k]? = some o) : (usesOf s)[k]? = some (.bool o.isSome) := by unfold usesOf; rw [List.getElem?_map, h]; rfl
end

theorem Rp_New_no (w : World) (slot : Int) (h : slot < 2 ∨ 4096 < slot) :
    Calls Try.prog 24 #[.int .i64 slot] w fun e w' => e = .returned (.tuple #[.pointer none, .int .i64 1]) ∧ w = w' := by
  by_cases h1 : slot < 2
  · go_enter Try.func24, Try.ntmps24
    go_wp2
    first | go_ret | go_ret2
    exact ⟨rfl, rfl⟩
  · have h2 : 4096 < slot := by omega
    go_enter Try.func24, Try.ntmps24
    go_wp2
    first | go_ret | go_ret2
    exact ⟨rfl, rfl⟩
theorem Rp_New_yes (w : World) (slot : Nat) (h2 : 2 ≤ slot) (h3 : slot ≤ 4096) :
    Calls Try.prog 24 #[.int .i64 (slot : Int)] w fun e w' => ∃ x, e = .returned (.tuple #[.pointer (some ⟨x, 0, none⟩), .int .i64 0]) ∧ RPAt w' x none none none 0 0 0 (PS.new slot) [] ∧ Fr none_ w w' ∧ w.heap.size ≤ x := by
  have a1 : ¬ (slot : Int) < 2 := by omega
  have a2 : ¬ (4096 : Int) < (slot : Int) := by omega
  have a3 : ¬ slot < 2 := by omega
  have a4 : ¬ 4096 < slot := by omega
  go_enter Try.func24, Try.ntmps24
  go_wp2
  first | go_ret | go_ret2
  refine ⟨w.heap.size, rfl, ⟨Row.new w _ _, SlAt.empty _ _ _, SlAt.empty _ _ _, SlAt.empty _ _ _, ?_, blk_none _, blk_none _, blk_none _, fun k hk => absurd hk (blk_none k), fun k hk => absurd hk (blk_none k), fun k hk => absurd hk (blk_none k)⟩, Fr.alloc _ _ _, Nat.le_refl _⟩
  intro k b hk
  simp [PS.new] at hk

section
variable {w w' : World} {x : Nat} {ba ua ka : Option Addr} {bc uc kc : Nat} {s : PS} {Bs : List ByteArray}
def placeOf (s : PS) (off : Nat) : Nat := if (s.at_ off).isSome then off / s.slot else 0
set_option maxHeartbeats 1000000 in
theorem Rp_place (h : RPAt w x ba ua ka bc uc kc s Bs) (hw : s.WF) (off : Nat) (ho : off < 65536) :
    Calls Try.prog 39 #[.pointer (some ⟨x, 0, none⟩), .int .u16 (off : Int)] w fun e w' => e = .returned (.tuple #[.int .i64 (placeOf s off : Int), .bool (s.at_ off).isSome]) ∧ w = w' := by
  have c0 := h.c0
  have c2 := h.c2
  have hlo := hw.lo
  have hfit := hw.fit
  have hsl : s.slots.length ≤ 4096 := by
    have : s.slots.length * 1 ≤ s.slots.length * s.slot := Nat.mul_le_mul_left _ (by omega)
    omega
  obtain ⟨K, hK⟩ : ∃ K, K = off / s.slot := ⟨_, rfl⟩
  have hKb : K ≤ 65535 := by rw [hK]; have := Nat.div_le_self off s.slot; omega
  have hq1 : (off : Int).tdiv (s.slot : Int) = (K : Int) := by rw [hK]; rfl
  have hq2 : (off : Int) / (s.slot : Int) = (K : Int) := by rw [hK]; rfl
  have hz : ¬ (s.slot : Int) = 0 := by omega
  have hz2 : ¬ s.slot = 0 := by omega
  have hPle : K * s.slot ≤ off := by rw [hK]; exact Nat.div_mul_le_self _ _
  have hPe : K * s.slot = off ↔ off % s.slot = 0 := by
    have := Nat.div_add_mod off s.slot
    rw [Nat.mul_comm] at this
    rw [hK]
    omega
  obtain ⟨P, hP⟩ : ∃ P, P = K * s.slot := ⟨_, rfl⟩
  have hm1 : IntKind.i64.wrap ((K : Int) * (s.slot : Int)) = (P : Int) := by rw [hP, ← Int.natCast_mul]; exact IntWalk.i64_in _ (by omega)
  have hw0 : IntKind.i64.wrap (K : Int) = (K : Int) := IntWalk.i64_in _ (by omega)
  have ho1 : IntKind.i64.wrap (off : Int) = (off : Int) := IntWalk.i64_in _ (by omega)
  rw [← hP] at hPe hPle
  have hat : s.at_ off = if P = off then (s.slots[K]?).join else none := by
    unfold PS.at_
    rw [hK]
    by_cases e : off % s.slot = 0
    · rw [if_pos e, if_pos (hPe.2 e)]
    · rw [if_neg e, if_neg (fun q => e (hPe.1 q))]
  by_cases e1 : P = off
  · rw [if_pos e1] at hat
    have b1 : ((P : Int) != (off : Int)) = false := by rw [e1]; exact bne_self_eq_false _
    by_cases e2 : K < s.slots.length
    · obtain ⟨o, hso⟩ : ∃ o, s.slots[K]? = some o := ⟨s.slots[K], List.getElem?_eq_getElem e2⟩
      rw [hso] at hat
      have hge : ¬ (s.slots.length : Int) ≤ (K : Int) := by omega
      obtain ⟨g, rfl⟩ := h.us.isAddr (by omega)
      have cu := h.us.cell (usesOf_get hso)
      cases o with
      | none =>
        have hans : placeOf s off = 0 ∧ (s.at_ off).isSome = false := by unfold placeOf; rw [hat]; exact ⟨rfl, rfl⟩
        rw [hans.1, hans.2]
        simp only [Option.isSome_none] at cu
        clear hat hPe hP hK hso hans h hw e1
        go_enter Try.func39, Try.ntmps39
        go_wp2_with fail
        first | go_ret | go_ret2
        exact ⟨rfl, rfl⟩
      | some bs =>
        have hans : placeOf s off = K ∧ (s.at_ off).isSome = true := by unfold placeOf; rw [hat, hK]; exact ⟨rfl, rfl⟩
        rw [hans.1, hans.2]
        simp only [Option.isSome_some] at cu
        clear hat hPe hP hK hso hans h hw e1
        go_enter Try.func39, Try.ntmps39
        go_wp2_with fail
        first | go_ret | go_ret2
        exact ⟨rfl, rfl⟩
    · have hge : (s.slots.length : Int) ≤ (K : Int) := by omega
      have hans : placeOf s off = 0 ∧ (s.at_ off).isSome = false := by unfold placeOf; rw [hat, List.getElem?_eq_none (by omega)]; exact ⟨rfl, rfl⟩
      rw [hans.1, hans.2]
      clear hat hPe hP hK hans h hw e1
      go_enter Try.func39, Try.ntmps39
      go_wp2_with fail
      first | go_ret | go_ret2
      exact ⟨rfl, rfl⟩
  · have b1 : ((P : Int) != (off : Int)) = true := bne_iff_ne.2 (by omega)
    rw [if_neg e1] at hat
    have hans : placeOf s off = 0 ∧ (s.at_ off).isSome = false := by unfold placeOf; rw [hat]; exact ⟨rfl, rfl⟩
    rw [hans.1, hans.2]
    clear hat hPe hP hK hans h hw e1
    go_enter Try.func39, Try.ntmps39
    go_wp2_with fail
    first | go_ret | go_ret2
    exact ⟨rfl, rfl⟩
theorem Rp_Is (h : RPAt w x ba ua ka bc uc kc s Bs) (hw : s.WF) (off : Nat) (ho : off < 65536) :
    Calls Try.prog 30 #[.pointer (some ⟨x, 0, none⟩), .int .u16 (off : Int)] w fun e w' => e = .returned (.bool (s.at_ off).isSome) ∧ w = w' := by
  have G := Lib.hid (Rp_place h hw off ho)
  clear h
  generalize (s.at_ off).isSome = b at G ⊢
  go_enter Try.func30, Try.ntmps30
  go_wp2_with fail
  refine G.out.mono ?_
  rintro e w1 ⟨rfl, rfl⟩
  go_wp2_with fail
  first | go_ret | go_ret2
  exact ⟨rfl, rfl⟩
theorem Rp_Read (h : RPAt w x ba ua ka bc uc kc s Bs) (hw : s.WF) (off : Nat) (ho : off < 65536) :
    Calls Try.prog 29 #[.pointer (some ⟨x, 0, none⟩), .int .u16 (off : Int)] w fun e w' => e = .returned (.tuple #[.string (strOf (readR s off).1), .int .i64 ((readR s off).2 : Int)]) ∧ w = w' := by
  have G := Lib.hid (Rp_place h hw off ho)
  have c1 := h.c1
  cases ha : s.at_ off with
  | none =>
    have hr : readR s off = ([], 5) := by unfold readR; rw [ha]
    rw [hr]
    rw [ha] at G
    clear h ha hr
    simp only [Option.isSome_none] at G
    have e0 : strOf [] = ⟨#[]⟩ := rfl
    rw [e0]
    generalize placeOf s off = K at G
    go_enter Try.func29, Try.ntmps29
    go_wp2_with fail
    refine G.out.mono ?_
    rintro e w1 ⟨rfl, rfl⟩
    go_wp2_with fail
    first | go_ret | go_ret2
    exact ⟨rfl, rfl⟩
  | some bs =>
    have hr : readR s off = (bs, 0) := by unfold readR; rw [ha]
    rw [hr]
    have hpl : placeOf s off = off / s.slot := by unfold placeOf; rw [ha]; rfl
    rw [ha, hpl] at G
    have hk := (PS.at_some ha).2
    have hlt := (List.getElem?_eq_some_iff.1 hk).1
    have hv := h.val _ _ hk
    obtain ⟨g, rfl⟩ := h.bs.isAddr (by omega)
    have cb := h.bs.cell (i := off / s.slot) (v := .string (strOf bs)) (by rw [List.getElem?_map, hv]; rfl)
    generalize off / s.slot = K at G cb hlt
    generalize strOf bs = T at cb ⊢
    simp only [Option.isSome_some] at G
    have HLT := Lib.hid hlt
    have hlt2 : (K : Int) < (s.slots.length : Int) := by omega
    generalize s.slots.length = L at c1 hlt hlt2
    clear h ha hr hpl hk hv HLT
    go_enter Try.func29, Try.ntmps29
    go_wp2_with fail
    refine G.out.mono ?_
    rintro e w1 ⟨rfl, rfl⟩
    go_wp2_with fail
    first | go_ret | go_ret2
    exact ⟨rfl, rfl⟩
end
end Go.Proofs.Ytdbnopfpopeefaa
