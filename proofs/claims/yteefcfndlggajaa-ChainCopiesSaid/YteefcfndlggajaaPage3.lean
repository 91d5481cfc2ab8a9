/-
  Package page, continued: Free, Alloc.
-/
import Derived.Test.YteefcfndlggajaaPage2
import Derived.StillTailTactics
import Derived.Deep.RegionWith
namespace Go.Proofs.Yteefcfndlggajaa
open Go.RowKit
set_option linter.unusedVariables false
set_option linter.unusedSimpArgs false
set_option maxRecDepth 100000

def b16 (n : Int) : List UInt8 := [UInt8.ofNat (n / 256).toNat, UInt8.ofNat (n % 256).toNat]
theorem b16_len (n : Int) : (b16 n).length = 2 := rfl

/-- What put16 does to a page's bytes. -/
theorem PageAt.put16 {w : World} {p m : Nat} {c : PC} (h : PageAt w p m c) (o : Nat) (n : Int) (ho : o + 2 ≤ 4096) (h0 : 0 ≤ n) (h1 : n < 65536) :
    PageAt ((w.setCell ⟨p, o, none⟩ (.int .u8 (n / 256))).setCell ⟨p, o + 1, none⟩ (.int .u8 (n % 256))) p m { c with mem := putAt c.mem o (b16 n) } ∧
    Fr (one p) w ((w.setCell ⟨p, o, none⟩ (.int .u8 (n / 256))).setCell ⟨p, o + 1, none⟩ (.int .u8 (n % 256))) := by
  have e0 : Value.int .u8 (n / 256) = byteV (UInt8.ofNat (n / 256).toNat) := by
    unfold byteV; congr 1
    rw [UInt8.toNat_ofNat_of_lt' (by show _ < 256; omega)]; omega
  have e1 : Value.int .u8 (n % 256) = byteV (UInt8.ofNat (n % 256).toNat) := by
    unfold byteV; congr 1
    rw [UInt8.toNat_ofNat_of_lt' (by show _ < 256; omega)]; omega
  have hm := h.2.2.2
  have r1 := h.1.set o (.int .u8 (n / 256))
  have r2 := r1.set (o + 1) (.int .u8 (n % 256))
  have hf : Fr (one p) w ((w.setCell ⟨p, o, none⟩ (.int .u8 (n / 256))).setCell ⟨p, o + 1, none⟩ (.int .u8 (n % 256))) :=
    Fr.setCell_r (Fr.setCell_r (Fr.refl (one p) w) ⟨p, o, none⟩ _ (fun _ => rfl)) ⟨p, o + 1, none⟩ _ (fun _ => rfl)
  rw [e0, c.set_byte m hm o (by omega), e1, PC.set_byte _ m (by simpa using hm) (o + 1) (by omega)] at r2
  rw [e0, e1] at hf ⊢
  refine ⟨⟨?_, h.2.1.kept hf (fun e => h.2.2.1 e.symm), h.2.2.1, ?_⟩, hf⟩
  · have e : putAt c.mem o (b16 n) = (c.mem.set o (UInt8.ofNat (n / 256).toNat)).set (o + 1) (UInt8.ofNat (n % 256).toNat) := by
      apply List.ext_getElem?
      intro i
      rw [putAt_get _ _ _ (by rw [b16_len]; omega), b16_len, List.getElem?_set, List.getElem?_set]
      simp only [List.length_set]
      by_cases h1 : i < o
      · rw [if_pos h1, if_neg (by omega), if_neg (by omega)]
      · by_cases h2 : i = o
        · subst h2
          rw [if_neg h1, if_pos (by omega), if_neg (by omega), if_pos rfl, if_pos (by omega)]
          simp [b16]
        · by_cases h3 : i = o + 1
          · subst h3
            rw [if_neg h1, if_pos (by omega), if_pos rfl, if_pos (by omega)]
            simp [b16]
          · rw [if_neg h1, if_neg (by omega), if_neg (by omega), if_neg (by omega)]
    rw [e]; exact r2
  · rw [putAt_length _ _ _ (by rw [b16_len]; omega)]; exact hm

/-- What a Free makes of a page. -/
def PC.free (c : PC) (off : Int) : PC := { c with mem := putAt c.mem off.toNat (b16 c.head), head := off, used := kvDel c.used off }

set_option maxHeartbeats 400000 in
theorem free_no (w : World) (p m : Nat) (c : PC) (off : Int) (h : PageAt w p m c) (hk : kvGet c.used off = none) :
    Calls Try.prog 67 #[.pointer (some ⟨p, 0, none⟩), .int .u16 off] w fun e w' => e = .returned (.int .i64 5) ∧ Fr none_ w w' := by
  have ha := asked_any w p m c off h
  rw [hk] at ha
  go_enter Try.func67, Try.ntmps67
  go_wp2_with fail
  refine ha.mono ?_
  rintro e w1 ⟨rfl, hf⟩
  go_wp2_with fail
  go_ret
  exact ⟨rfl, hf⟩

set_option maxHeartbeats 400000 in
theorem free_yes (w : World) (p m : Nat) (c : PC) (off : Int) (h : PageAt w p m c) (hk : (kvGet c.used off).isSome = true) (h0 : 0 ≤ off) (h1 : off + 2 ≤ 4096) (hh0 : 0 ≤ c.head) (hh1 : c.head < 65536) :
    Calls Try.prog 67 #[.pointer (some ⟨p, 0, none⟩), .int .u16 off] w fun e w' => e = .returned (.int .i64 0) ∧ PageAt w' p m (c.free off) ∧ Fr (two p m) w w' := by
  have ha := asked_any w p m c off h
  rw [hk] at ha
  go_enter Try.func67, Try.ntmps67
  go_wp2_with fail
  refine ha.mono ?_
  rintro e w1 ⟨rfl, hf⟩
  have h' := h.kept0 hf
  have hc := h'.c_used
  have hm := h'.2.1
  go_wp2_with (at_delete; refine wpDelete rfl _ _ _ _ rfl 83 159 hm Try.underlying154 u16_key off rfl rfl ?_; intro w2 hm2 hf2)
  have h2 : PageAt w2 p m { c with used := kvDel c.used off } := ⟨h'.1.kept hf2 h'.2.2.1, hm2, h'.2.2⟩
  have hc2 := h2.c_head
  go_still_tail 10, (by kernel_rfl)
  have h3 : PageAt w2.drew p m { c with used := kvDel c.used off } := h2
  have f0 := h3.free (0 + off.toNat)
  have f1 := h3.free (0 + off.toNat + 1)
  have g0 := h3.c_byte (0 + off.toNat) (by omega)
  have g1 := h3.c_byte (0 + off.toNat + 1) (by omega)
  go_wp2_with fail
  refine (put16 w2.drew p 0 4096 4096 off c.head h0 h1 (by omega) (by omega) _ _ g0 g1 f0 f1 hh0 hh1).mono ?_
  rintro e w4 ⟨rfl, hw4⟩
  have h4 := h3.put16 (0 + off.toNat) c.head (by omega) hh0 hh1
  rw [← hw4, Nat.zero_add] at h4
  clear hw4
  have hc4 := h4.1.c_head
  have hf4 := h4.1.free 4098
  go_wp2
  go_ret
  have r5 := h4.1.1.set 4098 (.int .u16 off)
  rw [PC.set_head _ m h4.1.2.2.2] at r5
  have q5 := Fr.setCell (one p) w4 ⟨p, 4098, none⟩ (.int .u16 off) (fun _ => rfl)
  refine ⟨rfl, ⟨?_, h4.1.2.1.kept q5 (fun e => h.2.2.1 e.symm), h4.1.2.2⟩, ?_⟩
  · exact r5
  · refine (hf.none.trans ?_).trans ((h4.2.trans q5).mono fun k _ e => Or.inl e)
    exact (hf2.mono fun k _ e => Or.inr e).drew_r
/-- What an Alloc at off makes of a page whose head (and number of fresh ones) has been turned. -/
def PC.give (c : PC) (off : Int) : PC := { c with mem := putAt c.mem off.toNat (List.replicate c.slot.toNat 0), used := kvPut c.used off () }

/-- A slot cleared. -/
def PC.clr (c : PC) (off : Int) : PC := { c with mem := putAt c.mem off.toNat (List.replicate c.slot.toNat 0) }
theorem PageAt.cleared {w1 w2 : World} {p m : Nat} {c : PC} (off : Int) (h : PageAt w1 p m c) (hl : off.toNat + c.slot.toNat ≤ 4096)
    (hr : Row w2 p (putAtA (c.cells m) off.toNat (List.replicate c.slot.toNat (Value.int .u8 0))) 156) (hf : Fr (one p) w1 w2) : PageAt w2 p m (c.clr off) := by
  rw [replicate_byteV] at hr
  exact h.put off.toNat (List.replicate c.slot.toNat 0) (by rw [List.length_replicate]; omega) hr hf
/-- The end that all ways of Alloc have in common: the slot is cleared, and used. -/
theorem give_of {w1 w2 w3 : World} {p m : Nat} {c : PC} (off : Int) (h : PageAt w2 p m (c.clr off)) (hf : Fr (one p) w1 w2)
    (hm3 : MapAt w3 m (Value.int .u16) unitV (kvPut c.used off ())) (hf3 : Fr (one m) w2 w3) : PageAt w3 p m (c.give off) ∧ Fr (two p m) w1 w3 :=
  ⟨⟨h.1.kept hf3 h.2.2.1, hm3, h.2.2⟩, (hf.mono fun k _ e => Or.inl e).trans (hf3.mono fun k _ e => Or.inr e)⟩

set_option maxHeartbeats 400000 in
theorem alloc_full (w : World) (p m : Nat) (c : PC) (h : PageAt w p m c) (hh : c.head = 65535) (h2 : 2 ≤ c.slot) (h2' : c.slot ≤ 4096) (hf0 : 0 ≤ c.fresh) (hf1 : c.fresh ≤ 4096) (hn : 4096 < (c.fresh + 1) * c.slot) :
    Calls Try.prog 72 #[.pointer (some ⟨p, 0, none⟩)] w fun e w' => e = .returned (.tuple #[.int .u16 0, .int .i64 41]) ∧ w' = w.drew := by
  have hc := h.c_head
  rw [hh] at hc
  have hc1 := h.c_fresh
  have hc2 := h.c_slot
  have hb : (c.fresh + 1) * c.slot ≤ 4097 * 4096 := Int.mul_le_mul (by omega) h2' (by omega) (by omega)
  have hw1 : IntKind.i64.wrap (c.fresh + 1) = c.fresh + 1 := IntWalk.i64_in _ (by omega)
  have hw : IntKind.i64.wrap ((c.fresh + 1) * c.slot) = (c.fresh + 1) * c.slot := IntWalk.i64_in _ (by omega)
  have hd : decide ((c.fresh + 1) * c.slot ≤ 4096) = false := decide_eq_false (by omega)
  have Hh := Lib.hid hh
  clear hh hb hn
  go_enter Try.func72, Try.ntmps72
  go_wp2
  go_region
  go_wp2
  go_ret2
  exact ⟨rfl, rfl⟩

set_option maxHeartbeats 1000000 in
theorem alloc_fresh (w : World) (p m : Nat) (c : PC) (h : PageAt w p m c) (hh : c.head = 65535) (h2 : 2 ≤ c.slot) (h2' : c.slot ≤ 4096) (hf0 : 0 ≤ c.fresh) (hf1 : c.fresh ≤ 4096) (hn : (c.fresh + 1) * c.slot ≤ 4096) :
    Calls Try.prog 72 #[.pointer (some ⟨p, 0, none⟩)] w fun e w' => e = .returned (.tuple #[.int .u16 (c.fresh * c.slot), .int .i64 0]) ∧ PageAt w' p m (({ c with fresh := c.fresh + 1 } : PC).give (c.fresh * c.slot)) ∧ Fr (two p m) w w' := by
  have hc := h.c_head
  rw [hh] at hc
  have hc1 := h.c_fresh
  have hc2 := h.c_slot
  have hmul : (c.fresh + 1) * c.slot = c.fresh * c.slot + c.slot := by rw [Int.add_mul]; omega
  have hnn : 0 ≤ c.fresh * c.slot := Int.mul_nonneg hf0 (by omega)
  have hw1 : IntKind.i64.wrap (c.fresh + 1) = c.fresh + 1 := IntWalk.i64_in _ (by omega)
  have hw : IntKind.i64.wrap ((c.fresh + 1) * c.slot) = (c.fresh + 1) * c.slot := IntWalk.i64_in _ (by omega)
  have hwv : IntKind.i64.wrap (c.fresh * c.slot) = c.fresh * c.slot := IntWalk.i64_in _ (by omega)
  have hwu : IntKind.u16.wrap (c.fresh * c.slot) = c.fresh * c.slot := IntWalk.u16_in _ (by omega)
  have hd : decide ((c.fresh + 1) * c.slot ≤ 4096) = true := decide_eq_true hn
  have hfr := h.free 4097
  have Hh := Lib.hid hh
  have Hm := Lib.hid hmul
  have Hn := Lib.hid hn
  clear hh hmul hn
  go_enter Try.func72, Try.ntmps72
  go_wp2
  go_region
  go_wp2
  go_region
  have r1 := h.1.set 4097 (.int .i64 (c.fresh + 1))
  rw [PC.set_fresh _ m h.2.2.2] at r1
  have f1 := Fr.setCell (one p) w ⟨p, 4097, none⟩ (.int .i64 (c.fresh + 1)) (fun _ => rfl)
  have q1 : PageAt (w.setCell ⟨p, 4097, none⟩ (.int .i64 (c.fresh + 1))).drew.drew p m { c with fresh := c.fresh + 1 } := ⟨r1, h.2.1.kept (f1.drew_r.drew_r) (fun (e : m = p) => h.2.2.1 e.symm), h.2.2⟩
  have F1 : Fr (two p m) w (w.setCell ⟨p, 4097, none⟩ (.int .i64 (c.fresh + 1))).drew.drew := (f1.mono fun k _ e => Or.inl e).drew_r.drew_r
  go_wp2_with fail
  have hmul := Hm.out
  have hlt := Hn.out
  refine (bytes_any _ p m _ (c.fresh * c.slot) q1 hnn h2 (by show _ + c.slot ≤ _; omega)).mono ?_
  rintro e w2 ⟨rfl, nd, rfl⟩
  clear hmul hlt
  have q2 := q1.putNone nd
  have Q2 := Lib.hid q2
  have Q1 := Lib.hid F1
  clear q1 F1 f1 r1
  generalize hW : (w.setCell ⟨p, 4097, none⟩ (.int .i64 (c.fresh + 1))).drew.drew = W at *
  clear hW
  have hcs := PC.size { c with fresh := c.fresh + 1 } m h.2.2.2
  have huc := q2.c_used
  clear q2
  have hle : (c.fresh * c.slot).toNat + c.slot.toNat ≤ 4096 := by have := Hm.out; have := Hn.out; omega
  go_wp2_with (first
      | ((with_reducible refine at_clear ?_); refine wpClear rfl _ _ rfl Q2.out.1 5 (.int .u8 0) Try.underlying80 zero_u8 rfl rfl (c.fresh * c.slot).toNat c.slot.toNat _ rfl (by omega) ?_; intro w3 hr3 hf3; have q3 := Q2.out.cleared _ hle hr3 hf3; have hu3 := q3.c_used; have hm3 := q3.2.1)
      | (at_mapUpdate; refine wpMapUpdate rfl _ _ _ _ rfl 83 159 hm3 Try.underlying154 u16_key (c.fresh * c.slot) () rfl rfl rfl ?_; intro w4 hm4 hf4))
  go_ret2
  have e := give_of (c.fresh * c.slot) q3 hf3 hm4 hf4
  exact ⟨rfl, e.1, (Q1.out.trans (Fr.drewN _ _ nd)).trans e.2⟩

set_option maxHeartbeats 1000000 in
theorem alloc_back (w : World) (p m : Nat) (c : PC) (h : PageAt w p m c) (hh : c.head + c.slot ≤ 4096) (hh0 : 0 ≤ c.head) (h2 : 2 ≤ c.slot) (n : Int)
    (hn : n = ((c.mem.getD c.head.toNat 0).toNat : Int) * 256 + ((c.mem.getD (c.head.toNat + 1) 0).toNat : Int)) :
    Calls Try.prog 72 #[.pointer (some ⟨p, 0, none⟩)] w fun e w' => e = .returned (.tuple #[.int .u16 c.head, .int .i64 0]) ∧ PageAt w' p m (({ c with head := n } : PC).give c.head) ∧ Fr (two p m) w w' := by
  have hc := h.c_head
  have hne : (c.head == 65535) = false := beq_eq_false_iff_ne.2 (by omega)
  have hne2 : (c.head != 65535) = true := bne_iff_ne.2 (by omega)
  have hfr := h.free 4098
  have g0 := h.c_byte (0 + c.head.toNat) (by omega)
  have g1 := h.c_byte (0 + c.head.toNat + 1) (by omega)
  rw [Nat.zero_add] at g0 g1
  have Hn := Lib.hid hn
  clear hn
  go_enter Try.func72, Try.ntmps72
  go_wp2_with fail
  refine (get16 w p 0 4096 4096 c.head _ _ hh0 (by omega) (by omega) (by omega) (by rw [Nat.zero_add]; exact g0) (by rw [Nat.zero_add]; exact g1) (by omega) (by have := (c.mem.getD c.head.toNat 0).toNat_lt; omega) (by omega) (by have := (c.mem.getD (c.head.toNat + 1) 0).toNat_lt; omega)).mono ?_
  rintro e w1 ⟨rfl, rfl⟩
  rw [← Hn.out]
  have r1 := h.1.set 4098 (.int .u16 n)
  rw [PC.set_head _ m h.2.2.2] at r1
  have f1 := Fr.setCell (one p) w ⟨p, 4098, none⟩ (.int .u16 n) (fun _ => rfl)
  have q1 : PageAt (w.setCell ⟨p, 4098, none⟩ (.int .u16 n)) p m { c with head := n } := ⟨r1, h.2.1.kept f1 (fun (e : m = p) => h.2.2.1 e.symm), h.2.2⟩
  have F1 : Fr (two p m) w (w.setCell ⟨p, 4098, none⟩ (.int .u16 n)) := f1.mono fun k _ e => Or.inl e
  go_wp2_with fail
  refine (bytes_any _ p m _ c.head q1 hh0 h2 hh).mono ?_
  rintro e w2 ⟨rfl, nd, rfl⟩
  have q2 := q1.putNone nd
  have Q2 := Lib.hid q2
  have Q1 := Lib.hid F1
  clear q1 F1 f1 r1
  generalize hW : w.setCell ⟨p, 4098, none⟩ (.int .u16 n) = W at *
  clear hW
  have hcs := PC.size { c with head := n } m h.2.2.2
  have huc := q2.c_used
  clear q2
  have hle : c.head.toNat + c.slot.toNat ≤ 4096 := by omega
  go_wp2_with (first
      | ((with_reducible refine at_clear ?_); refine wpClear rfl _ _ rfl Q2.out.1 5 (.int .u8 0) Try.underlying80 zero_u8 rfl rfl c.head.toNat c.slot.toNat _ rfl (by omega) ?_; intro w3 hr3 hf3; have q3 := Q2.out.cleared _ hle hr3 hf3; have hu3 := q3.c_used; have hm3 := q3.2.1)
      | (at_mapUpdate; refine wpMapUpdate rfl _ _ _ _ rfl 83 159 hm3 Try.underlying154 u16_key c.head () rfl rfl rfl ?_; intro w4 hm4 hf4))
  go_ret2
  have e := give_of c.head q3 hf3 hm4 hf4
  exact ⟨rfl, e.1, (Q1.out.trans (Fr.drewN _ _ nd)).trans e.2⟩
end Go.Proofs.Yteefcfndlggajaa
