/-
  Package page, continued: Write, Free, Alloc, New, Copy; nobody's page.
-/
import Derived.Test.YteefcfndlggajaaPage
import Derived.Maps.OwnSet
namespace Go.Proofs.Yteefcfndlggajaa
open Go.RowKit
set_option linter.unusedVariables false
set_option linter.unusedSimpArgs false
set_option maxRecDepth 100000

theorem PC.putMem (c : PC) (m : Nat) (o : Nat) (bs : List UInt8) (hm : c.mem.length = 4096) (h : o + bs.length ≤ 4096) :
    putAtA (c.cells m) o (bs.map byteV) = ({ c with mem := putAt c.mem o bs } : PC).cells m := by
  unfold putAtA PC.cells putAt
  congr 1
  simp only [List.map_append, List.map_take, List.map_drop, List.length_map]
  rw [List.take_append_of_le_length (by simp [hm]; omega), List.drop_append_of_le_length (by simp [hm]; omega)]
  simp [List.append_assoc]

namespace PageAt
variable {w w' : World} {p m : Nat} {c : PC}
theorem put (h : PageAt w p m c) (o : Nat) (bs : List UInt8) (hb : o + bs.length ≤ 4096) (hr : Row w' p (putAtA (c.cells m) o (bs.map byteV)) 156) (hf : Fr (one p) w w') :
    PageAt w' p m { c with mem := putAt c.mem o bs } := by
  refine ⟨?_, h.2.1.kept hf (fun e => h.2.2.1 e.symm), h.2.2.1, ?_⟩
  · rwa [c.putMem m o bs h.2.2.2 hb] at hr
  · rw [putAt_length _ _ _ (by rw [h.2.2.2]; exact hb)]; exact h.2.2.2
theorem putNone (h : PageAt w p m c) (n : Nat) : PageAt (w.drewN n) p m c := h
end PageAt

theorem zero_u8 (w : World) : (zeroValue 5).run Try.prog w = .ok (.int .u8 0) w := by kernel_rfl
theorem size_u8 : (Try.prog.info? 5).map (·.size) = some 1 := by kernel_rfl
theorem replicate_byteV (n : Nat) : List.replicate n (Value.int .u8 0) = (List.replicate n (0 : UInt8)).map byteV := by simp [byteV]

set_option maxHeartbeats 400000 in
theorem write_no (w : World) (p m : Nat) (c : PC) (off : Int) (s : ByteArray) (h : PageAt w p m c) (hk : kvGet c.used off = none) :
    Calls Try.prog 74 #[.pointer (some ⟨p, 0, none⟩), .int .u16 off, .string s] w fun e w' => e = .returned (.int .i64 5) ∧ Fr none_ w w' := by
  have ha := asked_any w p m c off h
  rw [hk] at ha
  go_enter Try.func74, Try.ntmps74
  go_wp2_with (go_at_call 85; refine ha.mono ?_; rintro e w' ⟨rfl, hf⟩)
  go_ret
  exact ⟨rfl, hf⟩

set_option maxHeartbeats 400000 in
theorem write_big (w : World) (p m : Nat) (c : PC) (off : Int) (s : ByteArray) (h : PageAt w p m c) (hk : (kvGet c.used off).isSome = true) (hs : c.slot < s.size) :
    Calls Try.prog 74 #[.pointer (some ⟨p, 0, none⟩), .int .u16 off, .string s] w fun e w' => e = .returned (.int .i64 40) ∧ Fr none_ w w' := by
  have ha := asked_any w p m c off h
  rw [hk] at ha
  go_enter Try.func74, Try.ntmps74
  go_wp2_with fail
  refine ha.mono ?_; rintro e w1 ⟨rfl, hf⟩
  have hc := (h.kept0 hf).c_slot
  go_wp2
  go_ret
  exact ⟨rfl, hf⟩

/-- The slot's bytes turned. -/
def PC.write (c : PC) (off : Int) (s : ByteArray) : PC := { c with mem := putAt c.mem off.toNat (s.data.toList ++ List.replicate (c.slot.toNat - s.size) 0) }

theorem putAt_putAt {α : Type} (l : List α) (o : Nat) (a b : List α) (h : o + a.length + b.length ≤ l.length) : putAt (putAt l o a) (o + a.length) b = putAt l o (a ++ b) := by
  apply List.ext_getElem?
  intro i
  have hl : (a ++ b).length = a.length + b.length := by simp
  rw [putAt_get _ _ _ (by rw [putAt_length _ _ _ (by omega)]; omega), putAt_get _ _ _ (by omega), putAt_get _ _ _ (by omega), hl]
  by_cases h1 : i < o
  · rw [if_pos (by omega), if_pos h1, if_pos h1]
  · by_cases h2 : i < o + a.length
    · rw [if_pos h2, if_neg h1, if_pos h2, if_neg h1, if_pos (by omega), List.getElem?_append_left (by omega)]
    · by_cases h3 : i < o + a.length + b.length
      · rw [if_neg h2, if_pos h3, if_neg h1, if_pos (by omega), List.getElem?_append_right (by omega)]
        congr 1; omega
      · rw [if_neg h2, if_neg h3, if_neg h1, if_neg h2, if_neg h1, if_neg (by omega)]

set_option maxHeartbeats 400000 in
theorem write_yes (w : World) (p m : Nat) (c : PC) (off : Int) (s : ByteArray) (h : PageAt w p m c) (hk : (kvGet c.used off).isSome = true) (hs : (s.size : Int) ≤ c.slot) (h0 : 0 ≤ off) (h2 : 2 ≤ c.slot) (h1 : off + c.slot ≤ 4096) :
    Calls Try.prog 74 #[.pointer (some ⟨p, 0, none⟩), .int .u16 off, .string s] w fun e w' => e = .returned (.int .i64 0) ∧ PageAt w' p m (c.write off s) ∧ Fr (one p) w w' := by
  have ha := asked_any w p m c off h
  rw [hk] at ha
  have hs' : ¬ c.slot < s.size := by omega
  go_enter Try.func74, Try.ntmps74
  go_wp2_with fail
  refine ha.mono ?_; rintro e w1 ⟨rfl, hf⟩
  have h' := h.kept0 hf
  have hc := h'.c_slot
  go_wp2_with fail
  refine (bytes_any w1 p m c off h' h0 h2 h1).mono ?_
  rintro e w2 ⟨rfl, n, rfl⟩
  have h'' := h'.putNone n
  have hsz : s.data.toList.length = s.size := Array.length_toList
  have hcs := PC.size c m h.2.2.2
  have hps : (putAtA (c.cells m) off.toNat (s.data.toList.map byteV)).size = 4100 := by rw [putAtA_size _ _ _ (by rw [List.length_map, hsz, hcs]; omega), hcs]
  have hwr : c.write off s = { c with mem := putAt (putAt c.mem off.toNat s.data.toList) (off.toNat + s.size) (List.replicate (c.slot.toNat - s.size) 0) } := by
    unfold PC.write
    rw [← hsz, putAt_putAt _ _ _ _ (by rw [List.length_replicate, h.2.2.2, hsz]; omega)]
  have hend : ∀ w3 w4, Row w3 p (putAtA (c.cells m) off.toNat (s.data.toList.map byteV)) 156 → Fr (one p) (w1.drewN n) w3 →
      Row w4 p (putAtA (putAtA (c.cells m) off.toNat (s.data.toList.map byteV)) (off.toNat + s.size) (List.replicate (c.slot.toNat - s.size) (Value.int .u8 0))) 156 → Fr (one p) w3 w4 →
      PageAt w4 p m (c.write off s) ∧ Fr (one p) w w4 := by
    intro w3 w4 r3 f3 r4 f4
    have q3 := h''.put off.toNat s.data.toList (by rw [hsz]; omega) r3 f3
    rw [c.putMem m off.toNat s.data.toList h.2.2.2 (by rw [hsz]; omega), replicate_byteV] at r4
    have q4 := q3.put (off.toNat + s.size) (List.replicate (c.slot.toNat - s.size) 0) (by rw [List.length_replicate]; omega) r4 f4
    rw [hwr]
    exact ⟨q4, ((hf.trans (Fr.drewN _ _ n)).none.trans f3).trans f4⟩
  have Hend := Lib.hid hend
  clear hend
  clear hwr
  by_cases hfull : 4096 - off.toNat = s.size
  · go_wp2_with (first
      | ((with_reducible refine at_copy ?_); refine wpCopyStr rfl (.tmp 26) (.tmp 27) _ _ rfl h''.1 5 Try.underlying80 size_u8 off.toNat c.slot.toNat _ s rfl rfl (by omega) (by omega) ?_; intro w3 hr3 hf3)
      | ((with_reducible refine at_clear ?_); refine wpClear rfl (.tmp 29) _ rfl hr3 5 (.int .u8 0) Try.underlying80 zero_u8 rfl rfl off.toNat (c.slot.toNat - s.size) _ rfl (by rw [hps]; omega) ?_; intro w4 hr4 hf4))
    go_ret
    have e0 : c.slot.toNat - s.size = 0 := by omega
    rw [e0] at hr4
    refine ⟨rfl, Hend.out w3 w4 hr3 hf3 ?_ hf4⟩
    rw [e0]
    unfold putAtA at hr4 ⊢
    simpa [putAt] using hr4
  · go_wp2_with (first
      | ((with_reducible refine at_copy ?_); refine wpCopyStr rfl (.tmp 26) (.tmp 27) _ _ rfl h''.1 5 Try.underlying80 size_u8 off.toNat c.slot.toNat (4096 - off.toNat) s rfl rfl (by omega) (by omega) ?_; intro w3 hr3 hf3)
      | ((with_reducible refine at_clear ?_); refine wpClear rfl (.tmp 29) _ rfl hr3 5 (.int .u8 0) Try.underlying80 zero_u8 rfl rfl (off.toNat + s.size) (c.slot.toNat - s.size) (4096 - off.toNat - s.size) rfl (by rw [hps]; omega) ?_; intro w4 hr4 hf4))
    go_ret
    exact ⟨rfl, Hend.out w3 w4 hr3 hf3 hr4 hf4⟩
end Go.Proofs.Yteefcfndlggajaa
