/-
  Package page, function by function: what each call does to a page that is known whole ('PageAt').
  Package page, continued: Write, Free, Alloc, New, Copy; nobody's page.
  Package page, continued: Free, Alloc.
  Package page, continued: New, Copy; nobody's page.
-/
import Derived.Test.YtckkccnebjacdaaGreatMgTextMay
import Derived.Deep.QuietTactic
import Derived.BigQuiet
import Derived.Maps.OwnSet
import Derived.StillTailTactics
import Derived.Deep.RegionWith
import Derived.Shelf.SlMaps.Clone
namespace Go.Proofs.YtckkccnebjacdaaGreat
open Go.RowKit
set_option linter.unusedVariables false
set_option linter.unusedSimpArgs false
set_option maxRecDepth 100000

/-- What a page's struct holds: its bytes, the length of a slot, how many were used at some time, the first one given back, the slots that are used. -/
structure PC where
  mem : List UInt8
  slot : Int
  fresh : Int
  head : Int
  used : List (Int × Unit)

def PC.cells (c : PC) (m : Nat) : Array Value := (c.mem.map byteV ++ [Value.int .i64 c.slot, Value.int .i64 c.fresh, Value.int .u16 c.head, Value.map (some m)]).toArray
def PageAt (w : World) (p m : Nat) (c : PC) : Prop :=
  Row w p (c.cells m) 174 ∧ MapAt w m (Value.int .u16) unitV c.used ∧ p ≠ m ∧ c.mem.length = 4096

theorem PC.slot_at (c : PC) (m : Nat) (h : c.mem.length = 4096) : (c.cells m)[4096]? = some (.int .i64 c.slot) := by
  unfold PC.cells; rw [List.getElem?_toArray, List.getElem?_append_right (by simp [h])]; simp [h]
theorem PC.fresh_at (c : PC) (m : Nat) (h : c.mem.length = 4096) : (c.cells m)[4097]? = some (.int .i64 c.fresh) := by
  unfold PC.cells; rw [List.getElem?_toArray, List.getElem?_append_right (by simp [h])]; simp [h]
theorem PC.head_at (c : PC) (m : Nat) (h : c.mem.length = 4096) : (c.cells m)[4098]? = some (.int .u16 c.head) := by
  unfold PC.cells; rw [List.getElem?_toArray, List.getElem?_append_right (by simp [h])]; simp [h]
theorem PC.used_at (c : PC) (m : Nat) (h : c.mem.length = 4096) : (c.cells m)[4099]? = some (.map (some m)) := by
  unfold PC.cells; rw [List.getElem?_toArray, List.getElem?_append_right (by simp [h])]; simp [h]
theorem PC.byte_at (c : PC) (m : Nat) (h : c.mem.length = 4096) (i : Nat) (hi : i < 4096) : (c.cells m)[i]? = some (byteV (c.mem.getD i 0)) := by
  unfold PC.cells; rw [List.getElem?_toArray, List.getElem?_append_left (by simp [h, hi])]; simp [List.getD, h, hi]
theorem PC.size (c : PC) (m : Nat) (h : c.mem.length = 4096) : (c.cells m).size = 4100 := by
  unfold PC.cells; simp [h]
theorem PC.set_fresh (c : PC) (m : Nat) (h : c.mem.length = 4096) (n : Int) : (c.cells m).setIfInBounds 4097 (.int .i64 n) = ({ c with fresh := n } : PC).cells m := by
  unfold PC.cells; rw [List.setIfInBounds_toArray, List.set_append_right _ _ (by simp [h])]; simp [h]
theorem PC.set_head (c : PC) (m : Nat) (h : c.mem.length = 4096) (n : Int) : (c.cells m).setIfInBounds 4098 (.int .u16 n) = ({ c with head := n } : PC).cells m := by
  unfold PC.cells; rw [List.setIfInBounds_toArray, List.set_append_right _ _ (by simp [h])]; simp [h]
theorem PC.set_used (c : PC) (m m' : Nat) (h : c.mem.length = 4096) : (c.cells m).setIfInBounds 4099 (.map (some m')) = c.cells m' := by
  unfold PC.cells; rw [List.setIfInBounds_toArray, List.set_append_right _ _ (by simp [h])]; simp [h]
theorem PC.set_byte (c : PC) (m : Nat) (h : c.mem.length = 4096) (i : Nat) (hi : i < 4096) (b : UInt8) : (c.cells m).setIfInBounds i (byteV b) = ({ c with mem := c.mem.set i b } : PC).cells m := by
  unfold PC.cells; rw [List.setIfInBounds_toArray, List.set_append_left _ _ (by simp [h, hi]), List.map_set]

namespace PageAt
variable {w w' : World} {p m : Nat} {c : PC}
theorem cell (h : PageAt w p m c) (i : Nat) : w.cell? ⟨p, i, none⟩ = (c.cells m)[i]? := h.1.cell i
theorem c_slot (h : PageAt w p m c) : w.cell? ⟨p, 4096, none⟩ = some (.int .i64 c.slot) := by rw [h.cell]; exact c.slot_at m h.2.2.2
theorem c_fresh (h : PageAt w p m c) : w.cell? ⟨p, 4097, none⟩ = some (.int .i64 c.fresh) := by rw [h.cell]; exact c.fresh_at m h.2.2.2
theorem c_head (h : PageAt w p m c) : w.cell? ⟨p, 4098, none⟩ = some (.int .u16 c.head) := by rw [h.cell]; exact c.head_at m h.2.2.2
theorem c_used (h : PageAt w p m c) : w.cell? ⟨p, 4099, none⟩ = some (.map (some m)) := by rw [h.cell]; exact c.used_at m h.2.2.2
theorem c_byte (h : PageAt w p m c) (i : Nat) (hi : i < 4096) : w.cell? ⟨p, i, none⟩ = some (byteV (c.mem.getD i 0)) := by rw [h.cell]; exact c.byte_at m h.2.2.2 i hi
theorem free (h : PageAt w p m c) (i : Nat) : w.frozen? ⟨p, i, none⟩ = false := h.1.free i
theorem kept {F : Nat → Prop} (h : PageAt w p m c) (f : Fr F w w') (hp : ¬ F p) (hm : ¬ F m) : PageAt w' p m c :=
  ⟨h.1.kept f hp, h.2.1.kept f hm, h.2.2⟩
theorem kept0 (h : PageAt w p m c) (f : Fr none_ w w') : PageAt w' p m c := h.kept f (fun x => x) (fun x => x)
end PageAt

theorem u16_key : KeyT Tryz.prog 133 (Value.int .u16) := KeyT.int Tryz.underlying133
theorem zero_unit (w : World) : (zeroValue 187).run Tryz.prog w = .ok (.agg #[]) w := by kernel_rfl

set_option maxHeartbeats 400000 in
theorem bytes_any (w : World) (p m : Nat) (c : PC) (off : Int) (h : PageAt w p m c) (h0 : 0 ≤ off) (h2 : 2 ≤ c.slot) (h1 : off + c.slot ≤ 4096) :
    Calls Tryz.prog 118 #[.pointer (some ⟨p, 0, none⟩), .int .u16 off] w fun e w' => e = .returned (.slice (some ⟨p, off.toNat, none⟩) c.slot.toNat (4096 - off.toNat)) ∧ ∃ n, w' = w.drewN n := by
  have hs := h.c_slot
  have hlt : off < 4096 := by omega
  have e1 : IntKind.i64.wrap (off + c.slot) = off + c.slot := IntWalk.i64_in _ (by omega)
  have e2 : off ≤ off + c.slot := by omega
  have e4 : Tryz.prog.arrayLen 172 = 4096 := by kernel_rfl
  have e3 : off + c.slot ≤ Tryz.prog.arrayLen 172 := by omega
  go_enter Tryz.func118, Tryz.ntmps118
  go_wp2
  go_quiet (fail)
  go_wp2
  go_ret
  have e5 : (off + c.slot).toNat - off.toNat = c.slot.toNat := by omega
  exact ⟨congrArg (fun n => Ending.returned (.slice (some ⟨p, off.toNat, none⟩) n (4096 - off.toNat))) e5, _, rfl⟩

set_option maxHeartbeats 400000 in
theorem is_any (w : World) (p m : Nat) (c : PC) (off : Int) (h : PageAt w p m c) :
    Calls Tryz.prog 116 #[.pointer (some ⟨p, 0, none⟩), .int .u16 off] w fun e w' => e = .returned (.bool (kvGet c.used off).isSome) ∧ Fr none_ w w' := by
  have hs := h.c_used
  have hm := h.2.1
  go_enter Tryz.func116, Tryz.ntmps116
  go_wp2_with (at_lookup; refine wpLookupSet rfl _ _ _ rfl 133 187 hm Tryz.underlying171 u16_key (zero_unit _) off rfl rfl ?_)
  go_ret
  exact ⟨rfl, by repeat (first | exact Fr.refl _ _ | refine Fr.alloc_r ?_ _ | refine Fr.drew_r ?_)⟩

set_option maxHeartbeats 400000 in
theorem room_any (w : World) (p m : Nat) (c : PC) (h : PageAt w p m c) (h2 : 2 ≤ c.slot) (hu : c.used.length ≤ 4096) :
    Calls Tryz.prog 124 #[.pointer (some ⟨p, 0, none⟩)] w fun e w' => e = .returned (.int .i64 (4096 / c.slot - c.used.length)) ∧ w' = w.drew := by
  have hs := h.c_used
  have hsl := h.c_slot
  have hl := run_len_at (P := Tryz.prog) h.2.1.drew Tryz.underlying171 3
  have hz : ¬ c.slot = 0 := by omega
  have hd0 : 0 ≤ 4096 / c.slot := Int.ediv_nonneg (by omega) (by omega)
  have hd1 : 4096 / c.slot ≤ 4096 := Int.ediv_le_self _ (by omega)
  have hq : IntKind.i64.wrap ((4096 : Int).tdiv c.slot) = 4096 / c.slot := IntWalk.i64_quo _ _ (by omega)
  have hq2 : IntKind.i64.wrap (4096 / c.slot - c.used.length) = 4096 / c.slot - c.used.length := IntWalk.i64_in _ (by omega)
  clear hd0 hd1
  go_enter Tryz.func124, Tryz.ntmps124
  go_wp2
  go_region
  go_wp2
  go_ret
  exact ⟨rfl, rfl⟩

theorem Fr.drewN (F : Nat → Prop) (w : World) (n : Nat) : Fr F w (w.drewN n) := ⟨rfl, rfl, rfl, Nat.le_refl _, fun _ _ _ => rfl⟩
theorem Row.drewN {w : World} {g : Nat} {cs : Array Value} {t : TypeId} (h : Row w g cs t) (n : Nat) : Row (w.drewN n) g cs t := h

set_option maxHeartbeats 400000 in
theorem asked_any (w : World) (p m : Nat) (c : PC) (off : Int) (h : PageAt w p m c) :
    Calls Tryz.prog 117 #[.pointer (some ⟨p, 0, none⟩), .int .u16 off] w fun e w' => e = .returned (.int .i64 (if (kvGet c.used off).isSome then 0 else 5)) ∧ Fr none_ w w' := by
  cases hk : (kvGet c.used off).isSome
  all_goals
    go_enter Tryz.func117, Tryz.ntmps117
    go_wp2_with (go_at_call 116; refine (is_any _ p m c off h).mono ?_; rintro e w' ⟨rfl, hf⟩)
    go_ret
    exact ⟨rfl, hf⟩

/-- What a slot holds. -/
def PC.slotAt (c : PC) (off : Int) : List UInt8 := (c.mem.drop off.toNat).take c.slot.toNat

theorem PC.slotAt_length (c : PC) (off : Int) (hm : c.mem.length = 4096) (h0 : 0 ≤ off) (h2 : 2 ≤ c.slot) (h1 : off + c.slot ≤ 4096) : (c.slotAt off).length = c.slot.toNat := by
  unfold PC.slotAt; simp [hm]; omega
theorem PC.slotAt_get (c : PC) (m : Nat) (off : Int) (hm : c.mem.length = 4096) (h0 : 0 ≤ off) (h2 : 2 ≤ c.slot) (h1 : off + c.slot ≤ 4096) (i : Nat) (hi : i < c.slot.toNat) :
    (c.cells m)[off.toNat + i]? = some (byteV ((c.slotAt off).getD i 0)) := by
  rw [c.byte_at m hm _ (by omega)]
  congr 2
  unfold PC.slotAt
  simp [List.getD, List.getElem?_take, hi]

set_option maxHeartbeats 400000 in
theorem read_no (w : World) (p m : Nat) (c : PC) (off : Int) (h : PageAt w p m c) (hk : kvGet c.used off = none) :
    Calls Tryz.prog 112 #[.pointer (some ⟨p, 0, none⟩), .int .u16 off] w fun e w' => e = .returned (.tuple #[.string (strOf []), .int .i64 5]) ∧ Fr none_ w w' := by
  have ha := asked_any w p m c off h
  rw [hk] at ha
  go_enter Tryz.func112, Tryz.ntmps112
  go_wp2_with (go_at_call 117; refine ha.mono ?_; rintro e w' ⟨rfl, hf⟩)
  go_ret2
  exact ⟨rfl, hf⟩

set_option maxHeartbeats 400000 in
theorem read_yes (w : World) (p m : Nat) (c : PC) (off : Int) (h : PageAt w p m c) (hk : (kvGet c.used off).isSome = true) (h0 : 0 ≤ off) (h2 : 2 ≤ c.slot) (h1 : off + c.slot ≤ 4096) :
    Calls Tryz.prog 112 #[.pointer (some ⟨p, 0, none⟩), .int .u16 off] w fun e w' => e = .returned (.tuple #[.string (strOf (c.slotAt off)), .int .i64 0]) ∧ Fr none_ w w' := by
  have ha := asked_any w p m c off h
  rw [hk] at ha
  go_enter Tryz.func112, Tryz.ntmps112
  go_wp2_with (go_at_call 117; refine ha.mono ?_; rintro e w1 ⟨rfl, hf⟩)
  have h' := h.kept0 hf
  refine (bytes_any w1 p m c off h' h0 h2 h1).mono ?_
  rintro e w2 ⟨rfl, n, rfl⟩
  have hst := run_string_row (P := Tryz.prog) (h'.1.drewN n) 106 9 5 Tryz.underlying106 Tryz.underlying5 Tryz.underlying9 off.toNat c.slot.toNat (4096 - off.toNat) (c.slotAt off)
    (c.slotAt_length off h.2.2.2 h0 h2 h1) (c.slotAt_get m off h.2.2.2 h0 h2 h1)
  go_wp2
  go_ret2
  exact ⟨rfl, hf.trans (Fr.drewN _ _ _)⟩
end Go.Proofs.YtckkccnebjacdaaGreat
namespace Go.Proofs.YtckkccnebjacdaaGreat
open Go.RowKit
set_option linter.unusedVariables false
set_option linter.unusedSimpArgs false
set_option maxRecDepth 100000

theorem PC.putMem (c : PC) (m : Nat) (o : Nat) (bs : List UInt8) (hm : c.mem.length = 4096) (h : o + bs.length ≤ 4096) :
    putAtA (c.cells m) o (bs.map byteV) = ({ c with mem := putAt c.mem o bs } : PC).cells m := by
  unfold putAtA PC.cells putAt
  congr 1
  simp only [List.map_append, List.map_take, List.map_drop, List.length_map]
  rw [List.take_append_of_le_length (by simp [hm]; omega), List.drop_append_of_le_length (by simp [hm]; omega)]
  simp [List.append_assoc]

namespace PageAt
variable {w w' : World} {p m : Nat} {c : PC}
theorem put (h : PageAt w p m c) (o : Nat) (bs : List UInt8) (hb : o + bs.length ≤ 4096) (hr : Row w' p (putAtA (c.cells m) o (bs.map byteV)) 174) (hf : Fr (one p) w w') :
    PageAt w' p m { c with mem := putAt c.mem o bs } := by
  refine ⟨?_, h.2.1.kept hf (fun e => h.2.2.1 e.symm), h.2.2.1, ?_⟩
  · rwa [c.putMem m o bs h.2.2.2 hb] at hr
  · rw [putAt_length _ _ _ (by rw [h.2.2.2]; exact hb)]; exact h.2.2.2
theorem putNone (h : PageAt w p m c) (n : Nat) : PageAt (w.drewN n) p m c := h
end PageAt

theorem zero_u8 (w : World) : (zeroValue 5).run Tryz.prog w = .ok (.int .u8 0) w := by kernel_rfl
theorem size_u8 : (Tryz.prog.info? 5).map (·.size) = some 1 := by kernel_rfl
theorem replicate_byteV (n : Nat) : List.replicate n (Value.int .u8 0) = (List.replicate n (0 : UInt8)).map byteV := by simp [byteV]

set_option maxHeartbeats 400000 in
theorem write_no (w : World) (p m : Nat) (c : PC) (off : Int) (s : ByteArray) (h : PageAt w p m c) (hk : kvGet c.used off = none) :
    Calls Tryz.prog 88 #[.pointer (some ⟨p, 0, none⟩), .int .u16 off, .string s] w fun e w' => e = .returned (.int .i64 5) ∧ Fr none_ w w' := by
  have ha := asked_any w p m c off h
  rw [hk] at ha
  go_enter Tryz.func88, Tryz.ntmps88
  go_wp2_with (go_at_call 117; refine ha.mono ?_; rintro e w' ⟨rfl, hf⟩)
  go_ret
  exact ⟨rfl, hf⟩

set_option maxHeartbeats 400000 in
theorem write_big (w : World) (p m : Nat) (c : PC) (off : Int) (s : ByteArray) (h : PageAt w p m c) (hk : (kvGet c.used off).isSome = true) (hs : c.slot < s.size) :
    Calls Tryz.prog 88 #[.pointer (some ⟨p, 0, none⟩), .int .u16 off, .string s] w fun e w' => e = .returned (.int .i64 40) ∧ Fr none_ w w' := by
  have ha := asked_any w p m c off h
  rw [hk] at ha
  go_enter Tryz.func88, Tryz.ntmps88
  go_wp2_with fail
  refine ha.mono ?_; rintro e w1 ⟨rfl, hf⟩
  have hc := (h.kept0 hf).c_slot
  go_wp2
  go_ret
  exact ⟨rfl, hf⟩

/-- The slot's bytes turned. -/
def PC.write (c : PC) (off : Int) (s : ByteArray) : PC := { c with mem := putAt c.mem off.toNat (s.data.toList ++ List.replicate (c.slot.toNat - s.size) 0) }

theorem putAt_putAt {α : Type} (l : List α) (o : Nat) (a b : List α) (h : o + a.length + b.length ≤ l.length) : putAt (putAt l o a) (o + a.length) b = putAt l o (a ++ b) := by
  apply List.ext_getElem?
  intro i
  have hl : (a ++ b).length = a.length + b.length := by simp
  rw [putAt_get _ _ _ (by rw [putAt_length _ _ _ (by omega)]; omega), putAt_get _ _ _ (by omega), putAt_get _ _ _ (by omega), hl]
  by_cases h1 : i < o
  · rw [if_pos (by omega), if_pos h1, if_pos h1]
  · by_cases h2 : i < o + a.length
    · rw [if_pos h2, if_neg h1, if_pos h2, if_neg h1, if_pos (by omega), List.getElem?_append_left (by omega)]
    · by_cases h3 : i < o + a.length + b.length
      · rw [if_neg h2, if_pos h3, if_neg h1, if_pos (by omega), List.getElem?_append_right (by omega)]
        congr 1; omega
      · rw [if_neg h2, if_neg h3, if_neg h1, if_neg h2, if_neg h1, if_neg (by omega)]

set_option maxHeartbeats 400000 in
theorem write_yes (w : World) (p m : Nat) (c : PC) (off : Int) (s : ByteArray) (h : PageAt w p m c) (hk : (kvGet c.used off).isSome = true) (hs : (s.size : Int) ≤ c.slot) (h0 : 0 ≤ off) (h2 : 2 ≤ c.slot) (h1 : off + c.slot ≤ 4096) :
    Calls Tryz.prog 88 #[.pointer (some ⟨p, 0, none⟩), .int .u16 off, .string s] w fun e w' => e = .returned (.int .i64 0) ∧ PageAt w' p m (c.write off s) ∧ Fr (one p) w w' := by
  have ha := asked_any w p m c off h
  rw [hk] at ha
  have hs' : ¬ c.slot < s.size := by omega
  go_enter Tryz.func88, Tryz.ntmps88
  go_wp2_with fail
  refine ha.mono ?_; rintro e w1 ⟨rfl, hf⟩
  have h' := h.kept0 hf
  have hc := h'.c_slot
  go_wp2_with fail
  refine (bytes_any w1 p m c off h' h0 h2 h1).mono ?_
  rintro e w2 ⟨rfl, n, rfl⟩
  have h'' := h'.putNone n
  have hsz : s.data.toList.length = s.size := Array.length_toList
  have hcs := PC.size c m h.2.2.2
  have hps : (putAtA (c.cells m) off.toNat (s.data.toList.map byteV)).size = 4100 := by rw [putAtA_size _ _ _ (by rw [List.length_map, hsz, hcs]; omega), hcs]
  have hwr : c.write off s = { c with mem := putAt (putAt c.mem off.toNat s.data.toList) (off.toNat + s.size) (List.replicate (c.slot.toNat - s.size) 0) } := by
    unfold PC.write
    rw [← hsz, putAt_putAt _ _ _ _ (by rw [List.length_replicate, h.2.2.2, hsz]; omega)]
  have hend : ∀ w3 w4, Row w3 p (putAtA (c.cells m) off.toNat (s.data.toList.map byteV)) 174 → Fr (one p) (w1.drewN n) w3 →
      Row w4 p (putAtA (putAtA (c.cells m) off.toNat (s.data.toList.map byteV)) (off.toNat + s.size) (List.replicate (c.slot.toNat - s.size) (Value.int .u8 0))) 174 → Fr (one p) w3 w4 →
      PageAt w4 p m (c.write off s) ∧ Fr (one p) w w4 := by
    intro w3 w4 r3 f3 r4 f4
    have q3 := h''.put off.toNat s.data.toList (by rw [hsz]; omega) r3 f3
    rw [c.putMem m off.toNat s.data.toList h.2.2.2 (by rw [hsz]; omega), replicate_byteV] at r4
    have q4 := q3.put (off.toNat + s.size) (List.replicate (c.slot.toNat - s.size) 0) (by rw [List.length_replicate]; omega) r4 f4
    rw [hwr]
    exact ⟨q4, ((hf.trans (Fr.drewN _ _ n)).none.trans f3).trans f4⟩
  have Hend := Lib.hid hend
  clear hend
  clear hwr
  by_cases hfull : 4096 - off.toNat = s.size
  · go_wp2_with (first
      | ((with_reducible refine at_copy ?_); refine wpCopyStr rfl (.tmp 26) (.tmp 27) _ _ rfl h''.1 5 Tryz.underlying106 size_u8 off.toNat c.slot.toNat _ s rfl rfl (by omega) (by omega) ?_; intro w3 hr3 hf3)
      | ((with_reducible refine at_clear ?_); refine wpClear rfl (.tmp 29) _ rfl hr3 5 (.int .u8 0) Tryz.underlying106 zero_u8 rfl rfl off.toNat (c.slot.toNat - s.size) _ rfl (by rw [hps]; omega) ?_; intro w4 hr4 hf4))
    go_ret
    have e0 : c.slot.toNat - s.size = 0 := by omega
    rw [e0] at hr4
    refine ⟨rfl, Hend.out w3 w4 hr3 hf3 ?_ hf4⟩
    rw [e0]
    unfold putAtA at hr4 ⊢
    simpa [putAt] using hr4
  · go_wp2_with (first
      | ((with_reducible refine at_copy ?_); refine wpCopyStr rfl (.tmp 26) (.tmp 27) _ _ rfl h''.1 5 Tryz.underlying106 size_u8 off.toNat c.slot.toNat (4096 - off.toNat) s rfl rfl (by omega) (by omega) ?_; intro w3 hr3 hf3)
      | ((with_reducible refine at_clear ?_); refine wpClear rfl (.tmp 29) _ rfl hr3 5 (.int .u8 0) Tryz.underlying106 zero_u8 rfl rfl (off.toNat + s.size) (c.slot.toNat - s.size) (4096 - off.toNat - s.size) rfl (by rw [hps]; omega) ?_; intro w4 hr4 hf4))
    go_ret
    exact ⟨rfl, Hend.out w3 w4 hr3 hf3 hr4 hf4⟩
end Go.Proofs.YtckkccnebjacdaaGreat
namespace Go.Proofs.YtckkccnebjacdaaGreat
open Go.RowKit
set_option linter.unusedVariables false
set_option linter.unusedSimpArgs false
set_option maxRecDepth 100000

def b16 (n : Int) : List UInt8 := [UInt8.ofNat (n / 256).toNat, UInt8.ofNat (n % 256).toNat]
theorem b16_len (n : Int) : (b16 n).length = 2 := rfl

/-- What put16 does to a page's bytes. -/
theorem PageAt.put16 {w : World} {p m : Nat} {c : PC} (h : PageAt w p m c) (o : Nat) (n : Int) (ho : o + 2 ≤ 4096) (h0 : 0 ≤ n) (h1 : n < 65536) :
    PageAt ((w.setCell ⟨p, o, none⟩ (.int .u8 (n / 256))).setCell ⟨p, o + 1, none⟩ (.int .u8 (n % 256))) p m { c with mem := putAt c.mem o (b16 n) } ∧
    Fr (one p) w ((w.setCell ⟨p, o, none⟩ (.int .u8 (n / 256))).setCell ⟨p, o + 1, none⟩ (.int .u8 (n % 256))) := by
  have e0 : Value.int .u8 (n / 256) = byteV (UInt8.ofNat (n / 256).toNat) := by
    unfold byteV; congr 1
    rw [UInt8.toNat_ofNat_of_lt' (by show _ < 256; omega)]; omega
  have e1 : Value.int .u8 (n % 256) = byteV (UInt8.ofNat (n % 256).toNat) := by
    unfold byteV; congr 1
    rw [UInt8.toNat_ofNat_of_lt' (by show _ < 256; omega)]; omega
  have hm := h.2.2.2
  have r1 := h.1.set o (.int .u8 (n / 256))
  have r2 := r1.set (o + 1) (.int .u8 (n % 256))
  have hf : Fr (one p) w ((w.setCell ⟨p, o, none⟩ (.int .u8 (n / 256))).setCell ⟨p, o + 1, none⟩ (.int .u8 (n % 256))) :=
    Fr.setCell_r (Fr.setCell_r (Fr.refl (one p) w) ⟨p, o, none⟩ _ (fun _ => rfl)) ⟨p, o + 1, none⟩ _ (fun _ => rfl)
  rw [e0, c.set_byte m hm o (by omega), e1, PC.set_byte _ m (by simpa using hm) (o + 1) (by omega)] at r2
  rw [e0, e1] at hf ⊢
  refine ⟨⟨?_, h.2.1.kept hf (fun e => h.2.2.1 e.symm), h.2.2.1, ?_⟩, hf⟩
  · have e : putAt c.mem o (b16 n) = (c.mem.set o (UInt8.ofNat (n / 256).toNat)).set (o + 1) (UInt8.ofNat (n % 256).toNat) := by
      apply List.ext_getElem?
      intro i
      rw [putAt_get _ _ _ (by rw [b16_len]; omega), b16_len, List.getElem?_set, List.getElem?_set]
      simp only [List.length_set]
      by_cases h1 : i < o
      · rw [if_pos h1, if_neg (by omega), if_neg (by omega)]
      · by_cases h2 : i = o
        · subst h2
          rw [if_neg h1, if_pos (by omega), if_neg (by omega), if_pos rfl, if_pos (by omega)]
          simp [b16]
        · by_cases h3 : i = o + 1
          · subst h3
            rw [if_neg h1, if_pos (by omega), if_pos rfl, if_pos (by omega)]
            simp [b16]
          · rw [if_neg h1, if_neg (by omega), if_neg (by omega), if_neg (by omega)]
    rw [e]; exact r2
  · rw [putAt_length _ _ _ (by rw [b16_len]; omega)]; exact hm

/-- What a Free makes of a page. -/
def PC.free (c : PC) (off : Int) : PC := { c with mem := putAt c.mem off.toNat (b16 c.head), head := off, used := kvDel c.used off }

set_option maxHeartbeats 400000 in
theorem free_no (w : World) (p m : Nat) (c : PC) (off : Int) (h : PageAt w p m c) (hk : kvGet c.used off = none) :
    Calls Tryz.prog 94 #[.pointer (some ⟨p, 0, none⟩), .int .u16 off] w fun e w' => e = .returned (.int .i64 5) ∧ Fr none_ w w' := by
  have ha := asked_any w p m c off h
  rw [hk] at ha
  go_enter Tryz.func94, Tryz.ntmps94
  go_wp2_with fail
  refine ha.mono ?_
  rintro e w1 ⟨rfl, hf⟩
  go_wp2_with fail
  go_ret
  exact ⟨rfl, hf⟩

set_option maxHeartbeats 400000 in
theorem free_yes (w : World) (p m : Nat) (c : PC) (off : Int) (h : PageAt w p m c) (hk : (kvGet c.used off).isSome = true) (h0 : 0 ≤ off) (h1 : off + 2 ≤ 4096) (hh0 : 0 ≤ c.head) (hh1 : c.head < 65536) :
    Calls Tryz.prog 94 #[.pointer (some ⟨p, 0, none⟩), .int .u16 off] w fun e w' => e = .returned (.int .i64 0) ∧ PageAt w' p m (c.free off) ∧ Fr (two p m) w w' := by
  have ha := asked_any w p m c off h
  rw [hk] at ha
  go_enter Tryz.func94, Tryz.ntmps94
  go_wp2_with fail
  refine ha.mono ?_
  rintro e w1 ⟨rfl, hf⟩
  have h' := h.kept0 hf
  have hc := h'.c_used
  have hm := h'.2.1
  go_wp2_with (at_delete; refine wpDelete rfl _ _ _ _ rfl 133 187 hm Tryz.underlying171 u16_key off rfl rfl ?_; intro w2 hm2 hf2)
  have h2 : PageAt w2 p m { c with used := kvDel c.used off } := ⟨h'.1.kept hf2 h'.2.2.1, hm2, h'.2.2⟩
  have hc2 := h2.c_head
  go_still_tail 10, (by kernel_rfl)
  have h3 : PageAt w2.drew p m { c with used := kvDel c.used off } := h2
  have f0 := h3.free (0 + off.toNat)
  have f1 := h3.free (0 + off.toNat + 1)
  have g0 := h3.c_byte (0 + off.toNat) (by omega)
  have g1 := h3.c_byte (0 + off.toNat + 1) (by omega)
  go_wp2_with fail
  refine (put16 w2.drew p 0 4096 4096 off c.head h0 h1 (by omega) (by omega) _ _ g0 g1 f0 f1 hh0 hh1).mono ?_
  rintro e w4 ⟨rfl, hw4⟩
  have h4 := h3.put16 (0 + off.toNat) c.head (by omega) hh0 hh1
  rw [← hw4, Nat.zero_add] at h4
  clear hw4
  have hc4 := h4.1.c_head
  have hf4 := h4.1.free 4098
  go_wp2
  go_ret
  have r5 := h4.1.1.set 4098 (.int .u16 off)
  rw [PC.set_head _ m h4.1.2.2.2] at r5
  have q5 := Fr.setCell (one p) w4 ⟨p, 4098, none⟩ (.int .u16 off) (fun _ => rfl)
  refine ⟨rfl, ⟨?_, h4.1.2.1.kept q5 (fun e => h.2.2.1 e.symm), h4.1.2.2⟩, ?_⟩
  · exact r5
  · refine (hf.none.trans ?_).trans ((h4.2.trans q5).mono fun k _ e => Or.inl e)
    exact (hf2.mono fun k _ e => Or.inr e).drew_r
/-- What an Alloc at off makes of a page whose head (and number of fresh ones) has been turned. -/
def PC.give (c : PC) (off : Int) : PC := { c with mem := putAt c.mem off.toNat (List.replicate c.slot.toNat 0), used := kvPut c.used off () }

/-- A slot cleared. -/
def PC.clr (c : PC) (off : Int) : PC := { c with mem := putAt c.mem off.toNat (List.replicate c.slot.toNat 0) }
theorem PageAt.cleared {w1 w2 : World} {p m : Nat} {c : PC} (off : Int) (h : PageAt w1 p m c) (hl : off.toNat + c.slot.toNat ≤ 4096)
    (hr : Row w2 p (putAtA (c.cells m) off.toNat (List.replicate c.slot.toNat (Value.int .u8 0))) 174) (hf : Fr (one p) w1 w2) : PageAt w2 p m (c.clr off) := by
  rw [replicate_byteV] at hr
  exact h.put off.toNat (List.replicate c.slot.toNat 0) (by rw [List.length_replicate]; omega) hr hf
/-- The end that all ways of Alloc have in common: the slot is cleared, and used. -/
theorem give_of {w1 w2 w3 : World} {p m : Nat} {c : PC} (off : Int) (h : PageAt w2 p m (c.clr off)) (hf : Fr (one p) w1 w2)
    (hm3 : MapAt w3 m (Value.int .u16) unitV (kvPut c.used off ())) (hf3 : Fr (one m) w2 w3) : PageAt w3 p m (c.give off) ∧ Fr (two p m) w1 w3 :=
  ⟨⟨h.1.kept hf3 h.2.2.1, hm3, h.2.2⟩, (hf.mono fun k _ e => Or.inl e).trans (hf3.mono fun k _ e => Or.inr e)⟩

set_option maxHeartbeats 400000 in
theorem alloc_full (w : World) (p m : Nat) (c : PC) (h : PageAt w p m c) (hh : c.head = 65535) (h2 : 2 ≤ c.slot) (h2' : c.slot ≤ 4096) (hf0 : 0 ≤ c.fresh) (hf1 : c.fresh ≤ 4096) (hn : 4096 < (c.fresh + 1) * c.slot) :
    Calls Tryz.prog 125 #[.pointer (some ⟨p, 0, none⟩)] w fun e w' => e = .returned (.tuple #[.int .u16 0, .int .i64 41]) ∧ w' = w.drew := by
  have hc := h.c_head
  rw [hh] at hc
  have hc1 := h.c_fresh
  have hc2 := h.c_slot
  have hb : (c.fresh + 1) * c.slot ≤ 4097 * 4096 := Int.mul_le_mul (by omega) h2' (by omega) (by omega)
  have hw1 : IntKind.i64.wrap (c.fresh + 1) = c.fresh + 1 := IntWalk.i64_in _ (by omega)
  have hw : IntKind.i64.wrap ((c.fresh + 1) * c.slot) = (c.fresh + 1) * c.slot := IntWalk.i64_in _ (by omega)
  have hd : decide ((c.fresh + 1) * c.slot ≤ 4096) = false := decide_eq_false (by omega)
  have Hh := Lib.hid hh
  clear hh hb hn
  go_enter Tryz.func125, Tryz.ntmps125
  go_wp2
  go_region
  go_wp2
  go_ret2
  exact ⟨rfl, rfl⟩

set_option maxHeartbeats 1000000 in
theorem alloc_fresh (w : World) (p m : Nat) (c : PC) (h : PageAt w p m c) (hh : c.head = 65535) (h2 : 2 ≤ c.slot) (h2' : c.slot ≤ 4096) (hf0 : 0 ≤ c.fresh) (hf1 : c.fresh ≤ 4096) (hn : (c.fresh + 1) * c.slot ≤ 4096) :
    Calls Tryz.prog 125 #[.pointer (some ⟨p, 0, none⟩)] w fun e w' => e = .returned (.tuple #[.int .u16 (c.fresh * c.slot), .int .i64 0]) ∧ PageAt w' p m (({ c with fresh := c.fresh + 1 } : PC).give (c.fresh * c.slot)) ∧ Fr (two p m) w w' := by
  have hc := h.c_head
  rw [hh] at hc
  have hc1 := h.c_fresh
  have hc2 := h.c_slot
  have hmul : (c.fresh + 1) * c.slot = c.fresh * c.slot + c.slot := by rw [Int.add_mul]; omega
  have hnn : 0 ≤ c.fresh * c.slot := Int.mul_nonneg hf0 (by omega)
  have hw1 : IntKind.i64.wrap (c.fresh + 1) = c.fresh + 1 := IntWalk.i64_in _ (by omega)
  have hw : IntKind.i64.wrap ((c.fresh + 1) * c.slot) = (c.fresh + 1) * c.slot := IntWalk.i64_in _ (by omega)
  have hwv : IntKind.i64.wrap (c.fresh * c.slot) = c.fresh * c.slot := IntWalk.i64_in _ (by omega)
  have hwu : IntKind.u16.wrap (c.fresh * c.slot) = c.fresh * c.slot := IntWalk.u16_in _ (by omega)
  have hd : decide ((c.fresh + 1) * c.slot ≤ 4096) = true := decide_eq_true hn
  have hfr := h.free 4097
  have Hh := Lib.hid hh
  have Hm := Lib.hid hmul
  have Hn := Lib.hid hn
  clear hh hmul hn
  go_enter Tryz.func125, Tryz.ntmps125
  go_wp2
  go_region
  go_wp2
  go_region
  have r1 := h.1.set 4097 (.int .i64 (c.fresh + 1))
  rw [PC.set_fresh _ m h.2.2.2] at r1
  have f1 := Fr.setCell (one p) w ⟨p, 4097, none⟩ (.int .i64 (c.fresh + 1)) (fun _ => rfl)
  have q1 : PageAt (w.setCell ⟨p, 4097, none⟩ (.int .i64 (c.fresh + 1))).drew.drew p m { c with fresh := c.fresh + 1 } := ⟨r1, h.2.1.kept (f1.drew_r.drew_r) (fun (e : m = p) => h.2.2.1 e.symm), h.2.2⟩
  have F1 : Fr (two p m) w (w.setCell ⟨p, 4097, none⟩ (.int .i64 (c.fresh + 1))).drew.drew := (f1.mono fun k _ e => Or.inl e).drew_r.drew_r
  go_wp2_with fail
  have hmul := Hm.out
  have hlt := Hn.out
  refine (bytes_any _ p m _ (c.fresh * c.slot) q1 hnn h2 (by show _ + c.slot ≤ _; omega)).mono ?_
  rintro e w2 ⟨rfl, nd, rfl⟩
  clear hmul hlt
  have q2 := q1.putNone nd
  have Q2 := Lib.hid q2
  have Q1 := Lib.hid F1
  clear q1 F1 f1 r1
  generalize hW : (w.setCell ⟨p, 4097, none⟩ (.int .i64 (c.fresh + 1))).drew.drew = W at *
  clear hW
  have hcs := PC.size { c with fresh := c.fresh + 1 } m h.2.2.2
  have huc := q2.c_used
  clear q2
  have hle : (c.fresh * c.slot).toNat + c.slot.toNat ≤ 4096 := by have := Hm.out; have := Hn.out; omega
  go_wp2_with (first
      | ((with_reducible refine at_clear ?_); refine wpClear rfl _ _ rfl Q2.out.1 5 (.int .u8 0) Tryz.underlying106 zero_u8 rfl rfl (c.fresh * c.slot).toNat c.slot.toNat _ rfl (by omega) ?_; intro w3 hr3 hf3; have q3 := Q2.out.cleared _ hle hr3 hf3; have hu3 := q3.c_used; have hm3 := q3.2.1)
      | (at_mapUpdate; refine wpMapUpdate rfl _ _ _ _ rfl 133 187 hm3 Tryz.underlying171 u16_key (c.fresh * c.slot) () rfl rfl rfl ?_; intro w4 hm4 hf4))
  go_ret2
  have e := give_of (c.fresh * c.slot) q3 hf3 hm4 hf4
  exact ⟨rfl, e.1, (Q1.out.trans (Fr.drewN _ _ nd)).trans e.2⟩

set_option maxHeartbeats 1000000 in
theorem alloc_back (w : World) (p m : Nat) (c : PC) (h : PageAt w p m c) (hh : c.head + c.slot ≤ 4096) (hh0 : 0 ≤ c.head) (h2 : 2 ≤ c.slot) (n : Int)
    (hn : n = ((c.mem.getD c.head.toNat 0).toNat : Int) * 256 + ((c.mem.getD (c.head.toNat + 1) 0).toNat : Int)) :
    Calls Tryz.prog 125 #[.pointer (some ⟨p, 0, none⟩)] w fun e w' => e = .returned (.tuple #[.int .u16 c.head, .int .i64 0]) ∧ PageAt w' p m (({ c with head := n } : PC).give c.head) ∧ Fr (two p m) w w' := by
  have hc := h.c_head
  have hne : (c.head == 65535) = false := beq_eq_false_iff_ne.2 (by omega)
  have hne2 : (c.head != 65535) = true := bne_iff_ne.2 (by omega)
  have hfr := h.free 4098
  have g0 := h.c_byte (0 + c.head.toNat) (by omega)
  have g1 := h.c_byte (0 + c.head.toNat + 1) (by omega)
  rw [Nat.zero_add] at g0 g1
  have Hn := Lib.hid hn
  clear hn
  go_enter Tryz.func125, Tryz.ntmps125
  go_wp2_with fail
  refine (get16 w p 0 4096 4096 c.head _ _ hh0 (by omega) (by omega) (by omega) (by rw [Nat.zero_add]; exact g0) (by rw [Nat.zero_add]; exact g1) (by omega) (by have := (c.mem.getD c.head.toNat 0).toNat_lt; omega) (by omega) (by have := (c.mem.getD (c.head.toNat + 1) 0).toNat_lt; omega)).mono ?_
  rintro e w1 ⟨rfl, rfl⟩
  rw [← Hn.out]
  have r1 := h.1.set 4098 (.int .u16 n)
  rw [PC.set_head _ m h.2.2.2] at r1
  have f1 := Fr.setCell (one p) w ⟨p, 4098, none⟩ (.int .u16 n) (fun _ => rfl)
  have q1 : PageAt (w.setCell ⟨p, 4098, none⟩ (.int .u16 n)) p m { c with head := n } := ⟨r1, h.2.1.kept f1 (fun (e : m = p) => h.2.2.1 e.symm), h.2.2⟩
  have F1 : Fr (two p m) w (w.setCell ⟨p, 4098, none⟩ (.int .u16 n)) := f1.mono fun k _ e => Or.inl e
  go_wp2_with fail
  refine (bytes_any _ p m _ c.head q1 hh0 h2 hh).mono ?_
  rintro e w2 ⟨rfl, nd, rfl⟩
  have q2 := q1.putNone nd
  have Q2 := Lib.hid q2
  have Q1 := Lib.hid F1
  clear q1 F1 f1 r1
  generalize hW : w.setCell ⟨p, 4098, none⟩ (.int .u16 n) = W at *
  clear hW
  have hcs := PC.size { c with head := n } m h.2.2.2
  have huc := q2.c_used
  clear q2
  have hle : c.head.toNat + c.slot.toNat ≤ 4096 := by omega
  go_wp2_with (first
      | ((with_reducible refine at_clear ?_); refine wpClear rfl _ _ rfl Q2.out.1 5 (.int .u8 0) Tryz.underlying106 zero_u8 rfl rfl c.head.toNat c.slot.toNat _ rfl (by omega) ?_; intro w3 hr3 hf3; have q3 := Q2.out.cleared _ hle hr3 hf3; have hu3 := q3.c_used; have hm3 := q3.2.1)
      | (at_mapUpdate; refine wpMapUpdate rfl _ _ _ _ rfl 133 187 hm3 Tryz.underlying171 u16_key c.head () rfl rfl rfl ?_; intro w4 hm4 hf4))
  go_ret2
  have e := give_of c.head q3 hf3 hm4 hf4
  exact ⟨rfl, e.1, (Q1.out.trans (Fr.drewN _ _ nd)).trans e.2⟩
end Go.Proofs.YtckkccnebjacdaaGreat
namespace Go.Proofs.YtckkccnebjacdaaGreat
open Go.RowKit
set_option linter.unusedVariables false
set_option linter.unusedSimpArgs false
set_option maxRecDepth 100000

set_option maxHeartbeats 400000 in
theorem new_no (w : World) (slot : Int) (h : slot < 2 ∨ 4096 < slot) :
    Calls Tryz.prog 79 #[.int .i64 slot] w fun e w' => e = .returned (.tuple #[.pointer none, .int .i64 1]) ∧ w = w' := by
  rcases h with h | h
  · go_enter Tryz.func79, Tryz.ntmps79
    go_wp2
    go_ret2
    exact ⟨rfl, rfl⟩
  · have h' : ¬ slot < 2 := by omega
    go_enter Tryz.func79, Tryz.ntmps79
    go_wp2
    go_ret2
    exact ⟨rfl, rfl⟩

def PC.new (slot : Int) : PC := { mem := List.replicate 4096 0, slot := slot, fresh := 0, head := 65535, used := [] }

theorem build_page (slot : Int) (m : Nat) (w : World) : (Instr.build 174 #[(1, .int .i64 slot), (3, .int .u16 65535), (4, .map (some m))]).run Tryz.prog w = .ok (.agg ((PC.new slot).cells m)) w := by kernel_rfl

set_option maxHeartbeats 400000 in
theorem new_yes (w : World) (slot : Int) (h2 : 2 ≤ slot) (h3 : slot ≤ 4096) :
    Calls Tryz.prog 79 #[.int .i64 slot] w fun e w' => ∃ p m, e = .returned (.tuple #[.pointer (some ⟨p, 0, none⟩), .int .i64 0]) ∧ PageAt w' p m (PC.new slot) ∧ Fr none_ w w' ∧ w.heap.size ≤ p ∧ w.heap.size ≤ m := by
  have h' : ¬ slot < 2 := by omega
  have h'' : ¬ 4096 < slot := by omega
  have hmm := @run_makeMap Tryz.prog
  go_enter Tryz.func79, Tryz.ntmps79
  go_wp2_with ((with_reducible refine at_slot 12 ?_); go_loud (refine wpValue (w' := w.alloc (.map #[] 0)) rfl (.agg ((PC.new slot).cells w.heap.size)) (by kernel_rfl) ?_))
  go_ret2
  have hr := Row.new (w.alloc (.map #[] 0)) ((PC.new slot).cells w.heap.size) 174
  have hf : Fr none_ w ((w.alloc (.map #[] 0)).alloc (.cells ((PC.new slot).cells w.heap.size) 174)) := ((Fr.refl _ _).alloc_r _).alloc_r _
  have hm : MapAt ((w.alloc (.map #[] 0)).alloc (.cells ((PC.new slot).cells w.heap.size) 174)) w.heap.size (Value.int .u16) unitV [] :=
    (MapAt.new w _ _).kept (Fr.alloc none_ _ _) (fun x => x)
  rw [World.size_alloc] at hr
  exact ⟨w.heap.size + 1, rfl, w.heap.size, ⟨hr, hm, by omega, List.length_replicate⟩, hf, by omega, by omega⟩

/-! ### Copy -/
set_option maxHeartbeats 400000 in
theorem clone_any {K V : Type} [DecidableEq K] (w : World) (m : Nat) (ek : K → Value) (ev : V → Value) (l : List (K × V)) (h : MapAt w m ek ev l) :
    Calls Tryz.prog 128 #[.map (some m)] w fun e w' => e = .returned (.map (some w.heap.size)) ∧ MapAt w' w.heap.size ek ev l ∧ ∃ o, w' = w.alloc o := by
  obtain ⟨es, clock, hb, r⟩ := h
  have hq := fun w => run_eql_map_nil_sl (P := Tryz.prog) w 171 _ _ (some m) Tryz.underlying171
  go_enter Tryz.func128, Tryz.ntmps128
  go_wp2
  rw [run_callFunc_extern Tryz.func127 (by kernel_rfl) (by kernel_rfl) (by kernel_rfl) (e := Extern.MapsClone.clone) (by kernel_rfl), run_maps_clone_sl w 171 hb]
  simp only [Result.andThen]
  rw [Oper.upon_value]
  go_wp2
  rw [run_typeAssert_map_sl _ 171 20 _ _ _ Tryz.underlying171]
  simp only [Result.andThen]
  rw [Oper.upon_value]
  go_wp2
  go_ret
  exact ⟨rfl, ⟨es, clock, (MapKept.heap_alloc w _).1, r⟩, _, rfl⟩

theorem PC.one (c : PC) (m : Nat) : ∀ v ∈ (c.cells m).toList, v.oneCell' = true := by
  intro v hv
  unfold PC.cells at hv
  simp only [List.mem_append, List.mem_map] at hv
  rcases hv with ⟨b, _, rfl⟩ | hv
  · rfl
  · simp at hv; rcases hv with rfl | rfl | rfl | rfl <;> rfl
theorem size_page : (Tryz.prog.info? 174).map (·.size) = some 4100 := by kernel_rfl
theorem page_struct : ∃ fs, Tryz.prog.underlying 174 = some (.struct fs) := ⟨_, Tryz.underlying174⟩

def zeroPage : Array Value := (List.replicate 4096 (Value.int .u8 0) ++ [Value.int .i64 0, Value.int .i64 0, Value.int .u16 0, Value.map none]).toArray
theorem zeroPage_size : zeroPage.size = 4100 := by
  unfold zeroPage; rw [List.size_toArray, List.length_append, List.length_replicate]; rfl
theorem alloc_page (w : World) : (Instr.alloc 174 true (.tuple #[])).run Tryz.prog w = .ok (.pointer (some ⟨w.heap.size, 0, none⟩)) (w.alloc (.cells zeroPage 174)) := by kernel_rfl

set_option maxHeartbeats 400000 in
theorem copy_any (w : World) (p m : Nat) (c : PC) (h : PageAt w p m c) :
    Calls Tryz.prog 103 #[.pointer (some ⟨p, 0, none⟩)] w fun e w' => ∃ p' m', e = .returned (.pointer (some ⟨p', 0, none⟩)) ∧ PageAt w' p' m' c ∧ Fr none_ w w' ∧ w.heap.size ≤ p' ∧ w.heap.size ≤ m' := by
  have hc := h.c_used
  obtain ⟨fs, hfs⟩ := page_struct
  have hcs := PC.size c m h.2.2.2
  have hone := Lib.hid (c.one m)
  have hlt := h.1.lt
  have hmlt := h.2.1.lt
  have hsz : (Tryz.prog.info? 174).map (·.size) = some (c.cells m).size := by rw [hcs]; exact size_page
  have Hsz := Lib.hid hsz
  have Hcs := Lib.hid hcs
  have Hz := Lib.hid zeroPage_size
  have r1 := Lib.hid (Row.new w zeroPage 174)
  have fr1 := Lib.hid (Fr.alloc none_ w (.cells zeroPage 174))
  clear hsz hcs
  go_enter Tryz.func103, Tryz.ntmps103
  go_wp2_with (first
    | ((with_reducible refine at_slot 8 ?_); refine wpList_load_row rfl 174 _ rfl p rfl 174 (c.cells m) (0, 0) _ h.1 hfs rfl Hsz.out ?_)
    | ((with_reducible refine at_slot 3 ?_); refine wpValue (w' := w.alloc (.cells zeroPage 174)) rfl (.pointer (some ⟨w.heap.size, 0, none⟩)) (by unfold execOp; simp only []; rw [Sem.run_bind, alloc_page w]; rfl) ?_)
    | ((with_reducible refine at_storeOf 174 ?_); refine wpStoreRow rfl _ _ 174 rfl r1.out rfl rfl Hsz.out (Hcs.out.trans Hz.out.symm) hone.out ?_; intro w2 hr2 hf2
       have fr2 : Fr none_ w w2 := fr1.out.step (hf2.mono fun _ _ e => e) (fun i hi e => by unfold one at e; omega)
       have h2 := h.kept0 fr2
       have hc2 := h2.c_used))
  refine (clone_any w2 m _ _ _ h2.2.1).mono ?_
  rintro e w3 ⟨rfl, hm3, o, rfl⟩
  have hr3 := hr2.alloc o
  have hc3 := hr3.cell 4099
  rw [c.used_at m h.2.2.2] at hc3
  have hf3 := hr3.free 4099
  go_wp2
  go_ret
  have r4 := hr3.set 4099 (.map (some w2.heap.size))
  rw [c.set_used m _ h.2.2.2] at r4
  have fr4 := (fr2.alloc_r o).setCell_r ⟨w.heap.size, 4099, none⟩ (.map (some w2.heap.size)) (fun e => absurd e (by simp))
  have hne : w.heap.size ≠ w2.heap.size := by have := hr2.lt; omega
  exact ⟨w.heap.size, w2.heap.size, rfl, ⟨r4, hm3.kept (Fr.setCell (one w.heap.size) _ ⟨w.heap.size, 4099, none⟩ _ (fun _ => rfl)) (fun e => hne e.symm), hne, h.2.2.2⟩, fr4, Nat.le_refl _, fr2.size⟩
end Go.Proofs.YtckkccnebjacdaaGreat
