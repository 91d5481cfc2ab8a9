/-
  Package page, function by function: what each call does to a page that is known whole ('PageAt').
-/
import Derived.Test.YteefcfndlggajaaBits
import Derived.Deep.QuietTactic
import Derived.BigQuiet
namespace Go.Proofs.Yteefcfndlggajaa
open Go.RowKit
set_option linter.unusedVariables false
set_option linter.unusedSimpArgs false
set_option maxRecDepth 100000

/-- What a page's struct holds: its bytes, the length of a slot, how many were used at some time, the first one given back, the slots that are used. -/
structure PC where
  mem : List UInt8
  slot : Int
  fresh : Int
  head : Int
  used : List (Int × Unit)

def PC.cells (c : PC) (m : Nat) : Array Value := (c.mem.map byteV ++ [Value.int .i64 c.slot, Value.int .i64 c.fresh, Value.int .u16 c.head, Value.map (some m)]).toArray
def PageAt (w : World) (p m : Nat) (c : PC) : Prop :=
  Row w p (c.cells m) 156 ∧ MapAt w m (Value.int .u16) unitV c.used ∧ p ≠ m ∧ c.mem.length = 4096

theorem PC.slot_at (c : PC) (m : Nat) (h : c.mem.length = 4096) : (c.cells m)[4096]? = some (.int .i64 c.slot) := by
  unfold PC.cells; rw [List.getElem?_toArray, List.getElem?_append_right (by simp [h])]; simp [h]
theorem PC.fresh_at (c : PC) (m : Nat) (h : c.mem.length = 4096) : (c.cells m)[4097]? = some (.int .i64 c.fresh) := by
  unfold PC.cells; rw [List.getElem?_toArray, List.getElem?_append_right (by simp [h])]; simp [h]
theorem PC.head_at (c : PC) (m : Nat) (h : c.mem.length = 4096) : (c.cells m)[4098]? = some (.int .u16 c.head) := by
  unfold PC.cells; rw [List.getElem?_toArray, List.getElem?_append_right (by simp [h])]; simp [h]
theorem PC.used_at (c : PC) (m : Nat) (h : c.mem.length = 4096) : (c.cells m)[4099]? = some (.map (some m)) := by
  unfold PC.cells; rw [List.getElem?_toArray, List.getElem?_append_right (by simp [h])]; simp [h]
theorem PC.byte_at (c : PC) (m : Nat) (h : c.mem.length = 4096) (i : Nat) (hi : i < 4096) : (c.cells m)[i]? = some (byteV (c.mem.getD i 0)) := by
  unfold PC.cells; rw [List.getElem?_toArray, List.getElem?_append_left (by simp [h, hi])]; simp [List.getD, h, hi]
theorem PC.size (c : PC) (m : Nat) (h : c.mem.length = 4096) : (c.cells m).size = 4100 := by
  unfold PC.cells; simp [h]
theorem PC.set_fresh (c : PC) (m : Nat) (h : c.mem.length = 4096) (n : Int) : (c.cells m).setIfInBounds 4097 (.int .i64 n) = ({ c with fresh := n } : PC).cells m := by
  unfold PC.cells; rw [List.setIfInBounds_toArray, List.set_append_right _ _ (by simp [h])]; simp [h]
theorem PC.set_head (c : PC) (m : Nat) (h : c.mem.length = 4096) (n : Int) : (c.cells m).setIfInBounds 4098 (.int .u16 n) = ({ c with head := n } : PC).cells m := by
  unfold PC.cells; rw [List.setIfInBounds_toArray, List.set_append_right _ _ (by simp [h])]; simp [h]
theorem PC.set_used (c : PC) (m m' : Nat) (h : c.mem.length = 4096) : (c.cells m).setIfInBounds 4099 (.map (some m')) = c.cells m' := by
  unfold PC.cells; rw [List.setIfInBounds_toArray, List.set_append_right _ _ (by simp [h])]; simp [h]
theorem PC.set_byte (c : PC) (m : Nat) (h : c.mem.length = 4096) (i : Nat) (hi : i < 4096) (b : UInt8) : (c.cells m).setIfInBounds i (byteV b) = ({ c with mem := c.mem.set i b } : PC).cells m := by
  unfold PC.cells; rw [List.setIfInBounds_toArray, List.set_append_left _ _ (by simp [h, hi]), List.map_set]

namespace PageAt
variable {w w' : World} {p m : Nat} {c : PC}
theorem cell (h : PageAt w p m c) (i : Nat) : w.cell? ⟨p, i, none⟩ = (c.cells m)[i]? := h.1.cell i
theorem c_slot (h : PageAt w p m c) : w.cell? ⟨p, 4096, none⟩ = some (.int .i64 c.slot) := by rw [h.cell]; exact c.slot_at m h.2.2.2
theorem c_fresh (h : PageAt w p m c) : w.cell? ⟨p, 4097, none⟩ = some (.int .i64 c.fresh) := by rw [h.cell]; exact c.fresh_at m h.2.2.2
theorem c_head (h : PageAt w p m c) : w.cell? ⟨p, 4098, none⟩ = some (.int .u16 c.head) := by rw [h.cell]; exact c.head_at m h.2.2.2
theorem c_used (h : PageAt w p m c) : w.cell? ⟨p, 4099, none⟩ = some (.map (some m)) := by rw [h.cell]; exact c.used_at m h.2.2.2
theorem c_byte (h : PageAt w p m c) (i : Nat) (hi : i < 4096) : w.cell? ⟨p, i, none⟩ = some (byteV (c.mem.getD i 0)) := by rw [h.cell]; exact c.byte_at m h.2.2.2 i hi
theorem free (h : PageAt w p m c) (i : Nat) : w.frozen? ⟨p, i, none⟩ = false := h.1.free i
theorem kept {F : Nat → Prop} (h : PageAt w p m c) (f : Fr F w w') (hp : ¬ F p) (hm : ¬ F m) : PageAt w' p m c :=
  ⟨h.1.kept f hp, h.2.1.kept f hm, h.2.2⟩
theorem kept0 (h : PageAt w p m c) (f : Fr none_ w w') : PageAt w' p m c := h.kept f (fun x => x) (fun x => x)
end PageAt

theorem u16_key : KeyT Try.prog 83 (Value.int .u16) := KeyT.int Try.underlying83
theorem zero_unit (w : World) : (zeroValue 159).run Try.prog w = .ok (.agg #[]) w := by kernel_rfl

set_option maxHeartbeats 400000 in
theorem bytes_any (w : World) (p m : Nat) (c : PC) (off : Int) (h : PageAt w p m c) (h0 : 0 ≤ off) (h2 : 2 ≤ c.slot) (h1 : off + c.slot ≤ 4096) :
    Calls Try.prog 86 #[.pointer (some ⟨p, 0, none⟩), .int .u16 off] w fun e w' => e = .returned (.slice (some ⟨p, off.toNat, none⟩) c.slot.toNat (4096 - off.toNat)) ∧ ∃ n, w' = w.drewN n := by
  have hs := h.c_slot
  have hlt : off < 4096 := by omega
  have e1 : IntKind.i64.wrap (off + c.slot) = off + c.slot := IntWalk.i64_in _ (by omega)
  have e2 : off ≤ off + c.slot := by omega
  have e4 : Try.prog.arrayLen 153 = 4096 := by kernel_rfl
  have e3 : off + c.slot ≤ Try.prog.arrayLen 153 := by omega
  go_enter Try.func86, Try.ntmps86
  go_wp2
  go_quiet (fail)
  go_wp2
  go_ret
  have e5 : (off + c.slot).toNat - off.toNat = c.slot.toNat := by omega
  exact ⟨congrArg (fun n => Ending.returned (.slice (some ⟨p, off.toNat, none⟩) n (4096 - off.toNat))) e5, _, rfl⟩

set_option maxHeartbeats 400000 in
theorem is_any (w : World) (p m : Nat) (c : PC) (off : Int) (h : PageAt w p m c) :
    Calls Try.prog 84 #[.pointer (some ⟨p, 0, none⟩), .int .u16 off] w fun e w' => e = .returned (.bool (kvGet c.used off).isSome) ∧ Fr none_ w w' := by
  have hs := h.c_used
  have hm := h.2.1
  go_enter Try.func84, Try.ntmps84
  go_wp2_with (at_lookup; refine wpLookupSet rfl _ _ _ rfl 83 159 hm Try.underlying154 u16_key (zero_unit _) off rfl rfl ?_)
  go_ret
  exact ⟨rfl, by repeat (first | exact Fr.refl _ _ | refine Fr.alloc_r ?_ _ | refine Fr.drew_r ?_)⟩

set_option maxHeartbeats 400000 in
theorem room_any (w : World) (p m : Nat) (c : PC) (h : PageAt w p m c) (h2 : 2 ≤ c.slot) (hu : c.used.length ≤ 4096) :
    Calls Try.prog 70 #[.pointer (some ⟨p, 0, none⟩)] w fun e w' => e = .returned (.int .i64 (4096 / c.slot - c.used.length)) ∧ w' = w.drew := by
  have hs := h.c_used
  have hsl := h.c_slot
  have hl := run_len_at (P := Try.prog) h.2.1.drew Try.underlying154 3
  have hz : ¬ c.slot = 0 := by omega
  have hd0 : 0 ≤ 4096 / c.slot := Int.ediv_nonneg (by omega) (by omega)
  have hd1 : 4096 / c.slot ≤ 4096 := Int.ediv_le_self _ (by omega)
  have hq : IntKind.i64.wrap ((4096 : Int).tdiv c.slot) = 4096 / c.slot := IntWalk.i64_quo _ _ (by omega)
  have hq2 : IntKind.i64.wrap (4096 / c.slot - c.used.length) = 4096 / c.slot - c.used.length := IntWalk.i64_in _ (by omega)
  clear hd0 hd1
  go_enter Try.func70, Try.ntmps70
  go_wp2
  go_region
  go_wp2
  go_ret
  exact ⟨rfl, rfl⟩

theorem Fr.drewN (F : Nat → Prop) (w : World) (n : Nat) : Fr F w (w.drewN n) := ⟨rfl, rfl, rfl, Nat.le_refl _, fun _ _ _ => rfl⟩
theorem Row.drewN {w : World} {g : Nat} {cs : Array Value} {t : TypeId} (h : Row w g cs t) (n : Nat) : Row (w.drewN n) g cs t := h

set_option maxHeartbeats 400000 in
theorem asked_any (w : World) (p m : Nat) (c : PC) (off : Int) (h : PageAt w p m c) :
    Calls Try.prog 85 #[.pointer (some ⟨p, 0, none⟩), .int .u16 off] w fun e w' => e = .returned (.int .i64 (if (kvGet c.used off).isSome then 0 else 5)) ∧ Fr none_ w w' := by
  cases hk : (kvGet c.used off).isSome
  all_goals
    go_enter Try.func85, Try.ntmps85
    go_wp2_with (go_at_call 84; refine (is_any _ p m c off h).mono ?_; rintro e w' ⟨rfl, hf⟩)
    go_ret
    exact ⟨rfl, hf⟩

/-- What a slot holds. -/
def PC.slotAt (c : PC) (off : Int) : List UInt8 := (c.mem.drop off.toNat).take c.slot.toNat

theorem PC.slotAt_length (c : PC) (off : Int) (hm : c.mem.length = 4096) (h0 : 0 ≤ off) (h2 : 2 ≤ c.slot) (h1 : off + c.slot ≤ 4096) : (c.slotAt off).length = c.slot.toNat := by
  unfold PC.slotAt; simp [hm]; omega
theorem PC.slotAt_get (c : PC) (m : Nat) (off : Int) (hm : c.mem.length = 4096) (h0 : 0 ≤ off) (h2 : 2 ≤ c.slot) (h1 : off + c.slot ≤ 4096) (i : Nat) (hi : i < c.slot.toNat) :
    (c.cells m)[off.toNat + i]? = some (byteV ((c.slotAt off).getD i 0)) := by
  rw [c.byte_at m hm _ (by omega)]
  congr 2
  unfold PC.slotAt
  simp [List.getD, List.getElem?_take, hi]

set_option maxHeartbeats 400000 in
theorem read_no (w : World) (p m : Nat) (c : PC) (off : Int) (h : PageAt w p m c) (hk : kvGet c.used off = none) :
    Calls Try.prog 62 #[.pointer (some ⟨p, 0, none⟩), .int .u16 off] w fun e w' => e = .returned (.tuple #[.string (strOf []), .int .i64 5]) ∧ Fr none_ w w' := by
  have ha := asked_any w p m c off h
  rw [hk] at ha
  go_enter Try.func62, Try.ntmps62
  go_wp2_with (go_at_call 85; refine ha.mono ?_; rintro e w' ⟨rfl, hf⟩)
  go_ret2
  exact ⟨rfl, hf⟩

set_option maxHeartbeats 400000 in
theorem read_yes (w : World) (p m : Nat) (c : PC) (off : Int) (h : PageAt w p m c) (hk : (kvGet c.used off).isSome = true) (h0 : 0 ≤ off) (h2 : 2 ≤ c.slot) (h1 : off + c.slot ≤ 4096) :
    Calls Try.prog 62 #[.pointer (some ⟨p, 0, none⟩), .int .u16 off] w fun e w' => e = .returned (.tuple #[.string (strOf (c.slotAt off)), .int .i64 0]) ∧ Fr none_ w w' := by
  have ha := asked_any w p m c off h
  rw [hk] at ha
  go_enter Try.func62, Try.ntmps62
  go_wp2_with (go_at_call 85; refine ha.mono ?_; rintro e w1 ⟨rfl, hf⟩)
  have h' := h.kept0 hf
  refine (bytes_any w1 p m c off h' h0 h2 h1).mono ?_
  rintro e w2 ⟨rfl, n, rfl⟩
  have hst := run_string_row (P := Try.prog) (h'.1.drewN n) 80 9 5 Try.underlying80 Try.underlying5 Try.underlying9 off.toNat c.slot.toNat (4096 - off.toNat) (c.slotAt off)
    (c.slotAt_length off h.2.2.2 h0 h2 h1) (c.slotAt_get m off h.2.2.2 h0 h2 h1)
  go_wp2
  go_ret2
  exact ⟨rfl, hf.trans (Fr.drewN _ _ _)⟩
end Go.Proofs.Yteefcfndlggajaa
