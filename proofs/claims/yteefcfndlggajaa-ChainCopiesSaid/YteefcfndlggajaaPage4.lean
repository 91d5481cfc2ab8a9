/-
  Package page, continued: New, Copy; nobody's page.
-/
import Derived.Test.YteefcfndlggajaaPage3
import Derived.Shelf.SlMaps.Clone
namespace Go.Proofs.Yteefcfndlggajaa
open Go.RowKit
set_option linter.unusedVariables false
set_option linter.unusedSimpArgs false
set_option maxRecDepth 100000

set_option maxHeartbeats 400000 in
theorem new_no (w : World) (slot : Int) (h : slot < 2 ∨ 4096 < slot) :
    Calls Try.prog 71 #[.int .i64 slot] w fun e w' => e = .returned (.tuple #[.pointer none, .int .i64 1]) ∧ w = w' := by
  rcases h with h | h
  · go_enter Try.func71, Try.ntmps71
    go_wp2
    go_ret2
    exact ⟨rfl, rfl⟩
  · have h' : ¬ slot < 2 := by omega
    go_enter Try.func71, Try.ntmps71
    go_wp2
    go_ret2
    exact ⟨rfl, rfl⟩

def PC.new (slot : Int) : PC := { mem := List.replicate 4096 0, slot := slot, fresh := 0, head := 65535, used := [] }

theorem build_page (slot : Int) (m : Nat) (w : World) : (Instr.build 156 #[(1, .int .i64 slot), (3, .int .u16 65535), (4, .map (some m))]).run Try.prog w = .ok (.agg ((PC.new slot).cells m)) w := by kernel_rfl

set_option maxHeartbeats 400000 in
theorem new_yes (w : World) (slot : Int) (h2 : 2 ≤ slot) (h3 : slot ≤ 4096) :
    Calls Try.prog 71 #[.int .i64 slot] w fun e w' => ∃ p m, e = .returned (.tuple #[.pointer (some ⟨p, 0, none⟩), .int .i64 0]) ∧ PageAt w' p m (PC.new slot) ∧ Fr none_ w w' ∧ w.heap.size ≤ p ∧ w.heap.size ≤ m := by
  have h' : ¬ slot < 2 := by omega
  have h'' : ¬ 4096 < slot := by omega
  have hmm := @run_makeMap Try.prog
  go_enter Try.func71, Try.ntmps71
  go_wp2_with ((with_reducible refine at_slot 12 ?_); go_loud (refine wpValue (w' := w.alloc (.map #[] 0)) rfl (.agg ((PC.new slot).cells w.heap.size)) (by kernel_rfl) ?_))
  go_ret2
  have hr := Row.new (w.alloc (.map #[] 0)) ((PC.new slot).cells w.heap.size) 156
  have hf : Fr none_ w ((w.alloc (.map #[] 0)).alloc (.cells ((PC.new slot).cells w.heap.size) 156)) := ((Fr.refl _ _).alloc_r _).alloc_r _
  have hm : MapAt ((w.alloc (.map #[] 0)).alloc (.cells ((PC.new slot).cells w.heap.size) 156)) w.heap.size (Value.int .u16) unitV [] :=
    (MapAt.new w _ _).kept (Fr.alloc none_ _ _) (fun x => x)
  rw [World.size_alloc] at hr
  exact ⟨w.heap.size + 1, rfl, w.heap.size, ⟨hr, hm, by omega, List.length_replicate⟩, hf, by omega, by omega⟩

/-! ### Copy -/
set_option maxHeartbeats 400000 in
theorem clone_any {K V : Type} [DecidableEq K] (w : World) (m : Nat) (ek : K → Value) (ev : V → Value) (l : List (K × V)) (h : MapAt w m ek ev l) :
    Calls Try.prog 90 #[.map (some m)] w fun e w' => e = .returned (.map (some w.heap.size)) ∧ MapAt w' w.heap.size ek ev l ∧ ∃ o, w' = w.alloc o := by
  obtain ⟨es, clock, hb, r⟩ := h
  have hq := fun w => run_eql_map_nil_sl (P := Try.prog) w 154 _ _ (some m) Try.underlying154
  go_enter Try.func90, Try.ntmps90
  go_wp2
  rw [run_callFunc_extern Try.func89 (by kernel_rfl) (by kernel_rfl) (by kernel_rfl) (e := Extern.MapsClone.clone) (by kernel_rfl), run_maps_clone_sl w 154 hb]
  simp only [Result.andThen]
  rw [Oper.upon_value]
  go_wp2
  rw [run_typeAssert_map_sl _ 154 20 _ _ _ Try.underlying154]
  simp only [Result.andThen]
  rw [Oper.upon_value]
  go_wp2
  go_ret
  exact ⟨rfl, ⟨es, clock, (MapKept.heap_alloc w _).1, r⟩, _, rfl⟩

theorem PC.one (c : PC) (m : Nat) : ∀ v ∈ (c.cells m).toList, v.oneCell' = true := by
  intro v hv
  unfold PC.cells at hv
  simp only [List.mem_append, List.mem_map] at hv
  rcases hv with ⟨b, _, rfl⟩ | hv
  · rfl
  · simp at hv; rcases hv with rfl | rfl | rfl | rfl <;> rfl
theorem size_page : (Try.prog.info? 156).map (·.size) = some 4100 := by kernel_rfl
theorem page_struct : ∃ fs, Try.prog.underlying 156 = some (.struct fs) := ⟨_, Try.underlying156⟩

def zeroPage : Array Value := (List.replicate 4096 (Value.int .u8 0) ++ [Value.int .i64 0, Value.int .i64 0, Value.int .u16 0, Value.map none]).toArray
theorem zeroPage_size : zeroPage.size = 4100 := by
  unfold zeroPage; rw [List.size_toArray, List.length_append, List.length_replicate]; rfl
theorem alloc_page (w : World) : (Instr.alloc 156 true (.tuple #[])).run Try.prog w = .ok (.pointer (some ⟨w.heap.size, 0, none⟩)) (w.alloc (.cells zeroPage 156)) := by kernel_rfl

set_option maxHeartbeats 400000 in
theorem copy_any (w : World) (p m : Nat) (c : PC) (h : PageAt w p m c) :
    Calls Try.prog 69 #[.pointer (some ⟨p, 0, none⟩)] w fun e w' => ∃ p' m', e = .returned (.pointer (some ⟨p', 0, none⟩)) ∧ PageAt w' p' m' c ∧ Fr none_ w w' ∧ w.heap.size ≤ p' ∧ w.heap.size ≤ m' := by
  have hc := h.c_used
  obtain ⟨fs, hfs⟩ := page_struct
  have hcs := PC.size c m h.2.2.2
  have hone := Lib.hid (c.one m)
  have hlt := h.1.lt
  have hmlt := h.2.1.lt
  have hsz : (Try.prog.info? 156).map (·.size) = some (c.cells m).size := by rw [hcs]; exact size_page
  have Hsz := Lib.hid hsz
  have Hcs := Lib.hid hcs
  have Hz := Lib.hid zeroPage_size
  have r1 := Lib.hid (Row.new w zeroPage 156)
  have fr1 := Lib.hid (Fr.alloc none_ w (.cells zeroPage 156))
  clear hsz hcs
  go_enter Try.func69, Try.ntmps69
  go_wp2_with (first
    | ((with_reducible refine at_slot 8 ?_); refine wpList_load_row rfl 156 _ rfl p rfl 156 (c.cells m) (0, 0) _ h.1 hfs rfl Hsz.out ?_)
    | ((with_reducible refine at_slot 3 ?_); refine wpValue (w' := w.alloc (.cells zeroPage 156)) rfl (.pointer (some ⟨w.heap.size, 0, none⟩)) (by unfold execOp; simp only []; rw [Sem.run_bind, alloc_page w]; rfl) ?_)
    | ((with_reducible refine at_storeOf 156 ?_); refine wpStoreRow rfl _ _ 156 rfl r1.out rfl rfl Hsz.out (Hcs.out.trans Hz.out.symm) hone.out ?_; intro w2 hr2 hf2
       have fr2 : Fr none_ w w2 := fr1.out.step (hf2.mono fun _ _ e => e) (fun i hi e => by unfold one at e; omega)
       have h2 := h.kept0 fr2
       have hc2 := h2.c_used))
  refine (clone_any w2 m _ _ _ h2.2.1).mono ?_
  rintro e w3 ⟨rfl, hm3, o, rfl⟩
  have hr3 := hr2.alloc o
  have hc3 := hr3.cell 4099
  rw [c.used_at m h.2.2.2] at hc3
  have hf3 := hr3.free 4099
  go_wp2
  go_ret
  have r4 := hr3.set 4099 (.map (some w2.heap.size))
  rw [c.set_used m _ h.2.2.2] at r4
  have fr4 := (fr2.alloc_r o).setCell_r ⟨w.heap.size, 4099, none⟩ (.map (some w2.heap.size)) (fun e => absurd e (by simp))
  have hne : w.heap.size ≠ w2.heap.size := by have := hr2.lt; omega
  exact ⟨w.heap.size, w2.heap.size, rfl, ⟨r4, hm3.kept (Fr.setCell (one w.heap.size) _ ⟨w.heap.size, 4099, none⟩ _ (fun _ => rfl)) (fun e => hne e.symm), hne, h.2.2.2⟩, fr4, Nat.le_refl _, fr2.size⟩
end Go.Proofs.Yteefcfndlggajaa
