/-
  Package undo: put: something is put into a new slot.
-/
import Derived.Test.YtckkccnebjacdaaUnAt
import Derived.Deep.RegionHeld3
namespace Go.Proofs.Ytckkccnebjacdaa
open Go.RowKit
set_option linter.unusedVariables false
set_option linter.unusedSimpArgs false
set_option maxRecDepth 100000
section
variable {w w' : World} {x a m N vl : Nat} {F G : Nat → Prop} {vs : List (Int × SgV)} {c : CfgV} {s : AS} {t : US}
theorem un_write (h : UnAt w x a m F vs c s) (hu : Upto N s) (hsl : s.slot = 32 + vl) {hd : Nat} (hh : hd < 18446744073709551616) (hf : (aFind s hd).isSome = true) (n : UV) (hn : n.Ok vl) :
    Calls Try.prog 28 #[.pointer (some ⟨a, 0, none⟩), .int .u64 (hd : Int), .string (strOf n.enc)] w fun e w' => e = .returned (.int .i64 0) ∧ UnAt w' x a m F vs c (aWrite s hd (strOf n.enc)).2 ∧ Fr F w w' := by
  have e : ((aWrite s hd (strOf n.enc)).1 : Int) = 0 := by
    unfold aWrite
    rw [if_pos hf, if_pos (by rw [hsl]; exact uenc_fits hn)]; rfl
  refine (ar_write_lit h.ar hu hh (strOf n.enc) rfl e).mono ?_
  rintro e w1 ⟨he, h1, f1⟩
  exact ⟨he, h.turnA h1 f1 (Grow.refl _ _), f1⟩
set_option maxHeartbeats 4000000 in
theorem Undo_put_full (h : UnAt w x a m F vs c s) (hu : Upto N s) (hN : N < big) (h0 : (aAlloc s).1 = 0) (h1 : (aAlloc s).2.1 = 41) (n : UV) :
    Calls Try.prog 39 #[.pointer (some ⟨x, 0, none⟩), .agg n.cells] w fun e w' => e = .returned (.tuple #[.int .u64 0, .int .i64 41]) ∧ ∃ F', UnAt w' x a m F' vs c (aAlloc s).2.2 ∧ Fr F w w' ∧ Grow F F' w := by
  have fB := Fr.alloc none_ w (.cells n.cells 70)
  have HA := Lib.hid (ar_alloc_lit (h.kept0 fB).ar hu hN 0 (q := 41) (by rw [h0]; rfl) (by rw [h1]; rfl))
  have c8 := (h.kept0 fB).arena
  have HH := Lib.hid (h.kept0 fB)
  have FB := Lib.hid fB
  unfold UV.cells byteV at HA c8 HH FB ⊢
  generalize (aAlloc s).2.2 = s2 at HA ⊢
  clear h hu fB h0 h1
  go_enter Try.func39, Try.ntmps39
  go_wp2_with fail
  refine HA.out.mono ?_
  rintro e w2 ⟨rfl, F', ha, f2, g2⟩
  have HX := Lib.hid (And.intro ha (And.intro f2 g2))
  clear ha f2 g2
  go_wp2_with fail
  go_ret2
  obtain ⟨ha, f2, g2⟩ := HX.out
  exact ⟨rfl, F', HH.out.turnA ha f2 g2, FB.out.none.trans f2, fun k hk => (g2 k hk).imp id (fun q => Nat.le_trans FB.out.size q)⟩
set_option maxHeartbeats 8000000 in
theorem Undo_put_ok (h : UnAt w x a m F vs c s) (hu : Upto N s) (hN : N < big) (hsl : s.slot = 32 + vl) (h1 : (aAlloc s).2.1 = 0) (n : UV) (hn : n.Ok vl) (hvl : vl ≤ 256) :
    Calls Try.prog 39 #[.pointer (some ⟨x, 0, none⟩), .agg n.cells] w fun e w' => e = .returned (.tuple #[.int .u64 ((aAlloc s).1 : Int), .int .i64 0]) ∧ ∃ F', UnAt w' x a m F' vs c (aWrite (aAlloc s).2.2 (aAlloc s).1 (strOf n.enc)).2 ∧ Fr F w w' ∧ Grow F F' w := by
  have fB := Fr.alloc none_ w (.cells n.cells 70)
  have HA := Lib.hid (ar_alloc_lit (h.kept0 fB).ar hu hN ((aAlloc s).1 : Int) (q := 0) rfl (by rw [h1]; rfl))
  have c8 := (h.kept0 fB).arena
  have hhl : (aAlloc s).1 < 18446744073709551616 := by
    rcases aAlloc_new hu hN with ⟨_, r⟩ | ⟨e1, _⟩
    · exact r.lt
    · omega
  have hfd : (aFind (aAlloc s).2.2 (aAlloc s).1).isSome = true := by
    rcases aAlloc_new hu hN with ⟨_, r⟩ | ⟨e1, _⟩
    · rw [r.find _ r.lt, if_pos rfl]; rfl
    · omega
  have hsl2 : (aAlloc s).2.2.slot = 32 + vl := by rw [(aAlloc_wf hu.wf).2, hsl]
  have HWR := Lib.hid (fun w' F' (h' : UnAt w' x a m F' vs c (aAlloc s).2.2) => un_write h' hu.alloc hsl2 hhl hfd n hn)
  have HBY := Lib.hid (fun w' => Slot_bytes w' n (by have := hn.wr; omega) hn.nx (by have := hn.sg; omega) (by have := hn.rest; split at this <;> omega))
  have HB := Lib.hid (show ∀ (w' : World) (G : Nat → Prop), Fr G (w.alloc (.cells n.cells 70)) w' → ¬ G w.heap.size → w'.cell? ⟨w.heap.size, 0, none⟩ = some (.int .u8 (n.kind.toNat : Int)) ∧ w'.cell? ⟨w.heap.size, 1, none⟩ = some (.int .u8 (n.tb.toNat : Int)) ∧ w'.cell? ⟨w.heap.size, 2, none⟩ = some (.int .u64 (n.wr : Int)) ∧ w'.cell? ⟨w.heap.size, 3, none⟩ = some (.int .u64 (n.nx : Int)) ∧ w'.cell? ⟨w.heap.size, 4, none⟩ = some (.int .u64 (n.sg : Int)) ∧ w'.cell? ⟨w.heap.size, 5, none⟩ = some (.string n.rest) from fun w' G f hn => six_cells ((Row.new w n.cells 70).kept f hn))
  have HH := Lib.hid (h.kept0 fB)
  have FB := Lib.hid fB
  have HNB := Lib.hid (show ¬ F w.heap.size from fun e => absurd (h.ar.lt _ e) (Nat.lt_irrefl _))
  unfold UV.cells byteV at HA c8 HH FB HBY HB ⊢
  obtain ⟨EN, hEN⟩ : ∃ EN, EN = n.enc := ⟨_, rfl⟩
  rw [← hEN] at HBY HWR ⊢
  generalize (aWrite (aAlloc s).2.2 (aAlloc s).1 (strOf EN)).2 = s3 at HWR ⊢
  generalize (aAlloc s).2.2 = s2 at HA HWR
  generalize (aAlloc s).1 = H at HA HWR ⊢
  clear h hu fB h1 hhl hfd hsl2 hn hEN
  go_enter Try.func39, Try.ntmps39
  go_wp2_with fail
  refine HA.out.mono ?_
  rintro e w2 ⟨rfl, F', ha, f2, g2⟩
  have hA2 := HH.out.turnA ha f2 g2
  have hnb2 : ¬ F' w.heap.size := fun e => by
    rcases g2 _ e with q | q
    · exact HNB.out q
    · simp at q; omega
  obtain ⟨b0, b1, b2, b3, b4, b5⟩ := HB.out _ F f2 HNB.out
  have c8' := hA2.arena
  have HX := Lib.hid (And.intro hA2 (And.intro f2 g2))
  have HNB2 := Lib.hid hnb2
  have fS : Fr F' w2 w2 := Fr.refl _ _
  clear ha f2 g2 hA2 hnb2 c8
  go_wp2_with fail
  go_region_held3 (fun w' => Fr F' w2 w' ∧ w'.cell? ⟨x, 8, none⟩ = some (.pointer (some ⟨a, 0, none⟩)) ∧ w'.cell? ⟨w.heap.size, 0, none⟩ = some (.int .u8 (n.kind.toNat : Int)) ∧ w'.cell? ⟨w.heap.size, 1, none⟩ = some (.int .u8 (n.tb.toNat : Int)) ∧ w'.cell? ⟨w.heap.size, 2, none⟩ = some (.int .u64 (n.wr : Int)) ∧ w'.cell? ⟨w.heap.size, 3, none⟩ = some (.int .u64 (n.nx : Int)) ∧ w'.cell? ⟨w.heap.size, 4, none⟩ = some (.int .u64 (n.sg : Int)) ∧ w'.cell? ⟨w.heap.size, 5, none⟩ = some (.string n.rest))
    (first | (go_split_ands; refine ⟨?_, ?_, ?_, ?_, ?_, ?_, ?_, ?_⟩; exact Fr.trans (by assumption) f6; exact hA.arena; all_goals exact Fr.keepF f6 HNB2.out (by assumption)) | (go_split_ands; refine ⟨?_, ?_, ?_, ?_, ?_, ?_, ?_, ?_⟩; exact Fr.trans (by assumption) f5.none; all_goals exact Fr.keep f5 (by assumption)) | (go_split_ands; refine ⟨?_, ?_, ?_, ?_, ?_, ?_, ?_, ?_⟩; exact Fr.trans (by assumption) (Fr.drew _ _); all_goals assumption) | go_keep)
    (first
      | (go_at_call 29; refine (HBY.out _).mono ?_; rintro e w5 ⟨rfl, f5⟩)
      | (go_at_call 28; refine (HWR.out _ F' (HX.out.1.kept0 ((Fr.drew none_ w2).trans f5))).mono ?_; rintro e w6 ⟨rfl, hA, f6⟩))
  rename_i hk
  have hF := hk.1
  clear hk
  go_wp2
  go_ret2
  obtain ⟨hA2, f2, g2⟩ := HX.out
  refine ⟨rfl, F', hA, ?_, fun k hk => (g2 k hk).imp id (fun q => Nat.le_trans FB.out.size q)⟩
  refine (FB.out.none.trans f2).step hF (fun i hi hk => ?_)
  rcases g2 i hk with q | q
  · exact q
  · simp at q; omega
end
end Go.Proofs.Ytckkccnebjacdaa
