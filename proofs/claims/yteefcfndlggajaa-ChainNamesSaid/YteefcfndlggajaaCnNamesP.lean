/-
  ChainNames: what it comes to, of states alone; List of nobody's engine.
-/
import Derived.Test.YteefcfndlggajaaCnAwake
namespace Go.Proofs.Yteefcfndlggajaa
open Go.RowKit Go.Shelf
set_option linter.unusedVariables false
set_option linter.unusedSimpArgs false
set_option maxRecDepth 100000
attribute [local go_sem] Oper.semAt_some

theorem nodes_nil {w : World} {ab tb : Nat} :
    SeqFor (α := NV) Fence.wide 3 Try.prog 65 #[.pointer (some ⟨ab, 0, none⟩), .pointer (some ⟨tb, 0, none⟩)] nodeEnc (one tb) (fun W => W.cell? ⟨ab, 0, none⟩ = some (.pointer none)) [] w := by
  intro l J Jx hJ hJx hB hY h0
  have c1 := hB _ _ h0
  have H0 := Lib.hid h0
  clear hJ hJx hB hY h0
  refine callsIn_of_wp Try.func65 rfl trivial ?_ rfl
  simp only [Try.ntmps65, List.size_toArray, List.length_cons, List.length_nil, Nat.reduceAdd, Nat.reduceSub, Array.replicate_succ, Array.replicate_zero, List.push_toArray, List.append_toArray, List.nil_append, List.cons_append]
  gi_wp2_with (refine ⟨trivial, ?_⟩; gi_at_call 16; refine (callsIn_wide.2 (nil_used w)).mono ?_; rintro e w1 ⟨rfl, rfl⟩)
  gi_loopw [8] (fun i wr => i = .int .i64 0 ∧ wr = w) (fun i _ => 0)
  case atStart => exact ⟨rfl, rfl⟩
  case round =>
    obtain ⟨rfl, rfl⟩ := hrel
    gi_wp2
    go_end0
    exact ⟨⟨_, rfl⟩, Or.inl H0.out⟩
set_option maxHeartbeats 4000000 in
theorem nil_list (w : World) (top : Int) :
    Calls Try.prog 14 #[.pointer none, .int .u64 top] w fun e w' => e = .returned (.slice none 0 0) ∧ Fr none_ w w' := by
  obtain ⟨s, hs⟩ : ∃ s, s = w.heap.size := ⟨_, rfl⟩
  obtain ⟨w0, hw0⟩ : ∃ w0, w0 = ((w.alloc (.cells #[.slice none 0 0] 24)).alloc (.cells #[.pointer none] 27)).alloc (.cells #[.int .u64 top] 34) := ⟨_, rfl⟩
  have hsz : w0.heap.size = s + 3 := by rw [hw0, hs]; simp
  have hf0 : Fr none_ w w0 := by rw [hw0]; exact ((Fr.alloc none_ w _).alloc_r _).alloc_r _
  have r0 : Row w0 s #[.slice none 0 0] 24 := by
    rw [hw0, hs]; exact ((Row.new w _ _).alloc _).alloc _
  have r1 : Row w0 (s + 1) #[.pointer none] 27 := by
    rw [hw0]
    have := Row.new (w.alloc (.cells #[.slice none 0 0] 24)) #[.pointer none] 27
    rw [World.size_alloc, ← hs] at this
    exact this.alloc _
  have HI0 := Lib.hid (show Row w0 s #[.slice none 0 0] 24 ∧ Fr none_ w w0 ∧ w0.cell? ⟨s + 1, 0, none⟩ = some (.pointer none) from ⟨r0, hf0, r1.cell 0⟩)
  have HI := Lib.hid (show ∀ W W', (Row W s #[.slice none 0 0] 24 ∧ Fr none_ w W ∧ W.cell? ⟨s + 1, 0, none⟩ = some (.pointer none)) → Fr (Yof (one (s + 2)) (s + 3)) W W' → (Row W' s #[.slice none 0 0] 24 ∧ Fr none_ w W' ∧ W'.cell? ⟨s + 1, 0, none⟩ = some (.pointer none)) from fun W W' ⟨q1, q2, q3⟩ f => by
    have ny : ∀ k, k < s + 2 → ¬ Yof (one (s + 2)) (s + 3) k := fun k hk e => by rcases e with e | e | e <;> (try unfold one at e) <;> omega
    exact ⟨q1.kept f (ny s (by omega)), q2.step f (fun i hi e => absurd e (ny i (by omega))), f.keepF (ny (s + 1) (by omega)) q3⟩)
  have HS := Lib.hid hs
  have HW0 := Lib.hid hw0
  have HSZ := Lib.hid hsz
  clear r0 r1 hs hf0 hsz hw0
  refine (callsIn_wide (n := 4)).1 ?_
  refine callsIn_of_wp_marks Try.func14 rfl trivial ?_ rfl
  simp only [Try.ntmps14, List.size_toArray, List.length_cons, List.length_nil, Nat.reduceAdd, Nat.reduceSub, Array.replicate_succ, Array.replicate_zero, List.push_toArray, List.append_toArray, List.nil_append, List.cons_append]
  gi_wp2_with (refine ⟨trivial, ?_⟩; gi_at_call 36; refine (callsIn_wide.2 (Chain_nodes _ _ _)).mono ?_; rintro e w1 ⟨rfl, hw1⟩)
  clear hw1
  rw [← HW0.out, ← HS.out]
  have HD := HSZ.out
  refine range_for (n := 4) (w := w0) rfl (by omega) (gf := 65) (lb := #[.pointer (some ⟨s + 1, 0, none⟩), .pointer (some ⟨s + 2, 0, none⟩)]) rfl trivial (enters_of Try.func65 (by kernel_rfl) rfl) (encs := nodeEnc) (Z := one (s + 2)) (xs := []) (fun _ => rfl) (fun k e => by unfold one at e; omega) (fun W f => nodes_nil)
    (fun _ W => Row W s #[.slice none 0 0] 24 ∧ Fr none_ w W ∧ W.cell? ⟨s + 1, 0, none⟩ = some (.pointer none)) (fun _ _ _ => False) (fun pre W W' h f => HI.out W W' h (by rw [HD] at f; exact f)) (fun _ _ _ _ h _ => h) (fun pre W h => h.2.2) HI0.out ?round ?done ?stop
  case round =>
    intro l pre n rest W0 W1 hx
    exact absurd hx (by simp)
  case done =>
    intro W hlt hi hK
    rw [HD] at hK hlt ⊢
    obtain ⟨q1, q2, q3⟩ := hi
    have d0 : W.cell? ⟨s, 0, none⟩ = some (.slice none 0 0) := q1.cell 0
    have HQ := Lib.hid q2
    have HK := Lib.hid hK
    clear q1 q2 q3 hK
    gi_wp2
    have hK := HK.out
    refine ⟨by simp, .inl ⟨_, _, rfl, run_takeDeferred hK, ?_⟩⟩
    have fp := Fr.putObj W (s + 3) (.deferred none)
    exact ⟨_, results_tmp rfl _ _ _, rfl, HQ.out.step fp (fun i hi e => by have := HS.out; unfold one at e; omega)⟩
  case stop =>
    intro c pre W _ _ h _
    exact h.elim

def nmBig : VerV := ⟨9223372036854775807, 1048576, false, ⟨#[97, 98, 99]⟩⟩
def nmRight : VerV := ⟨1, 0, false, ⟨#[]⟩⟩
def nmBad : Nat → VerV
  | 0 => ⟨0, 0, false, ⟨#[]⟩⟩
  | 1 => ⟨-1, 0, false, ⟨#[]⟩⟩
  | 2 => ⟨1, -1, false, ⟨#[]⟩⟩
  | 3 => ⟨1, 1048577, false, ⟨#[]⟩⟩
  | 4 => ⟨1, 0, false, ⟨#[97, 98, 99, 100]⟩⟩
  | _ => ⟨1, 0, true, ⟨#[97]⟩⟩
theorem nmBig_ok : nmBig.Ok 3 := ⟨by decide, by decide, by decide, by decide, fun h => by cases h⟩
theorem nmRight_ok : nmRight.Ok 3 := ⟨by decide, by decide, by decide, by decide, fun h => by cases h⟩
theorem nmBad_no (i : Nat) (hi : i < 6) : ¬ (nmBad i).Ok 3 := by
  rcases (show i = 0 ∨ i = 1 ∨ i = 2 ∨ i = 3 ∨ i = 4 ∨ i = 5 by omega) with rfl | rfl | rfl | rfl | rfl | rfl
  · exact fun h => absurd h.wr (by decide)
  · exact fun h => absurd h.wr (by decide)
  · exact fun h => absurd h.ts0 (by decide)
  · exact fun h => absurd h.ts1 (by decide)
  · exact fun h => absurd h.val (by decide)
  · exact fun h => absurd (h.tomb rfl) (by rw [ByteArray.toList_eq]; simp [nmBad])
theorem change_bad {vl : Nat} {t : CS} {v : VerV} (hv : ¬ v.Ok vl) (h : Nat) : t.change vl h v = (1, t) := by
  unfold CS.change; rw [if_neg (by rw [VerV.may_no hv]; simp)]
theorem turn_gone {t : CS} {h : Nat} (hf : t.f h = none) (g : NV → NV) : t.turn h g = (5, t) := by
  unfold CS.turn; rw [hf]
structure NmAll (h k : Nat) (t1 t2 t3 t4 : CS) : Prop where
  p1 : (CS.new 3).put 3 nmBig 18446744073709551615 = (h, 0, t1)
  hl : h < 18446744073709551616
  h0 : h ≠ 0
  r1 : t1.f h = some (nmBig.nv 18446744073709551615)
  z1 : t1.f 0 = none
  u1 : t1.s.used = 1
  p2 : t1.change 3 h nmRight = (0, t2)
  p3 : t2.free h = (0, t3)
  p3' : t3.free h = (5, t3)
  p4 : t3.put 3 nmRight 0 = (k, 0, t4)
  kh : k ≠ h
  kl : k < 18446744073709551616
  r4 : t4.f h = none
  u4 : t4.s.used = 1
theorem nm_all : ∃ h k t1 t2 t3 t4, NmAll h k t1 t2 t3 t4 := by
  have i0 := CS.Is.new (vl := 3) (by omega)
  obtain ⟨h, t1, p1, m1, g1⟩ := put_ok i0 (by unfold big; omega) (by show ([] : List PS).length < 4096; simp) nmBig_ok (by decide) (nx := 18446744073709551615) (by omega)
  have g1 : t1.s.pages.length ≤ 1 := g1
  have u1 : t1.s.used = 1 := m1.used
  have r1 : t1.f h = some (nmBig.nv 18446744073709551615) := by rw [m1.f, upd_same]
  have z1 : t1.f 0 = none := by rw [m1.f, upd_other _ _ (Ne.symm m1.pos)]; rfl
  obtain ⟨t2, ht2⟩ : ∃ t2, t2 = t1.set h (nmRight.nv 18446744073709551615) := ⟨_, rfl⟩
  have p2 : t1.change 3 h nmRight = (0, t2) := by
    unfold CS.change
    rw [if_pos (VerV.may_yes nmRight_ok)]
    unfold CS.turn
    rw [r1, ht2]; rfl
  have i2 := m1.is_.set (hd := h) (by rw [r1]; rfl) m1.lt (n := nmRight.nv 18446744073709551615) (VerV.nv_ok nmRight_ok (by decide) (by omega))
  have pg2 : t2.s.pages.length = t1.s.pages.length := by rw [ht2]; exact pages_set m1.is_ _ _
  rw [← ht2] at i2
  have f2 : t2.f h = some (nmRight.nv 18446744073709551615) := by rw [ht2]; exact upd_same _ _ _
  obtain ⟨t3, ht3⟩ : ∃ t3, t3 = (t2.free h).2 := ⟨_, rfl⟩
  have p3 : t2.free h = (0, t3) := by rw [ht3]; unfold CS.free; rw [f2]
  have i3 := i2.1.free m1.lt
  rw [← ht3] at i3
  have f3 : t3.f h = none := by rw [ht3]; unfold CS.free; rw [f2]; exact upd_same _ _ _
  have p3' : t3.free h = (5, t3) := by unfold CS.free; rw [f3]
  have u3 : t3.s.used = 0 := by
    have := i3.2.1
    rw [f2, i2.2, u1] at this
    simp at this; omega
  have pg3 : t3.s.pages.length = t2.s.pages.length := by rw [ht3]; exact pages_free i2.1 _
  -- the generation of the slot that h named
  have hgen : t3.s.genOf (hN h) (hO h) = hG h := by
    have hs : (aFind t2.s h).isSome = true := by rw [i2.1.find h m1.lt, f2]; rfl
    have hg2 := find_gen hs
    have : t3.s.gen = t2.s.gen := by rw [i3.2.2.2]; exact (aFree_all i2.1.up.wf h).2.2.1
    unfold AS.genOf at hg2 ⊢
    rw [this]; exact hg2
  obtain ⟨k, t4, p4, m4, g4⟩ := put_ok i3.1 (by unfold big; omega) (by omega) nmRight_ok (by decide) (nx := 0) (by omega)
  have hka : k = (aAlloc t3.s).1 ∧ (aAlloc t3.s).2.1 = 0 := by
    have e : t3.put 3 nmRight 0 = t3.make (nmRight.nv 0) := by unfold CS.put; rw [if_pos (VerV.may_yes nmRight_ok)]
    rw [e] at p4
    unfold CS.make at p4
    split at p4
    · rename_i h0; cases p4; exact ⟨rfl, h0⟩
    · rename_i h0
      have := congrArg (fun r => r.2.1) p4
      exact absurd this h0
  have hkh : k ≠ h := fun e => by
    rcases aAlloc_new i3.1.up (by omega) with ⟨_, r⟩ | ⟨q, _⟩
    · have hw := r.was
      rw [← hka.1, e, hgen] at hw
      omega
    · omega
  refine ⟨h, k, t1, t2, t3, t4, p1, m1.lt, m1.pos, r1, z1, u1, p2, p3, p3', p4, hkh, m4.lt, ?_, ?_⟩
  · rw [m4.f, upd_other _ _ (Ne.symm hkh), f3]
  · rw [m4.used, u3]
end Go.Proofs.Yteefcfndlggajaa
