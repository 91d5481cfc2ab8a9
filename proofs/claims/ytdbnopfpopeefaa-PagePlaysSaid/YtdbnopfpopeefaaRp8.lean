/-
  PagePlays: the reference's page apart from others; a step by both.
-/
import Derived.Test.YtdbnopfpopeefaaRp6
import Derived.Test.YtdbnopfpopeefaaRp7
import Derived.Test.YtdbnopfpopeefaaPgOps
import Derived.Deep.RegionHeld3
namespace Go.Proofs.Ytdbnopfpopeefaa
open Go.RowKit
set_option linter.unusedVariables false
set_option linter.unusedSimpArgs false
set_option maxRecDepth 100000

/-- The reference's page at x, of state s. -/
def R0 (w : World) (x : Nat) (s : PS) : Prop := ∃ ba ua ka bc uc kc Bs, RPAt w x ba ua ka bc uc kc s Bs
/-- .. apart from the blocks Z. -/
def RX (w : World) (x : Nat) (Z : Nat → Prop) (s : PS) : Prop := ∃ ba ua ka bc uc kc Bs, RPAt w x ba ua ka bc uc kc s Bs ∧ ∀ k, rown x ba ua ka k → ¬ Z k
/-- .. of the blocks N. -/
def RN (w : World) (x : Nat) (N : Nat → Prop) (s : PS) : Prop := ∃ ba ua ka bc uc kc Bs, RPAt w x ba ua ka bc uc kc s Bs ∧ ∀ k, rown x ba ua ka k → N k
section
variable {w w' : World} {x : Nat} {Z Y N F : Nat → Prop} {s s' : PS}
theorem RX.r0 (h : RX w x Z s) : R0 w x s := by obtain ⟨a, b, c, d, e, f, g, h1, h2⟩ := h; exact ⟨a, b, c, d, e, f, g, h1⟩
theorem RN.r0 (h : RN w x N s) : R0 w x s := by obtain ⟨a, b, c, d, e, f, g, h1, h2⟩ := h; exact ⟨a, b, c, d, e, f, g, h1⟩
theorem R0.kept0 (h : R0 w x s) (f0 : Fr none_ w w') : R0 w' x s := by obtain ⟨a, b, c, d, e, f, g, h1⟩ := h; exact ⟨a, b, c, d, e, f, g, h1.kept0 f0⟩
theorem RX.kept (h : RX w x Z s) (f0 : Fr F w w') (hF : ∀ k, F k → Z k) : RX w' x Z s := by
  obtain ⟨a, b, c, d, e, f, g, h1, h2⟩ := h; exact ⟨a, b, c, d, e, f, g, h1.kept f0 (fun k hk q => h2 k hk (hF k q)), h2⟩
theorem RX.kept0 (h : RX w x Z s) (f0 : Fr none_ w w') : RX w' x Z s := h.kept f0 (fun _ e => e.elim)
theorem RN.kept (h : RN w x N s) (f0 : Fr F w w') (hF : ∀ k, N k → ¬ F k) : RN w' x N s := by
  obtain ⟨a, b, c, d, e, f, g, h1, h2⟩ := h; exact ⟨a, b, c, d, e, f, g, h1.kept f0 (fun k hk q => hF k (h2 k hk) q), h2⟩
theorem RX.weak (h : RX w x Z s) (hY : ∀ k, Y k → Z k) : RX w x Y s := by
  obtain ⟨a, b, c, d, e, f, g, h1, h2⟩ := h; exact ⟨a, b, c, d, e, f, g, h1, fun k hk q => h2 k hk (hY k q)⟩
/-- Blocks that are made later are none of its. -/
theorem RX.more (h : RX w x Z s) (hY : ∀ k, Y k → Z k ∨ w.heap.size ≤ k) : RX w x Y s := by
  obtain ⟨a, b, c, d, e, f, g, h1, h2⟩ := h
  refine ⟨a, b, c, d, e, f, g, h1, fun k hk q => ?_⟩
  rcases hY k q with q | q
  · exact h2 k hk q
  · have := h1.lt k hk; omega
theorem RX.post {f : Nat} {args : Array Value} {v : Value} {ba ua ka : Option Addr} (hz : ∀ k, Z k → k < w.heap.size) (h2 : ∀ k, rown x ba ua ka k → ¬ Z k)
    (h : Calls Try.prog f args w fun e w' => e = .returned v ∧ RPost w x ba ua ka s' w') : Calls Try.prog f args w fun e w' => e = .returned v ∧ RX w' x Z s' ∧ Fr (fun k => ¬ Z k) w w' := by
  refine h.mono ?_
  rintro e w' ⟨he, a, b, c, d, e', f, g, q1, q2, q3⟩
  refine ⟨he, ⟨a, b, c, d, e', f, g, q1, fun k hk q => ?_⟩, q3.mono fun k _ q => h2 k q⟩
  rcases q2 k hk with r | r
  · exact h2 k r q
  · have := hz k q; omega
theorem rx_alloc (h : RX w x Z s) (hw : s.WF) (hz : ∀ k, Z k → k < w.heap.size) {A E : Int} (hA : ((allocR s).1 : Int) = A) (hE : ((allocR s).2.1 : Int) = E) : Calls Try.prog 36 #[.pointer (some ⟨x, 0, none⟩)] w fun e w' => e = .returned (.tuple #[.int .u16 A, .int .i64 E]) ∧ RX w' x Z (allocR s).2.2 ∧ Fr (fun k => ¬ Z k) w w' := by
  subst hA; subst hE
  obtain ⟨a, b, c, d, e, f, g, h1, h2⟩ := h
  exact RX.post hz h2 (Rp_Alloc h1 hw)
theorem rx_free (h : RX w x Z s) (hw : s.WF) (hz : ∀ k, Z k → k < w.heap.size) (off : Nat) (ho : off < 65536) {E : Int} (hE : ((freeR s off).1 : Int) = E) : Calls Try.prog 37 #[.pointer (some ⟨x, 0, none⟩), .int .u16 (off : Int)] w fun e w' => e = .returned (.int .i64 E) ∧ RX w' x Z (freeR s off).2 ∧ Fr (fun k => ¬ Z k) w w' := by
  subst hE
  obtain ⟨a, b, c, d, e, f, g, h1, h2⟩ := h
  exact RX.post hz h2 (Rp_Free h1 hw off ho)
theorem rx_write (h : RX w x Z s) (hw : s.WF) (hz : ∀ k, Z k → k < w.heap.size) (off : Nat) (ho : off < 65536) (b : ByteArray) {E : Int} (hE : ((writeR s off b).1 : Int) = E) : Calls Try.prog 38 #[.pointer (some ⟨x, 0, none⟩), .int .u16 (off : Int), .string b] w fun e w' => e = .returned (.int .i64 E) ∧ RX w' x Z (writeR s off b).2 ∧ Fr (fun k => ¬ Z k) w w' := by
  subst hE
  obtain ⟨a, b, c, d, e, f, g, h1, h2⟩ := h
  exact RX.post hz h2 (Rp_Write h1 hw off ho _)
theorem r0_read (h : R0 w x s) (hw : s.WF) (off : Nat) (ho : off < 65536) {T : ByteArray} {E : Int} (hT : strOf (readR s off).1 = T) (hE : ((readR s off).2 : Int) = E) : Calls Try.prog 29 #[.pointer (some ⟨x, 0, none⟩), .int .u16 (off : Int)] w fun e w' => e = .returned (.tuple #[.string T, .int .i64 E]) ∧ w = w' := by
  subst hT; subst hE
  obtain ⟨a, b, c, d, e, f, g, h1⟩ := h
  exact Rp_Read h1 hw off ho
theorem r0_is (h : R0 w x s) (hw : s.WF) (off : Nat) (ho : off < 65536) {b : Bool} (hb : (s.at_ off).isSome = b) : Calls Try.prog 30 #[.pointer (some ⟨x, 0, none⟩), .int .u16 (off : Int)] w fun e w' => e = .returned (.bool b) ∧ w = w' := by
  subst hb
  obtain ⟨a, b, c, d, e, f, g, h1⟩ := h
  exact Rp_Is h1 hw off ho
theorem r0_used (h : R0 w x s) (hw : s.WF) {u : Int} (hu : (s.used : Int) = u) : Calls Try.prog 27 #[.pointer (some ⟨x, 0, none⟩)] w fun e w' => e = .returned (.int .i64 u) ∧ w = w' := by
  subst hu
  obtain ⟨a, b, c, d, e, f, g, h1⟩ := h
  exact Rp_Used h1 hw
theorem r0_room (h : R0 w x s) (hw : s.WF) {u : Int} (hu : ((4096 / s.slot : Nat) : Int) - (s.used : Int) = u) : Calls Try.prog 28 #[.pointer (some ⟨x, 0, none⟩)] w fun e w' => e = .returned (.int .i64 u) ∧ Fr none_ w w' := by
  subst hu
  obtain ⟨a, b, c, d, e, f, g, h1⟩ := h
  exact Rp_Room h1 hw
end

/-- What a step makes of a page's state. -/
def doR (slot : Nat) (y : StepV) (s : PS) : PS :=
  if y.kind = 0 then (allocR s).2.2 else if y.kind = 1 then (freeR s (y.offset slot)).2 else if y.kind = 2 then (writeR s (y.offset slot) y.s).2 else s
theorem doR_wf {slot : Nat} {y : StepV} {s : PS} (h : s.WF) : (doR slot y s).WF ∧ (doR slot y s).slot = s.slot := by
  unfold doR
  split
  · exact ⟨(allocR_wf h).1, allocR_slot s⟩
  · split
    · exact ⟨(freeR_wf h _).1, freeR_slot s _⟩
    · split
      · exact ⟨(writeR_wf h _ _).1, writeR_slot s _ _⟩
      · exact ⟨h, rfl⟩
/-- The page and the reference's, of one state; Z: blocks that the reference's turns let be. -/
structure PX (w : World) (p m x : Nat) (Z : Nat → Prop) (s : PS) : Prop where
  page : PageIs w p m s
  ref : RX w x Z s
  zp : Z p
  zm : Z m
  lt : ∀ k, Z k → k < w.heap.size
section
variable {w w' : World} {p m x : Nat} {Z F : Nat → Prop} {s s' : PS}
theorem PX.skip (h : PX w p m x Z s) (f : Fr none_ w w') : PX w' p m x Z s := ⟨h.page.kept f (fun e => e) (fun e => e), h.ref.kept0 f, h.zp, h.zm, fun k hk => Nat.lt_of_lt_of_le (h.lt k hk) f.size⟩
/-- The page was turned: of another state than the reference's. -/
structure PXt (w : World) (p m x : Nat) (Z : Nat → Prop) (sp sx : PS) : Prop where
  page : PageIs w p m sp
  ref : RX w x Z sx
  zp : Z p
  zm : Z m
  lt : ∀ k, Z k → k < w.heap.size
theorem PX.t (h : PX w p m x Z s) : PXt w p m x Z s s := ⟨h.page, h.ref, h.zp, h.zm, h.lt⟩
theorem PXt.one (h : PXt w p m x Z s s) : PX w p m x Z s := ⟨h.page, h.ref, h.zp, h.zm, h.lt⟩
theorem PXt.turnP {sp sx sp' : PS} (h : PXt w p m x Z sp sx) (hp : PageIs w' p m sp') (f : Fr (two p m) w w') : PXt w' p m x Z sp' sx :=
  ⟨hp, h.ref.kept f (fun k e => by rcases e with rfl | rfl; exact h.zp; exact h.zm), h.zp, h.zm, fun k hk => Nat.lt_of_lt_of_le (h.lt k hk) f.size⟩
theorem PXt.turnX {sp sx sx' : PS} (h : PXt w p m x Z sp sx) (hx : RX w' x Z sx') (f : Fr (fun k => ¬ Z k) w w') : PXt w' p m x Z sp sx' :=
  ⟨h.page.kept f (fun e => e h.zp) (fun e => e h.zm), hx, h.zp, h.zm, fun k hk => Nat.lt_of_lt_of_le (h.lt k hk) f.size⟩
theorem PXt.skip {sp sx : PS} (h : PXt w p m x Z sp sx) (f : Fr none_ w w') : PXt w' p m x Z sp sx := ⟨h.page.kept f (fun e => e) (fun e => e), h.ref.kept0 f, h.zp, h.zm, fun k hk => Nat.lt_of_lt_of_le (h.lt k hk) f.size⟩
/-- What a step may touch. -/
def TF (p m : Nat) (Z : Nat → Prop) : Nat → Prop := fun k => two p m k ∨ ¬ Z k
end
end Go.Proofs.Ytdbnopfpopeefaa
