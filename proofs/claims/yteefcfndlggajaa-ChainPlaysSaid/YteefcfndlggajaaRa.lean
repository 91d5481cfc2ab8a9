/-
  The reference of layer 4: handles by division; what was given; the arena in memory.
  The reference of layer 4 in memory: New, gen.
  The reference of layer 4: Is, Read, Used, Free, Write.
  The reference of layer 4: Free, Write.
  The reference of layer 4: Alloc, plain parts.
-/
import Derived.Test.YteefcfndlggajaaRp6
import Derived.Test.YteefcfndlggajaaArUp
import Derived.Deep.DeepCutAuto
import Derived.Deep.CutBlock
namespace Go.Proofs.Yteefcfndlggajaa
open Go.RowKit
set_option linter.unusedVariables false
set_option linter.unusedSimpArgs false
set_option maxRecDepth 100000

theorem Parts01_any (w : World) (h : Nat) (hh : h < 18446744073709551616) :
    Calls Try.prog 98 #[.int .u64 (h : Int)] w fun e w' => e = .returned (.tuple #[.int .u16 (hN h : Int), .int .u16 (hO h : Int), .int .u32 (hG h : Int)]) ∧ w = w' := by
  obtain ⟨a, ha⟩ : ∃ a, a = h / 4294967296 := ⟨_, rfl⟩
  obtain ⟨b, hb⟩ : ∃ b, b = a / 65536 := ⟨_, rfl⟩
  obtain ⟨c, hc⟩ : ∃ c, c = a % 65536 := ⟨_, rfl⟩
  obtain ⟨d, hd⟩ : ∃ d, d = h % 4294967296 := ⟨_, rfl⟩
  have e1 : (h : Int).tdiv 4294967296 = (a : Int) := by rw [ha]; rfl
  have e1' : (h : Int) / 4294967296 = (a : Int) := by rw [ha]; rfl
  have e2 : (a : Int).tdiv 65536 = (b : Int) := by rw [hb]; rfl
  have e2' : (a : Int) / 65536 = (b : Int) := by rw [hb]; rfl
  have e3 : (a : Int).tmod 65536 = (c : Int) := by rw [hc]; rfl
  have e3' : (a : Int) % 65536 = (c : Int) := by rw [hc]; rfl
  have e4 : (h : Int).tmod 4294967296 = (d : Int) := by rw [hd]; rfl
  have e4' : (h : Int) % 4294967296 = (d : Int) := by rw [hd]; rfl
  have w1 : IntKind.u64.wrap (a : Int) = (a : Int) := by rw [IntKind.wrap_u64]; omega
  have w2 : IntKind.u64.wrap (b : Int) = (b : Int) := by rw [IntKind.wrap_u64]; omega
  have w3 : IntKind.u64.wrap (c : Int) = (c : Int) := by rw [IntKind.wrap_u64]; omega
  have w4 : IntKind.u64.wrap (d : Int) = (d : Int) := by rw [IntKind.wrap_u64]; omega
  have w5 : IntKind.u16.wrap (b : Int) = (b : Int) := by rw [IntKind.wrap_u16]; omega
  have w6 : IntKind.u16.wrap (c : Int) = (c : Int) := by rw [IntKind.wrap_u16]; omega
  have w7 : IntKind.u32.wrap (d : Int) = (d : Int) := by rw [IntKind.wrap_u32]; omega
  have hN' : hN h = b := by rw [hb, ha]; unfold hN; omega
  have hO' : hO h = c := by rw [hc, ha]; rfl
  have hG' : hG h = d := by rw [hd]; rfl
  rw [hN', hO', hG']
  clear ha hb hc hd hN' hO' hG' hh
  go_enter Try.func98, Try.ntmps98
  go_wp2_with fail
  go_ret3
  exact ⟨rfl, rfl⟩
theorem Handle01_any (w : World) (n o g : Nat) (h1 : n < 65536) (h2 : o < 65536) (h3 : g < 4294967296) :
    Calls Try.prog 96 #[.int .u16 (n : Int), .int .u16 (o : Int), .int .u32 (g : Int)] w fun e w' => e = .returned (.int .u64 (mkH n o g : Int)) ∧ w = w' := by
  obtain ⟨a, ha⟩ : ∃ a, a = n * 65536 := ⟨_, rfl⟩
  obtain ⟨b, hb⟩ : ∃ b, b = a + o := ⟨_, rfl⟩
  obtain ⟨c, hc⟩ : ∃ c, c = b * 4294967296 := ⟨_, rfl⟩
  have w0 : IntKind.u64.wrap (n : Int) = (n : Int) := by rw [IntKind.wrap_u64]; omega
  have w0' : IntKind.u64.wrap (o : Int) = (o : Int) := by rw [IntKind.wrap_u64]; omega
  have w0'' : IntKind.u64.wrap (g : Int) = (g : Int) := by rw [IntKind.wrap_u64]; omega
  have w1 : IntKind.u64.wrap ((n : Int) * 65536) = (a : Int) := by rw [IntKind.wrap_u64]; omega
  have w2 : IntKind.u64.wrap ((a : Int) + (o : Int)) = (b : Int) := by rw [IntKind.wrap_u64]; omega
  have w3 : IntKind.u64.wrap ((b : Int) * 4294967296) = (c : Int) := by rw [IntKind.wrap_u64]; omega
  have w4 : IntKind.u64.wrap ((c : Int) + (g : Int)) = ((c + g : Nat) : Int) := by rw [IntKind.wrap_u64]; omega
  have he : mkH n o g = c + g := by rw [hc, hb, ha]; unfold mkH; omega
  rw [he]
  clear he ha hb hc
  go_enter Try.func96, Try.ntmps96
  go_wp2_with fail
  go_ret
  exact ⟨rfl, rfl⟩

abbrev GV := Nat × Nat × Nat
def gcells : List GV → List Value
  | [] => []
  | t :: r => .int .u16 (t.1 : Int) :: .int .u16 (t.2.1 : Int) :: .int .u32 (t.2.2 : Int) :: gcells r
theorem gcells_length (l : List GV) : (gcells l).length = l.length * 3 := by
  induction l with
  | nil => rfl
  | cons p r ih => simp only [gcells, List.length_cons, ih]; omega
theorem gcells_append (a b : List GV) : gcells (a ++ b) = gcells a ++ gcells b := by
  induction a with
  | nil => rfl
  | cons p r ih => simp only [List.cons_append, gcells, ih]
theorem gcells_one (l : List GV) : ∀ u ∈ gcells l, u.oneCell' = true := by
  induction l with
  | nil => intro u hu; simp [gcells] at hu
  | cons p r ih =>
    intro u hu
    simp only [gcells, List.mem_cons] at hu
    rcases hu with rfl | rfl | rfl | hu
    · rfl
    · rfl
    · rfl
    · exact ih u hu
theorem gcells_get {l : List GV} {i : Nat} {p : GV} (h : l[i]? = some p) : (gcells l)[i * 3]? = some (.int .u16 (p.1 : Int)) ∧ (gcells l)[i * 3 + 1]? = some (.int .u16 (p.2.1 : Int)) ∧ (gcells l)[i * 3 + 2]? = some (.int .u32 (p.2.2 : Int)) := by
  induction l generalizing i with
  | nil => simp at h
  | cons q r ih =>
    cases i with
    | zero => simp at h; subst h; simp [gcells]
    | succ i =>
      simp only [List.getElem?_cons_succ] at h
      have := ih h
      have e : (i + 1) * 3 = i * 3 + 1 + 1 + 1 := by omega
      rw [e]
      simpa [gcells] using this
def gAt (n o : Nat) (t : GV) : Bool := decide (t.1 = n ∧ t.2.1 = o)
/-- How often a place was given. -/
def gLook (G : List GV) (n o : Nat) : Nat := ((G.find? (gAt n o)).map (·.2.2)).getD 0
def gPut (G : List GV) (n o g : Nat) : List GV := G.filter (fun t => !gAt n o t) ++ [(n, o, g)]
theorem gLook_put (G : List GV) (n o g : Nat) (a b : Nat) : gLook (gPut G n o g) a b = if a = n ∧ b = o then g else gLook G a b := by
  unfold gLook gPut
  rw [List.find?_append]
  by_cases e : a = n ∧ b = o
  · obtain ⟨rfl, rfl⟩ := e
    have hn : (G.filter (fun t => !gAt a b t)).find? (gAt a b) = none := by
      rw [List.find?_eq_none]
      intro t ht
      have := (List.mem_filter.1 ht).2
      simpa using this
    rw [hn, if_pos ⟨rfl, rfl⟩]
    simp [gAt]
  · rw [if_neg e]
    have hf : (G.filter (fun t => !gAt n o t)).find? (gAt a b) = G.find? (gAt a b) := by
      induction G with
      | nil => rfl
      | cons t r ih =>
        by_cases h1 : gAt n o t = true
        · have h2 : gAt a b t = false := by
            unfold gAt at h1 ⊢
            have h1 := of_decide_eq_true h1
            refine decide_eq_false (fun q => e ?_)
            omega
          rw [List.filter_cons, if_neg (by simp [h1]), ih, List.find?_cons, h2]
        · rw [List.filter_cons, if_pos (by simp [h1]), List.find?_cons, List.find?_cons, ih]
    rw [hf]
    have h3 : List.find? (gAt a b) [(n, o, g)] = none := by
      rw [List.find?_eq_none]
      intro t ht
      simp only [List.mem_singleton] at ht
      subst ht
      unfold gAt
      simp only [decide_eq_true_eq]
      omega
    rw [h3, Option.or_none]
theorem gPut_length (G : List GV) (n o g : Nat) : (gPut G n o g).length ≤ G.length + 1 := by
  unfold gPut
  rw [List.length_append, List.length_singleton]
  have := List.length_filter_le (fun t => !gAt n o t) G
  omega
end Go.Proofs.Yteefcfndlggajaa
namespace Go.Proofs.Yteefcfndlggajaa
open Go.RowKit
set_option linter.unusedVariables false
set_option linter.unusedSimpArgs false
set_option maxRecDepth 100000

theorem ra_given_info : (Try.prog.info? 167).map (fun i => (i.zero, i.size, i.bytes)) = some (some (.agg #[.int .u16 0, .int .u16 0, .int .u32 0]), 3, 8) := by kernel_rfl
theorem ra_ptr_info : (Try.prog.info? 141).map (fun i => (i.zero, i.size, i.bytes)) = some (some (.pointer none), 1, 8) := by kernel_rfl
def ptrV (q : Nat) : Value := .pointer (some ⟨q, 0, none⟩)
/-- The reference's page at x, of the blocks N. -/
def RN (w : World) (x : Nat) (N : Nat → Prop) (s : PS) : Prop := ∃ ba ua ka bc uc kc Bs, RPAt w x ba ua ka bc uc kc s Bs ∧ ∀ k, rown x ba ua ka k → N k
/-- The reference at x: its pages qs, what was given; col: whose a block is (0: x, 1: the row of pages, 2: the row of what was given, i + 3: the page i); none is of Z. -/
structure RAt (w : World) (x : Nat) (pa : Option Addr) (pc : Nat) (ga : Option Addr) (gc : Nat) (qs : List Nat) (G : List GV) (col : Nat → Nat) (Z : Nat → Prop) (N : Nat) (s : AS) : Prop where
  row : Row w x #[.int .i64 (s.slot : Int), .slice pa s.pages.length pc, .slice ga G.length gc] 147
  pas : SlAt w pa s.pages.length pc 141 1 (qs.map ptrV)
  gs : SlAt w ga G.length gc 167 3 (gcells G)
  cx : col x = 0
  ca : ∀ k, blk pa k → col k = 1
  cg : ∀ k, blk ga k → col k = 2
  zx : ¬ Z x
  za : ∀ k, blk pa k → ¬ Z k
  zg : ∀ k, blk ga k → ¬ Z k
  pg : ∀ (i q : Nat) (p : PS), qs[i]? = some q → s.pages[i]? = some p → RN w q (fun k => col k = i + 3 ∧ ¬ Z k) p
  gl : ∀ n o, n < 65536 → o < 65536 → gLook G n o = s.genOf n o
  gb : ∀ t ∈ G, t.1 < 65536 ∧ t.2.1 < 65536 ∧ t.2.2 < 4294967296
  gn : G.length ≤ N
  nn : N ≤ 1000000
section
variable {w w' : World} {x : Nat} {pa ga : Option Addr} {pc gc N : Nat} {qs : List Nat} {G : List GV} {col : Nat → Nat} {Z Y F : Nat → Prop} {s : AS}
theorem RN.kept {N F : Nat → Prop} {p : PS} (h : RN w x N p) (f0 : Fr F w w') (hF : ∀ k, N k → ¬ F k) : RN w' x N p := by
  obtain ⟨a, b, c, d, e, f, g, h1, h2⟩ := h; exact ⟨a, b, c, d, e, f, g, h1.kept f0 (fun k hk q => hF k (h2 k hk) q), h2⟩
theorem RAt.kept (h : RAt w x pa pc ga gc qs G col Z N s) (f : Fr F w w') (hF : ∀ k, F k → Z k) : RAt w' x pa pc ga gc qs G col Z N s :=
  ⟨h.row.kept f (fun e => h.zx (hF _ e)), h.pas.kept f (fun k hk e => h.za k hk (hF k e)), h.gs.kept f (fun k hk e => h.zg k hk (hF k e)), h.cx, h.ca, h.cg, h.zx, h.za, h.zg, fun i q p h1 h2 => (h.pg i q p h1 h2).kept f (fun k hk e => hk.2 (hF k e)), h.gl, h.gb, h.gn, h.nn⟩
theorem RAt.kept0 (h : RAt w x pa pc ga gc qs G col Z N s) (f : Fr none_ w w') : RAt w' x pa pc ga gc qs G col Z N s := h.kept f (fun _ e => e.elim)
theorem RAt.c0 (h : RAt w x pa pc ga gc qs G col Z N s) : w.cell? ⟨x, 0, none⟩ = some (.int .i64 (s.slot : Int)) := (h.row.cell 0).trans rfl
theorem RAt.c1 (h : RAt w x pa pc ga gc qs G col Z N s) : w.cell? ⟨x, 1, none⟩ = some (.slice pa s.pages.length pc) := (h.row.cell 1).trans rfl
theorem RAt.c2 (h : RAt w x pa pc ga gc qs G col Z N s) : w.cell? ⟨x, 2, none⟩ = some (.slice ga G.length gc) := (h.row.cell 2).trans rfl
theorem RAt.qlen (h : RAt w x pa pc ga gc qs G col Z N s) : qs.length = s.pages.length := by have := h.pas.1; simpa using this
theorem RAt.page (h : RAt w x pa pc ga gc qs G col Z N s) {i : Nat} {p : PS} (hp : s.pages[i]? = some p) : ∃ q, qs[i]? = some q ∧ RN w q (fun k => col k = i + 3 ∧ ¬ Z k) p := by
  have hl := (List.getElem?_eq_some_iff.1 hp).1
  have hq : qs[i]? = some (qs[i]'(by rw [h.qlen]; exact hl)) := List.getElem?_eq_getElem _
  exact ⟨_, hq, h.pg i _ p hq hp⟩

theorem Ra_New_no (w : World) (slot : Int) (h : slot < 2 ∨ 4096 < slot) :
    Calls Try.prog 51 #[.int .i64 slot] w fun e w' => e = .returned (.tuple #[.pointer none, .int .i64 1]) ∧ w = w' := by
  have G := Lib.hid (Rp_New_no w slot h)
  clear h
  go_enter Try.func51, Try.ntmps51
  go_wp2_with fail
  refine G.out.mono ?_
  rintro e w1 ⟨rfl, rfl⟩
  go_wp2_with fail
  go_ret2
  exact ⟨rfl, rfl⟩
theorem Ra_New_yes (w : World) (slot : Nat) (h2 : 2 ≤ slot) (h3 : slot ≤ 4096) (Z : Nat → Prop) (hz : ∀ k, Z k → k < w.heap.size) :
    Calls Try.prog 51 #[.int .i64 (slot : Int)] w fun e w' => ∃ x, e = .returned (.tuple #[.pointer (some ⟨x, 0, none⟩), .int .i64 0]) ∧ RAt w' x none 0 none 0 [] [] (fun _ => 0) Z 0 (AS.new slot) ∧ Fr none_ w w' := by
  have G := Lib.hid (Rp_New_yes w slot h2 h3)
  have HZ := Lib.hid hz
  clear hz
  go_enter Try.func51, Try.ntmps51
  go_wp2_with fail
  refine G.out.mono ?_
  rintro e w1 ⟨q, rfl, hq, f1, g1⟩
  have F1 := Lib.hid f1
  clear hq g1 f1
  go_wp2_with fail
  go_ret2
  refine ⟨w1.heap.size, rfl, ⟨Row.new w1 _ _, SlAt.empty _ _ _, SlAt.empty _ _ _, rfl, fun k hk => absurd hk (blk_none k), fun k hk => absurd hk (blk_none k), fun e => ?_, fun k hk => absurd hk (blk_none k), fun k hk => absurd hk (blk_none k), fun i q p h1 h2 => ?_, fun n o _ _ => rfl, fun t ht => ?_, Nat.le_refl _, Nat.zero_le _⟩, F1.out.trans (Fr.alloc _ _ _)⟩
  · have := HZ.out _ e; have := F1.out.size; omega
  · simp at h1
  · simp at ht

theorem gLook_at {G : List GV} {k n o : Nat} {t : GV} (hn : ∀ u ∈ G.take k, gAt n o u = false) (ht : G[k]? = some t) (h : gAt n o t = true) : gLook G n o = t.2.2 := by
  have hs : G = G.take k ++ t :: G.drop (k + 1) := by
    have hl := (List.getElem?_eq_some_iff.1 ht).1
    have he := (List.getElem?_eq_some_iff.1 ht).2
    rw [← he, ← List.drop_eq_getElem_cons hl, List.take_append_drop]
  unfold gLook
  rw [hs, List.find?_append, List.find?_cons, h]
  have : (G.take k).find? (gAt n o) = none := List.find?_eq_none.2 (fun u hu => by rw [hn u hu]; simp)
  rw [this]; rfl
theorem gLook_none {G : List GV} {n o : Nat} (hn : ∀ u ∈ G, gAt n o u = false) : gLook G n o = 0 := by
  unfold gLook
  rw [List.find?_eq_none.2 (fun u hu => by rw [hn u hu]; simp)]; rfl
set_option maxHeartbeats 2000000 in
theorem Ra_gen (h : RAt w x pa pc ga gc qs G col Z N s) (n o : Nat) :
    Calls Try.prog 95 #[.pointer (some ⟨x, 0, none⟩), .int .u16 (n : Int), .int .u16 (o : Int)] w fun e w' => e = .returned (.int .u32 (gLook G n o : Int)) ∧ w = w' := by
  have c2 := h.c2
  have hm : G.length ≤ 1000000 := by have := h.gn; have := h.nn; omega
  have H := Lib.hid h
  obtain ⟨m, hm0⟩ : ∃ m, m = G.length := ⟨_, rfl⟩
  rw [← hm0] at c2 hm
  have HM := Lib.hid hm0
  clear h hm0
  go_enter Try.func95, Try.ntmps95
  go_wp2_with fail
  go_loop [7] (fun i => ∃ k : Nat, Hid (k ≤ m) ∧ i = .int .i64 k ∧ Hid (∀ t ∈ G.take k, gAt n o t = false)) (fun i => m - (intOf i).toNat)
  case atStart => exact ⟨0, Nat.zero_le _, rfl, by intro t ht; simp at ht⟩
  case round =>
    obtain ⟨k, hk, rfl, hno⟩ := hrel
    by_cases hlt : k < m
    · obtain ⟨t, ht⟩ : ∃ t, G[k]? = some t := ⟨G[k]'(by rw [← HM.out]; exact hlt), List.getElem?_eq_getElem _⟩
      obtain ⟨g, hg⟩ := H.out.gs.isAddr (by rw [← HM.out]; omega)
      subst hg
      have hcs := gcells_get ht
      have d0 := H.out.gs.cell hcs.1
      have d1 := H.out.gs.cell hcs.2.1
      have d2 := H.out.gs.cell hcs.2.2
      have hnx : gAt n o t = false → ∀ u ∈ G.take (k + 1), gAt n o u = false := fun e u hu => by
        rw [rp_take_succ _ _ _ ht] at hu
        rcases List.mem_append.1 hu with hu | hu
        · exact hno.out u hu
        · simp at hu; rw [hu]; exact e
      have HNX := Lib.hid hnx
      have HAT := Lib.hid (fun h => gLook_at hno.out ht h)
      clear hcs hnx
      by_cases e1 : t.1 = n
      · have b1 : ((t.1 : Int) == (n : Int)) = true := by rw [beq_iff_eq]; omega
        by_cases e2 : t.2.1 = o
        · have b2 : ((t.2.1 : Int) == (o : Int)) = true := by rw [beq_iff_eq]; omega
          have he := HAT.out (by unfold gAt; exact decide_eq_true ⟨e1, e2⟩)
          generalize t.1 = t1 at d0 b1
          generalize t.2.1 = t2 at d1 b2
          generalize t.2.2 = t3 at d2 he
          have HEE := Lib.hid he
          clear e1 e2 HNX HAT ht hno he
          go_wp2_with fail
          go_ret
          exact ⟨by rw [HEE.out]; rfl, rfl⟩
        · have b2 : ((t.2.1 : Int) == (o : Int)) = false := beq_eq_false_iff_ne.2 (by omega)
          have HX := Lib.hid (HNX.out (by unfold gAt; exact decide_eq_false (fun q => e2 q.2)))
          generalize t.1 = t1 at d0 b1
          generalize t.2.1 = t2 at d1 b2
          clear e1 e2 HNX HAT ht hno d2
          go_wp2_with fail
          go_round
          case rel => exact ⟨k + 1, hlt, by go_num, HX⟩
          case measure => simp [intOf]; omega
      · have b1 : ((t.1 : Int) == (n : Int)) = false := beq_eq_false_iff_ne.2 (by omega)
        have HX := Lib.hid (HNX.out (by unfold gAt; exact decide_eq_false (fun q => e1 q.1)))
        generalize t.1 = t1 at d0 b1
        clear e1 HNX HAT ht hno d1 d2
        go_wp2_with fail
        go_round
        case rel => exact ⟨k + 1, hlt, by go_num, HX⟩
        case measure => simp [intOf]; omega
    · have hke : k = m := by have := hk.out; omega
      have hl : gLook G n o = 0 := gLook_none (fun u hu => hno.out u (by rw [hke, HM.out, List.take_length]; exact hu))
      have HLL := Lib.hid hl
      clear hke hl
      go_wp2_with fail
      go_ret
      exact ⟨by rw [HLL.out]; rfl, rfl⟩
end
end Go.Proofs.Yteefcfndlggajaa
namespace Go.Proofs.Yteefcfndlggajaa
open Go.RowKit
set_option linter.unusedVariables false
set_option linter.unusedSimpArgs false
set_option maxRecDepth 100000

theorem hN_lt6 {h : Nat} (hh : h < 18446744073709551616) : hN h < 65536 := by unfold hN; omega
theorem hO_lt6 (h : Nat) : hO h < 65536 := by unfold hO; omega
section
variable {w w' : World} {x : Nat} {pa ga : Option Addr} {pc gc N : Nat} {qs : List Nat} {G : List GV} {col : Nat → Nat} {Z Y F : Nat → Prop} {s : AS}
set_option maxHeartbeats 2000000 in
theorem Ra_Is (h : RAt w x pa pc ga gc qs G col Z N s) (hw : s.WF) {hd : Nat} (hh : hd < 18446744073709551616) :
    Calls Try.prog 97 #[.pointer (some ⟨x, 0, none⟩), .int .u64 (hd : Int)] w fun e w' => e = .returned (.bool (aFind s hd).isSome) ∧ w = w' := by
  have GP := Lib.hid (Parts01_any w hd hh)
  have c1 := h.c1
  have hn := hN_lt6 hh
  have ho := hO_lt6 hd
  have GG := Lib.hid (Ra_gen h (hN hd) (hO hd))
  have hgl := h.gl _ _ hn ho
  have hl := hw.len
  rw [hgl] at GG
  by_cases e1 : hN hd < s.pages.length
  · obtain ⟨p, hp⟩ : ∃ p, s.pages[hN hd]? = some p := ⟨s.pages[hN hd], List.getElem?_eq_getElem e1⟩
    obtain ⟨q, hq, hrn⟩ := h.page hp
    obtain ⟨a, b, c, d, e, f, g, hr, _⟩ := hrn
    have GI := Lib.hid (Rp_Is hr (hw.pages p (List.mem_of_getElem? hp)).1 (hO hd) ho)
    obtain ⟨gp, rfl⟩ := h.pas.isAddr (by omega)
    have cq := h.pas.cell (i := hN hd) (v := ptrV q) (by rw [List.getElem?_map, hq]; rfl)
    unfold ptrV at cq
    have hf : (aFind s hd).isSome = ((p.at_ (hO hd)).isSome && decide (s.genOf (hN hd) (hO hd) = hG hd)) := by
      unfold aFind
      rw [hp]
      by_cases eg : s.genOf (hN hd) (hO hd) = hG hd
      · rw [if_pos eg, decide_eq_true eg]; simp
      · rw [if_neg eg, decide_eq_false eg]; simp
    rw [hf]
    generalize (p.at_ (hO hd)).isSome = bi at GI
    have e1' : (hN hd : Int) < (s.pages.length : Int) := by omega
    by_cases eg : s.genOf (hN hd) (hO hd) = hG hd
    · rw [decide_eq_true eg]
      have bg : ((s.genOf (hN hd) (hO hd) : Int) == (hG hd : Int)) = true := by rw [beq_iff_eq]; omega
      generalize s.genOf (hN hd) (hO hd) = gv at GG bg
      generalize hN hd = hn' at GP GG cq e1 hn e1'
      generalize hO hd = ho' at GP GI GG
      generalize hG hd = hg' at GP bg
      clear hr hf hgl hp hq h hw eg hh
      have w1 : IntKind.i64.wrap (hn' : Int) = (hn' : Int) := IntWalk.i64_in _ (by omega)
      cases bi with
      | true =>
        go_enter Try.func97, Try.ntmps97
        go_wp2_with fail
        refine GP.out.mono ?_
        rintro e w1 ⟨rfl, rfl⟩
        go_wp2_with fail
        refine GI.out.mono ?_
        rintro e w1 ⟨rfl, rfl⟩
        go_wp2_with fail
        refine GG.out.mono ?_
        rintro e w1 ⟨rfl, rfl⟩
        go_wp2_with fail
        go_ret
        exact ⟨rfl, rfl⟩
      | false =>
        go_enter Try.func97, Try.ntmps97
        go_wp2_with fail
        refine GP.out.mono ?_
        rintro e w1 ⟨rfl, rfl⟩
        go_wp2_with fail
        refine GI.out.mono ?_
        rintro e w1 ⟨rfl, rfl⟩
        go_wp2_with fail
        go_ret
        exact ⟨rfl, rfl⟩
    · rw [decide_eq_false eg]
      have bg : ((s.genOf (hN hd) (hO hd) : Int) == (hG hd : Int)) = false := beq_eq_false_iff_ne.2 (by omega)
      generalize s.genOf (hN hd) (hO hd) = gv at GG bg
      generalize hN hd = hn' at GP GG cq e1 hn e1'
      generalize hO hd = ho' at GP GI GG
      generalize hG hd = hg' at GP bg
      clear hr hf hgl hp hq h hw eg hh
      have w1 : IntKind.i64.wrap (hn' : Int) = (hn' : Int) := IntWalk.i64_in _ (by omega)
      cases bi with
      | true =>
        go_enter Try.func97, Try.ntmps97
        go_wp2_with fail
        refine GP.out.mono ?_
        rintro e w1 ⟨rfl, rfl⟩
        go_wp2_with fail
        refine GI.out.mono ?_
        rintro e w1 ⟨rfl, rfl⟩
        go_wp2_with fail
        refine GG.out.mono ?_
        rintro e w1 ⟨rfl, rfl⟩
        go_wp2_with fail
        go_ret
        exact ⟨rfl, rfl⟩
      | false =>
        go_enter Try.func97, Try.ntmps97
        go_wp2_with fail
        refine GP.out.mono ?_
        rintro e w1 ⟨rfl, rfl⟩
        go_wp2_with fail
        refine GI.out.mono ?_
        rintro e w1 ⟨rfl, rfl⟩
        go_wp2_with fail
        go_ret
        exact ⟨rfl, rfl⟩
  · have hf : (aFind s hd).isSome = false := by
      unfold aFind
      rw [List.getElem?_eq_none (by omega)]
      split <;> rfl
    rw [hf]
    have e1' : ¬ (hN hd : Int) < (s.pages.length : Int) := by omega
    generalize hN hd = hn' at GP e1 hn e1'
    generalize hO hd = ho' at GP
    generalize hG hd = hg' at GP
    clear hf hgl h hw hh GG
    have w1 : IntKind.i64.wrap (hn' : Int) = (hn' : Int) := IntWalk.i64_in _ (by omega)
    go_enter Try.func97, Try.ntmps97
    go_wp2_with fail
    refine GP.out.mono ?_
    rintro e w1 ⟨rfl, rfl⟩
    go_wp2_with fail
    go_ret
    exact ⟨rfl, rfl⟩
theorem find_page {hd : Nat} {bs : List UInt8} (hf : aFind s hd = some bs) : ∃ p, s.pages[hN hd]? = some p ∧ p.at_ (hO hd) = some bs := by
  unfold aFind at hf
  split at hf
  · cases hp : s.pages[hN hd]? with
    | none => rw [hp] at hf; cases hf
    | some p => rw [hp] at hf; exact ⟨p, rfl, hf⟩
  · cases hf
end
end Go.Proofs.Yteefcfndlggajaa
namespace Go.Proofs.Yteefcfndlggajaa
open Go.RowKit
set_option linter.unusedVariables false
set_option linter.unusedSimpArgs false
set_option maxRecDepth 100000

section
variable {w w' : World} {x : Nat} {pa ga : Option Addr} {pc gc N : Nat} {qs : List Nat} {G : List GV} {col : Nat → Nat} {Z Y F : Nat → Prop} {s s' : AS}
/-- Page i was turned. -/
theorem RAt.turn (h : RAt w x pa pc ga gc qs G col Z N s) (hz : ∀ k, Z k → k < w.heap.size) {i q : Nat} {p p' : PS} {ba ua ka : Option Addr} (hq : qs[i]? = some q) (hp : s.pages[i]? = some p) (ho : ∀ k, rown q ba ua ka k → col k = i + 3 ∧ ¬ Z k) (hr : RPost w q ba ua ka p' w')
    (hs : s'.slot = s.slot) (hps : s'.pages = s.pages.set i p') (hg : s'.gen = s.gen) : (∃ col', RAt w' x pa pc ga gc qs G col' Z N s') ∧ Fr (fun k => ¬ Z k) w w' := by
  obtain ⟨a1, a2, a3, d1, d2, d3, Bs, q1, q2, q3⟩ := hr
  have fz : Fr (fun k => ¬ Z k) w w' := q3.mono fun k _ e => (ho k e).2
  have fc : Fr (fun k => col k = i + 3) w w' := q3.mono fun k _ e => (ho k e).1
  have hil := (List.getElem?_eq_some_iff.1 hp).1
  have hlen : s'.pages.length = s.pages.length := by rw [hps, List.length_set]
  refine ⟨⟨fun k => if k < w.heap.size then col k else i + 3, ⟨?_, ?_, h.gs.kept fc (fun k hk e => by have := h.cg k hk; omega), ?_, ?_, ?_, h.zx, h.za, h.zg, ?_, ?_, h.gb, h.gn, h.nn⟩⟩, fz⟩
  · rw [hs, hlen]; exact h.row.kept fc (fun e => by have := h.cx; omega)
  · rw [hlen]; exact h.pas.kept fc (fun k hk e => by have := h.ca k hk; omega)
  · (try simp only); rw [if_pos h.row.lt]; exact h.cx
  · intro k hk; (try simp only); rw [if_pos (h.pas.lt k hk)]; exact h.ca k hk
  · intro k hk; (try simp only); rw [if_pos (h.gs.lt k hk)]; exact h.cg k hk
  · intro j r pj hj hpj
    rw [hps, List.getElem?_set] at hpj
    by_cases e : i = j
    · subst e
      rw [if_pos rfl, if_pos hil] at hpj
      cases hpj
      rw [hq] at hj
      cases hj
      refine ⟨a1, a2, a3, d1, d2, d3, Bs, q1, fun k hk => ?_⟩
      rcases q2 k hk with e | e
      · obtain ⟨b1, b2⟩ := ho k e
        refine ⟨?_, b2⟩
        try simp only
        split
        · exact b1
        · rfl
      · refine ⟨?_, fun q => by have := hz k q; omega⟩
        try simp only
        rw [if_neg (by omega)]
    · rw [if_neg e] at hpj
      obtain ⟨b1, b2, b3, b4, b5, b6, b7, b8, b9⟩ := h.pg j r pj hj hpj
      refine ⟨b1, b2, b3, b4, b5, b6, b7, b8.kept fc (fun k hk e2 => by have := (b9 k hk).1; omega), fun k hk => ?_⟩
      have hl := b8.lt k hk
      try simp only
      rw [if_pos hl]
      exact b9 k hk
  · intro n o h1 h2
    rw [h.gl n o h1 h2]
    unfold AS.genOf
    rw [hg]
theorem mod_pages {l : List PS} {i : Nat} {p : PS} (h : l[i]? = some p) (f : PS → PS) : l.modify i f = l.set i (f p) := mod_set h f
set_option maxHeartbeats 2000000 in
theorem Ra_Free (h : RAt w x pa pc ga gc qs G col Z N s) (hz : ∀ k, Z k → k < w.heap.size) (hw : s.WF) {hd : Nat} (hh : hd < 18446744073709551616) :
    Calls Try.prog 83 #[.pointer (some ⟨x, 0, none⟩), .int .u64 (hd : Int)] w fun e w' => e = .returned (.int .i64 ((aFree s hd).1 : Int)) ∧ (∃ col', RAt w' x pa pc ga gc qs G col' Z N (aFree s hd).2) ∧ Fr (fun k => ¬ Z k) w w' := by
  have GI := Lib.hid (Ra_Is h hw hh)
  have H := Lib.hid h
  cases hf : aFind s hd with
  | none =>
    have hr : aFree s hd = (5, s) := by unfold aFree; rw [hf]; rfl
    rw [hr]
    rw [hf] at GI
    simp only [Option.isSome_none] at GI
    clear h hf hr
    go_enter Try.func83, Try.ntmps83
    go_wp2_with fail
    refine GI.out.mono ?_
    rintro e w1 ⟨rfl, rfl⟩
    go_wp2_with fail
    go_ret
    exact ⟨rfl, ⟨_, H.out⟩, Fr.refl _ _⟩
  | some bs =>
    have hr : aFree s hd = (0, { s with pages := s.pages.modify (hN hd) (fun p => p.free (hO hd / s.slot)), used := s.used - 1, first := min s.first (hN hd) }) := by unfold aFree; rw [hf]; rfl
    rw [hr]
    rw [hf] at GI
    simp only [Option.isSome_some] at GI
    obtain ⟨p, hp, hat⟩ := find_page hf
    have hl := (List.getElem?_eq_some_iff.1 hp).1
    have hpw := hw.pages p (List.mem_of_getElem? hp)
    obtain ⟨q, hq, hrn⟩ := h.page hp
    obtain ⟨a, b, c, d, e, f, g, hrp, hown⟩ := hrn
    have gr := Rp_Free hrp hpw.1 (hO hd) (hO_lt6 hd)
    have hrr : freeR p (hO hd) = (0, p.free (hO hd / p.slot)) := by unfold freeR; rw [hat]; rfl
    rw [hrr, hpw.2] at gr
    have GR := Lib.hid gr
    have hT := fun w' (hr : RPost w q a b c (p.free (hO hd / s.slot)) w') => h.turn hz hq hp hown hr (s' := { s with pages := s.pages.modify (hN hd) (fun p => p.free (hO hd / s.slot)), used := s.used - 1, first := min s.first (hN hd) }) rfl (mod_set hp _) rfl
    have HT := Lib.hid hT
    have GP := Lib.hid (Parts01_any w hd hh)
    have c1 := h.c1
    obtain ⟨gp, rfl⟩ := h.pas.isAddr (by omega)
    have cq := h.pas.cell (i := hN hd) (v := ptrV q) (by rw [List.getElem?_map, hq]; rfl)
    unfold ptrV at cq
    generalize ({ s with pages := s.pages.modify (hN hd) (fun p => p.free (hO hd / s.slot)), used := s.used - 1, first := min s.first (hN hd) } : AS) = s1 at HT ⊢
    generalize p.free (hO hd / s.slot) = p1 at GR HT
    generalize hN hd = hn' at GP cq hl
    generalize hO hd = ho' at GP GR
    generalize hG hd = hg' at GP
    generalize s.pages.length = L at c1 hl
    clear h hf hr hrp gr hrr hp hat hq hw hh hpw hown hT
    go_enter Try.func83, Try.ntmps83
    go_wp2_with fail
    refine GI.out.mono ?_
    rintro e w1 ⟨rfl, rfl⟩
    go_wp2_with fail
    refine GP.out.mono ?_
    rintro e w1 ⟨rfl, rfl⟩
    go_wp2_with fail
    refine GR.out.mono ?_
    rintro e w1 ⟨rfl, hpost⟩
    have HP := Lib.hid (HT.out _ hpost)
    clear hpost
    go_wp2_with fail
    go_ret
    exact ⟨rfl, HP.out.1, HP.out.2⟩
end
end Go.Proofs.Yteefcfndlggajaa
namespace Go.Proofs.Yteefcfndlggajaa
open Go.RowKit
set_option linter.unusedVariables false
set_option linter.unusedSimpArgs false
set_option maxRecDepth 100000

theorem adv_from0 {s : AS} (hw : s.WF) {k : Nat} (hk : k ≤ s.pages.length) (hf : ∀ j p, j < k → s.pages[j]? = some p → full s.slot p = true) (hs : ∀ p, s.pages[k]? = some p → full s.slot p = false) : adv s.slot s.pages s.first = k := by
  have hle := adv_le (slot := s.slot) (pages := s.pages) hw.first
  have h1 : s.first ≤ k := by
    refine Classical.byContradiction fun q => ?_
    have hlt : k < s.pages.length := by have := hw.first; omega
    have hp := List.getElem?_eq_getElem hlt
    have a := hw.fulls k _ (by omega) hp
    rw [hs _ hp] at a; cases a
  have h2 : ¬ adv s.slot s.pages s.first < k := fun q => by
    have hlt : adv s.slot s.pages s.first < s.pages.length := by omega
    have hp := List.getElem?_eq_getElem hlt
    have a := adv_stop hp
    rw [hf _ _ q hp] at a; cases a
  have h3 : ¬ k < adv s.slot s.pages s.first := fun q => by
    have hlt : k < s.pages.length := by omega
    have hp := List.getElem?_eq_getElem hlt
    have a := adv_full h1 q hp
    rw [hs _ hp] at a; cases a
  omega
section
variable {w w' w3 w5 : World} {x : Nat} {pa pa' ga ga' : Option Addr} {pc pc' gc gc' N : Nat} {qs : List Nat} {G G' : List GV} {col : Nat → Nat} {Z Y F : Nat → Prop} {s s' : AS}
theorem RAt.same (h : RAt w x pa pc ga gc qs G col Z N s) (h1 : s'.slot = s.slot) (h2 : s'.pages = s.pages) (h3 : s'.gen = s.gen) : RAt w x pa pc ga gc qs G col Z N s' := by
  refine ⟨by rw [h1, h2]; exact h.row, by rw [h2]; exact h.pas, h.gs, h.cx, h.ca, h.cg, h.zx, h.za, h.zg, fun i q p a b => h.pg i q p a (by rw [← h2]; exact b), fun n o a b => ?_, h.gb, h.gn, h.nn⟩
  rw [h.gl n o a b]; unfold AS.genOf; rw [h3]
theorem RAt.weakN {M : Nat} (h : RAt w x pa pc ga gc qs G col Z N s) (h1 : N ≤ M) (h2 : M ≤ 1000000) : RAt w x pa pc ga gc qs G col Z M s :=
  ⟨h.row, h.pas, h.gs, h.cx, h.ca, h.cg, h.zx, h.za, h.zg, h.pg, h.gl, h.gb, Nat.le_trans h.gn h1, h2⟩
/-- One page more. -/
theorem RAt.grow (h : RAt w x pa pc ga gc qs G col Z N s) (hz : ∀ k, Z k → k < w.heap.size) {q : Nat} {p : PS} {Bs : List ByteArray} {bc uc kc : Nat} (hq : RPAt w3 q none none none bc uc kc p Bs) (f3 : Fr none_ w w3) (hqn : w.heap.size ≤ q)
    (f5 : Fr none_ w3 w5) (hs5 : SlAt w5 pa' (s.pages.length + 1) pc' 141 1 (qs.map ptrV ++ [ptrV q])) (hb : ∀ k, blk pa' k → w3.heap.size ≤ k) (hsl : s'.slot = s.slot) (hpg : s'.pages = s.pages ++ [p]) (hge : s'.gen = s.gen) :
    (∃ col', RAt (w5.setCell ⟨x, 1, none⟩ (.slice pa' (s.pages.length + 1) pc')) x pa' pc' ga gc (qs ++ [q]) G col' Z N s') ∧ Fr (fun k => ¬ Z k) w (w5.setCell ⟨x, 1, none⟩ (.slice pa' (s.pages.length + 1) pc')) ∧ w5.cell? ⟨x, 1, none⟩ = some (.slice pa s.pages.length pc) ∧ w5.frozen? ⟨x, 1, none⟩ = false := by
  have f := f3.trans f5
  have z1 := f3.size
  have hlt := h.row.lt
  have hr0 := h.row.kept f (fun e => e)
  have fx : Fr (one x) w5 (w5.setCell ⟨x, 1, none⟩ (.slice pa' (s.pages.length + 1) pc')) := Fr.setCell _ _ _ _ (fun _ => rfl)
  have hr := hr0.set 1 (.slice pa' (s.pages.length + 1) pc')
  have hql := hq.row.lt
  refine ⟨⟨fun k => if k < w.heap.size then col k else if k = q then s.pages.length + 3 else 1, ⟨?_, ?_, (h.gs.kept0 f).kept fx (fun k hk e => by have := h.cg k hk; have := h.cx; cases e; omega), ?_, ?_, ?_, h.zx, ?_, h.zg, ?_, ?_, h.gb, h.gn, h.nn⟩⟩, f.none.trans (fx.mono fun k _ e => by cases e; exact h.zx), (hr0.cell 1).trans rfl, hr0.free 1⟩
  · rw [hsl, hpg, List.length_append, List.length_singleton]; exact hr
  · rw [hpg, List.length_append, List.length_singleton, List.map_append]
    exact hs5.kept fx (fun k hk e => by have := hb k hk; cases e; omega)
  · try simp only
    rw [if_pos hlt]; exact h.cx
  · intro k hk
    have := hb k hk
    try simp only
    rw [if_neg (by omega), if_neg (by omega)]
  · intro k hk
    try simp only
    rw [if_pos (h.gs.lt k hk)]; exact h.cg k hk
  · intro k hk e; have := hb k hk; have := hz k e; omega
  · intro i r pj hi hpj
    rw [hpg] at hpj
    by_cases e : i < s.pages.length
    · rw [List.getElem?_append_left e] at hpj
      rw [List.getElem?_append_left (by rw [h.qlen]; exact e)] at hi
      obtain ⟨b1, b2, b3, b4, b5, b6, b7, b8, b9⟩ := h.pg i r pj hi hpj
      refine ⟨b1, b2, b3, b4, b5, b6, b7, (b8.kept0 f).kept fx (fun k hk e2 => by have := (b9 k hk).1; have := h.cx; cases e2; omega), fun k hk => ?_⟩
      have hl := b8.lt k hk
      try simp only
      rw [if_pos hl]
      exact b9 k hk
    · have hie : i = s.pages.length := by
        have := (List.getElem?_eq_some_iff.1 hpj).1
        simp at this; omega
      subst hie
      rw [List.getElem?_append_right (Nat.le_refl _), Nat.sub_self] at hpj
      rw [List.getElem?_append_right (by rw [h.qlen]; exact Nat.le_refl _), h.qlen, Nat.sub_self] at hi
      simp at hpj hi
      subst hpj; subst hi
      refine ⟨none, none, none, bc, uc, kc, Bs, (hq.kept0 f5).kept fx (fun k hk e2 => ?_), fun k hk => ?_⟩
      · cases e2
        rcases hk with e | e | e | e
        · omega
        · exact absurd e (blk_none _)
        · exact absurd e (blk_none _)
        · exact absurd e (blk_none _)
      · have hkq : k = q := by
          rcases hk with e | e | e | e
          · exact e
          · exact absurd e (blk_none _)
          · exact absurd e (blk_none _)
          · exact absurd e (blk_none _)
        subst hkq
        refine ⟨?_, fun e => by have := hz k e; omega⟩
        try simp only
        rw [if_neg (by omega)]; simp
  · intro n o a b
    rw [h.gl n o a b]; unfold AS.genOf; rw [hge]
/-- What was given, anew. -/
theorem RAt.gput (h : RAt w x pa pc ga gc qs G col Z N s) (hz : ∀ k, Z k → k < w.heap.size) (f5 : Fr none_ w w5) (hs5 : SlAt w5 ga' G'.length gc' 167 3 (gcells G')) (hb : ∀ k, blk ga' k → w.heap.size ≤ k)
    {M : Nat} (hsl : s'.slot = s.slot) (hpg : s'.pages = s.pages) (hgl : ∀ n o, n < 65536 → o < 65536 → gLook G' n o = s'.genOf n o) (hgb : ∀ t ∈ G', t.1 < 65536 ∧ t.2.1 < 65536 ∧ t.2.2 < 4294967296) (hM : G'.length ≤ M) (hM2 : M ≤ 1000000) :
    (∃ col', RAt (w5.setCell ⟨x, 2, none⟩ (.slice ga' G'.length gc')) x pa pc ga' gc' qs G' col' Z M s') ∧ Fr (fun k => ¬ Z k) w (w5.setCell ⟨x, 2, none⟩ (.slice ga' G'.length gc')) := by
  have fx : Fr (one x) w5 (w5.setCell ⟨x, 2, none⟩ (.slice ga' G'.length gc')) := Fr.setCell _ _ _ _ (fun _ => rfl)
  have hr0 := h.row.kept f5 (fun e => e)
  have hr := hr0.set 2 (.slice ga' G'.length gc')
  have hlt := h.row.lt
  refine ⟨⟨fun k => if k < w.heap.size then col k else 2, ⟨?_, ?_, hs5.kept fx (fun k hk e => by have := hb k hk; cases e; omega), ?_, ?_, ?_, h.zx, h.za, ?_, ?_, hgl, hgb, hM, hM2⟩⟩, f5.none.trans (fx.mono fun k _ e => by cases e; exact h.zx)⟩
  · rw [hsl, hpg]; exact hr
  · rw [hpg]; exact (h.pas.kept0 f5).kept fx (fun k hk e => by have := h.ca k hk; have := h.cx; cases e; omega)
  · try simp only
    rw [if_pos hlt]; exact h.cx
  · intro k hk
    try simp only
    rw [if_pos (h.pas.lt k hk)]; exact h.ca k hk
  · intro k hk
    have := hb k hk
    try simp only
    rw [if_neg (by omega)]
  · intro k hk e; have := hb k hk; have := hz k e; omega
  · intro i r pj hi hpj
    rw [hpg] at hpj
    obtain ⟨b1, b2, b3, b4, b5, b6, b7, b8, b9⟩ := h.pg i r pj hi hpj
    refine ⟨b1, b2, b3, b4, b5, b6, b7, (b8.kept0 f5).kept fx (fun k hk e2 => by have := (b9 k hk).1; have := h.cx; cases e2; omega), fun k hk => ?_⟩
    have hl := b8.lt k hk
    try simp only
    rw [if_pos hl]
    exact b9 k hk
end
end Go.Proofs.Yteefcfndlggajaa
