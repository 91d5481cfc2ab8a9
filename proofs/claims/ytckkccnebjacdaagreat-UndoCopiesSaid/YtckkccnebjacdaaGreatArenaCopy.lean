/-
  Copy of an arena: pages, generations and numbers in new memory.
-/
import Derived.Test.YtckkccnebjacdaaGreatMgArenaAlloc
import Derived.Test.YtckkccnebjacdaaGreatStep
import Derived.Deep.RegionHeld3
import Derived.Deep.DeepCutAuto
namespace Go.Proofs.YtckkccnebjacdaaGreat
open Go.RowKit
set_option linter.unusedVariables false
set_option linter.unusedSimpArgs false
set_option maxRecDepth 100000

set_option maxHeartbeats 400000 in
theorem clone_gen {K V : Type} [DecidableEq K] (w : World) (m : Nat) (ek : K → Value) (ev : V → Value) (l : List (K × V)) (h : MapAt w m ek ev l) :
    Calls Tryz.prog 102 #[.map (some m)] w fun e w' => e = .returned (.map (some w.heap.size)) ∧ MapAt w' w.heap.size ek ev l ∧ ∃ o, w' = w.alloc o := by
  obtain ⟨es, clock, hb, r⟩ := h
  have hq := fun w => run_eql_map_nil_sl (P := Tryz.prog) w 125 _ _ (some m) Tryz.underlying125
  go_enter Tryz.func102, Tryz.ntmps102
  go_wp2
  rw [run_callFunc_extern Tryz.func127 (by kernel_rfl) (by kernel_rfl) (by kernel_rfl) (e := Extern.MapsClone.clone) (by kernel_rfl), run_maps_clone_sl w 125 hb]
  simp only [Result.andThen]
  rw [Oper.upon_value]
  go_wp2
  rw [run_typeAssert_map_sl _ 125 20 _ _ _ Tryz.underlying125]
  simp only [Result.andThen]
  rw [Oper.upon_value]
  go_wp2
  go_ret
  exact ⟨rfl, ⟨es, clock, (MapKept.heap_alloc w _).1, r⟩, _, rfl⟩

theorem build_copy (slot used first : Int) (m : Nat) (w : World) : (Instr.build 128 #[(0, .int .i64 slot), (2, .map (some m)), (3, .int .i64 used), (4, .int .i64 first)]).run Tryz.prog w = .ok (.agg #[.int .i64 slot, .slice none 0 0, .map (some m), .int .i64 used, .int .i64 first]) w := by kernel_rfl

/-- The loop's world: the first k pages are copied. -/
structure CpRel (w : World) (x m : Nat) (pa : Option Addr) (cap : Nat) (ps : List (Nat × Nat)) (s : AS) (x' m' : Nat) (k : Nat) (wr : World) : Prop where
  old : ArenaAt wr x m pa cap ps s
  new : ∃ pa' cap' ps', ArenaAt wr x' m' pa' cap' ps' { s with pages := s.pages.take k } ∧ ∀ j, aOwn x' m' pa' ps' j → w.heap.size ≤ j
  fr : Fr none_ w wr

theorem cp_push {w wr w7 w8 : World} {x m X M0 P M : Nat} {pa pa' pa2 : Option Addr} {cap cap' cap2 k : Nat} {ps ps' : List (Nat × Nat)} {s : AS} {q : PS} (A1 : ArenaAt w x m pa cap ps s) (hr : CpRel w x m pa cap ps s X M0 k wr) (hq : s.pages[k]? = some q)
    (hnew : ArenaAt wr X M0 pa' cap' ps' { s with pages := s.pages.take k }) (hown : ∀ j, aOwn X M0 pa' ps' j → w.heap.size ≤ j) (hkl : (s.pages.take k).length = k)
    (f7 : Fr none_ wr.drew w7) (hP : PageIs w7 P M q) (hPb : wr.drew.heap.size ≤ P) (hMb : wr.drew.heap.size ≤ M)
    (hs8 : SlAt w8 pa2 (k + 1) cap2 122 1 ((ps'.map fun p => ptr p.1) ++ [ptr P])) (f8 : Fr (blk pa') (w7.alloc (.cells #[.pointer (some ⟨P, 0, none⟩)] 122)) w8)
    (hb8 : ∀ j, blk pa2 j → blk pa' j ∨ (w7.alloc (.cells #[.pointer (some ⟨P, 0, none⟩)] 122)).heap.size ≤ j) :
    CpRel w x m pa cap ps s X M0 (k + 1) (w8.setCell ⟨X, 1, none⟩ (.slice pa2 (k + 1) cap2)) := by
  have fa : Fr none_ wr (w7.alloc (.cells #[.pointer (some ⟨P, 0, none⟩)] 122)) := ((Fr.drew none_ wr).trans f7).alloc_r _
  have hsz := fa.size
  have f9 : Fr (one X) w8 (w8.setCell ⟨X, 1, none⟩ (.slice pa2 (k + 1) cap2)) := Fr.setCell _ _ ⟨X, 1, none⟩ _ (fun _ => rfl)
  have hw := hr.fr.size
  have hxl := hnew.lt X own_x
  have hr8 := hnew.row.kept (fa.none.trans f8) (fun e => (hnew.pax X e).1 rfl)
  have hrow := hr8.set 1 (.slice pa2 (k + 1) cap2)
  have hrow' : Row (w8.setCell ⟨X, 1, none⟩ (.slice pa2 (k + 1) cap2)) X (aCells M0 pa2 cap2 { ({ s with pages := s.pages.take k } : AS) with pages := s.pages.take k ++ [q] }) 128 := by
    unfold aCells at hrow ⊢
    simpa [hkl] using hrow
  have hN := hnew.push (Q0 := q) fa (hP.kept (Fr.alloc none_ _ _) (fun e => e) (fun e => e)) hPb hMb (by have h := hs8; rw [← hkl] at h; exact h) f8 hb8 hrow' f9
  have ht : s.pages.take (k + 1) = s.pages.take k ++ [q] := take_succ_get _ _ _ hq
  have hG : Fr (fun j => blk pa' j ∨ j = X) wr (w8.setCell ⟨X, 1, none⟩ (.slice pa2 (k + 1) cap2)) :=
    ((fa.none.trans f8).mono fun j _ e => Or.inl e).trans (f9.mono fun j _ e => Or.inr e)
  have hGo : ∀ j, (blk pa' j ∨ j = X) → w.heap.size ≤ j := fun j e => hown j (e.elim own_pa (fun e => e ▸ own_x))
  refine ⟨hr.old.kept hG (fun j hj e => ?_), ⟨pa2, cap2, _, by rw [ht]; exact hN, ?_⟩, hr.fr.step hG (fun i hi e => by have := hGo i e; omega)⟩
  · have h1 := A1.lt j hj
    have h2 := hGo j e
    omega
  · rintro j (rfl | rfl | hk | ⟨i, p, hp, hk⟩)
    · exact hown _ own_x
    · exact hown _ own_m
    · rcases hb8 j hk with e | e
      · exact hown j (own_pa e)
      · omega
    · by_cases hi : i < ps'.length
      · rw [List.getElem?_append_left hi] at hp
        exact hown j (own_p hp hk)
      · have hP' : p = (P, M) := by
          rw [List.getElem?_append_right (by omega)] at hp
          cases hij : i - ps'.length with
          | zero => rw [hij] at hp; simp at hp; exact hp.symm
          | succ d => rw [hij] at hp; simp at hp
        subst hP'
        have h1 : wr.heap.size ≤ P := hPb
        have h2 : wr.heap.size ≤ M := hMb
        rcases hk with rfl | rfl <;> omega

set_option maxHeartbeats 4000000 in
theorem Arena_Copy {w : World} {x m : Nat} {pa : Option Addr} {cap : Nat} {ps : List (Nat × Nat)} {s : AS} (h : ArenaAt w x m pa cap ps s) (hl : s.pages.length ≤ 4096) :
    Calls Tryz.prog 65 #[.pointer (some ⟨x, 0, none⟩)] w fun e w' => ∃ x' m' pa' cap' ps', e = .returned (.pointer (some ⟨x', 0, none⟩)) ∧ ArenaAt w' x' m' pa' cap' ps' s ∧ Fr none_ w w' ∧ ∀ j, aOwn x' m' pa' ps' j → w.heap.size ≤ j := by
  have c0 := h.c0
  have c1 := h.c1
  have c2 := h.c2
  have c3 := h.c3
  have c4 := h.c4
  have hbd := fun (m : Nat) (w : World) => build_copy (s.slot : Int) (s.used : Int) (s.first : Int) m w
  have H := Lib.hid h
  have fS : Fr none_ w w := Fr.refl _ _
  clear h
  go_enter Tryz.func65, Tryz.ntmps65
  go_wp2_with fail
  go_region_held3 (fun w' => Fr none_ w w' ∧ w'.cell? ⟨x, 0, none⟩ = some (.int .i64 (s.slot : Int)) ∧ w'.cell? ⟨x, 2, none⟩ = some (.map (some m)) ∧ w'.cell? ⟨x, 3, none⟩ = some (.int .i64 (s.used : Int)) ∧ w'.cell? ⟨x, 4, none⟩ = some (.int .i64 (s.first : Int)))
    (first | (go_split_ands; refine ⟨?_, ?_, ?_, ?_, ?_⟩; exact Fr.trans (by assumption) f5; all_goals exact Fr.keep f5 (by assumption)) | (go_split_ands; refine ⟨?_, ?_, ?_, ?_, ?_⟩; exact Fr.trans (by assumption) (Fr.drew _ _); all_goals assumption) | (go_split_ands; refine ⟨?_, ?_, ?_, ?_, ?_⟩; exact Fr.trans (by assumption) (Fr.alloc _ _ _); all_goals exact Fr.keep (Fr.alloc none_ _ _) (by assumption)) | go_keep)
    (first | (go_at_call 102; refine (clone_gen _ m place gen32 s.gen (H.out.kept0 (Fr.drew none_ w)).gen).mono ?_; rintro e w5 ⟨rfl, hm5, o5, hw5⟩; have f5 : Fr none_ w.drew w5 := by rw [hw5]; exact Fr.alloc _ _ _))
  rename_i hh
  have f6 := hh.1
  clear hh
  subst hw5
  have hrow := (Row.new2 w o5 #[.int .i64 (s.slot : Int), .slice none 0 0, .map (some w.heap.size), .int .i64 (s.used : Int), .int .i64 (s.first : Int)] 128).drew
  have hm6 : MapAt ((w.alloc o5).alloc (.cells #[.int .i64 (s.slot : Int), .slice none 0 0, .map (some w.heap.size), .int .i64 (s.used : Int), .int .i64 (s.first : Int)] 128)).drew w.heap.size place gen32 s.gen := by
    have h := hm5.kept (F := none_) (Fr.alloc none_ _ (.cells #[.int .i64 (s.slot : Int), .slice none 0 0, .map (some w.heap.size), .int .i64 (s.used : Int), .int .i64 (s.first : Int)] 128)) (fun e => e)
    exact h
  have HR := Lib.hid (And.intro hrow hm6)
  clear hrow hm6 hm5 f5 hbd
  generalize ((w.alloc o5).alloc (.cells #[.int .i64 (s.slot : Int), .slice none 0 0, .map (some w.heap.size), .int .i64 (s.used : Int), .int .i64 (s.first : Int)] 128)).drew = w6 at f6 HR ⊢
  have hr0 : CpRel w x m pa cap ps s (w.heap.size + 1) w.heap.size 0 w6 := by
    obtain ⟨h1, h2⟩ := HR.out
    refine ⟨H.out.kept0 f6, ⟨none, 0, [], ⟨h1, SlAt.empty _ _ _, rfl, fun i p q hp => by simp at hp, h2, by omega, fun k hk => absurd hk (blk_none k), fun i p hp => by simp at hp, fun i j p q hp => by simp at hp⟩, ?_⟩, f6⟩
    rintro k (rfl | rfl | hk | ⟨i, p, hp, _⟩)
    · omega
    · omega
    · exact absurd hk (blk_none k)
    · simp at hp
  have d1 := Fr.keep f6 c1
  clear c0 c1 c2 c3 c4 f6 HR fS
  go_wp2_with fail
  obtain ⟨X, hX⟩ : ∃ X, X = w.heap.size + 1 := ⟨_, rfl⟩
  obtain ⟨M0, hM0⟩ : ∃ M0, M0 = w.heap.size := ⟨_, rfl⟩
  rw [← hX, ← hM0] at hr0
  rw [← hX]
  have HX := Lib.hid hX
  clear hX hM0 d1
  go_loopw [32] (fun i wr => ∃ k : Nat, Hid (k ≤ s.pages.length) ∧ i = .int .i64 k ∧ CpRel w x m pa cap ps s X M0 k wr) (fun i _ => s.pages.length - (intOf i).toNat)
  case atStart => exact ⟨0, Nat.zero_le _, rfl, hr0⟩
  case round =>
    obtain ⟨k, hk, rfl, hr⟩ := hrel
    clear hr0
    obtain ⟨pa', cap', ps', hnew, hown⟩ := hr.new
    by_cases hlt : k < s.pages.length
    · obtain ⟨q, hq⟩ : ∃ q, s.pages[k]? = some q := ⟨s.pages[k], List.getElem?_eq_getElem hlt⟩
      obtain ⟨p, hpi, hpage⟩ := hr.old.get hq
      obtain ⟨g, rfl⟩ := hr.old.sl.isAddr (by omega)
      have cp := hr.old.sl.cell (i := k) (v := ptr p.1) (by rw [List.getElem?_map, hpi]; rfl)
      have ck := hnew.c1
      have ckl : (s.pages.take k).length = k := by rw [List.length_take]; omega
      simp only [ckl] at ck
      have zk := hnew.free 1
      have hcp := Page_Copy (hpage.kept (Fr.drew none_ wr) (fun e => e) (fun e => e))
      unfold ptr at cp hcp
      have Hcp := Lib.hid hcp
      have HN := Lib.hid hnew
      have HQ := Lib.hid hq
      have Hckl := Lib.hid ckl
      have HO := Lib.hid hown
      have hsl : SlAt wr pa' k cap' 122 1 (ps'.map fun p => ptr p.1) := by
        have h := hnew.sl
        simp only [ckl] at h
        exact h
      have hkb : k ≤ 4096 := by omega
      clear hcp hpage hpi hq hnew hown ckl
      go_wp2_with fail
      go_region_law (first
        | (refine stepAppend rfl _ _ _ rfl 122 (.pointer none) 1 8 Tryz.underlying126 ptr_info rfl (hsl.kept0 (((Fr.drew none_ _).trans f7).alloc_r _)) rfl ⟨w7.heap.size, 0, none⟩ 1 1 [ptr P] rfl rfl (ptr_cells _ _ _ (by simp [ptr])) (by simp [ptr, Value.oneCell']) (by omega) (by simp [maxLen]; omega) (by omega) ?_; intro pa2 cap2 w8 hs8 f8 hb8; have z8 := (HN.out.row.kept ((((Fr.drew none_ _).trans f7).alloc_r _).none.trans f8) (fun e => (HN.out.pax X e).1 rfl)).free 1; have y8 := Fr.keepF ((((Fr.drew none_ _).trans f7).alloc_r _).none.trans f8) (fun e => (HN.out.pax X e).1 rfl) ck)
        | (go_simp; go_at_call 103; refine Hcp.out.mono ?_; rintro e w7 ⟨P, M, rfl, hP, f7, hPb, hMb⟩; have ck7 := Fr.keep f7 (show wr.drew.cell? _ = _ from ck); have ck7b := Fr.keep (Fr.alloc none_ w7 (.cells #[.pointer (some ⟨P, 0, none⟩)] 122)) ck7))
      all_goals
        have hr9 := cp_push (A1 := H.out) hr HQ.out HN.out HO.out Hckl.out f7 hP hPb hMb hs8 f8 hb8
        clear y8 z8 ck7 ck7b ck zk cp hs8 f8 hb8 hP f7
        go_wp2_with fail
        go_roundw
        case rel => exact ⟨k + 1, hlt, by go_num, hr9⟩
        case measure => simp [intOf]; omega
    · have ek : s.pages.take k = s.pages := List.take_of_length_le (by omega)
      rw [ek] at hnew
      have HN := Lib.hid hnew
      clear hnew ek
      go_wp2_with fail
      go_ret
      exact ⟨X, M0, pa', cap', ps', rfl, HN.out, hr.fr, hown⟩
end Go.Proofs.YtckkccnebjacdaaGreat
