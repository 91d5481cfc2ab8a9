/-
  The reference of layer 2: may a config be; the reference of layer 17: New.
  An arena's state, all but contents ('blank'): what is asked of it and of the state itself goes alike. Plain; nothing of the program in it.
  append of a slice that reads as a list (its memory whosever it is) to a slice of the call's own; max and min of two Ints at a named result. Nothing of the program in it.
  The reference of layer 17, its slots: another one in a slot's place, one more, one less; a reference engine as three things in a bag (its row, its arena, its slots).
  The reference of layer 17: New, set.
-/
import Derived.Test.YteefcfndlggajaaCnRef
import Derived.Test.YteefcfndlggajaaRax
import Derived.Test.YteefcfndlggajaaCnOps
import Derived.Test.YteefcfndlggajaaAppendS
import Derived.Test.YteefcfndlggajaaLs
import Derived.RegionTactic
import Derived.ChangeAlike
import Derived.Outline
namespace Go.Proofs.Yteefcfndlggajaa
open Go.RowKit
set_option linter.unusedVariables false
set_option linter.unusedSimpArgs false
set_option maxRecDepth 100000
def inR (n lo hi : Int) : Bool := decide (lo ≤ n) && decide (n ≤ hi)
theorem R02_is (w : World) (n lo hi : Int) :
    Calls Try.prog 77 #[.int .i64 n, .int .i64 lo, .int .i64 hi] w fun e w' => e = .returned (.bool (inR n lo hi)) ∧ w = w' := by
  by_cases h1 : lo ≤ n
  · have hd : decide (lo ≤ n) = true := by simp; exact h1
    have HE := Lib.hid (show inR n lo hi = decide (n ≤ hi) by unfold inR; rw [hd]; rfl)
    go_enter Try.func77, Try.ntmps77
    go_wp2_with fail
    go_ret
    exact ⟨by rw [HE.out]; rfl, rfl⟩
  · have hd : decide (lo ≤ n) = false := by simp; omega
    have HE := Lib.hid (show inR n lo hi = false by unfold inR; rw [hd]; rfl)
    go_enter Try.func77, Try.ntmps77
    go_wp2_with fail
    go_ret
    exact ⟨by rw [HE.out]; rfl, rfl⟩
theorem inR_iff {n lo hi : Int} : inR n lo hi = true ↔ lo ≤ n ∧ n ≤ hi := by unfold inR; simp
set_option maxHeartbeats 8000000 in
theorem R02_May (w : World) (c : CfgV) : Calls Try.prog 50 #[.agg c.cells] w fun e w' => e = .returned (.bool c.may) ∧ Fr none_ w w' := by
  have HNO := Lib.hid (fun j (hj : j < 8) (h : ¬ c.ok j) => CfgV.may_no hj h)
  have HYES := Lib.hid (fun (h : ∀ j, j < 8 → c.ok j) => CfgV.may_yes h)
  have HOK := Lib.hid (show (c.ok 0 ↔ inR c.tasks 1 6 = true) ∧ (c.ok 1 ↔ inR c.active 1 8 = true) ∧ (c.ok 2 ↔ inR c.keys 1 64 = true) ∧ (c.ok 3 ↔ inR c.depth 2 8 = true) ∧ (c.ok 4 ↔ inR c.ts 1 1048576 = true) ∧ (c.ok 5 ↔ inR c.keyLen 1 64 = true) ∧ (c.ok 6 ↔ inR c.valLen 0 256 = true) ∧ (c.ok 7 ↔ inR c.fan 3 8 = true) from ⟨inR_iff.symm, inR_iff.symm, inR_iff.symm, inR_iff.symm, inR_iff.symm, inR_iff.symm, inR_iff.symm, inR_iff.symm⟩)
  obtain ⟨okf, hokf⟩ : ∃ okf : Nat → Prop, okf = c.ok := ⟨_, rfl⟩
  obtain ⟨m, hm⟩ : ∃ m, m = c.may := ⟨_, rfl⟩
  rw [← hokf] at HNO HYES HOK
  rw [← hm] at HNO HYES ⊢
  unfold CfgV.cells
  obtain ⟨x0, x1, x2, x3, x4, x5, x6, x7⟩ := c
  simp only at HOK ⊢
  clear hokf hm
  have fB := Lib.hid (Fr.alloc none_ w (.cells #[.int .i64 x0, .int .i64 x1, .int .i64 x2, .int .i64 x3, .int .i64 x4, .int .i64 x5, .int .i64 x6, .int .i64 x7] 23))
  cases h0 : inR x0 1 6 with
  | false =>
    have HR := Lib.hid (HNO.out 0 (by omega) (fun q => by have := HOK.out.1.1 q; rw [h0] at this; cases this))
    clear HNO HYES HOK
    go_enter Try.func50, Try.ntmps50
    go_wp2_with fail
    refine (R02_is _ x0 1 6).mono ?_
    rintro e w1 ⟨rfl, rfl⟩
    rw [h0]
    go_wp2_with fail
    go_ret
    exact ⟨by rw [HR.out]; rfl, fB.out⟩
  | true =>
  cases h1 : inR x1 1 8 with
  | false =>
    have HR := Lib.hid (HNO.out 1 (by omega) (fun q => by have := HOK.out.2.1.1 q; rw [h1] at this; cases this))
    clear HNO HYES HOK
    go_enter Try.func50, Try.ntmps50
    go_wp2_with fail
    refine (R02_is _ x0 1 6).mono ?_
    rintro e w1 ⟨rfl, rfl⟩
    rw [h0]
    go_wp2_with fail
    refine (R02_is _ x1 1 8).mono ?_
    rintro e w1 ⟨rfl, rfl⟩
    rw [h1]
    go_wp2_with fail
    go_ret
    exact ⟨by rw [HR.out]; rfl, fB.out⟩
  | true =>
  cases h2 : inR x2 1 64 with
  | false =>
    have HR := Lib.hid (HNO.out 2 (by omega) (fun q => by have := HOK.out.2.2.1.1 q; rw [h2] at this; cases this))
    clear HNO HYES HOK
    go_enter Try.func50, Try.ntmps50
    go_wp2_with fail
    refine (R02_is _ x0 1 6).mono ?_
    rintro e w1 ⟨rfl, rfl⟩
    rw [h0]
    go_wp2_with fail
    refine (R02_is _ x1 1 8).mono ?_
    rintro e w1 ⟨rfl, rfl⟩
    rw [h1]
    go_wp2_with fail
    refine (R02_is _ x2 1 64).mono ?_
    rintro e w1 ⟨rfl, rfl⟩
    rw [h2]
    go_wp2_with fail
    go_ret
    exact ⟨by rw [HR.out]; rfl, fB.out⟩
  | true =>
  cases h3 : inR x3 2 8 with
  | false =>
    have HR := Lib.hid (HNO.out 3 (by omega) (fun q => by have := HOK.out.2.2.2.1.1 q; rw [h3] at this; cases this))
    clear HNO HYES HOK
    go_enter Try.func50, Try.ntmps50
    go_wp2_with fail
    refine (R02_is _ x0 1 6).mono ?_
    rintro e w1 ⟨rfl, rfl⟩
    rw [h0]
    go_wp2_with fail
    refine (R02_is _ x1 1 8).mono ?_
    rintro e w1 ⟨rfl, rfl⟩
    rw [h1]
    go_wp2_with fail
    refine (R02_is _ x2 1 64).mono ?_
    rintro e w1 ⟨rfl, rfl⟩
    rw [h2]
    go_wp2_with fail
    refine (R02_is _ x3 2 8).mono ?_
    rintro e w1 ⟨rfl, rfl⟩
    rw [h3]
    go_wp2_with fail
    go_ret
    exact ⟨by rw [HR.out]; rfl, fB.out⟩
  | true =>
  cases h4 : inR x4 1 1048576 with
  | false =>
    have HR := Lib.hid (HNO.out 4 (by omega) (fun q => by have := HOK.out.2.2.2.2.1.1 q; rw [h4] at this; cases this))
    clear HNO HYES HOK
    go_enter Try.func50, Try.ntmps50
    go_wp2_with fail
    refine (R02_is _ x0 1 6).mono ?_
    rintro e w1 ⟨rfl, rfl⟩
    rw [h0]
    go_wp2_with fail
    refine (R02_is _ x1 1 8).mono ?_
    rintro e w1 ⟨rfl, rfl⟩
    rw [h1]
    go_wp2_with fail
    refine (R02_is _ x2 1 64).mono ?_
    rintro e w1 ⟨rfl, rfl⟩
    rw [h2]
    go_wp2_with fail
    refine (R02_is _ x3 2 8).mono ?_
    rintro e w1 ⟨rfl, rfl⟩
    rw [h3]
    go_wp2_with fail
    refine (R02_is _ x4 1 1048576).mono ?_
    rintro e w1 ⟨rfl, rfl⟩
    rw [h4]
    go_wp2_with fail
    go_ret
    exact ⟨by rw [HR.out]; rfl, fB.out⟩
  | true =>
  cases h5 : inR x5 1 64 with
  | false =>
    have HR := Lib.hid (HNO.out 5 (by omega) (fun q => by have := HOK.out.2.2.2.2.2.1.1 q; rw [h5] at this; cases this))
    clear HNO HYES HOK
    go_enter Try.func50, Try.ntmps50
    go_wp2_with fail
    refine (R02_is _ x0 1 6).mono ?_
    rintro e w1 ⟨rfl, rfl⟩
    rw [h0]
    go_wp2_with fail
    refine (R02_is _ x1 1 8).mono ?_
    rintro e w1 ⟨rfl, rfl⟩
    rw [h1]
    go_wp2_with fail
    refine (R02_is _ x2 1 64).mono ?_
    rintro e w1 ⟨rfl, rfl⟩
    rw [h2]
    go_wp2_with fail
    refine (R02_is _ x3 2 8).mono ?_
    rintro e w1 ⟨rfl, rfl⟩
    rw [h3]
    go_wp2_with fail
    refine (R02_is _ x4 1 1048576).mono ?_
    rintro e w1 ⟨rfl, rfl⟩
    rw [h4]
    go_wp2_with fail
    refine (R02_is _ x5 1 64).mono ?_
    rintro e w1 ⟨rfl, rfl⟩
    rw [h5]
    go_wp2_with fail
    go_ret
    exact ⟨by rw [HR.out]; rfl, fB.out⟩
  | true =>
  cases h6 : inR x6 0 256 with
  | false =>
    have HR := Lib.hid (HNO.out 6 (by omega) (fun q => by have := HOK.out.2.2.2.2.2.2.1.1 q; rw [h6] at this; cases this))
    clear HNO HYES HOK
    go_enter Try.func50, Try.ntmps50
    go_wp2_with fail
    refine (R02_is _ x0 1 6).mono ?_
    rintro e w1 ⟨rfl, rfl⟩
    rw [h0]
    go_wp2_with fail
    refine (R02_is _ x1 1 8).mono ?_
    rintro e w1 ⟨rfl, rfl⟩
    rw [h1]
    go_wp2_with fail
    refine (R02_is _ x2 1 64).mono ?_
    rintro e w1 ⟨rfl, rfl⟩
    rw [h2]
    go_wp2_with fail
    refine (R02_is _ x3 2 8).mono ?_
    rintro e w1 ⟨rfl, rfl⟩
    rw [h3]
    go_wp2_with fail
    refine (R02_is _ x4 1 1048576).mono ?_
    rintro e w1 ⟨rfl, rfl⟩
    rw [h4]
    go_wp2_with fail
    refine (R02_is _ x5 1 64).mono ?_
    rintro e w1 ⟨rfl, rfl⟩
    rw [h5]
    go_wp2_with fail
    refine (R02_is _ x6 0 256).mono ?_
    rintro e w1 ⟨rfl, rfl⟩
    rw [h6]
    go_wp2_with fail
    go_ret
    exact ⟨by rw [HR.out]; rfl, fB.out⟩
  | true =>
  cases h7 : inR x7 3 8 with
  | false =>
    have HR := Lib.hid (HNO.out 7 (by omega) (fun q => by have := HOK.out.2.2.2.2.2.2.2.1 q; rw [h7] at this; cases this))
    clear HNO HYES HOK
    go_enter Try.func50, Try.ntmps50
    go_wp2_with fail
    refine (R02_is _ x0 1 6).mono ?_
    rintro e w1 ⟨rfl, rfl⟩
    rw [h0]
    go_wp2_with fail
    refine (R02_is _ x1 1 8).mono ?_
    rintro e w1 ⟨rfl, rfl⟩
    rw [h1]
    go_wp2_with fail
    refine (R02_is _ x2 1 64).mono ?_
    rintro e w1 ⟨rfl, rfl⟩
    rw [h2]
    go_wp2_with fail
    refine (R02_is _ x3 2 8).mono ?_
    rintro e w1 ⟨rfl, rfl⟩
    rw [h3]
    go_wp2_with fail
    refine (R02_is _ x4 1 1048576).mono ?_
    rintro e w1 ⟨rfl, rfl⟩
    rw [h4]
    go_wp2_with fail
    refine (R02_is _ x5 1 64).mono ?_
    rintro e w1 ⟨rfl, rfl⟩
    rw [h5]
    go_wp2_with fail
    refine (R02_is _ x6 0 256).mono ?_
    rintro e w1 ⟨rfl, rfl⟩
    rw [h6]
    go_wp2_with fail
    refine (R02_is _ x7 3 8).mono ?_
    rintro e w1 ⟨rfl, rfl⟩
    rw [h7]
    go_wp2_with fail
    go_ret
    exact ⟨by rw [HR.out]; rfl, fB.out⟩
  | true =>
  have HR := Lib.hid (HYES.out (fun j hj => by
    rcases (show j = 0 ∨ j = 1 ∨ j = 2 ∨ j = 3 ∨ j = 4 ∨ j = 5 ∨ j = 6 ∨ j = 7 by omega) with rfl | rfl | rfl | rfl | rfl | rfl | rfl | rfl
    · exact HOK.out.1.2 h0
    · exact HOK.out.2.1.2 h1
    · exact HOK.out.2.2.1.2 h2
    · exact HOK.out.2.2.2.1.2 h3
    · exact HOK.out.2.2.2.2.1.2 h4
    · exact HOK.out.2.2.2.2.2.1.2 h5
    · exact HOK.out.2.2.2.2.2.2.1.2 h6
    · exact HOK.out.2.2.2.2.2.2.2.2 h7))
  clear HNO HYES HOK
  go_enter Try.func50, Try.ntmps50
  go_wp2_with fail
  refine (R02_is _ x0 1 6).mono ?_
  rintro e w1 ⟨rfl, rfl⟩
  rw [h0]
  go_wp2_with fail
  refine (R02_is _ x1 1 8).mono ?_
  rintro e w1 ⟨rfl, rfl⟩
  rw [h1]
  go_wp2_with fail
  refine (R02_is _ x2 1 64).mono ?_
  rintro e w1 ⟨rfl, rfl⟩
  rw [h2]
  go_wp2_with fail
  refine (R02_is _ x3 2 8).mono ?_
  rintro e w1 ⟨rfl, rfl⟩
  rw [h3]
  go_wp2_with fail
  refine (R02_is _ x4 1 1048576).mono ?_
  rintro e w1 ⟨rfl, rfl⟩
  rw [h4]
  go_wp2_with fail
  refine (R02_is _ x5 1 64).mono ?_
  rintro e w1 ⟨rfl, rfl⟩
  rw [h5]
  go_wp2_with fail
  refine (R02_is _ x6 0 256).mono ?_
  rintro e w1 ⟨rfl, rfl⟩
  rw [h6]
  go_wp2_with fail
  refine (R02_is _ x7 3 8).mono ?_
  rintro e w1 ⟨rfl, rfl⟩
  rw [h7]
  go_wp2_with fail
  go_ret
  exact ⟨by rw [HR.out]; rfl, fB.out⟩
end Go.Proofs.Yteefcfndlggajaa
namespace Go.Proofs.Yteefcfndlggajaa
open Go.RowKit
set_option linter.unusedVariables false
set_option linter.unusedSimpArgs false

def PS.blank (p : PS) : PS := { p with slots := p.slots.map (Option.map fun _ => zeros p.slot) }
def AS.blank (s : AS) : AS := { s with pages := s.pages.map PS.blank }
theorem PS.blank_alloc (p : PS) : p.blank.alloc = p.alloc.map (fun r => (r.1, r.2.blank)) := by
  obtain ⟨sl, ss, bk⟩ := p
  unfold PS.alloc PS.blank
  cases bk with
  | nil =>
    simp only [List.length_map]
    split <;> simp
  | cons k r => simp [List.map_set]
theorem PS.blank_used (p : PS) : p.blank.used = p.used := by
  unfold PS.used PS.blank
  simp only [List.filter_map, List.length_map]
  congr 2
  funext o
  cases o <;> rfl
theorem PS.blank_free (p : PS) (k : Nat) : (p.free k).blank = p.blank.free k := by
  unfold PS.free PS.blank
  simp [List.map_set]
theorem PS.blank_new (n : Nat) : (PS.new n).blank = PS.new n := rfl
theorem set_same {α : Type} : ∀ {l : List α} {k : Nat} {v : α}, l[k]? = some v → l.set k v = l
  | [], k, v, h => by simp at h
  | x :: r, 0, v, h => by simp at h; rw [h]; rfl
  | x :: r, k + 1, v, h => by rw [List.set_cons_succ, set_same (by simpa using h)]
theorem PS.blank_write {p : PS} {k : Nat} {bs : List UInt8} (h : p.slots[k]? = some (some bs)) (b : ByteArray) : (p.write k b).blank = p.blank := by
  unfold PS.write PS.blank
  simp only [List.map_set, Option.map_some]
  rw [set_same (by rw [List.getElem?_map, h]; rfl)]
theorem PS.blank_at (p : PS) (o : Nat) : (p.blank.at_ o).isSome = (p.at_ o).isSome := by
  unfold PS.at_ PS.blank
  simp only
  split
  · rw [List.getElem?_map]
    cases p.slots[o / p.slot]? with
    | none => rfl
    | some q => cases q <;> rfl
  · rfl
theorem full_blank (slot : Nat) : full slot ∘ PS.blank = full slot := by
  funext p
  show full slot p.blank = full slot p
  unfold full
  rw [PS.blank_used]
theorem adv_blank (slot : Nat) (pages : List PS) (f : Nat) : adv slot (pages.map PS.blank) f = adv slot pages f := by
  unfold adv
  rw [← List.map_drop, List.takeWhile_map, List.length_map, full_blank]
theorem grown_blank (s : AS) : s.blank.grown = s.grown.map PS.blank := by
  unfold AS.grown
  show (if adv s.slot (s.pages.map PS.blank) s.first = (s.pages.map PS.blank).length then s.pages.map PS.blank ++ [PS.new s.slot] else s.pages.map PS.blank) = _
  rw [adv_blank, List.length_map]
  split
  · rw [List.map_append]; rfl
  · rfl
theorem genOf_blank (s : AS) (n o : Nat) : s.blank.genOf n o = s.genOf n o := rfl
theorem giveAt_blank (s : AS) (f k : Nat) (p : PS) : s.blank.giveAt f k p.blank = (s.giveAt f k p).blank := by
  unfold AS.giveAt
  rw [grown_blank]
  unfold AS.blank
  simp only [List.map_set]
  rfl
theorem aAlloc_blank (s : AS) : aAlloc s.blank = ((aAlloc s).1, (aAlloc s).2.1, (aAlloc s).2.2.blank) := by
  unfold aAlloc
  simp only
  rw [grown_blank]
  show (if adv s.slot (s.pages.map PS.blank) s.first = (s.pages.map PS.blank).length ∧ (s.pages.map PS.blank).length = 4096 then _ else _) = _
  rw [show adv s.blank.slot s.blank.pages s.blank.first = adv s.slot s.pages s.first from adv_blank _ _ _, adv_blank, List.length_map, List.getElem?_map]
  split
  · rfl
  · cases s.grown[adv s.slot s.pages s.first]? with
    | none => rfl
    | some p =>
      show (match p.blank.alloc with | some (k, p) => _ | none => _) = _
      rw [PS.blank_alloc]
      show _ = ((match p.alloc with | some (k, p) => _ | none => _ : Nat × Nat × AS).1, _, _)
      cases hp : p.alloc with
      | none => simp [hp]
      | some r =>
        obtain ⟨k, q⟩ := r
        simp only [Option.map_some, Option.bind_some, hp]
        rw [giveAt_blank]
        rfl
theorem aFind_blank (s : AS) (h : Nat) : (aFind s.blank h).isSome = (aFind s h).isSome := by
  unfold aFind
  rw [genOf_blank]
  split
  · show ((s.pages.map PS.blank)[hN h]?.bind _).isSome = _
    rw [List.getElem?_map]
    cases s.pages[hN h]? with
    | none => rfl
    | some p => exact PS.blank_at p (hO h)
  · rfl
theorem map_modify' {α β : Type} {g : α → β} {f : α → α} {f' : β → β} (h : ∀ x, g (f x) = f' (g x)) : ∀ (l : List α) (n : Nat), (l.modify n f).map g = (l.map g).modify n f'
  | [], n => by cases n <;> rfl
  | x :: r, 0 => by simp [h]
  | x :: r, n + 1 => by simp [map_modify' h r n]
theorem map_modify_same {α β : Type} {g : α → β} {f : α → α} : ∀ (l : List α) (n : Nat), (∀ x, l[n]? = some x → g (f x) = g x) → (l.modify n f).map g = l.map g
  | [], n, _ => by cases n <;> rfl
  | x :: r, 0, h => by simp [h x (by simp)]
  | x :: r, n + 1, h => by simp [map_modify_same r n (fun y hy => h y (by simpa using hy))]
theorem aFree_blank (s : AS) (h : Nat) : aFree s.blank h = ((aFree s h).1, (aFree s h).2.blank) := by
  unfold aFree
  rw [aFind_blank]
  split
  · unfold AS.blank
    simp only
    rw [map_modify' (f' := fun p => p.free (hO h / s.slot)) (fun p => PS.blank_free p _)]
  · rfl
theorem aWrite_blank {s : AS} (hw : s.WF) (h : Nat) (b : ByteArray) : (aWrite s h b).2.blank = s.blank := by
  unfold aWrite
  split
  · rename_i hf
    split
    · unfold AS.blank
      simp only
      rw [map_modify_same]
      intro p hp
      obtain ⟨bs, hbs⟩ := Option.isSome_iff_exists.1 hf
      unfold aFind at hbs
      split at hbs
      · rw [hp] at hbs
        have hbs : p.at_ (hO h) = some bs := hbs
        obtain ⟨_, q2⟩ := PS.at_some hbs
        have := (hw.pages p (List.mem_of_getElem? hp)).2
        rw [← this]
        exact PS.blank_write q2 b
      · cases hbs
    · rfl
  · rfl
theorem PS.WF.blank {p : PS} (h : p.WF) : p.blank.WF := by
  refine ⟨h.lo, h.hi, ?_, h.nodup, fun k => ?_, fun k bs hk => ?_⟩
  · show (p.slots.map _).length * p.slot ≤ 4096
    rw [List.length_map]; exact h.fit
  · rw [show p.blank.back = p.back from rfl, h.backs k]
    show _ ↔ (p.slots.map _)[k]? = some none
    rw [List.getElem?_map]
    cases p.slots[k]? with
    | none => simp
    | some q => cases q <;> simp
  · have hk : (p.slots.map (Option.map fun _ => zeros p.slot))[k]? = some (some bs) := hk
    rw [List.getElem?_map] at hk
    show bs.length = p.slot
    cases hq : p.slots[k]? with
    | none => rw [hq] at hk; simp at hk
    | some q =>
      cases q with
      | none => rw [hq] at hk; simp at hk
      | some z =>
        rw [hq] at hk
        have hk : zeros p.slot = bs := by simpa using hk
        rw [← hk]; unfold zeros; simp
theorem AS.WF.blank {s : AS} (h : s.WF) : s.blank.WF := by
  refine ⟨h.lo, h.hi, ?_, fun p hp => ?_, ?_, ?_, fun i p hi hp => ?_, fun n o _ _ => by omega⟩
  · show (s.pages.map _).length ≤ 4096
    rw [List.length_map]; exact h.len
  · obtain ⟨q, hq, rfl⟩ := List.mem_map.1 hp
    exact ⟨(h.pages q hq).1.blank, (h.pages q hq).2⟩
  · show s.used = ((s.pages.map PS.blank).map PS.used).sum
    rw [List.map_map, show PS.used ∘ PS.blank = PS.used from funext PS.blank_used]; exact h.used
  · show s.first ≤ (s.pages.map _).length
    rw [List.length_map]; exact h.first
  · have hp : (s.pages.map PS.blank)[i]? = some p := hp
    rw [List.getElem?_map] at hp
    cases hq : s.pages[i]? with
    | none => rw [hq] at hp; simp at hp
    | some q =>
      rw [hq] at hp
      obtain rfl : q.blank = p := by simpa using hp
      show (full s.slot ∘ PS.blank) q = true
      rw [full_blank]
      exact h.fulls i q hi hq
theorem Upto.blank {N : Nat} {s : AS} (h : Upto N s) : Upto N s.blank := ⟨h.wf.blank, h.used, h.gen⟩
theorem new_blank (n : Nat) : (AS.new n).blank = AS.new n := rfl
end Go.Proofs.Yteefcfndlggajaa
namespace Go.Proofs.Yteefcfndlggajaa
open Go.RowKit
set_option linter.unusedVariables false
set_option linter.unusedSimpArgs false

theorem flat_back {α : Type} (cells : α → List Value) (sz : Nat) (hsz : ∀ x, (cells x).length = sz) : ∀ (l : List α) (j : Nat) (u : Value), (l.flatMap cells)[j]? = some u → ∃ i x r, l[i]? = some x ∧ (cells x)[r]? = some u ∧ j = i * sz + r
  | [], j, u, h => by simp at h
  | y :: l, j, u, h => by
    rw [List.flatMap_cons] at h
    by_cases hj : j < sz
    · rw [List.getElem?_append_left (by rw [hsz]; exact hj)] at h
      exact ⟨0, y, j, rfl, h, by omega⟩
    · rw [List.getElem?_append_right (by rw [hsz]; omega), hsz] at h
      obtain ⟨i, x, r, h1, h2, h3⟩ := flat_back cells sz hsz l (j - sz) u h
      exact ⟨i + 1, x, r, by simpa using h1, h2, by rw [Nat.add_mul]; omega⟩
theorem run_append_ls {P : Program} {w : World} {α : Type} {cells : α → List Value} (t ty e : TypeId) (z : Value) (size bytes : Nat) (ht : P.underlying t = some (.slice e)) (hinfo : (P.info? e).map (fun i => (i.zero, i.size, i.bytes)) = some (some z, size, bytes))
    (hzs : z.cells.size = size) {sa xa : Option Addr} {n cap m c : Nat} {xs : List Value} {l : List α} (h : SlAt w sa n cap e size xs) (h2 : LsAt w xa size cells l) (hm : m = l.length) (hsz : ∀ x, (cells x).length = size) (h1 : ∀ x u, u ∈ cells x → u.oneCell' = true)
    (h63 : n + m ≤ maxLen) (hbytes : (n + m) * bytes ≤ 140737488355328) :
    ∃ a' cap' w', (Builtin.append_ #[t, t] ty #[.slice sa n cap, .slice xa m c]).run P w = .ok (.slice a' (n + m) cap') w' ∧ SlAt w' a' (n + m) cap' e size (xs ++ l.flatMap cells) ∧ Fr (blk sa) w w' ∧ (∀ k, blk a' k → blk sa k ∨ w.heap.size ≤ k) := by
  rcases h2 with h2 | ⟨b, o, rfl, hb, hc⟩
  · subst h2
    simp only [List.length_nil] at hm
    subst hm
    obtain ⟨i, hi, hz, hsize, hby⟩ := info_parts hinfo
    refine ⟨sa, cap, w, run_append_zero t ty e i ht hi sa n cap h.2.1 xa c, ?_, Fr.refl _ _, fun k hk => Or.inl hk⟩
    simpa using h
  · by_cases hl : l = []
    · subst hl
      simp only [List.length_nil] at hm
      subst hm
      obtain ⟨i, hi, hz, hsize, hby⟩ := info_parts hinfo
      refine ⟨sa, cap, w, run_append_zero t ty e i ht hi sa n cap h.2.1 _ c, ?_, Fr.refl _ _, fun k hk => Or.inl hk⟩
      simpa using h
    · have hpos : 0 < l.length := List.length_pos_iff.2 hl
      have hlen : (l.flatMap cells).length = m * size := by
        rw [hm, List.length_flatMap]
        have : (l.map fun a => (cells a).length) = List.replicate l.length size := by
          apply List.ext_getElem
          · simp
          · intro i h1 h2; simp [hsz]
        rw [this]; simp
      exact run_append_at t ty e z size bytes ht hinfo hzs h ⟨b, o, none⟩ m c (l.flatMap cells) hlen (fun j u hu => by
        obtain ⟨i, x, r, q1, q2, rfl⟩ := flat_back cells size hsz l j u hu
        rw [Addr.add_lit, ← Nat.add_assoc]
        exact hc i x q1 r u q2) (fun u hu => by
          obtain ⟨x, _, hx⟩ := List.mem_flatMap.1 hu
          exact h1 x u hx) (by omega) h63 hbytes
theorem LsAt.takeN {α : Type} {w : World} {a : Option Addr} {sz : Nat} {cells : α → List Value} {l : List α} (h : LsAt w a sz cells l) (k : Nat) : LsAt w a sz cells (l.take k) := by
  rcases h with h | ⟨b, o, ha, hb, hc⟩
  · subst h; exact Or.inl (by simp)
  · refine Or.inr ⟨b, o, ha, hb, fun i x hx => hc i x ?_⟩
    rw [List.getElem?_take] at hx
    split at hx
    · exact hx
    · cases hx
theorem LsAt.dropN {α : Type} {w : World} {a : Option Addr} {sz : Nat} {cells : α → List Value} {l : List α} (h : LsAt w a sz cells l) (k m : Nat) (hm : m = k → l.length ≤ k) : LsAt w (if m = k then a else a.map (·.add (k * sz))) sz cells (l.drop k) := by
  by_cases hmk : m = k
  · exact Or.inl (List.drop_of_length_le (hm hmk))
  · rw [if_neg hmk]
    rcases h with h | ⟨b, o, rfl, hb, hc⟩
    · subst h; exact Or.inl (by simp)
    · refine Or.inr ⟨b, o + k * sz, by simp [Addr.add_lit], hb, fun i x hx j v hv => ?_⟩
      rw [List.getElem?_drop] at hx
      have := hc (k + i) x hx j v hv
      rw [Nat.add_mul] at this
      rw [Nat.add_assoc o, this]
theorem blk_cut {a : Option Addr} {m k d : Nat} : ∀ q, blk (if m = k then a else a.map (·.add d)) q → blk a q := by
  intro q hq
  split at hq
  · exact hq
  · cases a with
    | none => obtain ⟨_, h, _⟩ := hq; cases h
    | some ad =>
      obtain ⟨ad', h, rfl⟩ := hq
      simp only [Option.map_some, Option.some.injEq] at h
      subst h
      exact ⟨ad, rfl, by unfold Addr.add; split <;> rfl⟩
theorem blk_new {B s g : Nat} {a : Option Addr} (h : ∀ k, blk a k → blk (some ⟨g, 0, none⟩) k ∨ s ≤ k) (hg : B ≤ g) (hs : B ≤ s) : ∀ k, blk a k → B ≤ k := by
  intro k hk
  rcases h k hk with q | q
  · rw [blk_some] at q; omega
  · omega
theorem run_max_I {P : Program} {w : World} (ts : Array TypeId) (t : TypeId) (k k' : IntKind) (i j m : Int) (hm : m = if i < j then j else i) : (Builtin.max_ ts t #[.int k i, .int k' j]).run P w = .ok (.int k m) w := by
  subst hm
  rw [run_max_int2]
theorem run_min_I {P : Program} {w : World} (ts : Array TypeId) (t : TypeId) (k k' : IntKind) (i j m : Int) (hm : m = if j < i then j else i) : (Builtin.min_ ts t #[.int k i, .int k' j]).run P w = .ok (.int k m) w := by
  subst hm
  rw [run_min_int2]
section arms
variable {P : Program} {w : World} {ops : Array Oper} {rest : List Oper} {o : Oper} {a : Act} {Q : Exit → Act → World → Prop}
theorem wpAppendLs {α : Type} {cells : α → List Value} (hg : Region.wanted o (yielded ops a.tmps) = true) (s x : Operand) (t : TypeId) (hop : o.op = Op.call { callee := Callee.builtin Builtin.append, args := #[s, x], argTypes := #[t, t] }) (e : TypeId) (z : Value) (size bytes : Nat) (ht : P.underlying t = some (.slice e)) (hinfo : (P.info? e).map (fun i => (i.zero, i.size, i.bytes)) = some (some z, size, bytes))
    (hzs : z.cells.size = size) {sa xa : Option Addr} {n cap m c : Nat} {xs : List Value} {l : List α} (h : SlAt w sa n cap e size xs) (h2 : LsAt w xa size cells l) (hm : m = l.length) (hsz : ∀ x, (cells x).length = size) (h1 : ∀ x u, u ∈ cells x → u.oneCell' = true) (hs : a.eval s = .slice sa n cap) (hx : a.eval x = .slice xa m c)
    (h63 : n + m ≤ maxLen) (hbytes : (n + m) * bytes ≤ 140737488355328)
    (hK : ∀ a' cap' w', SlAt w' a' (n + m) cap' e size (xs ++ l.flatMap cells) → Fr (blk sa) w w' → (∀ k, blk a' k → blk sa k ∨ w.heap.size ≤ k) → wpList P ops Q rest (a.put o.dst (.slice a' (n + m) cap')) w') : wpList P ops Q (o :: rest) a w := by
  refine wpList_go hg fun K' hK' => ?_
  obtain ⟨a', cap', w', hrun, r1, r2, r3⟩ := run_append_ls (P := P) (c := c) t o.type e z size bytes ht hinfo hzs h h2 hm hsz h1 h63 hbytes
  unfold Oper.wp
  simp [execOp, hop, resolve, invoke, builtin, hs, hx, hrun, Result.andThen]
  exact hK' _ _ (hK _ _ _ r1 r2 r3)
/-- The same, the new length under a name. -/
theorem wpAppendLn {α : Type} {cells : α → List Value} (hg : Region.wanted o (yielded ops a.tmps) = true) (s x : Operand) (t : TypeId) (hop : o.op = Op.call { callee := Callee.builtin Builtin.append, args := #[s, x], argTypes := #[t, t] }) (e : TypeId) (z : Value) (size bytes : Nat) (ht : P.underlying t = some (.slice e)) (hinfo : (P.info? e).map (fun i => (i.zero, i.size, i.bytes)) = some (some z, size, bytes))
    (hzs : z.cells.size = size) {sa xa : Option Addr} {n cap m c : Nat} {xs : List Value} {l : List α} (h : SlAt w sa n cap e size xs) (h2 : LsAt w xa size cells l) (hm : m = l.length) (hsz : ∀ x, (cells x).length = size) (h1 : ∀ x u, u ∈ cells x → u.oneCell' = true) (hs : a.eval s = .slice sa n cap) (hx : a.eval x = .slice xa m c)
    (h63 : n + m ≤ maxLen) (hbytes : (n + m) * bytes ≤ 140737488355328)
    (hK : ∀ a' n' cap' w', Hid (n' = n + m) → SlAt w' a' n' cap' e size (xs ++ l.flatMap cells) → Fr (blk sa) w w' → (∀ k, blk a' k → blk sa k ∨ w.heap.size ≤ k) → wpList P ops Q rest (a.put o.dst (.slice a' n' cap')) w') : wpList P ops Q (o :: rest) a w := by
  refine wpList_go hg fun K' hK' => ?_
  obtain ⟨a', cap', w', hrun, r1, r2, r3⟩ := run_append_ls (P := P) (c := c) t o.type e z size bytes ht hinfo hzs h h2 hm hsz h1 h63 hbytes
  unfold Oper.wp
  simp [execOp, hop, resolve, invoke, builtin, hs, hx, hrun, Result.andThen]
  exact hK' _ _ (hK _ _ _ _ (Lib.hid rfl) r1 r2 r3)
theorem at_slice {d : Option Tmp} {x : Operand} {lo hi mx : Option Operand} {t tt : TypeId} {pos : String} {af : Array Edge} {g : Option (Nat × Bool)}
    (h : wpList P ops Q (⟨d, .slice t x lo hi mx, tt, pos, af, g⟩ :: rest) a w) : wpList P ops Q (⟨d, .slice t x lo hi mx, tt, pos, af, g⟩ :: rest) a w := h
/-- s[i:], s a slice that reads as a list. -/
theorem wpSliceL {α : Type} {cells : α → List Value} (hg : Region.wanted o (yielded ops a.tmps) = true) (x lo : Operand) (t : TypeId) (hop : o.op = Op.slice t x (some lo) none none) (e : TypeId) (size : Nat) (ht : P.underlying t = some (.slice e)) (hs : (P.info? e).map (·.size) = some size)
    {sa : Option Addr} {n c i : Nat} {kl : IntKind} (hx : a.eval x = .slice sa n c) (hlo : a.eval lo = .int kl (i : Int)) (hi : i ≤ n) (hc : n ≤ c) {l : List α} (hn : n = l.length) (hl : LsAt w sa size cells l)
    (hK : ∀ sa' n' c', Hid (n' = n - i) → LsAt w sa' size cells (l.drop i) → (∀ k, blk sa' k → blk sa k) → wpList P ops Q rest (a.put o.dst (.slice sa' n' c')) w) : wpList P ops Q (o :: rest) a w := by
  refine wpList_go hg fun K' hK' => ?_
  obtain ⟨inf, hinf, hsz⟩ := Option.map_eq_some_iff.1 hs
  have he : P.elem t = e := by simp [Program.elem, ht]
  have hrun : (Instr.sliceAt t (.slice sa n c) (some (.int kl (i : Int))) none none).run P w = .ok (.slice (if c = i then sa else sa.map (·.add (i * size))) (n - i) (c - i)) w := by
    rw [run_sliceAt_slice w t _ _ _ _ (by rw [ht, he]), run_slice_l w t sa n c (by rw [ht, he]) kl (i : Int) (by omega) (by omega), he]
    simp [sizeOf, typeInfo, hinf, hsz, sliced]
  unfold Oper.wp
  simp only [execOp, hop, hx, hlo, Option.map_some, Option.map_none]
  simp [hrun, Result.andThen]
  exact hK' _ _ (hK _ _ _ (Lib.hid rfl) (hl.dropN i c (fun e => by omega)) blk_cut)
/-- s[:j], s a slice. -/
theorem wpSliceH (hg : Region.wanted o (yielded ops a.tmps) = true) (x hi : Operand) (t : TypeId) (hop : o.op = Op.slice t x none (some hi) none) (e : TypeId) (size : Nat) (ht : P.underlying t = some (.slice e)) (hs : (P.info? e).map (·.size) = some size)
    {sa : Option Addr} {n c j : Nat} {kl : IntKind} (hx : a.eval x = .slice sa n c) (hhi : a.eval hi = .int kl (j : Int)) (hj : j ≤ c)
    (hK : wpList P ops Q rest (a.put o.dst (.slice sa j c)) w) : wpList P ops Q (o :: rest) a w := by
  refine wpList_go hg fun K' hK' => ?_
  obtain ⟨inf, hinf, hsz⟩ := Option.map_eq_some_iff.1 hs
  have he : P.elem t = e := by simp [Program.elem, ht]
  have hrun : (Instr.sliceAt t (.slice sa n c) none (some (.int kl (j : Int))) none).run P w = .ok (.slice sa j c) w := by
    rw [run_sliceAt_slice w t _ _ _ _ (by rw [ht, he]), run_slice_h w t sa n c (by rw [ht, he]) kl (j : Int) (by omega) (by omega), he]
    have hid : sa.map (fun x : Addr => x.add 0) = sa := by cases sa <;> simp [Addr.add]
    simp [sizeOf, typeInfo, hinf, hsz, sliced, hid]
  unfold Oper.wp
  simp only [execOp, hop, hx, hhi, Option.map_some, Option.map_none]
  simp [hrun, Result.andThen]
  exact hK' _ _ hK
/-! the same as one step of a region that draws its order -/
theorem stepAppendLn {K : Act → World → Prop} {E : Prop} {α : Type} {cells : α → List Value} (hgd : o.guard = none) (s x : Operand) (t : TypeId) (hop : o.op = Op.call { callee := Callee.builtin Builtin.append, args := #[s, x], argTypes := #[t, t] }) (e : TypeId) (z : Value) (size bytes : Nat) (ht : P.underlying t = some (.slice e)) (hinfo : (P.info? e).map (fun i => (i.zero, i.size, i.bytes)) = some (some z, size, bytes))
    (hzs : z.cells.size = size) {sa xa : Option Addr} {n cap m c : Nat} {xs : List Value} {l : List α} (h : SlAt w sa n cap e size xs) (h2 : LsAt w xa size cells l) (hm : m = l.length) (hsz : ∀ x, (cells x).length = size) (h1 : ∀ x u, u ∈ cells x → u.oneCell' = true) (hs : a.eval s = .slice sa n cap) (hx : a.eval x = .slice xa m c)
    (h63 : n + m ≤ maxLen) (hbytes : (n + m) * bytes ≤ 140737488355328)
    (hK : ∀ a' n' cap' w', Hid (n' = n + m) → SlAt w' a' n' cap' e size (xs ++ l.flatMap cells) → Fr (blk sa) w w' → (∀ k, blk a' k → blk sa k ∨ w.heap.size ≤ k) → K (a.put o.dst (.slice a' n' cap')) w') : if Region.wanted o (yielded ops a.tmps) = true then Oper.wp P o a w K Q else E := by
  have hw : Region.wanted o (yielded ops a.tmps) = true := by simp [Region.wanted, hgd]
  rw [if_pos hw]
  obtain ⟨a', cap', w', hrun, r1, r2, r3⟩ := run_append_ls (P := P) (c := c) t o.type e z size bytes ht hinfo hzs h h2 hm hsz h1 h63 hbytes
  unfold Oper.wp
  simp [execOp, hop, resolve, invoke, builtin, hs, hx, hrun, Result.andThen]
  exact hK _ _ _ _ (Lib.hid rfl) r1 r2 r3
theorem stepSliceL {K : Act → World → Prop} {E : Prop} {α : Type} {cells : α → List Value} (hgd : o.guard = none) (x lo : Operand) (t : TypeId) (hop : o.op = Op.slice t x (some lo) none none) (e : TypeId) (size : Nat) (ht : P.underlying t = some (.slice e)) (hs : (P.info? e).map (·.size) = some size)
    {sa : Option Addr} {n c i : Nat} {kl : IntKind} (hx : a.eval x = .slice sa n c) (hlo : a.eval lo = .int kl (i : Int)) (hi : i ≤ n) (hc : n ≤ c) {l : List α} (hn : n = l.length) (hl : LsAt w sa size cells l)
    (hK : ∀ sa' n' c', Hid (n' = n - i) → LsAt w sa' size cells (l.drop i) → (∀ k, blk sa' k → blk sa k) → K (a.put o.dst (.slice sa' n' c')) w) : if Region.wanted o (yielded ops a.tmps) = true then Oper.wp P o a w K Q else E := by
  have hw : Region.wanted o (yielded ops a.tmps) = true := by simp [Region.wanted, hgd]
  rw [if_pos hw]
  obtain ⟨inf, hinf, hsz⟩ := Option.map_eq_some_iff.1 hs
  have he : P.elem t = e := by simp [Program.elem, ht]
  have hrun : (Instr.sliceAt t (.slice sa n c) (some (.int kl (i : Int))) none none).run P w = .ok (.slice (if c = i then sa else sa.map (·.add (i * size))) (n - i) (c - i)) w := by
    rw [run_sliceAt_slice w t _ _ _ _ (by rw [ht, he]), run_slice_l w t sa n c (by rw [ht, he]) kl (i : Int) (by omega) (by omega), he]
    simp [sizeOf, typeInfo, hinf, hsz, sliced]
  unfold Oper.wp
  simp only [execOp, hop, hx, hlo, Option.map_some, Option.map_none]
  simp [hrun, Result.andThen]
  exact hK _ _ _ (Lib.hid rfl) (hl.dropN i c (fun e => by omega)) blk_cut
theorem stepSliceH {K : Act → World → Prop} {E : Prop} (hgd : o.guard = none) (x hi : Operand) (t : TypeId) (hop : o.op = Op.slice t x none (some hi) none) (e : TypeId) (size : Nat) (ht : P.underlying t = some (.slice e)) (hs : (P.info? e).map (·.size) = some size)
    {sa : Option Addr} {n c j : Nat} {kl : IntKind} (hx : a.eval x = .slice sa n c) (hhi : a.eval hi = .int kl (j : Int)) (hj : j ≤ c)
    (hK : K (a.put o.dst (.slice sa j c)) w) : if Region.wanted o (yielded ops a.tmps) = true then Oper.wp P o a w K Q else E := by
  have hw : Region.wanted o (yielded ops a.tmps) = true := by simp [Region.wanted, hgd]
  rw [if_pos hw]
  obtain ⟨inf, hinf, hsz⟩ := Option.map_eq_some_iff.1 hs
  have he : P.elem t = e := by simp [Program.elem, ht]
  have hrun : (Instr.sliceAt t (.slice sa n c) none (some (.int kl (j : Int))) none).run P w = .ok (.slice sa j c) w := by
    rw [run_sliceAt_slice w t _ _ _ _ (by rw [ht, he]), run_slice_h w t sa n c (by rw [ht, he]) kl (j : Int) (by omega) (by omega), he]
    have hid : sa.map (fun x : Addr => x.add 0) = sa := by cases sa <;> simp [Addr.add]
    simp [sizeOf, typeInfo, hinf, hsz, sliced, hid]
  unfold Oper.wp
  simp only [execOp, hop, hx, hhi, Option.map_some, Option.map_none]
  simp [hrun, Result.andThen]
  exact hK
theorem wpMaxI' (hg : Region.wanted o (yielded ops a.tmps) = true) (x y : Operand) (ts : Array TypeId) (hop : o.op = Op.call { callee := Callee.builtin Builtin.max, args := #[x, y], argTypes := ts }) (k k' : IntKind) (i j m : Int) (hm : m = if i < j then j else i)
    (hx : a.eval x = .int k i) (hy : a.eval y = .int k' j) (hK : wpList P ops Q rest (a.put o.dst (.int k m)) w) : wpList P ops Q (o :: rest) a w := by
  refine wpList_go hg fun K' hK' => ?_
  unfold Oper.wp
  have hrun := run_max_I (P := P) (w := w) ts o.type k k' i j m hm
  simp [execOp, hop, resolve, invoke, builtin, hx, hy, hrun, Result.andThen]
  exact hK' _ _ hK
theorem wpMinI (hg : Region.wanted o (yielded ops a.tmps) = true) (x y : Operand) (ts : Array TypeId) (hop : o.op = Op.call { callee := Callee.builtin Builtin.min, args := #[x, y], argTypes := ts }) (k k' : IntKind) (i j m : Int) (hm : m = if j < i then j else i)
    (hx : a.eval x = .int k i) (hy : a.eval y = .int k' j) (hK : wpList P ops Q rest (a.put o.dst (.int k m)) w) : wpList P ops Q (o :: rest) a w := by
  refine wpList_go hg fun K' hK' => ?_
  unfold Oper.wp
  have hrun := run_min_I (P := P) (w := w) ts o.type k k' i j m hm
  simp [execOp, hop, resolve, invoke, builtin, hx, hy, hrun, Result.andThen]
  exact hK' _ _ hK
end arms
end Go.Proofs.Yteefcfndlggajaa
namespace Go.Proofs.Yteefcfndlggajaa
open Go.RowKit
set_option linter.unusedVariables false
set_option linter.unusedSimpArgs false
set_option maxRecDepth 100000

section
variable {L : List (Nat × NV)} {f : Nat → Option NV}
theorem nodup_same {p q : Nat} {h : Nat} {a b : NV} (r : Lrep L f) (h1 : L[p]? = some (h, a)) (h2 : L[q]? = some (h, b)) : p = q := by
  have hp : p < L.length := (List.getElem?_eq_some_iff.1 h1).1
  have hq : q < L.length := (List.getElem?_eq_some_iff.1 h2).1
  have e1 : (L.map (·.1))[p]'(by simpa using hp) = h := by simp [(List.getElem?_eq_some_iff.1 h1).2]
  have e2 : (L.map (·.1))[q]'(by simpa using hq) = h := by simp [(List.getElem?_eq_some_iff.1 h2).2]
  have hnd := List.pairwise_iff_getElem.1 r.nodup
  rcases Nat.lt_trichotomy p q with hlt | e | hlt
  · exact absurd (e1.trans e2.symm) (hnd p q _ _ hlt)
  · exact e
  · exact absurd (e2.trans e1.symm) (hnd q p _ _ hlt)
theorem rep_set (r : Lrep L f) {p h : Nat} {n : NV} (hp : L[p]? = some (h, n)) (m : NV) : Lrep (L.set p (h, m)) (upd f h (some m)) := by
  have hpl : p < L.length := (List.getElem?_eq_some_iff.1 hp).1
  refine ⟨fun q hq => ?_, fun y k hy => ?_, ?_⟩
  · obtain ⟨i, hi, rfl⟩ := List.getElem_of_mem hq
    rw [List.length_set] at hi
    by_cases e : p = i
    · subst e
      rw [List.getElem_set_self]
      exact upd_same _ _ _
    · rw [List.getElem_set_ne e]
      have hm : L[i]? = some L[i] := List.getElem?_eq_getElem hi
      rw [upd_other]
      · exact r.here _ (List.getElem_mem hi)
      · intro e2
        exact e (nodup_same r hp (show L[i]? = some (h, (L[i]).2) from by rw [hm, ← e2]))
  · by_cases e : y = h
    · subst e
      rw [upd_same] at hy
      cases hy
      exact List.mem_of_getElem? (List.getElem?_set_self hpl)
    · rw [upd_other _ _ e] at hy
      obtain ⟨i, hi, he⟩ := List.getElem_of_mem (r.all y k hy)
      have hne : p ≠ i := fun e2 => by
        subst e2
        have := (List.getElem?_eq_some_iff.1 hp).2
        rw [this] at he
        exact e (by injection he with h1 h2; exact h1.symm)
      have : (L.set p (h, m))[i]? = some (y, k) := by rw [List.getElem?_set_ne hne, List.getElem?_eq_getElem hi, he]
      exact List.mem_of_getElem? this
  · rw [List.map_set]
    have : (L.map (·.1)).set p h = L.map (·.1) := by
      refine set_same ?_
      rw [List.getElem?_map, hp]; rfl
    rw [this]; exact r.nodup
theorem rep_add (r : Lrep L f) {h : Nat} (hn : f h = none) (n : NV) : Lrep (L ++ [(h, n)]) (upd f h (some n)) := by
  have hno : ∀ q ∈ L, q.1 ≠ h := fun q hq e => by have := r.here q hq; rw [e, hn] at this; cases this
  refine ⟨fun q hq => ?_, fun y k hy => ?_, ?_⟩
  · rcases List.mem_append.1 hq with hq | hq
    · rw [upd_other _ _ (hno q hq)]; exact r.here q hq
    · obtain rfl : q = (h, n) := by simpa using hq
      exact upd_same _ _ _
  · by_cases e : y = h
    · subst e
      rw [upd_same] at hy; cases hy
      exact List.mem_append_right _ (by simp)
    · rw [upd_other _ _ e] at hy
      exact List.mem_append_left _ (r.all y k hy)
  · rw [List.map_append]
    refine List.nodup_append.2 ⟨r.nodup, by simp, fun a ha b hb => ?_⟩
    obtain ⟨q, hq, rfl⟩ := List.mem_map.1 ha
    obtain rfl : b = h := by simpa using hb
    exact hno q hq
theorem rep_drop (r : Lrep L f) {p h : Nat} {n : NV} (hp : L[p]? = some (h, n)) : Lrep (L.take p ++ L.drop (p + 1)) (upd f h none) := by
  have hpl : p < L.length := (List.getElem?_eq_some_iff.1 hp).1
  have hsplit : L = L.take p ++ (h, n) :: L.drop (p + 1) := by
    have h1 : L[p] = (h, n) := (List.getElem?_eq_some_iff.1 hp).2
    have := List.drop_eq_getElem_cons hpl
    rw [h1] at this
    rw [← this, List.take_append_drop]
  have hnd := r.nodup
  rw [hsplit, List.map_append, List.map_cons] at hnd
  obtain ⟨n1, n2, n3⟩ := List.nodup_append.1 hnd
  obtain ⟨n4, n5⟩ := List.nodup_cons.1 n2
  have hmem : ∀ q, q ∈ L.take p ++ L.drop (p + 1) → q ∈ L ∧ q.1 ≠ h := by
    intro q hq
    rcases List.mem_append.1 hq with hq | hq
    · exact ⟨List.mem_of_mem_take hq, fun e => n3 _ (List.mem_map.2 ⟨q, hq, rfl⟩) h (List.mem_cons_self ..) e⟩
    · exact ⟨List.mem_of_mem_drop hq, fun e => n4 (List.mem_map.2 ⟨q, hq, e⟩)⟩
  refine ⟨fun q hq => ?_, fun y k hy => ?_, ?_⟩
  · obtain ⟨h1, h2⟩ := hmem q hq
    rw [upd_other _ _ h2]; exact r.here q h1
  · by_cases e : y = h
    · subst e; rw [upd_same] at hy; cases hy
    · rw [upd_other _ _ e] at hy
      have := r.all y k hy
      rw [hsplit] at this
      rcases List.mem_append.1 this with q | q
      · exact List.mem_append_left _ q
      · rcases List.mem_cons.1 q with q | q
        · exact absurd (by injection q with q1 q2) e
        · exact List.mem_append_right _ q
  · rw [List.map_append]
    exact List.nodup_append.2 ⟨n1, n5, fun a ha b hb => n3 a ha b (List.mem_cons_of_mem _ hb)⟩
end

def rcCells (c : CfgV) (ar : Nat) (la : Option Addr) (n lc : Nat) : Array Value := #[.int .i64 c.tasks, .int .i64 c.active, .int .i64 c.keys, .int .i64 c.depth, .int .i64 c.ts, .int .i64 c.keyLen, .int .i64 c.valLen, .int .i64 c.fan, .pointer (some ⟨ar, 0, none⟩), .slice la n lc]
def tRow17 (x : Nat) (c : CfgV) (ar : Nat) (la : Option Addr) (n lc : Nat) : Thing := tRow x (rcCells c ar la n lc) 105
def tSlots (la : Option Addr) (n lc : Nat) (L : List (Nat × NV)) : Thing := tSl la n lc 111 6 (L.flatMap slotL)
/-- Among the things there is a reference engine: its row at i, its arena at j, its slots somewhere. -/
structure RcAt (Ts : List Thing) (i j x : Nat) (c : CfgV) (lim N : Nat) (t : CS) (k ar : Nat) (la : Option Addr) (lc : Nat) (L : List (Nat × NV)) : Prop where
  row : Ts[i]? = some (tRow17 x c ar la L.length lc)
  ref : Ts[j]? = some (tRef ar N t.s.blank)
  sl : Ts[k]? = some (tSlots la L.length lc L)
  ij : i ≠ j
  ki : k ≠ i
  kj : k ≠ j
  rep : Lrep L t.f
  cnt : L.length = t.s.used
  lo : 4 ≤ k
def RcIn (Ts : List Thing) (i j x : Nat) (c : CfgV) (lim N : Nat) (t : CS) : Prop := ∃ k ar la lc L, RcAt Ts i j x c lim N t k ar la lc L
/-- All things but those at i and j are where they were. -/
def Stay (i j : Nat) (Ts Us : List Thing) : Prop := ∀ m T, m ≠ i → m ≠ j → Ts[m]? = some T → Us[m]? = some T
theorem Stay.refl (i j : Nat) (Ts : List Thing) : Stay i j Ts Ts := fun _ _ _ _ h => h
theorem slotL_len (p : Nat × NV) : (slotL p).length = 6 := rfl
theorem slotL_one (p : Nat × NV) (u : Value) (h : u ∈ slotL p) : u.oneCell' = true := by
  unfold slotL at h
  simp only [List.mem_cons, List.not_mem_nil, or_false] at h
  rcases h with rfl | rfl | rfl | rfl | rfl | rfl <;> rfl
theorem slot_info : (Try.prog.info? 111).map (fun i => (i.zero, i.size, i.bytes)) = some (some (.agg #[.int .u64 0, .int .i64 0, .int .i64 0, .bool false, .string ⟨#[]⟩, .int .u64 0]), 6, 56) := by kernel_rfl
end Go.Proofs.Yteefcfndlggajaa
namespace Go.Proofs.Yteefcfndlggajaa
open Go.RowKit
set_option linter.unusedVariables false
set_option linter.unusedSimpArgs false
set_option maxRecDepth 100000

theorem slots_set : ∀ (L : List (Nat × NV)) (p hd : Nat) (n m : NV), L[p]? = some (hd, n) →
    (((((L.flatMap slotL).set (p * 6 + 1) (.int .i64 (m.wr : Int))).set (p * 6 + 2) (.int .i64 (m.ts : Int))).set (p * 6 + 3) (.bool m.tomb)).set (p * 6 + 4) (.string m.val)).set (p * 6 + 5) (.int .u64 (m.nx : Int)) = (L.set p (hd, m)).flatMap slotL
  | [], p, hd, n, m, h => by simp at h
  | q :: r, 0, hd, n, m, h => by
    obtain rfl : q = (hd, n) := by simpa using h
    simp [List.flatMap_cons, slotL]
  | q :: r, p + 1, hd, n, m, h => by
    have ih := slots_set r p hd n m (by simpa using h)
    rw [List.set_cons_succ, List.flatMap_cons, List.flatMap_cons, ← ih]
    have e : ∀ j, (p + 1) * 6 + j = (p * 6 + j) + 6 := fun j => by omega
    rw [e 1, e 2, e 3, e 4, e 5]
    simp [slotL]
theorem fr_set5 {F : Nat → Prop} {w w1 : World} {b i0 i1 i2 i3 i4 : Nat} {v0 v1 v2 v3 v4 : Value} (h : Fr F w w1) (hb : F b) : Fr F w (((((w1.setCell ⟨b, i0, none⟩ v0).setCell ⟨b, i1, none⟩ v1).setCell ⟨b, i2, none⟩ v2).setCell ⟨b, i3, none⟩ v3).setCell ⟨b, i4, none⟩ v4) :=
  Fr.setCell_r (Fr.setCell_r (Fr.setCell_r (Fr.setCell_r (Fr.setCell_r h ⟨b, i0, none⟩ v0 (fun _ => hb)) ⟨b, i1, none⟩ v1 (fun _ => hb)) ⟨b, i2, none⟩ v2 (fun _ => hb)) ⟨b, i3, none⟩ v3 (fun _ => hb)) ⟨b, i4, none⟩ v4 (fun _ => hb)
set_option maxHeartbeats 4000000 in
theorem bg_rset {W w : World} {Ts : List Thing} (h : Bag W Ts w) {i k x ar : Nat} {c : CfgV} {la : Option Addr} {lc : Nat} {L : List (Nat × NV)} (hi : Ts[i]? = some (tRow17 x c ar la L.length lc)) (hk : Ts[k]? = some (tSlots la L.length lc L)) (hL : L.length ≤ 100000) {p hd : Nat} {n m : NV} (hp : L[p]? = some (hd, n)) :
    Calls Try.prog 82 #[.pointer (some ⟨x, 0, none⟩), .int .i64 (p : Int), .agg m.cells] w fun e w' => e = .returned (.tuple #[]) ∧ ∃ la' lc', Bag W (Ts.set i (tRow17 x c ar la' L.length lc') ++ [tSlots la' L.length lc' (L.set p (hd, m))]) w' := by
  have hr := h.row hi
  have hs := h.sl hk
  have hil : i < Ts.length := (List.getElem?_eq_some_iff.1 hi).1
  have hpl : p < L.length := (List.getElem?_eq_some_iff.1 hp).1
  have HB := Lib.hid h
  have HI := Lib.hid hi
  have HIL := Lib.hid hil
  have HS := Lib.hid hs
  have HP := Lib.hid hp
  have HR := Lib.hid hr
  obtain ⟨n0, hn0⟩ : ∃ n0, n0 = L.length := ⟨_, rfl⟩
  have HN := Lib.hid hn0
  have hn0b : n0 ≤ 100000 := by omega
  have hpn : p < n0 := by omega
  have c9 : w.cell? ⟨x, 9, none⟩ = some (.slice la n0 lc) := by rw [hn0]; exact hr.cell 9
  clear h hi hk hL hp hr hs hil hpl hn0
  have c9' : ∀ o o' : Obj, ((w.alloc o).alloc o').cell? ⟨x, 9, none⟩ = some (.slice la n0 lc) := fun o o' => ((Fr.alloc none_ w o).alloc_r o').keep c9
  unfold NV.cells
  go_enter Try.func82, Try.ntmps82
  go_wp2_with ((with_reducible refine at_slot 12 ?_); refine Stop.mk ?_)
  show wpList _ _ _ _ _ _
  obtain ⟨wa, hwa⟩ : ∃ wa : World, wa = w.alloc (.cells #[.int .i64 (m.wr : Int), .int .i64 (m.ts : Int), .bool m.tomb, .string m.val, .int .u64 (m.nx : Int)] 67) := ⟨_, rfl⟩
  have za : wa.heap.size = w.heap.size + 1 := by rw [hwa]; simp
  have fa : Fr none_ w wa := by rw [hwa]; exact Fr.alloc _ _ _
  have ra : Row wa w.heap.size #[.int .i64 (m.wr : Int), .int .i64 (m.ts : Int), .bool m.tomb, .string m.val, .int .u64 (m.nx : Int)] 67 := by rw [hwa]; exact Row.new _ _ _
  have MD := Lib.hid (SlAt.made' wa 111 6)
  rw [za] at MD
  have fb := Fr.alloc none_ wa (.cells #[] 111)
  rw [← hwa]
  have FA := Lib.hid (fa.trans fb)
  have RA := Lib.hid (ra.kept fb (fun e => e))
  clear hwa fa ra fb c9'
  generalize (wa.alloc (.cells #[] 111)) = wb at MD FA RA ⊢
  clear za
  refine wpAppendLn rfl _ _ _ rfl 111 (.agg #[.int .u64 0, .int .i64 0, .int .i64 0, .bool false, .string ⟨#[]⟩, .int .u64 0]) 6 56 Try.underlying103 slot_info rfl MD.out ((HS.out.ls slotL_len rfl).kept0 FA.out) HN.out slotL_len slotL_one rfl rfl (by simp [maxLen]; omega) (by omega) ?_
  intro a2 n2 lc2 w2 hn2 hs2 f2 hb2
  obtain rfl : n2 = n0 := by have := hn2.out; omega
  have F2 := Lib.hid (FA.out.step f2 (fun q hq e => by rw [blk_some] at e; omega))
  have RA2 := Lib.hid (RA.out.kept f2 (fun e => by rw [blk_some] at e; omega))
  have NB : ∀ q, blk a2 q → w.heap.size ≤ q := blk_new hb2 (by omega) FA.out.size
  have NX : ∀ q, blk a2 q → q ≠ w.heap.size := fun q hq e => by
    rcases hb2 q hq with r | r
    · rw [blk_some] at r; omega
    · have h1 : w.heap.size + 1 < wb.heap.size := MD.out.lt (w.heap.size + 1) ⟨_, rfl, rfl⟩
      omega
  have S2 := Lib.hid hs2
  have NB2 := Lib.hid NB
  have NX2 := Lib.hid NX
  have G2 : Hid (Bag W (Ts ++ [tSlots a2 n2 lc2 L]) w2) := Lib.hid (HB.out.add (T := tSlots a2 n2 lc2 L) (F := blk a2) F2.out ⟨by rw [List.nil_append] at hs2; exact hs2, rfl⟩ NB)
  have k9 : w2.cell? ⟨x, 9, none⟩ = some (.slice la n2 lc) := F2.out.keep c9
  have kf : w2.frozen? ⟨x, 9, none⟩ = false := (HR.out.kept F2.out (fun e => e)).free 9
  clear hn2 hs2 f2 hb2 NB NX MD FA RA c9 hn0b
  go_upto_region 2 with fail
  have G3 := Lib.hid (G2.out.setRow (i := i) (b := x) (cs := rcCells c ar la n2 lc) (t := 105) (by rw [List.getElem?_append_left HIL.out, HI.out]; unfold tRow17; rw [HN.out]) 9 (.slice a2 n2 lc2))
  have hxw : x < w.heap.size := HR.out.lt
  have f3 : Fr (one x) w2 (w2.setCell ⟨x, 9, none⟩ (.slice a2 n2 lc2)) := Fr.setCell _ _ _ _ (fun _ => rfl)
  have RA3 := Lib.hid (RA2.out.kept f3 (fun e => by unfold one at e; omega))
  have S3 := Lib.hid (S2.out.kept f3 (fun q hq e => by have := NB2.out q hq; unfold one at e; omega))
  have c9 : (w2.setCell ⟨x, 9, none⟩ (.slice a2 n2 lc2)).cell? ⟨x, 9, none⟩ = some (.slice a2 n2 lc2) := (G3.out.row (i := i) (by rw [List.getElem?_set_self (by rw [List.length_append]; have := HIL.out; omega)])).cell 9
  clear k9 kf hxw f3
  generalize (w2.setCell ⟨x, 9, none⟩ (.slice a2 n2 lc2)) = w3 at G3 RA3 S3 c9 ⊢

  obtain ⟨g, hg⟩ := S3.out.isAddr (by omega)
  subst hg
  have b0 : w3.cell? ⟨w.heap.size, 0, none⟩ = some (.int .i64 (m.wr : Int)) := RA3.out.cell 0
  have b1 : w3.cell? ⟨w.heap.size, 1, none⟩ = some (.int .i64 (m.ts : Int)) := RA3.out.cell 1
  have b2 : w3.cell? ⟨w.heap.size, 2, none⟩ = some (.bool m.tomb) := RA3.out.cell 2
  have b3 : w3.cell? ⟨w.heap.size, 3, none⟩ = some (.string m.val) := RA3.out.cell 3
  have b4 : w3.cell? ⟨w.heap.size, 4, none⟩ = some (.int .u64 (m.nx : Int)) := RA3.out.cell 4
  have tc : ∀ j v, (slotL (hd, n))[j]? = some v → w3.cell? ⟨g, p * 6 + j, none⟩ = some v := fun j v hv => S3.out.cell (by rw [List.nil_append]; exact flat_cells slotL 6 slotL_len L p (hd, n) HP.out j v hv)
  have t1 : w3.cell? ⟨g, p * 6 + 1, none⟩ = some (.int .i64 (n.wr : Int)) := tc 1 _ rfl
  have t2 : w3.cell? ⟨g, p * 6 + 2, none⟩ = some (.int .i64 (n.ts : Int)) := tc 2 _ rfl
  have t3 : w3.cell? ⟨g, p * 6 + 3, none⟩ = some (.bool n.tomb) := tc 3 _ rfl
  have t4 : w3.cell? ⟨g, p * 6 + 4, none⟩ = some (.string n.val) := tc 4 _ rfl
  have t5 : w3.cell? ⟨g, p * 6 + 5, none⟩ = some (.int .u64 (n.nx : Int)) := tc 5 _ rfl
  have u1 : w3.frozen? ⟨g, p * 6 + 1, none⟩ = false := S3.out.free _
  have u2 : w3.frozen? ⟨g, p * 6 + 2, none⟩ = false := S3.out.free _
  have u3 : w3.frozen? ⟨g, p * 6 + 3, none⟩ = false := S3.out.free _
  have u4 : w3.frozen? ⟨g, p * 6 + 4, none⟩ = false := S3.out.free _
  have u5 : w3.frozen? ⟨g, p * 6 + 5, none⟩ = false := S3.out.free _
  have FIN : Hid (∃ la' lc', Bag W (Ts.set i (tRow17 x c ar la' L.length lc') ++ [tSlots la' L.length lc' (L.set p (hd, m))]) ((((((w3.setCell ⟨g, p * 6 + 1, none⟩ (.int .i64 (m.wr : Int))).setCell ⟨g, p * 6 + 1 + 1, none⟩ (.int .i64 (m.ts : Int))).setCell ⟨g, p * 6 + 1 + 1 + 1, none⟩ (.bool m.tomb)).setCell ⟨g, p * 6 + 1 + 1 + 1 + 1, none⟩ (.string m.val)).setCell ⟨g, p * 6 + 1 + 1 + 1 + 1 + 1, none⟩ (.int .u64 (m.nx : Int))).drew)) := Lib.hid (by
    rw [← HN.out]
    have hG := G3.out
    rw [List.set_append_left _ _ HIL.out] at hG
    have hlen : (Ts.set i (tRow x ((rcCells c ar la n2 lc).setIfInBounds 9 (.slice (some ⟨g, 0, none⟩) n2 lc2)) 105)).length = Ts.length := List.length_set
    have ht : (Ts.set i (tRow x ((rcCells c ar la n2 lc).setIfInBounds 9 (.slice (some ⟨g, 0, none⟩) n2 lc2)) 105) ++ [tSlots (some ⟨g, 0, none⟩) n2 lc2 L])[Ts.length]? = some (tSlots (some ⟨g, 0, none⟩) n2 lc2 L) := by
      rw [List.getElem?_append_right (by omega), hlen, Nat.sub_self]; rfl
    have hT := hG.turn ht (T' := tSlots (some ⟨g, 0, none⟩) n2 lc2 (L.set p (hd, m))) (w' := (((((w3.setCell ⟨g, p * 6 + 1, none⟩ (.int .i64 (m.wr : Int))).setCell ⟨g, p * 6 + 1 + 1, none⟩ (.int .i64 (m.ts : Int))).setCell ⟨g, p * 6 + 1 + 1 + 1, none⟩ (.bool m.tomb)).setCell ⟨g, p * 6 + 1 + 1 + 1 + 1, none⟩ (.string m.val)).setCell ⟨g, p * 6 + 1 + 1 + 1 + 1 + 1, none⟩ (.int .u64 (m.nx : Int)))) (fun F hF => by
      obtain ⟨hF1, hF2⟩ := hF
      refine ⟨blk (some ⟨g, 0, none⟩), ⟨?_, rfl⟩, by rw [hF2]; exact fr_set5 (Fr.refl _ _) ⟨_, rfl, rfl⟩, fun q hq => Or.inl (by rw [hF2]; exact hq)⟩
      have := ((((hF1.setAt (p * 6 + 1) (.int .i64 (m.wr : Int))).setAt (p * 6 + 2) (.int .i64 (m.ts : Int))).setAt (p * 6 + 3) (.bool m.tomb)).setAt (p * 6 + 4) (.string m.val)).setAt (p * 6 + 5) (.int .u64 (m.nx : Int))
      rw [slots_set L p hd n m HP.out] at this
      exact this)
    rw [List.set_append_right _ _ (by omega), hlen, Nat.sub_self] at hT
    exact ⟨_, _, hT.keep0 (Fr.drew none_ _)⟩)
  clear tc NB2 NX2 RA2 S2 G2 F2 G3 S3
  go_region
  all_goals
    go_end0
    exact ⟨rfl, FIN.out⟩
end Go.Proofs.Yteefcfndlggajaa
