/-
  An arena as the document has it ('AS'): pages, how often each place was given, how many are used, the first page that may have room. Of states alone.
  Of an arena's states: what is found behind each doing.
-/
import Derived.Test.YtckkccnebjacdaaGreatMgSlice
import Derived.Test.YtckkccnebjacdaaGreatMgOwn
namespace Go.Proofs.YtckkccnebjacdaaGreat
open Go.RowKit
set_option linter.unusedVariables false
set_option linter.unusedSimpArgs false

def mkH (n o g : Nat) : Nat := n * 281474976710656 + o * 4294967296 + g
def hN (h : Nat) : Nat := h / 281474976710656
def hO (h : Nat) : Nat := h / 4294967296 % 65536
def hG (h : Nat) : Nat := h % 4294967296
theorem hN_mk {n o g : Nat} (ho : o < 65536) (hg : g < 4294967296) : hN (mkH n o g) = n := by unfold hN mkH; omega
theorem hO_mk {n o g : Nat} (ho : o < 65536) (hg : g < 4294967296) : hO (mkH n o g) = o := by unfold hO mkH; omega
theorem hG_mk {n o g : Nat} (ho : o < 65536) (hg : g < 4294967296) : hG (mkH n o g) = g := by unfold hG mkH; omega
theorem mk_parts (h : Nat) : mkH (hN h) (hO h) (hG h) = h := by unfold mkH hN hO hG; omega

abbrev Place := UInt16 × UInt16
def pl (n o : Nat) : Place := (UInt16.ofNat n, UInt16.ofNat o)
theorem pl_inj {n o n' o' : Nat} (h1 : n < 65536) (h2 : o < 65536) (h3 : n' < 65536) (h4 : o' < 65536) : pl n o = pl n' o' ↔ n = n' ∧ o = o' := by
  unfold pl
  constructor
  · intro e
    simp only [Prod.mk.injEq] at e
    obtain ⟨e1, e2⟩ := e
    have e1 := congrArg UInt16.toNat e1
    have e2 := congrArg UInt16.toNat e2
    rw [UInt16.toNat_ofNat', UInt16.toNat_ofNat'] at e1 e2
    rw [Nat.mod_eq_of_lt (by omega), Nat.mod_eq_of_lt (by omega)] at e1 e2
    exact ⟨e1, e2⟩
  · rintro ⟨rfl, rfl⟩; rfl

structure AS where
  slot : Nat
  pages : List PS
  gen : List (Place × Nat)
  used : Nat
  first : Nat

def AS.new (slot : Nat) : AS := { slot := slot, pages := [], gen := [], used := 0, first := 0 }
def AS.genOf (s : AS) (n o : Nat) : Nat := (kvGet s.gen (pl n o)).getD 0
def full (slot : Nat) (p : PS) : Bool := decide (p.used = 4096 / slot)
/-- The first page from f on that has room. -/
def adv (slot : Nat) (pages : List PS) (f : Nat) : Nat := f + ((pages.drop f).takeWhile (full slot)).length

/-- Behind the search: the pages, with one more where none had room. -/
def AS.grown (s : AS) : List PS := if adv s.slot s.pages s.first = s.pages.length then s.pages ++ [PS.new s.slot] else s.pages
def AS.giveAt (s : AS) (f k : Nat) (p : PS) : AS :=
  { slot := s.slot, pages := s.grown.set f p, gen := kvPut s.gen (pl f (k * s.slot)) (s.genOf f (k * s.slot) + 1), used := s.used + 1, first := f }
def aAlloc (s : AS) : Nat × Nat × AS :=
  let f := adv s.slot s.pages s.first
  if f = s.pages.length ∧ s.pages.length = 4096 then (0, 41, { s with first := f })
  else match (s.grown[f]?).bind PS.alloc with
    | some (k, p) => (mkH f (k * s.slot) (s.genOf f (k * s.slot) + 1), 0, s.giveAt f k p)
    | none => (0, 41, s)
def aFind (s : AS) (h : Nat) : Option (List UInt8) := if s.genOf (hN h) (hO h) = hG h then (s.pages[hN h]?).bind (fun p => p.at_ (hO h)) else none
def AS.setPage (s : AS) (n : Nat) (f : PS → PS) : List PS := s.pages.modify n f
def aFree (s : AS) (h : Nat) : Nat × AS :=
  if (aFind s h).isSome then (0, { s with pages := s.pages.modify (hN h) (fun p => p.free (hO h / s.slot)), used := s.used - 1, first := min s.first (hN h) }) else (5, s)
def aRead (s : AS) (h : Nat) : List UInt8 × Nat := match aFind s h with | some bs => (bs, 0) | none => ([], 5)
def aWrite (s : AS) (h : Nat) (b : ByteArray) : Nat × AS :=
  if (aFind s h).isSome then (if b.size ≤ s.slot then (0, { s with pages := s.pages.modify (hN h) (fun p => p.write (hO h / s.slot) b) }) else (40, s)) else (5, s)

structure AS.WF (s : AS) : Prop where
  lo : 2 ≤ s.slot
  hi : s.slot ≤ 4096
  len : s.pages.length ≤ 4096
  pages : ∀ p ∈ s.pages, p.WF ∧ p.slot = s.slot
  used : s.used = (s.pages.map PS.used).sum
  first : s.first ≤ s.pages.length
  fulls : ∀ i p, i < s.first → s.pages[i]? = some p → full s.slot p = true
  gens : ∀ n o, n < 65536 → o < 65536 → s.genOf n o ≤ s.pages.length * 0 + s.genOf n o

theorem adv_le {slot : Nat} {pages : List PS} {f : Nat} (h : f ≤ pages.length) : f ≤ adv slot pages f ∧ adv slot pages f ≤ pages.length := by
  unfold adv
  have : ((pages.drop f).takeWhile (full slot)).length ≤ (pages.drop f).length := (List.takeWhile_sublist _).length_le
  rw [List.length_drop] at this
  omega
theorem adv_full {slot : Nat} {pages : List PS} {f i : Nat} {p : PS} (h1 : f ≤ i) (h2 : i < adv slot pages f) (hp : pages[i]? = some p) : full slot p = true := by
  unfold adv at h2
  have hi : i - f < ((pages.drop f).takeWhile (full slot)).length := by omega
  have hm : ((pages.drop f).takeWhile (full slot))[i - f]'hi ∈ (pages.drop f).takeWhile (full slot) := List.getElem_mem hi
  have hf := List.all_eq_true.1 (List.all_takeWhile (l := pages.drop f) (p := full slot)) _ hm
  have e : ((pages.drop f).takeWhile (full slot))[i - f]'hi = p := by
    have hpre := List.takeWhile_prefix (full slot) (l := pages.drop f)
    have := hpre.getElem hi
    rw [this]
    have hlt := (List.getElem?_eq_some_iff.1 hp).1
    rw [List.getElem_drop]
    have := (List.getElem?_eq_some_iff.1 hp).2
    rw [← this]
    congr 1; omega
  rw [e] at hf; exact hf
theorem adv_stop {slot : Nat} {pages : List PS} {f : Nat} {p : PS} (hp : pages[adv slot pages f]? = some p) : full slot p = false := by
  unfold adv at hp
  rw [← List.getElem?_drop] at hp
  generalize pages.drop f = l at hp
  induction l with
  | nil => simp at hp
  | cons x r ih =>
    rw [List.takeWhile_cons] at hp
    cases hx : full slot x with
    | true => rw [hx] at hp; simp only [if_true, List.length_cons, List.getElem?_cons_succ] at hp; exact ih hp
    | false => rw [hx] at hp; simp at hp; rw [← hp]; exact hx
/-- One page more is passed over. -/
theorem adv_step {slot : Nat} {pages : List PS} {f : Nat} {p : PS} (hp : pages[f]? = some p) (hf : full slot p = true) : adv slot pages f = adv slot pages (f + 1) := by
  have hlt := (List.getElem?_eq_some_iff.1 hp).1
  have e : pages.drop f = p :: pages.drop (f + 1) := by
    rw [List.drop_eq_getElem_cons hlt]
    have := (List.getElem?_eq_some_iff.1 hp).2
    rw [this]
  unfold adv
  rw [e, List.takeWhile_cons, if_pos hf, List.length_cons]; omega
theorem adv_here {slot : Nat} {pages : List PS} {f : Nat} (h : ∀ p, pages[f]? = some p → full slot p = false) : adv slot pages f = f := by
  unfold adv
  cases hd : pages.drop f with
  | nil => rfl
  | cons x r =>
    have hx : pages[f]? = some x := by
      have := congrArg (fun l => l[0]?) hd
      simpa using this
    rw [List.takeWhile_cons, if_neg (by rw [h x hx]; simp)]; rfl
end Go.Proofs.YtckkccnebjacdaaGreat
namespace Go.Proofs.YtckkccnebjacdaaGreat
open Go.RowKit
set_option linter.unusedVariables false
set_option linter.unusedSimpArgs false

theorem at_new (slot o : Nat) : (PS.new slot).at_ o = none := by unfold PS.at_ PS.new; simp

/-- What an Alloc comes to: all is used, or a place is given. -/
theorem aAlloc_cases {s : AS} (hw : s.WF) :
    (s.pages.length = 4096 ∧ adv s.slot s.pages s.first = 4096 ∧ aAlloc s = (0, 41, { s with first := adv s.slot s.pages s.first })) ∨
    ∃ f k q q', f < 4096 ∧ f = adv s.slot s.pages s.first ∧ s.grown[f]? = some q ∧ q.WF ∧ q.slot = s.slot ∧ q.alloc = some (k, q') ∧ (∀ o, q.at_ o = ((s.pages[f]?).bind fun p => p.at_ o)) ∧ (∀ n, n ≠ f → s.grown[n]? = s.pages[n]?) ∧
      aAlloc s = (mkH f (k * s.slot) (s.genOf f (k * s.slot) + 1), 0, s.giveAt f k q') := by
  have hle := adv_le (slot := s.slot) (pages := s.pages) hw.first
  obtain ⟨f, hf⟩ : ∃ f, f = adv s.slot s.pages s.first := ⟨_, rfl⟩
  rw [← hf] at hle
  by_cases he : f = s.pages.length
  · by_cases hm : s.pages.length = 4096
    · left
      refine ⟨hm, by rw [← hf, he, hm], ?_⟩
      unfold aAlloc
      simp only [← hf]
      rw [if_pos ⟨he, hm⟩]
    · right
      have hg : s.grown = s.pages ++ [PS.new s.slot] := by unfold AS.grown; rw [← hf, if_pos he]
      have ha : (PS.new s.slot).alloc = some (0, { slot := s.slot, slots := [some (zeros s.slot)], back := [] }) := by
        unfold PS.new PS.alloc
        simp only [List.length_nil, List.nil_append]
        rw [if_pos (by have := hw.hi; omega)]
      have hfg : s.grown[f]? = some (PS.new s.slot) := by rw [hg, he]; exact List.getElem?_concat_length
      refine ⟨f, 0, PS.new s.slot, _, by have := hw.len; omega, hf, hfg, PS.WF.new hw.lo hw.hi, rfl, ha, ?_, ?_, ?_⟩
      · intro o; rw [at_new, List.getElem?_eq_none (by omega)]; rfl
      · intro n hn
        rw [hg]
        by_cases h1 : n < s.pages.length
        · rw [List.getElem?_append_left h1]
        · rw [List.getElem?_eq_none (by simp; omega), List.getElem?_eq_none (by omega)]
      · unfold aAlloc
        simp only [← hf]
        rw [if_neg (fun h => hm h.2), hfg]
        simp only [Option.bind_some, ha]
  · right
    have hlt : f < s.pages.length := by omega
    have hg : s.grown = s.pages := by unfold AS.grown; rw [← hf, if_neg he]
    obtain ⟨q, hq⟩ : ∃ q, s.pages[f]? = some q := ⟨_, List.getElem?_eq_getElem hlt⟩
    have hqw := hw.pages q (List.mem_of_getElem? hq)
    have hfu : full s.slot q = false := by
      have := adv_stop (slot := s.slot) (pages := s.pages) (f := s.first) (p := q) (by rw [← hf]; exact hq)
      exact this
    have hai := hqw.1.alloc_iff
    have hlt2 : q.used < 4096 / q.slot := by
      have h1 : q.used ≤ 4096 / q.slot := by
        have := used_le q
        have := (Nat.le_div_iff_mul_le (k := q.slot) (x := q.slots.length) (y := 4096) (by have := hqw.1.lo; omega)).2 hqw.1.fit
        omega
      unfold full at hfu
      have := of_decide_eq_false hfu
      rw [hqw.2] at h1 ⊢; omega
    rw [decide_eq_true hlt2] at hai
    obtain ⟨⟨k, q'⟩, ha⟩ := Option.isSome_iff_exists.1 hai
    refine ⟨f, k, q, q', by have := hw.len; omega, hf, by rw [hg]; exact hq, hqw.1, hqw.2, ha, fun o => by rw [hq]; rfl, fun n _ => by rw [hg], ?_⟩
    unfold aAlloc
    simp only [← hf]
    rw [if_neg (fun h => he h.1), hg, hq]
    simp only [Option.bind_some, ha]

theorem genOf_put (s : AS) {f o n oo : Nat} (v : Nat) (h1 : f < 65536) (h2 : o < 65536) (h3 : n < 65536) (h4 : oo < 65536) (t : AS) (ht : t.gen = kvPut s.gen (pl f o) v) : t.genOf n oo = if n = f ∧ oo = o then v else s.genOf n oo := by
  unfold AS.genOf
  rw [ht, kvGet_put]
  by_cases e : n = f ∧ oo = o
  · rw [if_pos ((pl_inj h1 h2 h3 h4).2 ⟨e.1.symm, e.2.symm⟩), if_pos e]; rfl
  · rw [if_neg (fun q => e ⟨((pl_inj h1 h2 h3 h4).1 q).1.symm, ((pl_inj h1 h2 h3 h4).1 q).2.symm⟩), if_neg e]

/-- What is found behind an Alloc. -/
theorem aAlloc_find {s : AS} {f k : Nat} {q q' : PS} (hw : s.WF) (hf : f < 4096) (hfg : s.grown[f]? = some q) (hqw : q.WF) (hqs : q.slot = s.slot) (ha : q.alloc = some (k, q')) (hat : ∀ o, q.at_ o = ((s.pages[f]?).bind fun p => p.at_ o)) (hn : ∀ n, n ≠ f → s.grown[n]? = s.pages[n]?)
    (hgb : s.genOf f (k * s.slot) + 1 < 4294967296) (x : Nat) (hx : x < 18446744073709551616) :
    aFind (s.giveAt f k q') x = if x = mkH f (k * s.slot) (s.genOf f (k * s.slot) + 1) then some (zeros s.slot) else aFind s x := by
  obtain ⟨w1, w2, w3, w4, w5⟩ := hqw.alloc ha
  rw [hqs] at w2 w3 w4
  have hlo := hw.lo
  have ho : k * s.slot < 65536 := by omega
  generalize hoo : k * s.slot = o at *
  have hnx : hN x < 65536 := by unfold hN; omega
  have hox : hO x < 65536 := by unfold hO; omega
  have hgen := genOf_put s (f := f) (o := o) (n := hN x) (oo := hO x) (s.genOf f o + 1) (by omega) ho hnx hox (s.giveAt f k q') (by unfold AS.giveAt; rw [hoo])
  have hfl : f < s.grown.length := (List.getElem?_eq_some_iff.1 hfg).1
  have hpg : ∀ n, (s.giveAt f k q').pages[n]? = if n = f then some q' else s.pages[n]? := by
    intro n
    show (s.grown.set f q')[n]? = _
    by_cases e : n = f
    · subst e; rw [List.getElem?_set_self hfl, if_pos rfl]
    · rw [List.getElem?_set_ne (fun h => e h.symm), if_neg e, hn n e]
  unfold aFind
  rw [hpg]
  by_cases e1 : hN x = f
  · rw [if_pos e1]
    simp only [Option.bind_some, w3]
    by_cases e2 : hO x = o
    · have hg : (s.giveAt f k q').genOf (hN x) (hO x) = s.genOf f o + 1 := by rw [hgen, if_pos ⟨e1, e2⟩]
      have hold : ((s.pages[f]?).bind fun p => p.at_ o) = none := by rw [← hat, w2]
      rw [hg, e1, e2, hold]
      by_cases e3 : s.genOf f o + 1 = hG x
      · have hxe : x = mkH f o (s.genOf f o + 1) := by
          rw [← mk_parts x, e1, e2, ← e3]
        simp only [if_true]
        rw [if_pos e3, if_pos hxe]
      · have hxe : ¬ x = mkH f o (s.genOf f o + 1) := by
          intro h; apply e3; rw [h, hG_mk ho hgb]
        rw [if_neg e3, if_neg hxe]
        simp
    · have hg : (s.giveAt f k q').genOf (hN x) (hO x) = s.genOf (hN x) (hO x) := by rw [hgen, if_neg (fun h => e2 h.2)]
      have hxe : ¬ x = mkH f o (s.genOf f o + 1) := fun h => e2 (by rw [h, hO_mk ho hgb])
      rw [hg, if_neg e2, if_neg hxe, e1, hat]
  · have hg : (s.giveAt f k q').genOf (hN x) (hO x) = s.genOf (hN x) (hO x) := by rw [hgen, if_neg (fun h => e1 h.1)]
    have hxe : ¬ x = mkH f o (s.genOf f o + 1) := fun h => e1 (by rw [h, hN_mk ho hgb])
    rw [hg, if_neg e1, if_neg hxe]

theorem sum_set {l : List PS} {i : Nat} {a : PS} (h : l[i]? = some a) (b : PS) : ((l.set i b).map PS.used).sum + a.used = (l.map PS.used).sum + b.used := by
  induction l generalizing i with
  | nil => simp at h
  | cons c r ih =>
    cases i with
    | zero => simp at h; subst h; simp; omega
    | succ i =>
      simp only [List.getElem?_cons_succ] at h
      have := ih h
      simp only [List.set_cons_succ, List.map_cons, List.sum_cons]; omega
theorem mod_set {α : Type} {l : List α} {i : Nat} {q : α} (h : l[i]? = some q) (f : α → α) : l.modify i f = l.set i (f q) := by
  apply List.ext_getElem?
  intro j
  rw [List.getElem?_modify]
  by_cases e : i = j
  · subst e
    rw [List.getElem?_set_self (List.getElem?_eq_some_iff.1 h).1, h]; simp
  · rw [List.getElem?_set_ne e]; simp [e]
theorem mem_set_or {l : List PS} {i : Nat} {b p : PS} (h : p ∈ l.set i b) : p ∈ l ∨ p = b := List.mem_or_eq_of_mem_set h

theorem AS.WF.first_to {s : AS} (hw : s.WF) : AS.WF { s with first := adv s.slot s.pages s.first } := by
  have hle := adv_le (slot := s.slot) (pages := s.pages) hw.first
  refine ⟨hw.lo, hw.hi, hw.len, hw.pages, hw.used, hle.2, ?_, fun n o _ _ => by omega⟩
  intro i p hi hp
  by_cases h1 : i < s.first
  · exact hw.fulls i p h1 hp
  · exact adv_full (by omega) hi hp

theorem AS.WF.give {s : AS} {f k : Nat} {q q' : PS} (hw : s.WF) (hf : f < 4096) (hfa : f = adv s.slot s.pages s.first) (hfg : s.grown[f]? = some q) (hqw : q.WF) (hqs : q.slot = s.slot) (ha : q.alloc = some (k, q')) (hn : ∀ n, n ≠ f → s.grown[n]? = s.pages[n]?) : (s.giveAt f k q').WF := by
  obtain ⟨w1, w2, w3, w4, w5⟩ := hqw.alloc ha
  have hle := adv_le (slot := s.slot) (pages := s.pages) hw.first
  rw [← hfa] at hle
  have hgl : s.grown.length ≤ 4096 ∧ f < s.grown.length ∧ (s.grown.map PS.used).sum = (s.pages.map PS.used).sum ∧ ∀ p ∈ s.grown, p.WF ∧ p.slot = s.slot := by
    have hfl := (List.getElem?_eq_some_iff.1 hfg).1
    unfold AS.grown at hfl ⊢
    rw [← hfa] at hfl ⊢
    by_cases e : f = s.pages.length
    · rw [if_pos e] at hfl ⊢
      refine ⟨by simp; omega, hfl, by simp [PS.used, PS.new], fun p hp => ?_⟩
      rcases List.mem_append.1 hp with hp | hp
      · exact hw.pages p hp
      · simp at hp; subst hp; exact ⟨PS.WF.new hw.lo hw.hi, rfl⟩
    · rw [if_neg e] at hfl ⊢
      exact ⟨hw.len, hfl, rfl, hw.pages⟩
  obtain ⟨g1, g2, g3, g4⟩ := hgl
  have hs := sum_set hfg q'
  refine ⟨hw.lo, hw.hi, by show (s.grown.set f q').length ≤ 4096; rw [List.length_set]; exact g1, ?_, ?_, by show f ≤ (s.grown.set f q').length; rw [List.length_set]; omega, ?_, fun n o _ _ => by omega⟩
  · intro p hp
    rcases mem_set_or (show p ∈ s.grown.set f q' from hp) with hp | rfl
    · exact g4 p hp
    · exact ⟨w1, (alloc_slot ha).trans hqs⟩
  · show s.used + 1 = ((s.grown.set f q').map PS.used).sum
    have := hw.used; omega
  · intro i p hi hp
    have hi : i < f := hi
    have hp : (s.grown.set f q')[i]? = some p := hp
    rw [List.getElem?_set_ne (show f ≠ i by omega), hn i (show i ≠ f by omega)] at hp
    show full s.slot p = true
    by_cases h1 : i < s.first
    · exact hw.fulls i p h1 hp
    · exact adv_full (slot := s.slot) (f := s.first) (show s.first ≤ i by omega) (show i < adv s.slot s.pages s.first by omega) hp

theorem aAlloc_wf {s : AS} (hw : s.WF) : (aAlloc s).2.2.WF ∧ (aAlloc s).2.2.slot = s.slot := by
  rcases aAlloc_cases hw with ⟨_, _, e⟩ | ⟨f, k, q, q', h1, h2, h3, h4, h5, h6, _, h8, e⟩
  · rw [e]; exact ⟨hw.first_to, rfl⟩
  · rw [e]; exact ⟨hw.give h1 h2 h3 h4 h5 h6 h8, rfl⟩

theorem find_parts {s : AS} {h : Nat} {bs : List UInt8} (hf : aFind s h = some bs) : s.genOf (hN h) (hO h) = hG h ∧ ∃ q, s.pages[hN h]? = some q ∧ q.at_ (hO h) = some bs := by
  unfold aFind at hf
  split at hf
  · rename_i hg
    cases hq : s.pages[hN h]? with
    | none => rw [hq] at hf; simp at hf
    | some q => rw [hq] at hf; exact ⟨hg, q, rfl, hf⟩
  · simp at hf

/-- One page turned: what is found. -/
theorem find_turn {s t : AS} {n o : Nat} {q q' : PS} {v : Option (List UInt8)} (hq : s.pages[n]? = some q) (ht : t.pages = s.pages.set n q') (hg : t.gen = s.gen) (hat : ∀ x, q'.at_ x = if x = o then v else q.at_ x) (x : Nat) :
    aFind t x = if hN x = n ∧ hO x = o ∧ s.genOf n o = hG x then v else aFind s x := by
  have hgen : ∀ a b, t.genOf a b = s.genOf a b := fun a b => by unfold AS.genOf; rw [hg]
  have hlt := (List.getElem?_eq_some_iff.1 hq).1
  unfold aFind
  rw [hgen, ht]
  by_cases e1 : hN x = n
  · by_cases e2 : hO x = o
    · rw [e1, e2, List.getElem?_set_self hlt, hq]
      simp only [Option.bind_some, hat, if_true, true_and]
      split <;> simp_all
    · have hne : ¬ (hN x = n ∧ hO x = o ∧ s.genOf n o = hG x) := fun h => e2 h.2.1
      simp only [if_neg hne]
      rw [e1, List.getElem?_set_self hlt, hq]
      simp only [Option.bind_some, hat, if_neg e2]
  · have hne : ¬ (hN x = n ∧ hO x = o ∧ s.genOf n o = hG x) := fun h => e1 h.1
    simp only [if_neg hne]
    rw [List.getElem?_set_ne (fun h => e1 h.symm)]

theorem same_handle {s : AS} {h x : Nat} (hh : s.genOf (hN h) (hO h) = hG h) : (hN x = hN h ∧ hO x = hO h ∧ s.genOf (hN h) (hO h) = hG x) ↔ x = h := by
  constructor
  · rintro ⟨a, b, c⟩
    rw [← mk_parts x, ← mk_parts h, a, b, ← c, hh]
  · rintro rfl; exact ⟨rfl, rfl, hh⟩

theorem aFree_all {s : AS} (hw : s.WF) (h : Nat) : (aFree s h).2.WF ∧ (aFree s h).2.slot = s.slot ∧ (aFree s h).2.gen = s.gen ∧ ((aFind s h).isSome = true → ∀ x, aFind (aFree s h).2 x = if x = h then none else aFind s x) := by
  unfold aFree
  cases hf : aFind s h with
  | none => simp [hw]
  | some bs =>
    rw [if_pos (by simp)]
    obtain ⟨hg, q, hq, hat⟩ := find_parts hf
    obtain ⟨hqw, hqs⟩ := hw.pages q (List.mem_of_getElem? hq)
    obtain ⟨e0, hk⟩ := PS.at_some hat
    obtain ⟨f1, f2, f3⟩ := hqw.free hk
    rw [← e0] at f2
    rw [hqs] at f1 f2 f3
    have hm : s.pages.modify (hN h) (fun p => p.free (hO h / s.slot)) = s.pages.set (hN h) (q.free (hO h / s.slot)) := mod_set hq _
    have hs := sum_set hq (q.free (hO h / s.slot))
    have hlt := (List.getElem?_eq_some_iff.1 hq).1
    refine ⟨⟨hw.lo, hw.hi, ?_, ?_, ?_, ?_, ?_, fun n o _ _ => by omega⟩, rfl, rfl, fun _ x => ?_⟩
    · show (s.pages.modify _ _).length ≤ 4096; rw [hm, List.length_set]; exact hw.len
    · intro p hp
      have hp : p ∈ s.pages.modify (hN h) (fun p => p.free (hO h / s.slot)) := hp
      rw [hm] at hp
      rcases mem_set_or hp with hp | rfl
      · exact hw.pages p hp
      · exact ⟨f1, hqs⟩
    · show s.used - 1 = ((s.pages.modify _ _).map PS.used).sum
      rw [hm]; have := hw.used; omega
    · show min s.first (hN h) ≤ (s.pages.modify _ _).length
      rw [hm, List.length_set]; have := hw.first; omega
    · intro i p hi hp
      have hi : i < min s.first (hN h) := hi
      have hp : (s.pages.modify (hN h) (fun p => p.free (hO h / s.slot)))[i]? = some p := hp
      rw [hm, List.getElem?_set_ne (by omega)] at hp
      exact hw.fulls i p (by omega) hp
    · rw [find_turn (t := { s with pages := s.pages.modify (hN h) (fun p => p.free (hO h / s.slot)), used := s.used - 1, first := min s.first (hN h) }) hq hm rfl f2 x]
      by_cases e : x = h
      · rw [if_pos ((same_handle hg).2 e), if_pos e]
      · rw [if_neg (fun q => e ((same_handle hg).1 q)), if_neg e]

theorem aWrite_all {s : AS} (hw : s.WF) (h : Nat) (b : ByteArray) : (aWrite s h b).2.WF ∧ (aWrite s h b).2.slot = s.slot ∧ (aWrite s h b).2.gen = s.gen ∧ (∀ x, aFind (aWrite s h b).2 x = if x = h ∧ (aFind s h).isSome = true ∧ b.size ≤ s.slot then some (newBytes s.slot b) else aFind s x) := by
  unfold aWrite
  cases hf : aFind s h with
  | none => rw [if_neg (by simp)]; exact ⟨hw, rfl, rfl, fun x => by rw [if_neg (by simp)]⟩
  | some bs =>
    rw [if_pos (by simp)]
    by_cases hb : b.size ≤ s.slot
    · rw [if_pos hb]
      obtain ⟨hg, q, hq, hat⟩ := find_parts hf
      obtain ⟨hqw, hqs⟩ := hw.pages q (List.mem_of_getElem? hq)
      obtain ⟨e0, hk⟩ := PS.at_some hat
      obtain ⟨f1, f2, f3⟩ := hqw.write hk b (by rw [hqs]; exact hb)
      rw [← e0] at f2
      rw [hqs] at f1 f2 f3
      have hm : s.pages.modify (hN h) (fun p => p.write (hO h / s.slot) b) = s.pages.set (hN h) (q.write (hO h / s.slot) b) := mod_set hq _
      have hs := sum_set hq (q.write (hO h / s.slot) b)
      have hlt := (List.getElem?_eq_some_iff.1 hq).1
      refine ⟨⟨hw.lo, hw.hi, ?_, ?_, ?_, ?_, ?_, fun n o _ _ => by omega⟩, rfl, rfl, fun x => ?_⟩
      · show (s.pages.modify _ _).length ≤ 4096; rw [hm, List.length_set]; exact hw.len
      · intro p hp
        have hp : p ∈ s.pages.modify (hN h) (fun p => p.write (hO h / s.slot) b) := hp
        rw [hm] at hp
        rcases mem_set_or hp with hp | rfl
        · exact hw.pages p hp
        · exact ⟨f1, hqs⟩
      · show s.used = ((s.pages.modify _ _).map PS.used).sum
        rw [hm]; have := hw.used; omega
      · show s.first ≤ (s.pages.modify _ _).length
        rw [hm, List.length_set]; exact hw.first
      · intro i p hi hp
        have hp : (s.pages.modify (hN h) (fun p => p.write (hO h / s.slot) b))[i]? = some p := hp
        rw [hm] at hp
        by_cases e : hN h = i
        · rw [← e, List.getElem?_set_self hlt] at hp
          simp only [Option.some.injEq] at hp
          subst hp
          have := hw.fulls i q hi (by rw [← e]; exact hq)
          unfold full at this ⊢
          rw [f3]; exact this
        · rw [List.getElem?_set_ne e] at hp
          exact hw.fulls i p hi hp
      · rw [find_turn (t := { s with pages := s.pages.modify (hN h) (fun p => p.write (hO h / s.slot) b) }) hq hm rfl f2 x]
        by_cases e : x = h
        · rw [if_pos ((same_handle hg).2 e), if_pos ⟨e, by simp, hb⟩]
        · rw [if_neg (fun q => e ((same_handle hg).1 q)), if_neg (fun q => e q.1)]
    · rw [if_neg hb]; exact ⟨hw, rfl, rfl, fun x => by rw [if_neg (fun q => hb q.2.2)]⟩

/-- What is told by nobody is found by nobody; a place is given once more than it was. -/
theorem find_gen {s : AS} {x : Nat} (h : (aFind s x).isSome = true) : s.genOf (hN x) (hO x) = hG x := by
  obtain ⟨bs, hb⟩ := Option.isSome_iff_exists.1 h
  exact (find_parts hb).1
end Go.Proofs.YtckkccnebjacdaaGreat
