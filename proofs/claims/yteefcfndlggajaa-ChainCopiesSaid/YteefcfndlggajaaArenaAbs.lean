/-
  An arena as the document has it ('AS'): pages, how often each place was given, how many are used, the first page that may have room. Of states alone.
-/
import Derived.Test.YteefcfndlggajaaPagePure
import Derived.Test.YteefcfndlggajaaMaps
namespace Go.Proofs.Yteefcfndlggajaa
open Go.RowKit
set_option linter.unusedVariables false
set_option linter.unusedSimpArgs false

def mkH (n o g : Nat) : Nat := n * 281474976710656 + o * 4294967296 + g
def hN (h : Nat) : Nat := h / 281474976710656
def hO (h : Nat) : Nat := h / 4294967296 % 65536
def hG (h : Nat) : Nat := h % 4294967296
theorem hN_mk {n o g : Nat} (ho : o < 65536) (hg : g < 4294967296) : hN (mkH n o g) = n := by unfold hN mkH; omega
theorem hO_mk {n o g : Nat} (ho : o < 65536) (hg : g < 4294967296) : hO (mkH n o g) = o := by unfold hO mkH; omega
theorem hG_mk {n o g : Nat} (ho : o < 65536) (hg : g < 4294967296) : hG (mkH n o g) = g := by unfold hG mkH; omega
theorem mk_parts (h : Nat) : mkH (hN h) (hO h) (hG h) = h := by unfold mkH hN hO hG; omega

abbrev Place := UInt16 × UInt16
def pl (n o : Nat) : Place := (UInt16.ofNat n, UInt16.ofNat o)
theorem pl_inj {n o n' o' : Nat} (h1 : n < 65536) (h2 : o < 65536) (h3 : n' < 65536) (h4 : o' < 65536) : pl n o = pl n' o' ↔ n = n' ∧ o = o' := by
  unfold pl
  constructor
  · intro e
    simp only [Prod.mk.injEq] at e
    obtain ⟨e1, e2⟩ := e
    have e1 := congrArg UInt16.toNat e1
    have e2 := congrArg UInt16.toNat e2
    rw [UInt16.toNat_ofNat', UInt16.toNat_ofNat'] at e1 e2
    rw [Nat.mod_eq_of_lt (by omega), Nat.mod_eq_of_lt (by omega)] at e1 e2
    exact ⟨e1, e2⟩
  · rintro ⟨rfl, rfl⟩; rfl

structure AS where
  slot : Nat
  pages : List PS
  gen : List (Place × Nat)
  used : Nat
  first : Nat

def AS.new (slot : Nat) : AS := { slot := slot, pages := [], gen := [], used := 0, first := 0 }
def AS.genOf (s : AS) (n o : Nat) : Nat := (kvGet s.gen (pl n o)).getD 0
def full (slot : Nat) (p : PS) : Bool := decide (p.used = 4096 / slot)
/-- The first page from f on that has room. -/
def adv (slot : Nat) (pages : List PS) (f : Nat) : Nat := f + ((pages.drop f).takeWhile (full slot)).length

/-- Behind the search: the pages, with one more where none had room. -/
def AS.grown (s : AS) : List PS := if adv s.slot s.pages s.first = s.pages.length then s.pages ++ [PS.new s.slot] else s.pages
def AS.giveAt (s : AS) (f k : Nat) (p : PS) : AS :=
  { slot := s.slot, pages := s.grown.set f p, gen := kvPut s.gen (pl f (k * s.slot)) (s.genOf f (k * s.slot) + 1), used := s.used + 1, first := f }
def aAlloc (s : AS) : Nat × Nat × AS :=
  let f := adv s.slot s.pages s.first
  if f = s.pages.length ∧ s.pages.length = 4096 then (0, 41, { s with first := f })
  else match (s.grown[f]?).bind PS.alloc with
    | some (k, p) => (mkH f (k * s.slot) (s.genOf f (k * s.slot) + 1), 0, s.giveAt f k p)
    | none => (0, 41, s)
def aFind (s : AS) (h : Nat) : Option (List UInt8) := if s.genOf (hN h) (hO h) = hG h then (s.pages[hN h]?).bind (fun p => p.at_ (hO h)) else none
def AS.setPage (s : AS) (n : Nat) (f : PS → PS) : List PS := s.pages.modify n f
def aFree (s : AS) (h : Nat) : Nat × AS :=
  if (aFind s h).isSome then (0, { s with pages := s.pages.modify (hN h) (fun p => p.free (hO h / s.slot)), used := s.used - 1, first := min s.first (hN h) }) else (5, s)
def aRead (s : AS) (h : Nat) : List UInt8 × Nat := match aFind s h with | some bs => (bs, 0) | none => ([], 5)
def aWrite (s : AS) (h : Nat) (b : ByteArray) : Nat × AS :=
  if (aFind s h).isSome then (if b.size ≤ s.slot then (0, { s with pages := s.pages.modify (hN h) (fun p => p.write (hO h / s.slot) b) }) else (40, s)) else (5, s)

structure AS.WF (s : AS) : Prop where
  lo : 2 ≤ s.slot
  hi : s.slot ≤ 4096
  len : s.pages.length ≤ 4096
  pages : ∀ p ∈ s.pages, p.WF ∧ p.slot = s.slot
  used : s.used = (s.pages.map PS.used).sum
  first : s.first ≤ s.pages.length
  fulls : ∀ i p, i < s.first → s.pages[i]? = some p → full s.slot p = true
  gens : ∀ n o, n < 65536 → o < 65536 → s.genOf n o ≤ s.pages.length * 0 + s.genOf n o

theorem adv_le {slot : Nat} {pages : List PS} {f : Nat} (h : f ≤ pages.length) : f ≤ adv slot pages f ∧ adv slot pages f ≤ pages.length := by
  unfold adv
  have : ((pages.drop f).takeWhile (full slot)).length ≤ (pages.drop f).length := (List.takeWhile_sublist _).length_le
  rw [List.length_drop] at this
  omega
theorem adv_full {slot : Nat} {pages : List PS} {f i : Nat} {p : PS} (h1 : f ≤ i) (h2 : i < adv slot pages f) (hp : pages[i]? = some p) : full slot p = true := by
  unfold adv at h2
  have hi : i - f < ((pages.drop f).takeWhile (full slot)).length := by omega
  have hm : ((pages.drop f).takeWhile (full slot))[i - f]'hi ∈ (pages.drop f).takeWhile (full slot) := List.getElem_mem hi
  have hf := List.all_eq_true.1 (List.all_takeWhile (l := pages.drop f) (p := full slot)) _ hm
  have e : ((pages.drop f).takeWhile (full slot))[i - f]'hi = p := by
    have hpre := List.takeWhile_prefix (full slot) (l := pages.drop f)
    have := hpre.getElem hi
    rw [this]
    have hlt := (List.getElem?_eq_some_iff.1 hp).1
    rw [List.getElem_drop]
    have := (List.getElem?_eq_some_iff.1 hp).2
    rw [← this]
    congr 1; omega
  rw [e] at hf; exact hf
theorem adv_stop {slot : Nat} {pages : List PS} {f : Nat} {p : PS} (hp : pages[adv slot pages f]? = some p) : full slot p = false := by
  unfold adv at hp
  rw [← List.getElem?_drop] at hp
  generalize pages.drop f = l at hp
  induction l with
  | nil => simp at hp
  | cons x r ih =>
    rw [List.takeWhile_cons] at hp
    cases hx : full slot x with
    | true => rw [hx] at hp; simp only [if_true, List.length_cons, List.getElem?_cons_succ] at hp; exact ih hp
    | false => rw [hx] at hp; simp at hp; rw [← hp]; exact hx
/-- One page more is passed over. -/
theorem adv_step {slot : Nat} {pages : List PS} {f : Nat} {p : PS} (hp : pages[f]? = some p) (hf : full slot p = true) : adv slot pages f = adv slot pages (f + 1) := by
  have hlt := (List.getElem?_eq_some_iff.1 hp).1
  have e : pages.drop f = p :: pages.drop (f + 1) := by
    rw [List.drop_eq_getElem_cons hlt]
    have := (List.getElem?_eq_some_iff.1 hp).2
    rw [this]
  unfold adv
  rw [e, List.takeWhile_cons, if_pos hf, List.length_cons]; omega
theorem adv_here {slot : Nat} {pages : List PS} {f : Nat} (h : ∀ p, pages[f]? = some p → full slot p = false) : adv slot pages f = f := by
  unfold adv
  cases hd : pages.drop f with
  | nil => rfl
  | cons x r =>
    have hx : pages[f]? = some x := by
      have := congrArg (fun l => l[0]?) hd
      simpa using this
    rw [List.takeWhile_cons, if_neg (by rw [h x hx]; simp)]; rfl
end Go.Proofs.Yteefcfndlggajaa
