/-
  Package undo: the state of an engine ('US': an arena's, what each handle names, the segments), and what is done to it. Of states alone.
-/
import Derived.Test.YtckkccnebjacdaaGreatMgArUp
import Derived.Test.YtckkccnebjacdaaGreatMgDeltaP
namespace Go.Proofs.YtckkccnebjacdaaGreat
open Go.RowKit
set_option linter.unusedVariables false
set_option linter.unusedSimpArgs false
set_option maxRecDepth 100000

structure US where
  s : AS
  f : Nat → Option UV
  seg : Int → List Nat
def updU {K α : Type} [DecidableEq K] (f : K → α) (h : K) (v : α) : K → α := fun y => if y = h then v else f y
theorem updU_same {K α : Type} [DecidableEq K] (f : K → α) (h : K) (v : α) : updU f h v h = v := by unfold updU; rw [if_pos rfl]
theorem updU_other {K α : Type} [DecidableEq K] (f : K → α) {h y : K} (v : α) (hne : y ≠ h) : updU f h v y = f y := by unfold updU; rw [if_neg hne]
def UV.slot (vl : Nat) (n : UV) : List UInt8 := n.enc ++ zeros (32 + vl - (n.at_ + 2 + n.rest.size))
theorem uenc_fits {vl : Nat} {n : UV} (hn : n.Ok vl) : (strOf n.enc).size ≤ 32 + vl := by rw [strOf_size, n.enc_length]; exact hn.fits
theorem uenc_slot {vl : Nat} {n : UV} : newBytes (32 + vl) (strOf n.enc) = n.slot vl := by
  unfold newBytes UV.slot
  rw [strOf_size, n.enc_length]; rfl
theorem UV.slot_length {vl : Nat} {n : UV} (hn : n.Ok vl) : (n.slot vl).length = 32 + vl := by
  unfold UV.slot zeros
  rw [List.length_append, List.length_replicate, n.enc_length]
  have := hn.fits
  omega
structure US.Is (vl N : Nat) (t : US) : Prop where
  up : Upto N t.s
  slot : t.s.slot = 32 + vl
  find : ∀ h, h < 18446744073709551616 → aFind t.s h = (t.f h).map (UV.slot vl)
  ok : ∀ h n, t.f h = some n → n.Ok vl
  segl : ∀ k, (t.seg k).length ≤ N
  segh : ∀ k h, h ∈ t.seg k → h < 18446744073709551616
  segk : ∀ k, t.seg k ≠ [] → 1 ≤ k ∧ k < 9223372036854775808
  segf : ∀ k h, h ∈ t.seg k → ∃ n, t.f h = some n ∧ n.rcd = true ∧ (n.sg : Int) = k
  segb : ∀ h n, h < 18446744073709551616 → t.f h = some n → n.rcd = true → h ∈ t.seg (n.sg : Int)
  segn : ∀ k, (t.seg k).Nodup
def US.new (vl : Nat) : US := ⟨AS.new (32 + vl), fun _ => none, fun _ => []⟩
def US.more (t : US) (n : UV) (h : Nat) : Int → List Nat := if n.rcd then updU t.seg (n.sg : Int) (t.seg (n.sg : Int) ++ [h]) else t.seg
def US.less (t : US) (n : UV) (h : Nat) : Int → List Nat := if n.rcd then updU t.seg (n.sg : Int) ((t.seg (n.sg : Int)).filter (fun x => decide (x ≠ h))) else t.seg
def US.make (t : US) (n : UV) : Nat × Nat × US :=
  if (aAlloc t.s).2.1 = 0 then ((aAlloc t.s).1, 0, ⟨(aWrite (aAlloc t.s).2.2 (aAlloc t.s).1 (strOf n.enc)).2, updU t.f (aAlloc t.s).1 (some n), t.more n (aAlloc t.s).1⟩) else (0, (aAlloc t.s).2.1, ⟨(aAlloc t.s).2.2, t.f, t.seg⟩)
def US.set (t : US) (h : Nat) (n : UV) : US := ⟨(aWrite t.s h (strOf n.enc)).2, updU t.f h (some n), t.seg⟩
def US.free (t : US) (h : Nat) : Nat × US := match t.f h with | none => (5, t) | some n => (0, ⟨(aFree t.s h).2, updU t.f h none, t.less n h⟩)

theorem ufind_new (slot h : Nat) : aFind (AS.new slot) h = none := by
  unfold aFind
  split
  · rfl
  · rfl
theorem US.Is.new {vl : Nat} (hvl : vl ≤ 256) : (US.new vl).Is vl 0 :=
  ⟨Upto.new (by omega) (by omega), rfl, fun h _ => (by show aFind (AS.new (32 + vl)) h = none; exact ufind_new _ _), fun h n e => (nomatch e), fun k => Nat.le_refl _, fun k h hh => (nomatch hh), fun k hk => absurd rfl hk, fun k h hh => (nomatch hh), fun h n _ e => (nomatch e), fun k => List.nodup_nil⟩
theorem US.Is.more {vl N M : Nat} {t : US} (h : t.Is vl N) (hm : N ≤ M) : t.Is vl M := ⟨h.up.more hm, h.slot, h.find, h.ok, fun k => Nat.le_trans (h.segl k) hm, h.segh, h.segk, h.segf, h.segb, h.segn⟩

/-- A slot more. -/
structure US.Made (vl N : Nat) (t : US) (n : UV) (h : Nat) (t' : US) : Prop where
  lt : h < 18446744073709551616
  pos : h ≠ 0
  fresh : t.f h = none
  f : t'.f = updU t.f h (some n)
  seg : t'.seg = t.more n h
  used : t'.s.used = t.s.used + 1
  is_ : t'.Is vl (N + 1)

theorem uwrite_used {s : AS} (hw : s.WF) (h : Nat) (b : ByteArray) : (aWrite s h b).2.used = s.used := by
  have := (aWrite_old hw h b).used
  rw [if_neg (fun q => by have := q.1; split at this <;> cases this)] at this
  simpa using this
theorem US.Is.set {vl N : Nat} {t : US} (h : t.Is vl N) {hd : Nat} {m : UV} (hf : t.f hd = some m) (hh : hd < 18446744073709551616) {n : UV} (hn : n.Ok vl) (hr : n.rcd = m.rcd) (hg : n.sg = m.sg) : (t.set hd n).Is vl N ∧ (t.set hd n).s.used = t.s.used := by
  have hw := h.up.wf
  obtain ⟨w1, w2, w3, w4⟩ := aWrite_all hw hd (strOf n.enc)
  refine ⟨⟨h.up.write hd _, by show (aWrite t.s hd _).2.slot = _; rw [w2, h.slot], fun y hy => ?_, fun y m e => ?_, h.segl, h.segh, h.segk, fun k y hy => ?_, fun y n' hy e hn' => ?_, h.segn⟩, uwrite_used hw hd _⟩
  · show aFind (aWrite t.s hd _).2 y = (updU t.f hd (some n) y).map _
    rw [w4 y]
    by_cases e : y = hd
    · subst e
      rw [updU_same, if_pos ⟨rfl, by rw [h.find y hy, Option.isSome_map, hf]; rfl, by rw [h.slot]; exact uenc_fits hn⟩, h.slot, uenc_slot]; rfl
    · rw [updU_other _ _ e, if_neg (fun q => e q.1)]; exact h.find y hy
  · have e : updU t.f hd (some n) y = some m := e
    by_cases ey : y = hd
    · subst ey; rw [updU_same] at e; cases e; exact hn
    · rw [updU_other _ _ ey] at e; exact h.ok y m e
  · show ∃ n', updU t.f hd (some n) y = some n' ∧ _
    obtain ⟨n', q1, q2, q3⟩ := h.segf k y hy
    by_cases ey : y = hd
    · subst ey
      rw [hf] at q1; cases q1
      exact ⟨n, updU_same _ _ _, by rw [hr]; exact q2, by rw [hg]; exact q3⟩
    · exact ⟨n', by rw [updU_other _ _ ey]; exact q1, q2, q3⟩
  · have e : updU t.f hd (some n) y = some n' := e
    show y ∈ t.seg n'.sg
    by_cases ey : y = hd
    · subst ey
      rw [updU_same] at e; cases e
      rw [hg]; exact h.segb y m hy hf (by rw [← hr]; exact hn')
    · rw [updU_other _ _ ey] at e; exact h.segb y n' hy e hn'
theorem US.Is.free {vl N : Nat} {t : US} (h : t.Is vl N) {hd : Nat} (hh : hd < 18446744073709551616) : (t.free hd).2.Is vl N ∧ (t.free hd).2.s.used + (if (t.f hd).isSome = true then 1 else 0) = t.s.used ∧ ((t.free hd).1 = (aFree t.s hd).1) ∧ (t.free hd).2.s = (aFree t.s hd).2 := by
  have hw := h.up.wf
  have hfd := h.find hd hh
  unfold US.free
  cases e : t.f hd with
  | none =>
    rw [e] at hfd
    have : aFree t.s hd = (5, t.s) := by unfold aFree; rw [if_neg (by rw [hfd]; simp)]
    rw [this]
    exact ⟨h, by simp, rfl, rfl⟩
  | some n =>
    rw [e] at hfd
    have hs : (aFind t.s hd).isSome = true := by rw [hfd]; rfl
    obtain ⟨w1, w2, w3, w4⟩ := aFree_all hw hd
    have hu := (aFree_old hw hd).used
    rw [if_pos ⟨rfl, hs⟩] at hu
    have hsub : ∀ k, (t.less n hd k).Sublist (t.seg k) := fun k => by
      unfold US.less
      cases n.rcd with
      | false => exact List.Sublist.refl _
      | true =>
        show (updU t.seg (n.sg : Int) _ k).Sublist _
        by_cases ek : k = (n.sg : Int)
        · subst ek; rw [updU_same]; exact List.filter_sublist
        · rw [updU_other _ _ ek]; exact List.Sublist.refl _
    have hout : ∀ k, hd ∉ t.less n hd k := fun k hk => by
      have hm := (hsub k).subset hk
      obtain ⟨n', q1, q2, q3⟩ := h.segf k hd hm
      rw [e] at q1; cases q1
      unfold US.less at hk
      rw [q2] at hk
      rw [if_pos rfl, ← q3, updU_same] at hk
      simp at hk
    have hin : ∀ k y, y ∈ t.seg k → y ≠ hd → y ∈ t.less n hd k := fun k y hy hne => by
      unfold US.less
      cases n.rcd with
      | false => exact hy
      | true =>
        show y ∈ updU t.seg (n.sg : Int) _ k
        by_cases ek : k = (n.sg : Int)
        · subst ek; rw [updU_same]; exact List.mem_filter.2 ⟨hy, by simpa using hne⟩
        · rw [updU_other _ _ ek]; exact hy
    refine ⟨⟨h.up.free hd, by show (aFree t.s hd).2.slot = _; rw [w2, h.slot], fun y hy => ?_, fun y m e' => ?_, fun k => Nat.le_trans (hsub k).length_le (h.segl k), fun k y hy => h.segh k y ((hsub k).subset hy), fun k hk => h.segk k (fun q => hk (List.sublist_nil.1 (q ▸ hsub k))), fun k y hy => ?_, fun y n' hy e' hn' => ?_, fun k => (hsub k).nodup (h.segn k)⟩, by simpa using hu, ?_, rfl⟩
    · show aFind (aFree t.s hd).2 y = (updU t.f hd none y).map _
      rw [w4 hs y]
      by_cases ey : y = hd
      · subst ey; rw [updU_same, if_pos rfl]; rfl
      · rw [updU_other _ _ ey, if_neg ey]; exact h.find y hy
    · have e' : updU t.f hd none y = some m := e'
      by_cases ey : y = hd
      · subst ey; rw [updU_same] at e'; cases e'
      · rw [updU_other _ _ ey] at e'; exact h.ok y m e'
    · obtain ⟨n', q1, q2, q3⟩ := h.segf k y ((hsub k).subset hy)
      have ey : y ≠ hd := fun q => hout k (q ▸ hy)
      exact ⟨n', by show updU t.f hd none y = _; rw [updU_other _ _ ey]; exact q1, q2, q3⟩
    · have e' : updU t.f hd none y = some n' := e'
      have ey : y ≠ hd := fun q => by rw [q, updU_same] at e'; cases e'
      rw [updU_other _ _ ey] at e'
      exact hin _ y (h.segb y n' hy e' hn') ey
    · show 0 = (aFree t.s hd).1
      unfold aFree; rw [if_pos hs]
theorem US.Is.make {vl N : Nat} {t : US} (h : t.Is vl N) (hN : N < big) {n : UV} (hn : n.Ok vl) (hg : n.rcd = true → 1 ≤ n.sg) : (t.make n).2.1 = 0 ∧ (aAlloc t.s).2.1 = 0 ∧ t.Made vl N n (t.make n).1 (t.make n).2.2 ∨ (t.make n).2.1 = 41 ∧ (aAlloc t.s).2.1 = 41 ∧ (aAlloc t.s).1 = 0 ∧ (t.make n).1 = 0 ∧ t.s.pages.length = 4096 ∧ (t.make n).2.2 = ⟨(aAlloc t.s).2.2, t.f, t.seg⟩ ∧ (t.make n).2.2.Is vl (N + 1) ∧ (aAlloc t.s).2.2.used = t.s.used := by
  have hw := h.up.wf
  have hup := h.up.alloc
  rcases aAlloc_new h.up hN with ⟨e, r⟩ | ⟨e1, e2, e3, e4, e5⟩
  · left
    unfold US.make
    rw [if_pos e]
    refine ⟨rfl, e, ?_⟩
    have hsl : (aAlloc t.s).2.2.slot = 32 + vl := by rw [(aAlloc_wf hw).2, h.slot]
    have hfr := r.none
    rw [h.find _ r.lt] at hfr
    have hfr' : t.f (aAlloc t.s).1 = none := by
      cases e : t.f (aAlloc t.s).1 with
      | none => rfl
      | some m => rw [e] at hfr; cases hfr
    obtain ⟨w1, w2, w3, w4⟩ := aWrite_all hup.wf (aAlloc t.s).1 (strOf n.enc)
    have hni : ∀ k, (aAlloc t.s).1 ∉ t.seg k := fun k hk => by
      obtain ⟨n', q1, _⟩ := h.segf k _ hk
      rw [hfr'] at q1; cases q1
    have hcase : ∀ k, t.more n (aAlloc t.s).1 k = t.seg k ∨ n.rcd = true ∧ k = (n.sg : Int) ∧ t.more n (aAlloc t.s).1 k = t.seg k ++ [(aAlloc t.s).1] := fun k => by
      unfold US.more
      cases hr : n.rcd with
      | false => exact Or.inl rfl
      | true =>
        show updU t.seg (n.sg : Int) _ k = _ ∨ _
        by_cases ek : k = (n.sg : Int)
        · right; refine ⟨rfl, ek, ?_⟩; subst ek; exact updU_same _ _ _
        · left; exact updU_other _ _ ek
    refine ⟨r.lt, r.pos, hfr', rfl, rfl, ?_, hup.write _ _, by show (aWrite _ _ _).2.slot = _; rw [w2, hsl], fun y hy => ?_, fun y m e' => ?_, fun k => ?_, fun k y hy => ?_, fun k hk => ?_, fun k y hy => ?_, fun y n' hy e' hn' => ?_, fun k => ?_⟩
    · show (aWrite _ _ _).2.used = _
      rw [uwrite_used hup.wf]; exact r.used
    · show aFind (aWrite _ _ _).2 y = (updU t.f _ (some n) y).map _
      rw [w4 y]
      by_cases ey : y = (aAlloc t.s).1
      · subst ey
        rw [updU_same, if_pos ⟨rfl, by rw [r.find _ hy, if_pos rfl]; rfl, by rw [hsl]; exact uenc_fits hn⟩, hsl, uenc_slot]; rfl
      · rw [updU_other _ _ ey, if_neg (fun q => ey q.1), r.find y hy, if_neg ey]; exact h.find y hy
    · have e' : updU t.f _ (some n) y = some m := e'
      by_cases ey : y = (aAlloc t.s).1
      · rw [ey, updU_same] at e'; cases e'; exact hn
      · rw [updU_other _ _ ey] at e'; exact h.ok y m e'
    · show (t.more n _ k).length ≤ N + 1
      have := h.segl k
      rcases hcase k with q | ⟨_, _, q⟩ <;> rw [q]
      · omega
      · rw [List.length_append, List.length_singleton]; omega
    · have hy : y ∈ t.more n _ k := hy
      rcases hcase k with q | ⟨_, _, q⟩ <;> rw [q] at hy
      · exact h.segh k y hy
      · rcases List.mem_append.1 hy with hy | hy
        · exact h.segh k y hy
        · rw [List.mem_singleton.1 hy]; exact r.lt
    · have hk : t.more n _ k ≠ [] := hk
      rcases hcase k with q | ⟨q1, q2, q⟩
      · rw [q] at hk; exact h.segk k hk
      · have := hg q1; have := hn.sg; omega
    · have hy : y ∈ t.more n _ k := hy
      show ∃ n', updU t.f _ (some n) y = some n' ∧ _
      have old : y ∈ t.seg k → ∃ n', updU t.f (aAlloc t.s).1 (some n) y = some n' ∧ n'.rcd = true ∧ (n'.sg : Int) = k := fun hy => by
        obtain ⟨n', q1, q2, q3⟩ := h.segf k y hy
        have ey : y ≠ (aAlloc t.s).1 := fun q => hni k (q ▸ hy)
        exact ⟨n', by rw [updU_other _ _ ey]; exact q1, q2, q3⟩
      rcases hcase k with q | ⟨q1, q2, q⟩ <;> rw [q] at hy
      · exact old hy
      · rcases List.mem_append.1 hy with hy | hy
        · exact old hy
        · rw [List.mem_singleton.1 hy]; exact ⟨n, updU_same _ _ _, q1, q2.symm⟩
    · have e' : updU t.f _ (some n) y = some n' := e'
      show y ∈ t.more n _ (n'.sg : Int)
      by_cases ey : y = (aAlloc t.s).1
      · rw [ey, updU_same] at e'; cases e'
        unfold US.more
        rw [hn', if_pos rfl, updU_same, ey]; simp
      · rw [updU_other _ _ ey] at e'
        have hm := h.segb y n' hy e' hn'
        rcases hcase (n'.sg : Int) with q | ⟨_, _, q⟩ <;> rw [q]
        · exact hm
        · exact List.mem_append_left _ hm
    · show (t.more n _ k).Nodup
      rcases hcase k with q | ⟨_, _, q⟩ <;> rw [q]
      · exact h.segn k
      · rw [List.nodup_append]
        exact ⟨h.segn k, by simp, fun a ha b hb e => hni k (by rw [List.mem_singleton] at hb; subst hb; subst e; exact ha)⟩
  · right
    have hne : ¬ (aAlloc t.s).2.1 = 0 := by omega
    unfold US.make
    rw [if_neg hne]
    refine ⟨e1, e1, e2, rfl, e3, rfl, ⟨hup, by show (aAlloc t.s).2.2.slot = _; rw [(aAlloc_wf hw).2, h.slot], fun y hy => ?_, h.ok, fun k => Nat.le_succ_of_le (h.segl k), h.segh, h.segk, h.segf, h.segb, h.segn⟩, by rw [e5]⟩
    show aFind (aAlloc t.s).2.2 y = _
    rw [e5]; exact h.find y hy

/-! ### what the methods do -/
/-- A version that is told. -/
structure OV where
  wr : Nat
  tomb : Bool
  val : ByteArray
def UV.ov (n : UV) : OV := ⟨n.wr, n.tomb, n.rest⟩
def US.row (t : US) (h : Nat) : Option (OV × Nat) := match t.f h with
  | some n => if n.rcd then none else some (n.ov, n.nx)
  | none => none
def US.record (t : US) (h : Nat) (newer : List UInt8) : Option (OV × Nat) := match t.f h with
  | some n => if n.rcd then (match dApply newer n.rest.data.toList with
    | some v => some (⟨n.wr, n.tomb, strOf v⟩, n.nx)
    | none => none) else none
  | none => none
def US.walk (t : US) : Nat → Option (OV × Nat) → List OV
  | 0, _ => []
  | _ + 1, none => []
  | k + 1, some (v, nx) => v :: US.walk t k (t.record nx v.val.data.toList)
def US.list (t : US) (h : Nat) : List OV := t.walk t.s.used (t.row h)
def US.cut (t : US) (h : Nat) : Nat × US := match t.f h with
  | some n => if n.rcd then (0, t.set h { n with nx := 0 }) else (5, t)
  | none => (5, t)
def US.turn (t : US) (h : Nat) (m : UV) : Nat × US := match t.f h with
  | some n => if n.rcd then (5, t) else (0, t.set h m)
  | none => (5, t)
def US.pop (t : US) (w : Int) : Option Nat × US := match t.seg w with
  | [] => (none, t)
  | h :: _ => (some h, (t.free h).2)
end Go.Proofs.YtckkccnebjacdaaGreat
