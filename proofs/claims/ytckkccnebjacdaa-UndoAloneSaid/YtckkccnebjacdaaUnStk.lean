/-
  Package undo's statements: versions put on a row, one on the other ('Stk'); what is live ('Live'). Of states alone.
-/
import Derived.Test.YtckkccnebjacdaaUnBag
namespace Go.Proofs.Ytckkccnebjacdaa
open Go.RowKit
set_option linter.unusedVariables false
set_option linter.unusedSimpArgs false
set_option maxRecDepth 100000

/-! ### what is live -/
structure Live (t : US) (L : List Nat) : Prop where
  nd : L.Nodup
  used : t.s.used = L.length
  mem : ∀ y, t.f y ≠ none ↔ y ∈ L
  pos : ∀ y ∈ L, y ≠ 0 ∧ y < 18446744073709551616
theorem Live.new (vl : Nat) : Live (US.new vl) [] := ⟨List.nodup_nil, rfl, fun y => ⟨fun h => absurd rfl h, fun h => by simp at h⟩, fun y h => by simp at h⟩
theorem Live.zero {t : US} {L : List Nat} (h : Live t L) : t.f 0 = none := by
  cases e : t.f 0 with
  | none => rfl
  | some n => exact absurd rfl (h.pos 0 ((h.mem 0).1 (by rw [e]; simp))).1
theorem Live.made {vl N : Nat} {t t' : US} {L : List Nat} {n : UV} {hd : Nat} (h : Live t L) (m : t.Made vl N n hd t') : Live t' (hd :: L) := by
  have hn : hd ∉ L := fun e => (h.mem hd).2 e m.fresh
  refine ⟨List.nodup_cons.2 ⟨hn, h.nd⟩, by rw [m.used, h.used]; rfl, fun y => ?_, fun y hy => ?_⟩
  · rw [m.f]
    by_cases e : y = hd
    · subst e; rw [updU_same]; simp
    · rw [updU_other _ _ e, h.mem]; simp [e]
  · rcases List.mem_cons.1 hy with rfl | hy
    · exact ⟨m.pos, m.lt⟩
    · exact h.pos y hy
theorem Live.set {vl N : Nat} {t : US} {L : List Nat} {n m : UV} {hd : Nat} (h : Live t L) (hi : t.Is vl N) (hf : t.f hd = some m) : Live (t.set hd n) L := by
  refine ⟨h.nd, ?_, fun y => ?_, h.pos⟩
  · show (aWrite t.s hd (strOf n.enc)).2.used = _
    rw [uwrite_used hi.up.wf, h.used]
  · show updU t.f hd (some n) y ≠ none ↔ _
    by_cases e : y = hd
    · subst e; rw [updU_same, ← h.mem, hf]; simp
    · rw [updU_other _ _ e, h.mem]
theorem Live.free {vl N : Nat} {t : US} {L : List Nat} {hd : Nat} (h : Live t L) (hi : t.Is vl N) (hh : hd < 18446744073709551616) : Live (t.free hd).2 (L.filter (fun x => decide (x ≠ hd))) := by
  have hu := (hi.free hh).2.1
  have hl : (L.filter (fun x => decide (x ≠ hd))).length + (if (t.f hd).isSome = true then 1 else 0) = L.length := by
    have e1 : (L.filter (fun x => decide (x ≠ hd))) = L.erase hd := by
      rw [h.nd.erase_eq_filter]
      exact List.filter_congr fun x _ => by simp [bne]; rfl
    rw [e1]
    by_cases e : hd ∈ L
    · rw [List.length_erase_of_mem e, if_pos (by have := (h.mem hd).2 e; cases q : t.f hd with | none => exact absurd q this | some n => rfl)]
      have := List.length_pos_of_mem e
      omega
    · rw [List.erase_of_not_mem e, if_neg (fun q => e ((h.mem hd).1 (by intro z; rw [z] at q; cases q)))]; rfl
  refine ⟨h.nd.filter _, by have := h.used; omega, fun y => ?_, fun y hy => h.pos y (List.mem_filter.1 hy).1⟩
  have hf : (t.free hd).2.f = updU t.f hd none := by
    unfold US.free
    cases e : t.f hd with
    | none =>
      show t.f = _
      funext y
      by_cases q : y = hd
      · subst q; rw [updU_same, e]
      · rw [updU_other _ _ q]
    | some n => rfl
  rw [hf, List.mem_filter]
  by_cases e : y = hd
  · subst e; rw [updU_same]; simp
  · rw [updU_other _ _ e, h.mem]; simp [e]
theorem Live.le {t : US} {L l : List Nat} (h : Live t L) (hn : l.Nodup) (hl : ∀ y ∈ l, t.f y ≠ none) : l.length ≤ t.s.used := by
  rw [h.used]
  exact hn.length_le_of_subset (fun y hy => (h.mem y).1 (hl y hy))
theorem free_f (t : US) (hd : Nat) : (t.free hd).2.f = updU t.f hd none := by
  unfold US.free
  cases e : t.f hd with
  | none =>
    show t.f = _
    funext y
    by_cases q : y = hd
    · subst q; rw [updU_same, e]
    · rw [updU_other _ _ q]
  | some n => rfl

/-! ### how many pages -/
theorem upages_make {vl N : Nat} {t : US} (h : t.Is vl N) (hN : N < big) (n : UV) : (t.make n).2.2.s.pages.length ≤ t.s.pages.length + 1 := by
  have hup := h.up.alloc
  unfold US.make
  rcases aAlloc_new h.up hN with ⟨e, r⟩ | ⟨e1, e2, e3, e4, e5⟩
  · rw [if_pos e]
    have h1 := r.len.2
    have h2 := (aWrite_old hup.wf (aAlloc t.s).1 (strOf n.enc)).len
    show (aWrite _ _ _).2.pages.length ≤ _
    rw [h2]; omega
  · rw [if_neg (by omega)]
    show (aAlloc t.s).2.2.pages.length ≤ _
    rw [e5]; exact Nat.le_succ _
theorem upages_set {vl N : Nat} {t : US} (h : t.Is vl N) (hd : Nat) (n : UV) : (t.set hd n).s.pages.length = t.s.pages.length := (aWrite_old h.up.wf hd (strOf n.enc)).len
theorem upages_free {vl N : Nat} {t : US} (h : t.Is vl N) (hd : Nat) : (t.free hd).2.s.pages.length = t.s.pages.length := by
  unfold US.free
  cases t.f hd with
  | none => rfl
  | some n => exact (aFree_old h.up.wf hd).len

/-! ### versions put one on the other -/
def Chn (f : Nat → Option UV) (b : Nat) : Nat → VerV → List VerV → List Nat → Prop
  | top, v, [], [] => top = b
  | top, v, u :: us, h :: hs => top = h ∧ ∃ nx, f h = some (saveUV u nx v) ∧ Chn f b nx u us hs
  | _, _, _, _ => False
theorem Chn.len {f : Nat → Option UV} {b : Nat} : ∀ {us : List VerV} {hs : List Nat} {top : Nat} {v : VerV}, Chn f b top v us hs → us.length = hs.length
  | [], [], _, _, _ => rfl
  | [], _ :: _, _, _, h => h.elim
  | _ :: _, [], _, _, h => h.elim
  | _ :: us, _ :: hs, _, _, ⟨_, _, _, h⟩ => congrArg Nat.succ h.len
theorem Chn.keep {f g : Nat → Option UV} {b : Nat} : ∀ {us : List VerV} {hs : List Nat} {top : Nat} {v : VerV}, Chn f b top v us hs → (∀ y ∈ hs, g y = f y) → Chn g b top v us hs
  | [], [], _, _, h, _ => h
  | [], _ :: _, _, _, h, _ => h.elim
  | _ :: _, [], _, _, h, _ => h.elim
  | _ :: us, h0 :: hs, _, _, ⟨e, nx, hf, h⟩, hk => ⟨e, nx, by rw [hk h0 (by simp)]; exact hf, h.keep fun y hy => hk y (by simp [hy])⟩
theorem Chn.live {f : Nat → Option UV} {b : Nat} : ∀ {us : List VerV} {hs : List Nat} {top : Nat} {v : VerV}, Chn f b top v us hs → ∀ y ∈ hs, ∃ n, f y = some n ∧ n.rcd = true
  | [], [], _, _, _ => fun y hy => by simp at hy
  | [], _ :: _, _, _, h => h.elim
  | _ :: _, [], _, _, h => h.elim
  | _ :: us, h0 :: hs, _, _, ⟨e, nx, hf, h⟩ => fun y hy => by
    rcases List.mem_cons.1 hy with rfl | hy
    · exact ⟨_, hf, rfl⟩
    · exact h.live y hy
theorem Chn.free {f : Nat → Option UV} {b hd : Nat} : ∀ {k : Nat} {us : List VerV} {hs : List Nat} {top : Nat} {v : VerV}, Chn f b top v us hs → hs.Nodup → hs[k]? = some hd → Chn (updU f hd none) hd top v (us.take k) (hs.take k)
  | 0, _ :: _, h0 :: _, _, _, ⟨e, nx, hf, h⟩, _, hk => by
    have hk : h0 = hd := by simpa using hk
    exact e.trans hk
  | k + 1, _ :: us, h0 :: hs, _, _, ⟨e, nx, hf, h⟩, hn, hk => by
    have hk : hs[k]? = some hd := by simpa using hk
    have hne : h0 ≠ hd := fun q => (List.nodup_cons.1 hn).1 (q ▸ List.mem_of_getElem? hk)
    exact ⟨e, nx, by rw [updU_other _ _ hne]; exact hf, h.free (List.nodup_cons.1 hn).2 hk⟩
  | _, [], [], _, _, _, _, hk => by simp at hk
  | _, [], _ :: _, _, _, h, _, _ => h.elim
  | _, _ :: _, [], _, _, h, _, _ => h.elim
theorem Chn.cut {f : Nat → Option UV} {b hd : Nat} {n : UV} (hn0 : f hd = some n) : ∀ {k : Nat} {us : List VerV} {hs : List Nat} {top : Nat} {v : VerV}, Chn f b top v us hs → hs.Nodup → hs[k]? = some hd → Chn (updU f hd (some { n with nx := 0 })) 0 top v (us.take (k + 1)) (hs.take (k + 1))
  | 0, u :: us, h0 :: hs, _, _, ⟨e, nx, hf, h⟩, _, hk => by
    have hk : h0 = hd := by simpa using hk
    subst hk
    rw [hf] at hn0; cases hn0
    exact ⟨e, 0, by rw [updU_same]; rfl, rfl⟩
  | k + 1, _ :: us, h0 :: hs, _, _, ⟨e, nx, hf, h⟩, hn, hk => by
    have hk : hs[k]? = some hd := by simpa using hk
    have hne : h0 ≠ hd := fun q => (List.nodup_cons.1 hn).1 (q ▸ List.mem_of_getElem? hk)
    exact ⟨e, nx, by rw [updU_other _ _ hne]; exact hf, Chn.cut hn0 h (List.nodup_cons.1 hn).2 hk⟩
  | _, [], [], _, _, _, _, hk => by simp at hk
  | _, [], _ :: _, _, _, h, _, _ => h.elim
  | _, _ :: _, [], _, _, h, _, _ => h.elim

/-- A version of a statement's: it may be, and its TS is 0. -/
structure VerV.Fit (vl : Nat) (v : VerV) : Prop where
  may : v.umay vl = true
  ts : v.ts = 0
  wr : v.wr < 9223372036854775808
theorem VerV.Fit.ver {vl : Nat} {v : VerV} (h : v.Fit vl) : OV.ver ⟨v.wr.toNat, v.tomb, v.val⟩ = v := by
  have h1 := VerV.umay_iff.1 h.may
  have e : ((v.wr.toNat : Nat) : Int) = v.wr := by omega
  obtain ⟨a, b, c, d⟩ := v
  have h2 := h.ts
  simp only at h2 e
  unfold OV.ver
  simp only
  rw [e, h2]
theorem saveRec {t : US} {vl : Nat} (hvl : vl ≤ 256) {h nx : Nat} {u v : VerV} (hu : u.umay vl = true) (hv : v.umay vl = true) (hf : t.f h = some (saveUV u nx v)) : t.record h v.val.data.toList = some (⟨u.wr.toNat, u.tomb, u.val⟩, nx) := by
  have h1 := (VerV.umay_iff.1 hu).2.1
  have h2 := (VerV.umay_iff.1 hv).2.1
  unfold US.record
  rw [hf]
  show (if true = true then (match dApply v.val.data.toList (strOf (dEnc (dMake v.val.data.toList u.val.data.toList))).data.toList with
    | some w => some (OV.mk u.wr.toNat u.tomb (strOf w), nx)
    | none => none) else none) = _
  rw [if_pos rfl]
  have e : (strOf (dEnc (dMake v.val.data.toList u.val.data.toList))).data.toList = dEnc (dMake v.val.data.toList u.val.data.toList) := by unfold strOf; simp
  rw [e, dApply_make _ _ (by show v.val.size ≤ 256; omega) (by show u.val.size ≤ 256; omega)]
  show some (OV.mk u.wr.toNat u.tomb (strOf u.val.data.toList), nx) = _
  rw [strOf_data]
theorem record_none {t : US} {h : Nat} (hb : ∀ n, t.f h = some n → n.rcd = false) (l : List UInt8) : t.record h l = none := by
  unfold US.record
  cases e : t.f h with
  | none => rfl
  | some n => simp only [hb n e]; rfl
theorem Chn.walk {t : US} {b vl : Nat} (hvl : vl ≤ 256) (hb : ∀ n, t.f b = some n → n.rcd = false) : ∀ {us : List VerV} {hs : List Nat} {top : Nat} {v : VerV} (k : Nat), Chn t.f b top v us hs → v.Fit vl → (∀ u ∈ us, u.Fit vl) → us.length < k → (t.walk k (some (⟨v.wr.toNat, v.tomb, v.val⟩, top))).map OV.ver = v :: us
  | [], [], top, v, k, h, hv, _, hk => by
    rw [US.walk_some t (by omega)]
    have : top = b := h
    subst this
    rw [record_none hb, List.map_cons, hv.ver]
    cases k - 1 <;> rfl
  | u :: us, h0 :: hs, top, v, k, ⟨e, nx, hf, h⟩, hv, hu, hk => by
    subst e
    have hk : us.length + 1 < k := hk
    rw [US.walk_some t (by omega), saveRec hvl (hu u (by simp)).may hv.may hf, List.map_cons, hv.ver]
    rw [Chn.walk hvl hb (k - 1) h (hu u (by simp)) (fun x hx => hu x (by simp [hx])) (by omega)]
  | [], _ :: _, _, _, _, h, _, _, _ => h.elim
  | _ :: _, [], _, _, _, h, _, _, _ => h.elim

structure Stk (vl : Nat) (f : Nat → Option UV) (b row : Nat) (v : VerV) (us : List VerV) (hs : List Nat) (top : Nat) : Prop where
  row : f row = some (v.uv false top)
  chn : Chn f b top v us hs
  fit : v.Fit vl
  fits : ∀ u ∈ us, u.Fit vl
  nd : hs.Nodup
section
variable {vl b row top N : Nat} {f g : Nat → Option UV} {v : VerV} {us : List VerV} {hs : List Nat} {t : US}
theorem Stk.not_row (h : Stk vl f b row v us hs top) : row ∉ hs := fun e => by
  obtain ⟨n, h1, h2⟩ := h.chn.live row e
  rw [h.row] at h1; cases h1; cases h2
theorem Stk.keep (h : Stk vl f b row v us hs top) (hk : ∀ y, y = row ∨ y ∈ hs → g y = f y) : Stk vl g b row v us hs top :=
  ⟨by rw [hk row (Or.inl rfl)]; exact h.row, h.chn.keep fun y hy => hk y (Or.inr hy), h.fit, h.fits, h.nd⟩
theorem Stk.live (h : Stk vl f b row v us hs top) : ∀ y ∈ row :: hs, f y ≠ none := fun y hy => by
  rcases List.mem_cons.1 hy with rfl | hy
  · rw [h.row]; simp
  · obtain ⟨n, e, _⟩ := h.chn.live y hy
    rw [e]; simp
theorem Stk.list (h : Stk vl t.f b row v us hs top) (hvl : vl ≤ 256) (hb : ∀ n, t.f b = some n → n.rcd = false) (hu : us.length < t.s.used) : (t.list row).map OV.ver = v :: us := by
  unfold US.list
  have e : t.row row = some (⟨v.wr.toNat, v.tomb, v.val⟩, top) := by unfold US.row; rw [h.row]; rfl
  rw [e]
  exact h.chn.walk hvl hb _ h.fit h.fits hu
theorem Stk.used (h : Stk vl t.f b row v us hs top) {L : List Nat} (hL : Live t L) : us.length < t.s.used := by
  have := hL.le (l := row :: hs) (List.nodup_cons.2 ⟨h.not_row, h.nd⟩) h.live
  rw [h.chn.len]
  rw [List.length_cons] at this
  omega
theorem Stk.free (h : Stk vl f b row v us hs top) {k hd : Nat} (hk : hs[k]? = some hd) : Stk vl (updU f hd none) hd row v (us.take k) (hs.take k) top := by
  have hm := List.mem_of_getElem? hk
  exact ⟨by rw [updU_other _ _ (fun e => h.not_row (by rw [e]; exact hm))]; exact h.row, h.chn.free h.nd hk, h.fit, fun u hu => h.fits u (List.mem_of_mem_take hu), h.nd.sublist (List.take_sublist _ _)⟩
theorem Stk.cut (h : Stk vl f b row v us hs top) {k hd : Nat} {n : UV} (hn : f hd = some n) (hk : hs[k]? = some hd) : Stk vl (updU f hd (some { n with nx := 0 })) 0 row v (us.take (k + 1)) (hs.take (k + 1)) top := by
  have hm := List.mem_of_getElem? hk
  exact ⟨by rw [updU_other _ _ (fun e => h.not_row (by rw [e]; exact hm))]; exact h.row, h.chn.cut hn h.nd hk, h.fit, fun u hu => h.fits u (List.mem_of_mem_take hu), h.nd.sublist (List.take_sublist _ _)⟩
/-- One more on it: the record is made (at hd), and the row is turned. -/
theorem Stk.push (h : Stk vl f b row v us hs top) {u : VerV} (hu : u.Fit vl) {hd : Nat} (hn : f hd = none) : Stk vl (updU (updU f hd (some (saveUV v top u))) row (some (u.uv false hd))) b row u (v :: us) (hd :: hs) hd := by
  have hr : hd ≠ row := fun e => by rw [e, h.row] at hn; cases hn
  have hh : hd ∉ hs := fun e => by obtain ⟨n, h1, _⟩ := h.chn.live hd e; rw [hn] at h1; cases h1
  refine ⟨updU_same _ _ _, ⟨rfl, top, by rw [updU_other _ _ hr, updU_same], h.chn.keep fun y hy => ?_⟩, hu, fun x hx => ?_, List.nodup_cons.2 ⟨hh, h.nd⟩⟩
  · rw [updU_other _ _ (fun e => h.not_row (by rw [← e]; exact hy)), updU_other _ _ (fun e => hh (by rw [← e]; exact hy))]
  · rcases List.mem_cons.1 hx with rfl | hx
    · exact h.fit
    · exact h.fits x hx
end
/-- What was given back is not told again, next. -/
theorem ufresh {vl N : Nat} {t : US} (h : t.Is vl N) {hd : Nat} (hh : hd < 18446744073709551616) (hf : t.f hd ≠ none) (hb : N < big) (h0 : hd ≠ 0) {n : UV} (hn : n.Ok vl) (hg : n.rcd = true → 1 ≤ n.sg) : ((t.free hd).2.make n).1 ≠ hd := by
  obtain ⟨i1, i2, i3, i4⟩ := h.free hh
  have hs : (aFind t.s hd).isSome = true := by
    rw [h.find hd hh, Option.isSome_map]
    cases e : t.f hd with
    | none => exact absurd e hf
    | some n => rfl
  obtain ⟨bs, hbs⟩ := Option.isSome_iff_exists.1 hs
  obtain ⟨g1, q, g2, g3⟩ := find_parts hbs
  have hgen := (aFree_old h.up.wf hd).gen (hN hd) (hO hd)
  rw [← i4] at hgen
  unfold US.make
  rcases aAlloc_new i1.up hb with ⟨e, r⟩ | ⟨e1, e2, e3, e4, e5⟩
  · rw [if_pos e]
    intro q
    have q : (aAlloc (t.free hd).2.s).1 = hd := q
    have hw := r.was
    rw [q, hgen, g1] at hw
    omega
  · rw [if_neg (by omega)]
    intro q
    have q : 0 = hd := q
    exact h0 q.symm
end Go.Proofs.Ytckkccnebjacdaa
