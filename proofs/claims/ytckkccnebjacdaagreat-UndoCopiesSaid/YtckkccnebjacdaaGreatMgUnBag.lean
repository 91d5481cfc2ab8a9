/-
  Package undo: an engine among other things in memory ('tUn').
  Package undo's statements: versions put on a row, one on the other ('Stk'); what is live ('Live'). Of states alone.
  Package undo's statements: states step by step ('St'); the examples. Of states alone.
-/
import Derived.Test.YtckkccnebjacdaaGreatUnList
import Derived.Test.YtckkccnebjacdaaGreatBag
namespace Go.Proofs.YtckkccnebjacdaaGreat
open Go.RowKit
set_option linter.unusedVariables false
set_option linter.unusedSimpArgs false
set_option maxRecDepth 100000

def tUn (x : Nat) (c : CfgV) (vl N : Nat) (t : US) : Thing where
  at_ F w := Un F w x c vl N t
  keep F G w w' h f hn := h.kept f hn
  lt F w h k hk := h.lt k hk
theorem ovList_ver (l : List OV) : ovList l = (l.map OV.ver).flatMap verL := by
  unfold ovList
  rw [List.flatMap_map]; rfl
section
variable {W w w' : World} {Ts : List Thing} {i x N vl : Nat} {c : CfgV} {t : US}
theorem Bag.un (h : Bag W Ts w) (hi : Ts[i]? = some (tUn x c vl N t)) : ∃ F, Un F w x c vl N t := by
  obtain ⟨F, h, _⟩ := h.get hi; exact ⟨F, h⟩
theorem bu_used (h : Bag W Ts w) (hi : Ts[i]? = some (tUn x c vl N t)) {q : Int} (hq : (t.s.used : Int) = q) : Calls Tryz.prog 14 #[.pointer (some ⟨x, 0, none⟩)] w fun e w' => e = .returned (.int .i64 q) ∧ w = w' := by
  subst hq; obtain ⟨F, hc⟩ := h.un hi; exact un_used hc
theorem bu_list (h : Bag W Ts w) (hi : Ts[i]? = some (tUn x c vl N t)) (hN : N ≤ 1000000) {top : Nat} (htop : top < 18446744073709551616) (l : List VerV) (hl : (t.list top).map OV.ver = l) (n : Nat) (hn : l.length = n) :
    Calls Tryz.prog 13 #[.pointer (some ⟨x, 0, none⟩), .int .u64 (top : Int)] w fun e w' => ∃ a cap, e = .returned (.slice a n cap) ∧ LsAt w' a 4 verL l ∧ Fr none_ w w' := by
  obtain ⟨F, hc⟩ := h.un hi
  refine (un_list hc hN htop).mono ?_
  rintro e w1 ⟨a, cap, he, hs, f, hb⟩
  have hlen : (t.list top).length = n := by rw [← hn, ← hl, List.length_map]
  rw [ovList_ver, hl, hlen] at hs
  rw [hlen] at he
  exact ⟨a, cap, he, hs.ls (fun _ => rfl) hn.symm, f⟩
theorem bu_record (h : Bag W Ts w) (hi : Ts[i]? = some (tUn x c vl N t)) {hd : Nat} (hh : hd < 18446744073709551616) (v : VerV) (hv : v.val.size ≤ 140737488351232) (o : Option (OV × Nat)) (ho : t.record hd v.val.data.toList = o) : Calls Tryz.prog 16 #[.pointer (some ⟨x, 0, none⟩), .int .u64 (hd : Int), .agg v.cells] w fun e w' => e = .returned (.tuple #[.agg (ovCells o), .int .u64 (ovNx o : Int), .bool o.isSome]) ∧ Fr none_ w w' := by
  subst ho; obtain ⟨F, hc⟩ := h.un hi; exact un_record hc hh v hv
theorem bu_segment (h : Bag W Ts w) (hi : Ts[i]? = some (tUn x c vl N t)) (hN : N ≤ 1000000000) (k : Int) (l : List Nat) (hl : t.seg k = l) (n : Nat) (hn : l.length = n) :
    Calls Tryz.prog 26 #[.pointer (some ⟨x, 0, none⟩), .int .i64 k] w fun e w' => ∃ a cap, e = .returned (.slice a n cap) ∧ LsAt w' a 1 hvC l ∧ Fr none_ w w' := by
  subst hl; subst hn
  obtain ⟨F, hc⟩ := h.un hi
  refine (un_segment hc hN k).mono ?_
  rintro e w1 ⟨a, cap, he, hs, f, hb⟩
  exact ⟨a, cap, he, hs.ls1 (enc := hvN) rfl, f⟩
theorem bu_mk (h : Bag W Ts w) (hi : Ts[i]? = some (tUn x c vl N t)) (hN : N < big) (v : VerV) (hs : v.val.size ≤ 140737488351232) (hvw : v.wr < 9223372036854775808) {nx : Nat} (hnx : nx < 18446744073709551616) {q p : Nat} {t' : US} (hq : t.mkr vl v nx = (q, p, t')) :
    Calls Tryz.prog 23 #[.pointer (some ⟨x, 0, none⟩), .agg v.cells, .int .u64 (nx : Int)] w fun e w' => e = .returned (.tuple #[.int .u64 (q : Int), .int .i64 (p : Int)]) ∧ Bag W (Ts.set i (tUn x c vl (N + 1) t')) w' :=
  h.call (R := fun e => e = .returned (.tuple #[.int .u64 (q : Int), .int .i64 (p : Int)])) hi (fun F hF => by have := un_mk hF hN v hs hvw hnx; rw [hq] at this; exact this)
theorem bu_save (h : Bag W Ts w) (hi : Ts[i]? = some (tUn x c vl N t)) (hN : N < big) (u v : VerV) (hs : u.val.size ≤ 140737488351232) (hs2 : v.val.size ≤ 140737488351232) (huw : u.wr < 9223372036854775808) (hvw : v.wr < 9223372036854775808) {nx : Nat} (hnx : nx < 18446744073709551616) {q p : Nat} {t' : US} (hq : t.save vl u nx v = (q, p, t')) :
    Calls Tryz.prog 24 #[.pointer (some ⟨x, 0, none⟩), .agg u.cells, .int .u64 (nx : Int), .agg v.cells] w fun e w' => e = .returned (.tuple #[.int .u64 (q : Int), .int .i64 (p : Int)]) ∧ Bag W (Ts.set i (tUn x c vl (N + 1) t')) w' :=
  h.call (R := fun e => e = .returned (.tuple #[.int .u64 (q : Int), .int .i64 (p : Int)])) hi (fun F hF => by have := un_save hF hN u v hs hs2 huw hvw hnx; rw [hq] at this; exact this)
theorem bu_change (h : Bag W Ts w) (hi : Ts[i]? = some (tUn x c vl N t)) (v : VerV) (hs : v.val.size ≤ 140737488351232) (hvw : v.wr < 9223372036854775808) {hd nx : Nat} (hh : hd < 18446744073709551616) (hnx : nx < 18446744073709551616) {q : Nat} {t' : US} (hq : t.change vl hd v nx = (q, t')) :
    Calls Tryz.prog 17 #[.pointer (some ⟨x, 0, none⟩), .int .u64 (hd : Int), .agg v.cells, .int .u64 (nx : Int)] w fun e w' => e = .returned (.int .i64 (q : Int)) ∧ Bag W (Ts.set i (tUn x c vl N t')) w' :=
  h.call (R := fun e => e = .returned (.int .i64 (q : Int))) hi (fun F hF => (un_change hF v hs hvw hh hnx).mono fun e w' h1 => by rw [hq] at h1; exact ⟨h1.1, F, h1.2.1, h1.2.2, Grow.refl _ _⟩)
theorem bu_cut (h : Bag W Ts w) (hi : Ts[i]? = some (tUn x c vl N t)) {hd : Nat} (hh : hd < 18446744073709551616) {q : Nat} {t' : US} (hq : t.cut hd = (q, t')) :
    Calls Tryz.prog 30 #[.pointer (some ⟨x, 0, none⟩), .int .u64 (hd : Int)] w fun e w' => e = .returned (.int .i64 (q : Int)) ∧ Bag W (Ts.set i (tUn x c vl N t')) w' :=
  h.call (R := fun e => e = .returned (.int .i64 (q : Int))) hi (fun F hF => (un_cut hF hh).mono fun e w' h1 => by rw [hq] at h1; exact ⟨h1.1, F, h1.2.1, h1.2.2, Grow.refl _ _⟩)
theorem bu_free (h : Bag W Ts w) (hi : Ts[i]? = some (tUn x c vl N t)) (hN : N < big) (hN9 : N ≤ 1000000000) {hd : Nat} (hh : hd < 18446744073709551616) {q : Nat} {t' : US} (hq : t.free hd = (q, t')) :
    Calls Tryz.prog 18 #[.pointer (some ⟨x, 0, none⟩), .int .u64 (hd : Int)] w fun e w' => e = .returned (.int .i64 (q : Int)) ∧ Bag W (Ts.set i (tUn x c vl N t')) w' :=
  h.call (R := fun e => e = .returned (.int .i64 (q : Int))) hi (fun F hF => (un_free hF hN hN9 hh).mono fun e w' h1 => by
    rw [hq] at h1
    obtain ⟨h1, ⟨G', h2, h3⟩, h4⟩ := h1
    exact ⟨h1, G', h2, h4, h3⟩)
theorem bu_pop (h : Bag W Ts w) (hi : Ts[i]? = some (tUn x c vl N t)) (hN : N < big) (hN9 : N ≤ 1000000000) (k : Int) {q : Option Nat} {t' : US} (hq : t.pop k = (q, t')) :
    Calls Tryz.prog 27 #[.pointer (some ⟨x, 0, none⟩), .int .i64 k] w fun e w' => e = .returned (.tuple #[.int .u64 (popH q : Int), .bool q.isSome]) ∧ Bag W (Ts.set i (tUn x c vl N t')) w' :=
  h.call (R := fun e => e = .returned (.tuple #[.int .u64 (popH q : Int), .bool q.isSome])) hi (fun F hF => (un_pop hF hN hN9 k).mono fun e w' h1 => by
    rw [hq] at h1
    obtain ⟨h1, ⟨G', h2, h3⟩, h4⟩ := h1
    exact ⟨h1, G', h2, h4, h3⟩)
theorem bu_new (h : Bag W Ts w) (c : CfgV) (hc : c.may = true) (hlim : c.valLen = vl) (hl : vl ≤ 256) :
    Calls Tryz.prog 10 #[.agg c.cells] w fun e w' => ∃ x, e = .returned (.tuple #[.pointer (some ⟨x, 0, none⟩), .int .i64 0]) ∧ Bag W (Ts ++ [tUn x c vl 0 (US.new vl)]) w' := by
  refine (Undo_New_yes w c hc vl hlim hl).mono ?_
  rintro e w1 ⟨x, a, m, F, he, hu, f1, hx, hm, hF⟩
  refine ⟨x, he, h.add (T := tUn x c vl 0 (US.new vl)) (F := fun k => k = x ∨ F k ∨ segOwn m [] k) f1 ⟨a, m, F, [], ⟨hu, US.Is.new hl, hl, hlim, fun k => rfl, Nat.le_refl _⟩, rfl⟩ ?_⟩
  rintro k (rfl | q | q)
  · exact hx
  · exact hF k q
  · rcases q with rfl | ⟨p, hp, _⟩
    · exact hm
    · simp at hp
end
end Go.Proofs.YtckkccnebjacdaaGreat
namespace Go.Proofs.YtckkccnebjacdaaGreat
open Go.RowKit
set_option linter.unusedVariables false
set_option linter.unusedSimpArgs false
set_option maxRecDepth 100000

/-! ### what is live -/
structure Live (t : US) (L : List Nat) : Prop where
  nd : L.Nodup
  used : t.s.used = L.length
  mem : ∀ y, t.f y ≠ none ↔ y ∈ L
  pos : ∀ y ∈ L, y ≠ 0 ∧ y < 18446744073709551616
theorem Live.new (vl : Nat) : Live (US.new vl) [] := ⟨List.nodup_nil, rfl, fun y => ⟨fun h => absurd rfl h, fun h => by simp at h⟩, fun y h => by simp at h⟩
theorem Live.zero {t : US} {L : List Nat} (h : Live t L) : t.f 0 = none := by
  cases e : t.f 0 with
  | none => rfl
  | some n => exact absurd rfl (h.pos 0 ((h.mem 0).1 (by rw [e]; simp))).1
theorem Live.made {vl N : Nat} {t t' : US} {L : List Nat} {n : UV} {hd : Nat} (h : Live t L) (m : t.Made vl N n hd t') : Live t' (hd :: L) := by
  have hn : hd ∉ L := fun e => (h.mem hd).2 e m.fresh
  refine ⟨List.nodup_cons.2 ⟨hn, h.nd⟩, by rw [m.used, h.used]; rfl, fun y => ?_, fun y hy => ?_⟩
  · rw [m.f]
    by_cases e : y = hd
    · subst e; rw [updU_same]; simp
    · rw [updU_other _ _ e, h.mem]; simp [e]
  · rcases List.mem_cons.1 hy with rfl | hy
    · exact ⟨m.pos, m.lt⟩
    · exact h.pos y hy
theorem Live.set {vl N : Nat} {t : US} {L : List Nat} {n m : UV} {hd : Nat} (h : Live t L) (hi : t.Is vl N) (hf : t.f hd = some m) : Live (t.set hd n) L := by
  refine ⟨h.nd, ?_, fun y => ?_, h.pos⟩
  · show (aWrite t.s hd (strOf n.enc)).2.used = _
    rw [uwrite_used hi.up.wf, h.used]
  · show updU t.f hd (some n) y ≠ none ↔ _
    by_cases e : y = hd
    · subst e; rw [updU_same, ← h.mem, hf]; simp
    · rw [updU_other _ _ e, h.mem]
theorem Live.free {vl N : Nat} {t : US} {L : List Nat} {hd : Nat} (h : Live t L) (hi : t.Is vl N) (hh : hd < 18446744073709551616) : Live (t.free hd).2 (L.filter (fun x => decide (x ≠ hd))) := by
  have hu := (hi.free hh).2.1
  have hl : (L.filter (fun x => decide (x ≠ hd))).length + (if (t.f hd).isSome = true then 1 else 0) = L.length := by
    have e1 : (L.filter (fun x => decide (x ≠ hd))) = L.erase hd := by
      rw [h.nd.erase_eq_filter]
      exact List.filter_congr fun x _ => by simp [bne]; rfl
    rw [e1]
    by_cases e : hd ∈ L
    · rw [List.length_erase_of_mem e, if_pos (by have := (h.mem hd).2 e; cases q : t.f hd with | none => exact absurd q this | some n => rfl)]
      have := List.length_pos_of_mem e
      omega
    · rw [List.erase_of_not_mem e, if_neg (fun q => e ((h.mem hd).1 (by intro z; rw [z] at q; cases q)))]; rfl
  refine ⟨h.nd.filter _, by have := h.used; omega, fun y => ?_, fun y hy => h.pos y (List.mem_filter.1 hy).1⟩
  have hf : (t.free hd).2.f = updU t.f hd none := by
    unfold US.free
    cases e : t.f hd with
    | none =>
      show t.f = _
      funext y
      by_cases q : y = hd
      · subst q; rw [updU_same, e]
      · rw [updU_other _ _ q]
    | some n => rfl
  rw [hf, List.mem_filter]
  by_cases e : y = hd
  · subst e; rw [updU_same]; simp
  · rw [updU_other _ _ e, h.mem]; simp [e]
theorem Live.le {t : US} {L l : List Nat} (h : Live t L) (hn : l.Nodup) (hl : ∀ y ∈ l, t.f y ≠ none) : l.length ≤ t.s.used := by
  rw [h.used]
  exact hn.length_le_of_subset (fun y hy => (h.mem y).1 (hl y hy))
theorem free_f (t : US) (hd : Nat) : (t.free hd).2.f = updU t.f hd none := by
  unfold US.free
  cases e : t.f hd with
  | none =>
    show t.f = _
    funext y
    by_cases q : y = hd
    · subst q; rw [updU_same, e]
    · rw [updU_other _ _ q]
  | some n => rfl

/-! ### how many pages -/
theorem upages_make {vl N : Nat} {t : US} (h : t.Is vl N) (hN : N < big) (n : UV) : (t.make n).2.2.s.pages.length ≤ t.s.pages.length + 1 := by
  have hup := h.up.alloc
  unfold US.make
  rcases aAlloc_new h.up hN with ⟨e, r⟩ | ⟨e1, e2, e3, e4, e5⟩
  · rw [if_pos e]
    have h1 := r.len.2
    have h2 := (aWrite_old hup.wf (aAlloc t.s).1 (strOf n.enc)).len
    show (aWrite _ _ _).2.pages.length ≤ _
    rw [h2]; omega
  · rw [if_neg (by omega)]
    show (aAlloc t.s).2.2.pages.length ≤ _
    rw [e5]; exact Nat.le_succ _
theorem upages_set {vl N : Nat} {t : US} (h : t.Is vl N) (hd : Nat) (n : UV) : (t.set hd n).s.pages.length = t.s.pages.length := (aWrite_old h.up.wf hd (strOf n.enc)).len
theorem upages_free {vl N : Nat} {t : US} (h : t.Is vl N) (hd : Nat) : (t.free hd).2.s.pages.length = t.s.pages.length := by
  unfold US.free
  cases t.f hd with
  | none => rfl
  | some n => exact (aFree_old h.up.wf hd).len

/-! ### versions put one on the other -/
def Chn (f : Nat → Option UV) (b : Nat) : Nat → VerV → List VerV → List Nat → Prop
  | top, v, [], [] => top = b
  | top, v, u :: us, h :: hs => top = h ∧ ∃ nx, f h = some (saveUV u nx v) ∧ Chn f b nx u us hs
  | _, _, _, _ => False
theorem Chn.len {f : Nat → Option UV} {b : Nat} : ∀ {us : List VerV} {hs : List Nat} {top : Nat} {v : VerV}, Chn f b top v us hs → us.length = hs.length
  | [], [], _, _, _ => rfl
  | [], _ :: _, _, _, h => h.elim
  | _ :: _, [], _, _, h => h.elim
  | _ :: us, _ :: hs, _, _, ⟨_, _, _, h⟩ => congrArg Nat.succ h.len
theorem Chn.keep {f g : Nat → Option UV} {b : Nat} : ∀ {us : List VerV} {hs : List Nat} {top : Nat} {v : VerV}, Chn f b top v us hs → (∀ y ∈ hs, g y = f y) → Chn g b top v us hs
  | [], [], _, _, h, _ => h
  | [], _ :: _, _, _, h, _ => h.elim
  | _ :: _, [], _, _, h, _ => h.elim
  | _ :: us, h0 :: hs, _, _, ⟨e, nx, hf, h⟩, hk => ⟨e, nx, by rw [hk h0 (by simp)]; exact hf, h.keep fun y hy => hk y (by simp [hy])⟩
theorem Chn.live {f : Nat → Option UV} {b : Nat} : ∀ {us : List VerV} {hs : List Nat} {top : Nat} {v : VerV}, Chn f b top v us hs → ∀ y ∈ hs, ∃ n, f y = some n ∧ n.rcd = true
  | [], [], _, _, _ => fun y hy => by simp at hy
  | [], _ :: _, _, _, h => h.elim
  | _ :: _, [], _, _, h => h.elim
  | _ :: us, h0 :: hs, _, _, ⟨e, nx, hf, h⟩ => fun y hy => by
    rcases List.mem_cons.1 hy with rfl | hy
    · exact ⟨_, hf, rfl⟩
    · exact h.live y hy
theorem Chn.free {f : Nat → Option UV} {b hd : Nat} : ∀ {k : Nat} {us : List VerV} {hs : List Nat} {top : Nat} {v : VerV}, Chn f b top v us hs → hs.Nodup → hs[k]? = some hd → Chn (updU f hd none) hd top v (us.take k) (hs.take k)
  | 0, _ :: _, h0 :: _, _, _, ⟨e, nx, hf, h⟩, _, hk => by
    have hk : h0 = hd := by simpa using hk
    exact e.trans hk
  | k + 1, _ :: us, h0 :: hs, _, _, ⟨e, nx, hf, h⟩, hn, hk => by
    have hk : hs[k]? = some hd := by simpa using hk
    have hne : h0 ≠ hd := fun q => (List.nodup_cons.1 hn).1 (q ▸ List.mem_of_getElem? hk)
    exact ⟨e, nx, by rw [updU_other _ _ hne]; exact hf, h.free (List.nodup_cons.1 hn).2 hk⟩
  | _, [], [], _, _, _, _, hk => by simp at hk
  | _, [], _ :: _, _, _, h, _, _ => h.elim
  | _, _ :: _, [], _, _, h, _, _ => h.elim
theorem Chn.cut {f : Nat → Option UV} {b hd : Nat} {n : UV} (hn0 : f hd = some n) : ∀ {k : Nat} {us : List VerV} {hs : List Nat} {top : Nat} {v : VerV}, Chn f b top v us hs → hs.Nodup → hs[k]? = some hd → Chn (updU f hd (some { n with nx := 0 })) 0 top v (us.take (k + 1)) (hs.take (k + 1))
  | 0, u :: us, h0 :: hs, _, _, ⟨e, nx, hf, h⟩, _, hk => by
    have hk : h0 = hd := by simpa using hk
    subst hk
    rw [hf] at hn0; cases hn0
    exact ⟨e, 0, by rw [updU_same]; rfl, rfl⟩
  | k + 1, _ :: us, h0 :: hs, _, _, ⟨e, nx, hf, h⟩, hn, hk => by
    have hk : hs[k]? = some hd := by simpa using hk
    have hne : h0 ≠ hd := fun q => (List.nodup_cons.1 hn).1 (q ▸ List.mem_of_getElem? hk)
    exact ⟨e, nx, by rw [updU_other _ _ hne]; exact hf, Chn.cut hn0 h (List.nodup_cons.1 hn).2 hk⟩
  | _, [], [], _, _, _, _, hk => by simp at hk
  | _, [], _ :: _, _, _, h, _, _ => h.elim
  | _, _ :: _, [], _, _, h, _, _ => h.elim

/-- A version of a statement's: it may be, and its TS is 0. -/
structure VerV.Fit (vl : Nat) (v : VerV) : Prop where
  may : v.umay vl = true
  ts : v.ts = 0
  wr : v.wr < 9223372036854775808
theorem VerV.Fit.ver {vl : Nat} {v : VerV} (h : v.Fit vl) : OV.ver ⟨v.wr.toNat, v.tomb, v.val⟩ = v := by
  have h1 := VerV.umay_iff.1 h.may
  have e : ((v.wr.toNat : Nat) : Int) = v.wr := by omega
  obtain ⟨a, b, c, d⟩ := v
  have h2 := h.ts
  simp only at h2 e
  unfold OV.ver
  simp only
  rw [e, h2]
theorem saveRec {t : US} {vl : Nat} (hvl : vl ≤ 256) {h nx : Nat} {u v : VerV} (hu : u.umay vl = true) (hv : v.umay vl = true) (hf : t.f h = some (saveUV u nx v)) : t.record h v.val.data.toList = some (⟨u.wr.toNat, u.tomb, u.val⟩, nx) := by
  have h1 := (VerV.umay_iff.1 hu).2.1
  have h2 := (VerV.umay_iff.1 hv).2.1
  unfold US.record
  rw [hf]
  show (if true = true then (match dApply v.val.data.toList (strOf (dEnc (dMake v.val.data.toList u.val.data.toList))).data.toList with
    | some w => some (OV.mk u.wr.toNat u.tomb (strOf w), nx)
    | none => none) else none) = _
  rw [if_pos rfl]
  have e : (strOf (dEnc (dMake v.val.data.toList u.val.data.toList))).data.toList = dEnc (dMake v.val.data.toList u.val.data.toList) := by unfold strOf; simp
  rw [e, dApply_make _ _ (by show v.val.size ≤ 256; omega) (by show u.val.size ≤ 256; omega)]
  show some (OV.mk u.wr.toNat u.tomb (strOf u.val.data.toList), nx) = _
  rw [strOf_data]
theorem record_none {t : US} {h : Nat} (hb : ∀ n, t.f h = some n → n.rcd = false) (l : List UInt8) : t.record h l = none := by
  unfold US.record
  cases e : t.f h with
  | none => rfl
  | some n => simp only [hb n e]; rfl
theorem Chn.walk {t : US} {b vl : Nat} (hvl : vl ≤ 256) (hb : ∀ n, t.f b = some n → n.rcd = false) : ∀ {us : List VerV} {hs : List Nat} {top : Nat} {v : VerV} (k : Nat), Chn t.f b top v us hs → v.Fit vl → (∀ u ∈ us, u.Fit vl) → us.length < k → (t.walk k (some (⟨v.wr.toNat, v.tomb, v.val⟩, top))).map OV.ver = v :: us
  | [], [], top, v, k, h, hv, _, hk => by
    rw [US.walk_some t (by omega)]
    have : top = b := h
    subst this
    rw [record_none hb, List.map_cons, hv.ver]
    cases k - 1 <;> rfl
  | u :: us, h0 :: hs, top, v, k, ⟨e, nx, hf, h⟩, hv, hu, hk => by
    subst e
    have hk : us.length + 1 < k := hk
    rw [US.walk_some t (by omega), saveRec hvl (hu u (by simp)).may hv.may hf, List.map_cons, hv.ver]
    rw [Chn.walk hvl hb (k - 1) h (hu u (by simp)) (fun x hx => hu x (by simp [hx])) (by omega)]
  | [], _ :: _, _, _, _, h, _, _, _ => h.elim
  | _ :: _, [], _, _, _, h, _, _, _ => h.elim

structure Stk (vl : Nat) (f : Nat → Option UV) (b row : Nat) (v : VerV) (us : List VerV) (hs : List Nat) (top : Nat) : Prop where
  row : f row = some (v.uv false top)
  chn : Chn f b top v us hs
  fit : v.Fit vl
  fits : ∀ u ∈ us, u.Fit vl
  nd : hs.Nodup
section
variable {vl b row top N : Nat} {f g : Nat → Option UV} {v : VerV} {us : List VerV} {hs : List Nat} {t : US}
theorem Stk.not_row (h : Stk vl f b row v us hs top) : row ∉ hs := fun e => by
  obtain ⟨n, h1, h2⟩ := h.chn.live row e
  rw [h.row] at h1; cases h1; cases h2
theorem Stk.keep (h : Stk vl f b row v us hs top) (hk : ∀ y, y = row ∨ y ∈ hs → g y = f y) : Stk vl g b row v us hs top :=
  ⟨by rw [hk row (Or.inl rfl)]; exact h.row, h.chn.keep fun y hy => hk y (Or.inr hy), h.fit, h.fits, h.nd⟩
theorem Stk.live (h : Stk vl f b row v us hs top) : ∀ y ∈ row :: hs, f y ≠ none := fun y hy => by
  rcases List.mem_cons.1 hy with rfl | hy
  · rw [h.row]; simp
  · obtain ⟨n, e, _⟩ := h.chn.live y hy
    rw [e]; simp
theorem Stk.list (h : Stk vl t.f b row v us hs top) (hvl : vl ≤ 256) (hb : ∀ n, t.f b = some n → n.rcd = false) (hu : us.length < t.s.used) : (t.list row).map OV.ver = v :: us := by
  unfold US.list
  have e : t.row row = some (⟨v.wr.toNat, v.tomb, v.val⟩, top) := by unfold US.row; rw [h.row]; rfl
  rw [e]
  exact h.chn.walk hvl hb _ h.fit h.fits hu
theorem Stk.used (h : Stk vl t.f b row v us hs top) {L : List Nat} (hL : Live t L) : us.length < t.s.used := by
  have := hL.le (l := row :: hs) (List.nodup_cons.2 ⟨h.not_row, h.nd⟩) h.live
  rw [h.chn.len]
  rw [List.length_cons] at this
  omega
theorem Stk.free (h : Stk vl f b row v us hs top) {k hd : Nat} (hk : hs[k]? = some hd) : Stk vl (updU f hd none) hd row v (us.take k) (hs.take k) top := by
  have hm := List.mem_of_getElem? hk
  exact ⟨by rw [updU_other _ _ (fun e => h.not_row (by rw [e]; exact hm))]; exact h.row, h.chn.free h.nd hk, h.fit, fun u hu => h.fits u (List.mem_of_mem_take hu), h.nd.sublist (List.take_sublist _ _)⟩
theorem Stk.cut (h : Stk vl f b row v us hs top) {k hd : Nat} {n : UV} (hn : f hd = some n) (hk : hs[k]? = some hd) : Stk vl (updU f hd (some { n with nx := 0 })) 0 row v (us.take (k + 1)) (hs.take (k + 1)) top := by
  have hm := List.mem_of_getElem? hk
  exact ⟨by rw [updU_other _ _ (fun e => h.not_row (by rw [e]; exact hm))]; exact h.row, h.chn.cut hn h.nd hk, h.fit, fun u hu => h.fits u (List.mem_of_mem_take hu), h.nd.sublist (List.take_sublist _ _)⟩
/-- One more on it: the record is made (at hd), and the row is turned. -/
theorem Stk.push (h : Stk vl f b row v us hs top) {u : VerV} (hu : u.Fit vl) {hd : Nat} (hn : f hd = none) : Stk vl (updU (updU f hd (some (saveUV v top u))) row (some (u.uv false hd))) b row u (v :: us) (hd :: hs) hd := by
  have hr : hd ≠ row := fun e => by rw [e, h.row] at hn; cases hn
  have hh : hd ∉ hs := fun e => by obtain ⟨n, h1, _⟩ := h.chn.live hd e; rw [hn] at h1; cases h1
  refine ⟨updU_same _ _ _, ⟨rfl, top, by rw [updU_other _ _ hr, updU_same], h.chn.keep fun y hy => ?_⟩, hu, fun x hx => ?_, List.nodup_cons.2 ⟨hh, h.nd⟩⟩
  · rw [updU_other _ _ (fun e => h.not_row (by rw [← e]; exact hy)), updU_other _ _ (fun e => hh (by rw [← e]; exact hy))]
  · rcases List.mem_cons.1 hx with rfl | hx
    · exact h.fit
    · exact h.fits x hx
end
/-- What was given back is not told again, next. -/
theorem ufresh {vl N : Nat} {t : US} (h : t.Is vl N) {hd : Nat} (hh : hd < 18446744073709551616) (hf : t.f hd ≠ none) (hb : N < big) (h0 : hd ≠ 0) {n : UV} (hn : n.Ok vl) (hg : n.rcd = true → 1 ≤ n.sg) : ((t.free hd).2.make n).1 ≠ hd := by
  obtain ⟨i1, i2, i3, i4⟩ := h.free hh
  have hs : (aFind t.s hd).isSome = true := by
    rw [h.find hd hh, Option.isSome_map]
    cases e : t.f hd with
    | none => exact absurd e hf
    | some n => rfl
  obtain ⟨bs, hbs⟩ := Option.isSome_iff_exists.1 hs
  obtain ⟨g1, q, g2, g3⟩ := find_parts hbs
  have hgen := (aFree_old h.up.wf hd).gen (hN hd) (hO hd)
  rw [← i4] at hgen
  unfold US.make
  rcases aAlloc_new i1.up hb with ⟨e, r⟩ | ⟨e1, e2, e3, e4, e5⟩
  · rw [if_pos e]
    intro q
    have q : (aAlloc (t.free hd).2.s).1 = hd := q
    have hw := r.was
    rw [q, hgen, g1] at hw
    omega
  · rw [if_neg (by omega)]
    intro q
    have q : 0 = hd := q
    exact h0 q.symm
end Go.Proofs.YtckkccnebjacdaaGreat
namespace Go.Proofs.YtckkccnebjacdaaGreat
open Go.RowKit
set_option linter.unusedVariables false
set_option linter.unusedSimpArgs false
set_option maxRecDepth 100000

structure St (vl N : Nat) (t : US) (L : List Nat) : Prop where
  is_ : t.Is vl N
  live : Live t L
  pages : t.s.pages.length ≤ N
theorem St.new {vl : Nat} (h : vl ≤ 256) : St vl 0 (US.new vl) [] := ⟨US.Is.new h, Live.new vl, Nat.le_refl _⟩
section
variable {vl N : Nat} {t : US} {L : List Nat}
theorem St.more {M : Nat} (h : St vl N t L) (hm : N ≤ M) : St vl M t L := ⟨h.is_.more hm, h.live, Nat.le_trans h.pages hm⟩
theorem St.make (h : St vl N t L) (hN : N < 4096) {n : UV} (hn : n.Ok vl) (hg : n.rcd = true → 1 ≤ n.sg) : ∃ hd t', t.make n = (hd, 0, t') ∧ t.Made vl N n hd t' ∧ St vl (N + 1) t' (hd :: L) := by
  have hpg := upages_make h.is_ (by unfold big; omega) n
  rcases h.is_.make (by unfold big; omega) hn hg with ⟨e1, _, r⟩ | ⟨_, _, _, _, e, _⟩
  · exact ⟨(t.make n).1, (t.make n).2.2, by rw [← e1], r, r.is_, h.live.made r, by have := h.pages; omega⟩
  · have := h.pages; omega
theorem St.mkr (h : St vl N t L) (hN : N < 4096) {v : VerV} (hv : v.Fit vl) {nx : Nat} (hx : nx < 18446744073709551616) : ∃ hd t', t.mkr vl v nx = (hd, 0, t') ∧ t.Made vl N (v.uv false nx) hd t' ∧ St vl (N + 1) t' (hd :: L) := by
  have e : t.mkr vl v nx = t.make (v.uv false nx) := by unfold US.mkr; rw [if_pos hv.may]
  rw [e]
  exact h.make hN (uv_ok hv.may hv.wr hx) (fun e => by cases e)
theorem St.save (h : St vl N t L) (hN : N < 4096) {u v : VerV} (hu : u.Fit vl) (hv : v.Fit vl) {nx : Nat} (hx : nx < 18446744073709551616) : ∃ hd t', t.save vl u nx v = (hd, 0, t') ∧ t.Made vl N (saveUV u nx v) hd t' ∧ St vl (N + 1) t' (hd :: L) := by
  have e : t.save vl u nx v = t.make (saveUV u nx v) := by unfold US.save; rw [hu.may, hv.may]; rfl
  rw [e]
  obtain ⟨o1, o2⟩ := save_ok hu.may hv.may hu.wr hv.wr hx
  exact h.make hN o1 (fun _ => o2)
theorem St.set (h : St vl N t L) {hd : Nat} {m n : UV} (hf : t.f hd = some m) (hh : hd < 18446744073709551616) (hn : n.Ok vl) (hr : n.rcd = m.rcd) (hg : n.sg = m.sg) : St vl N (t.set hd n) L :=
  ⟨(h.is_.set hf hh hn hr hg).1, h.live.set h.is_ hf, by rw [upages_set h.is_]; exact h.pages⟩
theorem St.change (h : St vl N t L) {v u : VerV} {row top nx : Nat} (hf : t.f row = some (v.uv false top)) (hh : row < 18446744073709551616) (hu : u.Fit vl) (hx : nx < 18446744073709551616) :
    ∃ t', t.change vl row u nx = (0, t') ∧ t'.f = updU t.f row (some (u.uv false nx)) ∧ t'.seg = t.seg ∧ St vl N t' L := by
  have e : t.change vl row u nx = (0, t.set row (u.uv false nx)) := by unfold US.change; rw [if_pos hu.may]; unfold US.turn; rw [hf]; rfl
  exact ⟨_, e, rfl, rfl, h.set hf hh (uv_ok hu.may hu.wr hx) rfl rfl⟩
theorem St.free (h : St vl N t L) {hd : Nat} (hh : hd < 18446744073709551616) : St vl N (t.free hd).2 (L.filter (fun x => decide (x ≠ hd))) :=
  ⟨(h.is_.free hh).1, h.live.free h.is_ hh, by rw [upages_free h.is_]; exact h.pages⟩
end
section
variable {vl N b row top : Nat} {t : US} {L : List Nat} {v : VerV} {us : List VerV} {hs : List Nat}
theorem St.top_lt (h : St vl N t L) (s : Stk vl t.f 0 row v us hs top) : top < 18446744073709551616 := (h.is_.ok _ _ s.row).nx
theorem St.row_lt (h : St vl N t L) (s : Stk vl t.f b row v us hs top) : row < 18446744073709551616 := (h.live.pos row ((h.live.mem row).1 (by rw [s.row]; simp))).2
theorem St.list (h : St vl N t L) (hvl : vl ≤ 256) (s : Stk vl t.f b row v us hs top) (hb : t.f b = none) : (t.list row).map OV.ver = v :: us := s.list hvl (fun n e => by rw [hb] at e; cases e) (s.used h.live)
/-- A row. -/
theorem St.first (h : St vl N t L) (hN : N < 4096) {v : VerV} (hv : v.Fit vl) : ∃ row t', t.mkr vl v 0 = (row, 0, t') ∧ t.Made vl N (v.uv false 0) row t' ∧ St vl (N + 1) t' (row :: L) ∧ Stk vl t'.f 0 row v [] [] 0 := by
  obtain ⟨hd, t', e, m, s⟩ := h.mkr hN hv (nx := 0) (by omega)
  refine ⟨hd, t', e, m, s, ⟨by rw [m.f, updU_same], rfl, hv, fun u hu => by simp at hu, List.nodup_nil⟩⟩
/-- One more on it. -/
theorem St.push (h : St vl N t L) (hN : N < 4096) (s : Stk vl t.f 0 row v us hs top) {u : VerV} (hu : u.Fit vl) :
    ∃ hd t1 t2, t.save vl v top u = (hd, 0, t1) ∧ t1.change vl row u hd = (0, t2) ∧ t.f hd = none ∧ hd < 18446744073709551616 ∧ St vl (N + 1) t1 (hd :: L) ∧ St vl (N + 1) t2 (hd :: L) ∧ Stk vl t2.f 0 row u (v :: us) (hd :: hs) hd ∧ (∀ y, y ≠ row → y ≠ hd → t2.f y = t.f y) ∧ t2.seg = t.more (saveUV v top u) hd := by
  obtain ⟨hd, t1, e1, m, s1⟩ := h.save hN s.fit hu (h.top_lt s)
  have hr : t1.f row = some (v.uv false top) := by
    rw [m.f, updU_other _ _ (fun e => by have := m.fresh; rw [← e, s.row] at this; cases this)]; exact s.row
  obtain ⟨t2, e2, f2, g2, s2⟩ := s1.change hr (h.row_lt s) hu m.lt
  refine ⟨hd, t1, t2, e1, e2, m.fresh, m.lt, s1, s2, ?_, fun y h1 h2 => ?_, by rw [g2, m.seg]⟩
  · rw [f2, m.f]; exact s.push hu m.fresh
  · rw [f2, m.f, updU_other _ _ h1, updU_other _ _ h2]
end

/-! ### the examples -/
def exA : VerV := ⟨1, 0, false, ⟨#[97, 98, 99, 100]⟩⟩
def exB : VerV := ⟨2, 0, false, ⟨#[97, 98, 88, 100]⟩⟩
theorem exA_fit : exA.Fit 4 := ⟨by decide, rfl, by decide⟩
theorem exB_fit : exB.Fit 4 := ⟨by decide, rfl, by decide⟩
structure ExAll (r s : Nat) (t1 t2 t3 t4 : US) : Prop where
  p1 : (US.new 4).mkr 4 exA 0 = (r, 0, t1)
  p2 : t1.save 4 exA 0 exB = (s, 0, t2)
  p3 : t2.change 4 r exB s = (0, t3)
  rl : r < 18446744073709551616
  sl : s < 18446744073709551616
  l3 : (t3.list r).map OV.ver = [exB, exA]
  g3 : t3.seg 2 = [s]
  rc : t3.record s exB.val.data.toList = some (⟨1, false, exA.val⟩, 0)
  rn : t3.record s (VerV.mk 2 0 false ⟨#[97]⟩).val.data.toList = none
  p4 : t3.pop 2 = (some s, t4)
  l4 : (t4.list r).map OV.ver = [exB]
  u4 : t4.s.used = 1
theorem ex_all : ∃ r s t1 t2 t3 t4, ExAll r s t1 t2 t3 t4 := by
  have s0 := St.new (vl := 4) (by omega)
  obtain ⟨r, t1, p1, m1, s1, k1⟩ := s0.first (by omega) exA_fit
  obtain ⟨s, t2, t3, p2, p3, fr, sl, s2, s3, k3, _, g3⟩ := s1.push (by omega) k1 exB_fit
  have hf : t3.f s = some (saveUV exA 0 exB) := by
    obtain ⟨_, nx, e, c⟩ := k3.chn
    have c : nx = 0 := c
    subst c; exact e
  have hg : t3.seg 2 = [s] := by
    rw [g3]
    unfold US.more
    have e : (saveUV exA 0 exB).rcd = true := rfl
    rw [e, if_pos rfl]
    have e : (((saveUV exA 0 exB).sg : Nat) : Int) = 2 := rfl
    rw [e, updU_same, m1.seg]; rfl
  refine ⟨r, s, t1, t2, t3, (t3.free s).2, p1, p2, p3, m1.lt, sl, s3.list (by omega) k3 s3.live.zero, hg, saveRec (vl := 4) (by omega) exA_fit.may exB_fit.may hf, ?_, by unfold US.pop; rw [hg], ?_, ?_⟩
  · unfold US.record
    rw [hf]
    have e : (saveUV exA 0 exB).rcd = true := rfl
    simp only [e, if_true]
    have e : dApply [97] (saveUV exA 0 exB).rest.data.toList = none := by decide
    show (match dApply [97] (saveUV exA 0 exB).rest.data.toList with
      | some v => some (OV.mk (saveUV exA 0 exB).wr (saveUV exA 0 exB).tomb (strOf v), (saveUV exA 0 exB).nx)
      | none => none) = none
    rw [e]
  · have k4 := k3.free (k := 0) (hd := s) rfl
    rw [← free_f] at k4
    exact (s3.free sl).list (by omega) k4 (by rw [free_f, updU_same])
  · have := (s3.free sl).live.used
    rw [this]
    have e : (s :: r :: []).filter (fun x => decide (x ≠ s)) = [r] := by
      have : r ≠ s := fun e => by rw [← e, m1.f, updU_same] at fr; cases fr
      simp [this]
    rw [e]; rfl
end Go.Proofs.YtckkccnebjacdaaGreat
