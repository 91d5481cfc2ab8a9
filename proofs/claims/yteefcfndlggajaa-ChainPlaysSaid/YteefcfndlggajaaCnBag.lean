/-
  Package chain: an engine among other things in memory ('tEng'); versions made one ahead of the other ('Built').
-/
import Derived.Test.YteefcfndlggajaaCnAwP
import Derived.Test.YteefcfndlggajaaBag
namespace Go.Proofs.Yteefcfndlggajaa
open Go.RowKit
set_option linter.unusedVariables false
set_option linter.unusedSimpArgs false
set_option maxRecDepth 100000

def tEng (x : Nat) (c : CfgV) (lim N : Nat) (t : CS) : Thing where
  at_ F w := Cn F w x c lim N t
  keep F G w w' h f hn := h.kept f hn
  lt F w h k hk := h.lt k hk
section
variable {W w w' : World} {Ts : List Thing} {i x N lim : Nat} {c : CfgV} {t : CS}
theorem Bag.eng (h : Bag W Ts w) (hi : Ts[i]? = some (tEng x c lim N t)) : ∃ F, Cn F w x c lim N t := by
  obtain ⟨F, h, _⟩ := h.get hi; exact ⟨F, h⟩
theorem bg_used (h : Bag W Ts w) (hi : Ts[i]? = some (tEng x c lim N t)) : Calls Try.prog 16 #[.pointer (some ⟨x, 0, none⟩)] w fun e w' => e = .returned (.int .i64 (t.s.used : Int)) ∧ w = w' := by
  obtain ⟨F, hc⟩ := h.eng hi; exact cn_used hc
theorem bg_read (h : Bag W Ts w) (hi : Ts[i]? = some (tEng x c lim N t)) {hd : Nat} (hh : hd < 18446744073709551616) : Calls Try.prog 12 #[.pointer (some ⟨x, 0, none⟩), .int .u64 (hd : Int)] w fun e w' => e = .returned (.tuple #[.agg (nodeOf (t.f hd)), .bool (t.f hd).isSome]) ∧ Fr none_ w w' := by
  obtain ⟨F, hc⟩ := h.eng hi; exact cn_read hc hh
theorem bg_list (h : Bag W Ts w) (hi : Ts[i]? = some (tEng x c lim N t)) (hN : N < big) {top : Nat} (htop : top < 18446744073709551616) (hu : t.s.used ≤ 1000000) (l : List VerV) (hl : (cWalk t.f t.s.used top).map NV.toVer = l) :
    Calls Try.prog 14 #[.pointer (some ⟨x, 0, none⟩), .int .u64 (top : Int)] w fun e w' => ∃ a cap, e = .returned (.slice a l.length cap) ∧ LsAt w' a 4 VerV.list l ∧ Fr none_ w w' := by
  obtain ⟨F, hc⟩ := h.eng hi
  refine (cn_list hc hN htop hu).mono ?_
  rintro e w1 ⟨a, cap, he, hs, f, hb⟩
  have hlen : (cWalk t.f t.s.used top).length = l.length := by rw [← hl, List.length_map]
  rw [verList_map, hl, hlen] at hs
  rw [hlen] at he
  exact ⟨a, cap, he, hs.ls (fun _ => rfl) rfl, f⟩
theorem bg_put (h : Bag W Ts w) (hi : Ts[i]? = some (tEng x c lim N t)) (hN : N < big) (v : VerV) (hs : v.val.size ≤ maxLen) (hvw : v.wr < 9223372036854775808) {nx : Nat} (hnx : nx < 18446744073709551616) :
    Calls Try.prog 22 #[.pointer (some ⟨x, 0, none⟩), .agg v.cells, .int .u64 (nx : Int)] w fun e w' => e = .returned (.tuple #[.int .u64 ((t.put lim v nx).1 : Int), .int .i64 ((t.put lim v nx).2.1 : Int)]) ∧ Bag W (Ts.set i (tEng x c lim (N + 1) (t.put lim v nx).2.2)) w' :=
  h.call (R := fun e => e = .returned (.tuple #[.int .u64 ((t.put lim v nx).1 : Int), .int .i64 ((t.put lim v nx).2.1 : Int)])) hi (fun F hF => cn_put hF hN v hs hvw hnx)
theorem bg_free (h : Bag W Ts w) (hi : Ts[i]? = some (tEng x c lim N t)) (hN : N < big) {hd : Nat} (hh : hd < 18446744073709551616) :
    Calls Try.prog 17 #[.pointer (some ⟨x, 0, none⟩), .int .u64 (hd : Int)] w fun e w' => e = .returned (.int .i64 ((t.free hd).1 : Int)) ∧ Bag W (Ts.set i (tEng x c lim N (t.free hd).2)) w' :=
  h.call (R := fun e => e = .returned (.int .i64 ((t.free hd).1 : Int))) hi (fun F hF => (cn_free hF hN hh).mono fun e w' ⟨h1, h2, h3⟩ => ⟨h1, F, h2, h3, Grow.refl _ _⟩)
theorem bg_change (h : Bag W Ts w) (hi : Ts[i]? = some (tEng x c lim N t)) (v : VerV) (hs : v.val.size ≤ maxLen) (hvw : v.wr < 9223372036854775808) {hd : Nat} (hh : hd < 18446744073709551616) :
    Calls Try.prog 18 #[.pointer (some ⟨x, 0, none⟩), .int .u64 (hd : Int), .agg v.cells] w fun e w' => e = .returned (.int .i64 ((t.change lim hd v).1 : Int)) ∧ Bag W (Ts.set i (tEng x c lim N (t.change lim hd v).2)) w' :=
  h.call (R := fun e => e = .returned (.int .i64 ((t.change lim hd v).1 : Int))) hi (fun F hF => (cn_change hF v hs hvw hh).mono fun e w' ⟨h1, h2, h3⟩ => ⟨h1, F, h2, h3, Grow.refl _ _⟩)
theorem bg_stamp (h : Bag W Ts w) (hi : Ts[i]? = some (tEng x c lim N t)) (ts : Int) {hd : Nat} (hh : hd < 18446744073709551616) :
    Calls Try.prog 19 #[.pointer (some ⟨x, 0, none⟩), .int .u64 (hd : Int), .int .i64 ts] w fun e w' => e = .returned (.int .i64 ((t.stamp hd ts).1 : Int)) ∧ Bag W (Ts.set i (tEng x c lim N (t.stamp hd ts).2)) w' :=
  h.call (R := fun e => e = .returned (.int .i64 ((t.stamp hd ts).1 : Int))) hi (fun F hF => (cn_stamp hF ts hh).mono fun e w' ⟨h1, h2, h3⟩ => ⟨h1, F, h2, h3, Grow.refl _ _⟩)
theorem bg_cut (h : Bag W Ts w) (hi : Ts[i]? = some (tEng x c lim N t)) {hd : Nat} (hh : hd < 18446744073709551616) :
    Calls Try.prog 20 #[.pointer (some ⟨x, 0, none⟩), .int .u64 (hd : Int)] w fun e w' => e = .returned (.int .i64 ((t.cut hd).1 : Int)) ∧ Bag W (Ts.set i (tEng x c lim N (t.cut hd).2)) w' :=
  h.call (R := fun e => e = .returned (.int .i64 ((t.cut hd).1 : Int))) hi (fun F hF => (cn_cut hF hh).mono fun e w' ⟨h1, h2, h3⟩ => ⟨h1, F, h2, h3, Grow.refl _ _⟩)
theorem bg_copy (h : Bag W Ts w) (hi : Ts[i]? = some (tEng x c lim N t)) :
    Calls Try.prog 21 #[.pointer (some ⟨x, 0, none⟩)] w fun e w' => ∃ y, e = .returned (.pointer (some ⟨y, 0, none⟩)) ∧ Bag W (Ts ++ [tEng y c lim N t]) w' := by
  obtain ⟨F, hc⟩ := h.eng hi
  refine (cn_copy hc).mono ?_
  rintro e w1 ⟨y, G, he, h1, f, hn⟩
  exact ⟨y, he, h.add (T := tEng y c lim N t) f h1 hn⟩
theorem bg_new (h : Bag W Ts w) (c : CfgV) (hc : c.may = true) (hlim : c.valLen = lim) (hl : lim ≤ 256) :
    Calls Try.prog 24 #[.agg c.cells] w fun e w' => ∃ x, e = .returned (.tuple #[.pointer (some ⟨x, 0, none⟩), .int .i64 0]) ∧ Bag W (Ts ++ [tEng x c lim 0 (CS.new lim)]) w' := by
  refine (Chain_New_yes w c hc lim hlim hl).mono ?_
  rintro e w1 ⟨x, a, F, he, hr, ha, f1, hx, hxF, hF⟩
  refine ⟨x, he, h.add (T := tEng x c lim 0 (CS.new lim)) (F := fun k => k = x ∨ F k) f1 ⟨a, F, ⟨⟨hr, ha, hxF⟩, CS.Is.new hl, hl, hlim⟩, rfl⟩ ?_⟩
  rintro k (rfl | q)
  · exact hx
  · exact hF k q
end

/-! ### versions made one ahead of the other (of states alone) -/
def prevOf (hs : List Nat) (i : Nat) : Nat := if i = 0 then 0 else (hs[i - 1]?).getD 0
structure Built (lim : Nat) (l : List VerV) (hs : List Nat) (t : CS) : Prop where
  len : hs.length = l.length
  at_ : ∀ (i : Nat) (v : VerV) (hd : Nat), l[i]? = some v → hs[i]? = some hd → t.f hd = some (v.nv (prevOf hs i))
  nodup : hs.Nodup
  only : ∀ y, t.f y ≠ none → y ∈ hs
  lt : ∀ hd ∈ hs, hd < 18446744073709551616 ∧ hd ≠ 0
  used : t.s.used = l.length
  ok : ∀ v ∈ l, v.Ok lim
  is_ : t.Is lim l.length
theorem Built.start {lim : Nat} (h : lim ≤ 256) : Built lim [] [] (CS.new lim) :=
  ⟨rfl, fun i v hd h => by simp at h, List.nodup_nil, fun y h => absurd rfl h, fun hd h => by simp at h, rfl, fun v h => by simp at h, CS.Is.new h⟩
def lastOf (hs : List Nat) : Nat := (hs.getLast?).getD 0
theorem prevOf_last (hs : List Nat) (h : Nat) : prevOf (hs ++ [h]) hs.length = lastOf hs := by
  unfold prevOf lastOf
  rcases List.eq_nil_or_concat hs with rfl | ⟨r, x, rfl⟩
  · rfl
  · rw [if_neg (by simp)]
    simp
theorem prevOf_old {hs : List Nat} {i : Nat} (hi : i < hs.length) (h : Nat) : prevOf (hs ++ [h]) i = prevOf hs i := by
  unfold prevOf
  split
  · rfl
  · rw [List.getElem?_append_left (by omega)]
theorem Built.last_lt {lim : Nat} {l : List VerV} {hs : List Nat} {t : CS} (h : Built lim l hs t) : lastOf hs < 18446744073709551616 := by
  unfold lastOf
  cases hg : hs.getLast? with
  | none => show (0 : Nat) < _; omega
  | some x => exact (h.lt x (List.mem_of_getLast? hg)).1
theorem Built.step {lim : Nat} {l : List VerV} {hs : List Nat} {t t' : CS} (h : Built lim l hs t) {v : VerV} (hv : v.Ok lim) {hd : Nat} (hm : t.Made lim l.length (v.nv (lastOf hs)) hd t') : Built lim (l ++ [v]) (hs ++ [hd]) t' := by
  have hnew : hd ∉ hs := fun e => by
    obtain ⟨i, hi, rfl⟩ := List.getElem_of_mem e
    have hil : i < l.length := by rw [← h.len]; exact hi
    have := h.at_ i _ _ (List.getElem?_eq_getElem hil) (List.getElem?_eq_getElem hi)
    rw [hm.fresh] at this; cases this
  refine ⟨by simp [h.len], fun i u y hu hy => ?_, ?_, fun y hy => ?_, fun y hy => ?_, by rw [hm.used, h.used]; simp, fun u hu => ?_, by rw [List.length_append]; exact hm.is_⟩
  · rcases Nat.lt_or_ge i l.length with q | q
    · rw [List.getElem?_append_left q] at hu
      rw [List.getElem?_append_left (by rw [h.len]; exact q)] at hy
      have hne : y ≠ hd := fun e => hnew (e ▸ List.mem_of_getElem? hy)
      rw [hm.f, upd_other _ _ hne, prevOf_old (by rw [h.len]; exact q)]
      exact h.at_ i u y hu hy
    · have hi : i = l.length := by
        have := (List.getElem?_eq_some_iff.1 hu).1
        simp at this; omega
      subst hi
      rw [List.getElem?_append_right (Nat.le_refl _), Nat.sub_self] at hu
      rw [← h.len, List.getElem?_append_right (Nat.le_refl _), Nat.sub_self] at hy
      simp at hu hy
      subst hu; subst hy
      rw [hm.f, upd_same, ← h.len, prevOf_last]
  · rw [List.nodup_append]
    exact ⟨h.nodup, by simp, fun a ha b hb e => by simp at hb; subst hb; exact hnew (e ▸ ha)⟩
  · rw [hm.f] at hy
    by_cases e : y = hd
    · rw [e]; simp
    · rw [upd_other _ _ e] at hy
      exact List.mem_append_left _ (h.only y hy)
  · rcases List.mem_append.1 hy with q | q
    · exact h.lt y q
    · simp at q; subst q; exact ⟨hm.lt, hm.pos⟩
  · rcases List.mem_append.1 hu with q | q
    · exact h.ok u q
    · simp at q; subst q; exact hv
theorem toVer_nv {lim : Nat} {v : VerV} (h : v.Ok lim) (nx : Nat) : (v.nv nx).toVer = v := by
  have := h.wr; have := h.ts0
  refine VerV.ext' ?_ ?_ rfl rfl
  · show ((v.wr.toNat : Nat) : Int) = _; omega
  · show ((v.ts.toNat : Nat) : Int) = _; omega
theorem Built.zero {lim : Nat} {l : List VerV} {hs : List Nat} {t : CS} (h : Built lim l hs t) : t.f 0 = none := by
  cases e : t.f 0 with
  | none => rfl
  | some n => exact absurd rfl (h.lt 0 (h.only 0 (by rw [e]; simp))).2
theorem Built.walk {lim : Nat} {l : List VerV} {hs : List Nat} {t : CS} (h : Built lim l hs t) : ∀ (i hd k : Nat), hs[i]? = some hd → i < k → (cWalk t.f k hd).map NV.toVer = (l.take (i + 1)).reverse := by
  intro i
  induction i with
  | zero =>
    intro hd k hi hk
    have hl : 0 < l.length := by rw [← h.len]; exact (List.getElem?_eq_some_iff.1 hi).1
    have hv := List.getElem?_eq_getElem hl
    rw [cWalk_some (by omega) (h.at_ 0 _ hd hv hi), List.map_cons, toVer_nv (h.ok _ (List.getElem_mem hl))]
    show _ :: (cWalk t.f (k - 1) 0).map NV.toVer = _
    rw [cWalk_none h.zero, take_more hv]; rfl
  | succ i ih =>
    intro hd k hi hk
    have hl : i + 1 < l.length := by rw [← h.len]; exact (List.getElem?_eq_some_iff.1 hi).1
    have hv := List.getElem?_eq_getElem hl
    have hp : hs[i]? = some (prevOf hs (i + 1)) := by
      unfold prevOf
      rw [if_neg (by omega), Nat.add_sub_cancel, List.getElem?_eq_getElem (by rw [h.len]; omega)]; rfl
    rw [cWalk_some (by omega) (h.at_ (i + 1) _ hd hv hi), List.map_cons, toVer_nv (h.ok _ (List.getElem_mem hl))]
    show _ :: (cWalk t.f (k - 1) (prevOf hs (i + 1))).map NV.toVer = _
    rw [ih _ _ hp (by omega), take_more hv, List.reverse_append]; rfl
end Go.Proofs.Yteefcfndlggajaa
