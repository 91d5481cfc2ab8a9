/-
  The law ChainPlays: the pair (engine and reference), and a copy of the pair.
-/
import Derived.Test.YteefcfndlggajaaMgCnRef8
import Derived.Test.YteefcfndlggajaaCnRef10
import Derived.Test.YteefcfndlggajaaCnLike
namespace Go.Proofs.Yteefcfndlggajaa
open Go.RowKit
set_option linter.unusedVariables false
set_option linter.unusedSimpArgs false
set_option maxRecDepth 100000

/-- Engine at 0, its reference's row at 2 and arena at 1, what was told at 3. -/
structure PairAt (W : World) (x y : Nat) (c : CfgV) (lim N : Nat) (t : CS) (b : Option Addr) (cb : Nat) (told : List Nat) (Ts : List Thing) (w : World) : Prop where
  bag : Bag W Ts w
  eng : Ts[0]? = some (tEng x c lim N t)
  tl : Ts[3]? = some (tSl b told.length cb 34 1 (told.map hvU))
  rc : RcIn Ts 2 1 y c lim N t
def CopyAt (Ts : List Thing) (x y : Nat) (c : CfgV) (lim N : Nat) (t : CS) : Prop := ∃ e i j, 4 ≤ e ∧ 4 ≤ i ∧ 4 ≤ j ∧ Ts[e]? = some (tEng x c lim N t) ∧ RcIn Ts i j y c lim N t
def Keep4 (Ts Us : List Thing) : Prop := ∀ m T, 4 ≤ m → Ts[m]? = some T → Us[m]? = some T
theorem Keep4.trans {Ts Us Vs : List Thing} (h : Keep4 Ts Us) (k : Keep4 Us Vs) : Keep4 Ts Vs := fun m T h4 hm => k m T h4 (h m T h4 hm)
theorem Keep4.set {i : Nat} (hi : i < 4) (Ts : List Thing) (T : Thing) : Keep4 Ts (Ts.set i T) := fun m U h4 hm => by rw [List.getElem?_set_ne (by omega)]; exact hm
theorem Keep4.stay {Ts Us : List Thing} (h : Stay 2 1 Ts Us) : Keep4 Ts Us := fun m T h4 hm => h m T (by omega) (by omega) hm
theorem RcIn.keep4 {Ts Us : List Thing} {i j y : Nat} {c : CfgV} {lim N : Nat} {t : CS} (r : RcIn Ts i j y c lim N t) (h : Keep4 Ts Us) (hi : Us[i]? = Ts[i]?) (hj : Us[j]? = Ts[j]?) : RcIn Us i j y c lim N t := by
  obtain ⟨k, ar, la, lc, L, r⟩ := r
  exact ⟨k, ar, la, lc, L, hi.trans r.row, hj.trans r.ref, h _ _ r.lo r.sl, r.ij, r.ki, r.kj, r.rep, r.cnt, r.lo⟩
theorem CopyAt.keep4 {Ts Us : List Thing} {x y : Nat} {c : CfgV} {lim N : Nat} {t : CS} (h : CopyAt Ts x y c lim N t) (k : Keep4 Ts Us) : CopyAt Us x y c lim N t := by
  obtain ⟨e, i, j, he, hi, hj, h1, k0, ar, la, lc, L, r⟩ := h
  exact ⟨e, i, j, he, hi, hj, k _ _ he h1, k0, ar, la, lc, L, k _ _ hi r.row, k _ _ hj r.ref, k _ _ r.lo r.sl, r.ij, r.ki, r.kj, r.rep, r.cnt, r.lo⟩
section
variable {W w : World} {x y : Nat} {c : CfgV} {lim N : Nat} {t : CS} {b : Option Addr} {cb : Nat} {told : List Nat} {Ts : List Thing}
theorem PairAt.is_ (h : PairAt W x y c lim N t b cb told Ts w) : t.Is lim N := by
  obtain ⟨F, q⟩ := h.bag.eng h.eng; exact q.is_
theorem PairAt.skip (h : PairAt W x y c lim N t b cb told Ts w) {w' : World} (f : Fr none_ w w') : PairAt W x y c lim N t b cb told Ts w' := ⟨h.bag.keep0 f, h.eng, h.tl, h.rc⟩
theorem PairAt.hlen (h : PairAt W x y c lim N t b cb told Ts w) : 4 < Ts.length := by
  obtain ⟨k, ar, la, lc, L, r⟩ := h.rc
  have := (List.getElem?_eq_some_iff.1 r.sl).1
  have := r.lo
  by_cases e : k = 4
  · omega
  · omega
theorem PairAt.app (h : PairAt W x y c lim N t b cb told Ts w) {Us : List Thing} {w' : World} (hb : Bag W (Ts ++ Us) w') : PairAt W x y c lim N t b cb told (Ts ++ Us) w' := by
  have hl := h.hlen
  have ap : ∀ q, q < Ts.length → (Ts ++ Us)[q]? = Ts[q]? := fun q hq => List.getElem?_append_left hq
  exact ⟨hb, by rw [ap 0 (by omega)]; exact h.eng, by rw [ap 3 (by omega)]; exact h.tl, h.rc.app Us⟩
/-- The copies. -/
theorem pair_copy (h : PairAt W x y c lim N t b cb told Ts w) :
    Calls Try.prog 21 #[.pointer (some ⟨x, 0, none⟩)] w fun e w' => ∃ x2, e = .returned (.pointer (some ⟨x2, 0, none⟩)) ∧ PairAt W x y c lim N t b cb told (Ts ++ [tEng x2 c lim N t]) w' :=
  (bg_copy h.bag h.eng).mono fun e w' ⟨x2, he, hb⟩ => ⟨x2, he, h.app hb⟩
theorem pair_copy2 {x2 : Nat} (h : PairAt W x y c lim N t b cb told (Ts ++ [tEng x2 c lim N t]) w) (h4 : 4 ≤ Ts.length) :
    Calls Try.prog 27 #[.pointer (some ⟨y, 0, none⟩)] w fun e w' => ∃ y2 Us, e = .returned (.pointer (some ⟨y2, 0, none⟩)) ∧ PairAt W x y c lim N t b cb told Us w' ∧ CopyAt Us x2 y2 c lim N t := by
  refine (bg_rcopy17 h.bag h.rc h.is_).mono ?_
  rintro e w' ⟨z, k, ar, ar', la, lc, L, he, r, hb⟩
  rw [List.append_assoc] at hb
  refine ⟨z, _, he, h.app hb, Ts.length, Ts.length + 2, Ts.length + 1, h4, by omega, by omega, ?_, k, ar', la, lc, L, ?_, ?_, ?_, by omega, ?_, ?_, r.rep, r.cnt, r.lo⟩
  · rw [List.getElem?_append_left (by simp), List.getElem?_append_right (Nat.le_refl _), Nat.sub_self]; rfl
  · rw [List.getElem?_append_right (by simp)]; simp
  · rw [List.getElem?_append_right (by simp)]; simp
  · have hk := (List.getElem?_eq_some_iff.1 r.sl).1
    rw [List.getElem?_append_left hk]; exact r.sl
  · have hk := (List.getElem?_eq_some_iff.1 r.sl).1
    simp at hk; omega
  · intro e
    have hk := r.sl
    have hk2 := (List.getElem?_eq_some_iff.1 r.sl).1
    simp at hk2; omega
/-- The engine's step. -/
theorem pair_do (h : PairAt W x y c lim N t b cb told Ts w) (hN : N < big) {s : StepC} (hs : s.In) (hsz : s.v.val.size ≤ maxLen) (hlen : told.length ≤ 1000000) (ht : allLt told) :
    Calls Try.prog 28 #[.agg s.list.toArray, .pointer (some ⟨x, 0, none⟩), .slice b told.length cb] w fun e w' => e = .returned (.tuple #[.int .u64 ((s.does lim told t).1 : Int), .int .i64 ((s.does lim told t).2.1 : Int)]) ∧ Bag W (Ts.set 0 (tEng x c lim (N + 1) (s.does lim told t).2.2)) w' :=
  bg_do h.bag h.eng hN hs hsz h.tl hlen ht
theorem pair_ref {t' : CS} {M : Nat} {w1 : World} (h : PairAt W x y c lim N t b cb told Ts w) (hb : Bag W (Ts.set 0 (tEng x c lim M t')) w1) (hN : N < 100000) (hM : M = N + 1) (hlim : c.valLen = lim) (hl256 : lim ≤ 256) {s : StepC} (hs : s.In) (hsz : s.v.val.size ≤ maxLen) (hlen : told.length ≤ 1000000) (ht : allLt told) (ht' : t' = (s.does lim told t).2.2) :
    Calls Try.prog 29 #[.agg s.list.toArray, .pointer (some ⟨y, 0, none⟩), .slice b told.length cb] w1 fun e w' => e = .returned (.tuple #[.int .u64 ((s.does lim told t).1 : Int), .int .i64 ((s.does lim told t).2.1 : Int)]) ∧ ∃ Us, PairAt W x y c lim (N + 1) t' b cb told Us w' ∧ Keep4 Ts Us := by
  have h0 : 0 < Ts.length := by have := h.hlen; omega
  have r1 : RcIn (Ts.set 0 (tEng x c lim M t')) 2 1 y c lim N t := h.rc.keep4 (Keep4.set (by omega) _ _) (List.getElem?_set_ne (by omega)) (List.getElem?_set_ne (by omega))
  have hj : (Ts.set 0 (tEng x c lim M t'))[3]? = some (tSl b told.length cb 34 1 (told.map hvU)) := by rw [List.getElem?_set_ne (by omega)]; exact h.tl
  refine (bg_refdo hb r1 h.is_ hN hlim hl256 s hs hsz hj hlen ht).mono ?_
  rintro e w' ⟨he, Us, h1, h2, h3⟩
  refine ⟨he, Us, ⟨h1, h3 0 _ (by omega) (by omega) (by rw [List.getElem?_set_self h0, hM]), h3 3 _ (by omega) (by omega) hj, by rw [ht']; exact h2⟩, (Keep4.set (by omega) _ _).trans (Keep4.stay h3)⟩
theorem pair_told (h : PairAt W x y c lim N t b cb told Ts w) {u : Nat} {b' : Option Addr} {cb' : Nat} {w' : World} {o : Obj} (hs : SlAt w' b' (told.length + 1) cb' 34 1 (told.map hvU ++ [hvU u])) (f : Fr (blk b) (w.alloc o) w') (hb : ∀ k, blk b' k → blk b k ∨ (w.alloc o).heap.size ≤ k) :
    ∃ Us, PairAt W x y c lim N t b' cb' (told ++ [u]) Us w' ∧ Keep4 Ts Us := by
  have hl := h.hlen
  have hg := h.bag.appendedNew h.tl hs f hb
  refine ⟨_, ⟨hg, ?_, ?_, h.rc.keep4 (Keep4.set (by omega) _ _) (List.getElem?_set_ne (by omega)) (List.getElem?_set_ne (by omega))⟩, Keep4.set (by omega) _ _⟩
  · rw [List.getElem?_set_ne (by omega)]; exact h.eng
  · rw [List.getElem?_set_self (by omega), List.length_append, List.map_append]; rfl
/-- The pair is alike; a copy is too. -/
theorem pair_like (h : PairAt W x y c lim N t b cb told Ts w) (hN : N ≤ 100000) (hlen : told.length ≤ 1000000) (ht : allLt told) :
    Calls Try.prog 31 #[.pointer (some ⟨x, 0, none⟩), .pointer (some ⟨y, 0, none⟩), .slice b told.length cb] w fun e w' => e = .returned (.bool true) ∧ Fr none_ w w' :=
  like_any h.bag h.eng (by unfold big; omega) h.rc (Nat.le_trans h.is_.up.used hN) (h.bag.sl h.tl) hlen ht
theorem copy_like {x2 y2 M : Nat} {t2 : CS} (h : PairAt W x y c lim N t b cb told Ts w) (k : CopyAt Ts x2 y2 c lim M t2) (hM : M ≤ 100000) (hlen : told.length ≤ 1000000) (ht : allLt told) :
    Calls Try.prog 31 #[.pointer (some ⟨x2, 0, none⟩), .pointer (some ⟨y2, 0, none⟩), .slice b told.length cb] w fun e w' => e = .returned (.bool true) ∧ Fr none_ w w' := by
  obtain ⟨e, i, j, _, _, _, h1, h2⟩ := k
  have hi : t2.Is lim M := by obtain ⟨F, q⟩ := h.bag.eng h1; exact q.is_
  exact like_any h.bag h1 (by unfold big; omega) h2 (Nat.le_trans hi.up.used hM) (h.bag.sl h.tl) hlen ht
end
end Go.Proofs.Yteefcfndlggajaa
