/-
  Package undo: an engine among other things in memory ('tUn').
-/
import Derived.Test.YtckkccnebjacdaaUnList
import Derived.Test.YtckkccnebjacdaaBag
namespace Go.Proofs.Ytckkccnebjacdaa
open Go.RowKit
set_option linter.unusedVariables false
set_option linter.unusedSimpArgs false
set_option maxRecDepth 100000

def tUn (x : Nat) (c : CfgV) (vl N : Nat) (t : US) : Thing where
  at_ F w := Un F w x c vl N t
  keep F G w w' h f hn := h.kept f hn
  lt F w h k hk := h.lt k hk
theorem ovList_ver (l : List OV) : ovList l = (l.map OV.ver).flatMap verL := by
  unfold ovList
  rw [List.flatMap_map]; rfl
section
variable {W w w' : World} {Ts : List Thing} {i x N vl : Nat} {c : CfgV} {t : US}
theorem Bag.un (h : Bag W Ts w) (hi : Ts[i]? = some (tUn x c vl N t)) : ∃ F, Un F w x c vl N t := by
  obtain ⟨F, h, _⟩ := h.get hi; exact ⟨F, h⟩
theorem bu_used (h : Bag W Ts w) (hi : Ts[i]? = some (tUn x c vl N t)) {q : Int} (hq : (t.s.used : Int) = q) : Calls Try.prog 12 #[.pointer (some ⟨x, 0, none⟩)] w fun e w' => e = .returned (.int .i64 q) ∧ w = w' := by
  subst hq; obtain ⟨F, hc⟩ := h.un hi; exact un_used hc
theorem bu_list (h : Bag W Ts w) (hi : Ts[i]? = some (tUn x c vl N t)) (hN : N ≤ 1000000) {top : Nat} (htop : top < 18446744073709551616) (l : List VerV) (hl : (t.list top).map OV.ver = l) (n : Nat) (hn : l.length = n) :
    Calls Try.prog 11 #[.pointer (some ⟨x, 0, none⟩), .int .u64 (top : Int)] w fun e w' => ∃ a cap, e = .returned (.slice a n cap) ∧ LsAt w' a 4 verL l ∧ Fr none_ w w' := by
  obtain ⟨F, hc⟩ := h.un hi
  refine (un_list hc hN htop).mono ?_
  rintro e w1 ⟨a, cap, he, hs, f, hb⟩
  have hlen : (t.list top).length = n := by rw [← hn, ← hl, List.length_map]
  rw [ovList_ver, hl, hlen] at hs
  rw [hlen] at he
  exact ⟨a, cap, he, hs.ls (fun _ => rfl) hn.symm, f⟩
theorem bu_record (h : Bag W Ts w) (hi : Ts[i]? = some (tUn x c vl N t)) {hd : Nat} (hh : hd < 18446744073709551616) (v : VerV) (hv : v.val.size ≤ 140737488351232) (o : Option (OV × Nat)) (ho : t.record hd v.val.data.toList = o) : Calls Try.prog 18 #[.pointer (some ⟨x, 0, none⟩), .int .u64 (hd : Int), .agg v.cells] w fun e w' => e = .returned (.tuple #[.agg (ovCells o), .int .u64 (ovNx o : Int), .bool o.isSome]) ∧ Fr none_ w w' := by
  subst ho; obtain ⟨F, hc⟩ := h.un hi; exact un_record hc hh v hv
theorem bu_segment (h : Bag W Ts w) (hi : Ts[i]? = some (tUn x c vl N t)) (hN : N ≤ 1000000000) (k : Int) (l : List Nat) (hl : t.seg k = l) (n : Nat) (hn : l.length = n) :
    Calls Try.prog 23 #[.pointer (some ⟨x, 0, none⟩), .int .i64 k] w fun e w' => ∃ a cap, e = .returned (.slice a n cap) ∧ LsAt w' a 1 hvC l ∧ Fr none_ w w' := by
  subst hl; subst hn
  obtain ⟨F, hc⟩ := h.un hi
  refine (un_segment hc hN k).mono ?_
  rintro e w1 ⟨a, cap, he, hs, f, hb⟩
  exact ⟨a, cap, he, hs.ls1 (enc := hvN) rfl, f⟩
theorem bu_mk (h : Bag W Ts w) (hi : Ts[i]? = some (tUn x c vl N t)) (hN : N < big) (v : VerV) (hs : v.val.size ≤ 140737488351232) (hvw : v.wr < 9223372036854775808) {nx : Nat} (hnx : nx < 18446744073709551616) {q p : Nat} {t' : US} (hq : t.mkr vl v nx = (q, p, t')) :
    Calls Try.prog 20 #[.pointer (some ⟨x, 0, none⟩), .agg v.cells, .int .u64 (nx : Int)] w fun e w' => e = .returned (.tuple #[.int .u64 (q : Int), .int .i64 (p : Int)]) ∧ Bag W (Ts.set i (tUn x c vl (N + 1) t')) w' :=
  h.call (R := fun e => e = .returned (.tuple #[.int .u64 (q : Int), .int .i64 (p : Int)])) hi (fun F hF => by have := un_mk hF hN v hs hvw hnx; rw [hq] at this; exact this)
theorem bu_save (h : Bag W Ts w) (hi : Ts[i]? = some (tUn x c vl N t)) (hN : N < big) (u v : VerV) (hs : u.val.size ≤ 140737488351232) (hs2 : v.val.size ≤ 140737488351232) (huw : u.wr < 9223372036854775808) (hvw : v.wr < 9223372036854775808) {nx : Nat} (hnx : nx < 18446744073709551616) {q p : Nat} {t' : US} (hq : t.save vl u nx v = (q, p, t')) :
    Calls Try.prog 14 #[.pointer (some ⟨x, 0, none⟩), .agg u.cells, .int .u64 (nx : Int), .agg v.cells] w fun e w' => e = .returned (.tuple #[.int .u64 (q : Int), .int .i64 (p : Int)]) ∧ Bag W (Ts.set i (tUn x c vl (N + 1) t')) w' :=
  h.call (R := fun e => e = .returned (.tuple #[.int .u64 (q : Int), .int .i64 (p : Int)])) hi (fun F hF => by have := un_save hF hN u v hs hs2 huw hvw hnx; rw [hq] at this; exact this)
theorem bu_change (h : Bag W Ts w) (hi : Ts[i]? = some (tUn x c vl N t)) (v : VerV) (hs : v.val.size ≤ 140737488351232) (hvw : v.wr < 9223372036854775808) {hd nx : Nat} (hh : hd < 18446744073709551616) (hnx : nx < 18446744073709551616) {q : Nat} {t' : US} (hq : t.change vl hd v nx = (q, t')) :
    Calls Try.prog 16 #[.pointer (some ⟨x, 0, none⟩), .int .u64 (hd : Int), .agg v.cells, .int .u64 (nx : Int)] w fun e w' => e = .returned (.int .i64 (q : Int)) ∧ Bag W (Ts.set i (tUn x c vl N t')) w' :=
  h.call (R := fun e => e = .returned (.int .i64 (q : Int))) hi (fun F hF => (un_change hF v hs hvw hh hnx).mono fun e w' h1 => by rw [hq] at h1; exact ⟨h1.1, F, h1.2.1, h1.2.2, Grow.refl _ _⟩)
theorem bu_cut (h : Bag W Ts w) (hi : Ts[i]? = some (tUn x c vl N t)) {hd : Nat} (hh : hd < 18446744073709551616) {q : Nat} {t' : US} (hq : t.cut hd = (q, t')) :
    Calls Try.prog 9 #[.pointer (some ⟨x, 0, none⟩), .int .u64 (hd : Int)] w fun e w' => e = .returned (.int .i64 (q : Int)) ∧ Bag W (Ts.set i (tUn x c vl N t')) w' :=
  h.call (R := fun e => e = .returned (.int .i64 (q : Int))) hi (fun F hF => (un_cut hF hh).mono fun e w' h1 => by rw [hq] at h1; exact ⟨h1.1, F, h1.2.1, h1.2.2, Grow.refl _ _⟩)
theorem bu_free (h : Bag W Ts w) (hi : Ts[i]? = some (tUn x c vl N t)) (hN : N < big) (hN9 : N ≤ 1000000000) {hd : Nat} (hh : hd < 18446744073709551616) {q : Nat} {t' : US} (hq : t.free hd = (q, t')) :
    Calls Try.prog 13 #[.pointer (some ⟨x, 0, none⟩), .int .u64 (hd : Int)] w fun e w' => e = .returned (.int .i64 (q : Int)) ∧ Bag W (Ts.set i (tUn x c vl N t')) w' :=
  h.call (R := fun e => e = .returned (.int .i64 (q : Int))) hi (fun F hF => (un_free hF hN hN9 hh).mono fun e w' h1 => by
    rw [hq] at h1
    obtain ⟨h1, ⟨G', h2, h3⟩, h4⟩ := h1
    exact ⟨h1, G', h2, h4, h3⟩)
theorem bu_pop (h : Bag W Ts w) (hi : Ts[i]? = some (tUn x c vl N t)) (hN : N < big) (hN9 : N ≤ 1000000000) (k : Int) {q : Option Nat} {t' : US} (hq : t.pop k = (q, t')) :
    Calls Try.prog 24 #[.pointer (some ⟨x, 0, none⟩), .int .i64 k] w fun e w' => e = .returned (.tuple #[.int .u64 (popH q : Int), .bool q.isSome]) ∧ Bag W (Ts.set i (tUn x c vl N t')) w' :=
  h.call (R := fun e => e = .returned (.tuple #[.int .u64 (popH q : Int), .bool q.isSome])) hi (fun F hF => (un_pop hF hN hN9 k).mono fun e w' h1 => by
    rw [hq] at h1
    obtain ⟨h1, ⟨G', h2, h3⟩, h4⟩ := h1
    exact ⟨h1, G', h2, h4, h3⟩)
theorem bu_new (h : Bag W Ts w) (c : CfgV) (hc : c.may = true) (hlim : c.valLen = vl) (hl : vl ≤ 256) :
    Calls Try.prog 7 #[.agg c.cells] w fun e w' => ∃ x, e = .returned (.tuple #[.pointer (some ⟨x, 0, none⟩), .int .i64 0]) ∧ Bag W (Ts ++ [tUn x c vl 0 (US.new vl)]) w' := by
  refine (Undo_New_yes w c hc vl hlim hl).mono ?_
  rintro e w1 ⟨x, a, m, F, he, hu, f1, hx, hm, hF⟩
  refine ⟨x, he, h.add (T := tUn x c vl 0 (US.new vl)) (F := fun k => k = x ∨ F k ∨ segOwn m [] k) f1 ⟨a, m, F, [], ⟨hu, US.Is.new hl, hl, hlim, fun k => rfl, Nat.le_refl _⟩, rfl⟩ ?_⟩
  rintro k (rfl | q | q)
  · exact hx
  · exact hF k q
  · rcases q with rfl | ⟨p, hp, _⟩
    · exact hm
    · simp at hp
end
end Go.Proofs.Ytckkccnebjacdaa
