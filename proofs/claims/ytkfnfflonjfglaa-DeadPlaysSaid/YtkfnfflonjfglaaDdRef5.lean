/-
  The reference of layer 10: Add whatever comes, Copy.
-/
import Derived.Test.YtkfnfflonjfglaaDdRef4
import Derived.Test.YtkfnfflonjfglaaDdRef2
import Derived.Test.YtkfnfflonjfglaaDdLnk
import Derived.Test.YtkfnfflonjfglaaAppend0
namespace Go.Proofs.Ytkfnfflonjfglaa
open Go.RowKit
set_option linter.unusedVariables false
set_option linter.unusedSimpArgs false
set_option maxRecDepth 100000

theorem Ref_Add {w : World} {r : Nat} {a : Option Addr} {cap : Nat} {l : List Int} (h : RefAt w r a cap l) (hl : l.length ≤ 1000) (t : Int) :
    Calls Try.prog 23 #[.pointer (some ⟨r, 0, none⟩), .int .i64 t] w fun e w' => e = .returned (.int .i64 ((rAdd l t).1 : Int)) ∧ (∃ b bc, RefAt w' r b bc (rAdd l t).2 ∧ ∀ k, blk b k → blk a k ∨ w.heap.size ≤ k) ∧ Fr (one r) w w' := by
  by_cases h1 : t < 1
  · have e : rAdd l t = (1, l) := by unfold rAdd; rw [if_pos (Or.inl h1)]
    rw [e]
    have H := Lib.hid h
    clear h
    go_enter Try.func23, Try.ntmps23
    go_wp2_with fail
    go_ret
    first | exact ⟨rfl, ⟨a, cap, H.out, fun k hk => Or.inl hk⟩, Fr.refl _ _⟩ | exact ⟨rfl, ⟨a, ⟨cap, H.out⟩, fun k hk => Or.inl hk⟩, Fr.refl _ _⟩
  by_cases h2 : 1048576 < t
  · have e : rAdd l t = (1, l) := by unfold rAdd; rw [if_pos (Or.inr h2)]
    rw [e]
    have H := Lib.hid h
    clear h
    go_enter Try.func23, Try.ntmps23
    go_wp2_with fail
    go_ret
    first | exact ⟨rfl, ⟨a, cap, H.out, fun k hk => Or.inl hk⟩, Fr.refl _ _⟩ | exact ⟨rfl, ⟨a, ⟨cap, H.out⟩, fun k hk => Or.inl hk⟩, Fr.refl _ _⟩
  by_cases h3 : 64 ≤ l.length
  · have e : rAdd l t = (41, l) := by unfold rAdd; rw [if_neg (by omega), if_pos h3]
    rw [e]
    have H := Lib.hid h
    have c0 := h.c0
    have hl2 : (64 : Int) ≤ (l.length : Int) := by omega
    clear h
    go_enter Try.func23, Try.ntmps23
    go_wp2_with fail
    go_ret
    first | exact ⟨rfl, ⟨a, cap, H.out, fun k hk => Or.inl hk⟩, Fr.refl _ _⟩ | exact ⟨rfl, ⟨a, ⟨cap, H.out⟩, fun k hk => Or.inl hk⟩, Fr.refl _ _⟩
  · have e : rAdd l t = (0, insT t l) := by unfold rAdd; rw [if_neg (by omega), if_neg h3]
    rw [e]
    exact Ref_Add_in h t h1 h2 (by omega)

theorem SlAt.made (w : World) (e : TypeId) : SlAt (w.alloc (.cells #[] e)) (some ⟨w.heap.size, 0, none⟩) 0 0 e 1 [] := by
  refine ⟨rfl, Nat.le_refl _, Nat.zero_le _, (fun h => by cases h), ?_⟩
  intro ad had
  cases had
  exact ⟨rfl, rfl, _, Row.new w _ e, rfl, rfl⟩

set_option maxHeartbeats 1000000 in
theorem Ref_Copy {w : World} {r : Nat} {a : Option Addr} {cap : Nat} {l : List Int} (h : RefAt w r a cap l) (hl : l.length ≤ 1000) :
    Calls Try.prog 22 #[.pointer (some ⟨r, 0, none⟩)] w fun e w' => ∃ r2 b bc, e = .returned (.pointer (some ⟨r2, 0, none⟩)) ∧ RefAt w' r2 b bc l ∧ Fr none_ w w' ∧ w.heap.size ≤ r2 ∧ ∀ k, blk b k → w.heap.size ≤ k := by
  have c0 := h.c0
  have f0 := Fr.alloc none_ w (.cells #[] 3)
  have hs0 := SlAt.made w 3
  have c1 := Fr.keep f0 c0
  by_cases hz : l = []
  · subst hz
    have H := Lib.hid h
    clear h
    go_enter Try.func22, Try.ntmps22
    go_wp2_with (at_builtin; refine wpAppend0 rfl _ _ _ rfl 3 (.int .i64 0) 1 8 Try.underlying31 int_info8 (Nat.le_refl 0) rfl _ _ rfl ?_)
    go_ret
    have f1 := Fr.alloc none_ (w.alloc (.cells #[] 3)) (.cells #[.slice (some ⟨w.heap.size, 0, none⟩) 0 0] 58)
    have hrow := Row.new (w.alloc (.cells #[] 3)) #[.slice (some ⟨w.heap.size, 0, none⟩) 0 0] 58
    have he : (w.alloc (.cells #[] 3)).heap.size = w.heap.size + 1 := by simp
    rw [he] at hrow
    refine ⟨_, _, _, rfl, ⟨hrow, hs0.kept0 f1, ?_⟩, f0.trans f1, by omega, ?_⟩
    · rw [blk_some]; omega
    · intro k hk; rw [blk_some] at hk; omega
  · have hp : 0 < l.length := List.length_pos_iff.2 hz
    obtain ⟨g, rfl⟩ := h.sl.isAddr hp
    have hcs : ∀ j u, (l.map (Value.int .i64))[j]? = some u → (w.alloc (.cells #[] 3)).cell? ((⟨g, 0, none⟩ : Addr).add j) = some u := by
      intro j u hu
      rw [Addr.add_lit, Nat.zero_add]; exact (h.sl.kept0 f0).cell hu
    have H := Lib.hid h
    have HCS := Lib.hid hcs
    clear h hcs hz
    go_enter Try.func22, Try.ntmps22
    go_wp2_with (at_builtin; refine wpAppend rfl _ _ _ rfl 3 (.int .i64 0) 1 8 Try.underlying31 int_info8 rfl hs0 rfl ⟨g, 0, none⟩ l.length cap (l.map (Value.int .i64)) rfl (by simp) HCS.out (by intro u hu; obtain ⟨q, _, rfl⟩ := List.mem_map.1 hu; rfl) hp (by simp [maxLen]; omega) (by omega) ?_; intro b bc w2 hs2 f2 hb2)
    go_ret
    have f1 := Fr.alloc none_ w2 (.cells #[.slice b (0 + l.length) bc] 58)
    have hnew : ∀ k, blk b k → w.heap.size ≤ k := by
      intro k hk
      rcases hb2 k hk with q | q
      · rw [blk_some] at q; omega
      · have := f0.size; omega
    have fw : Fr none_ w w2 := f0.step f2 (fun i hi e => by rw [blk_some] at e; omega)
    rw [Nat.zero_add] at f1
    simp only [Nat.zero_add, List.nil_append] at hs2 ⊢
    refine ⟨_, _, _, rfl, ⟨Row.new _ _ _, hs2.kept0 f1, ?_⟩, fw.trans f1, fw.size, hnew⟩
    intro q
    have := hs2.lt _ q
    omega
end Go.Proofs.Ytkfnfflonjfglaa
