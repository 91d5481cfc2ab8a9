/-
  The reference of layer 3: Free.
-/
import Derived.Test.YtdbnopfpopeefaaRp3
namespace Go.Proofs.Ytdbnopfpopeefaa
open Go.RowKit
set_option linter.unusedVariables false
set_option linter.unusedSimpArgs false
set_option maxRecDepth 100000

section
variable {w w' : World} {x : Nat} {ba ua ka : Option Addr} {bc uc kc : Nat} {s : PS} {Bs : List ByteArray}
theorem two_new {w1 w3 w5 : World} {o1 o2 : Obj} {a0 a3 a5 : Option Addr} (h0 : ∀ k, blk a0 k → w1.heap.size ≤ k) (f3 : Fr (blk a0) (w1.alloc o1) w3) (hb3 : ∀ k, blk a3 k → blk a0 k ∨ (w1.alloc o1).heap.size ≤ k)
    (f5 : Fr (blk a3) (w3.alloc o2) w5) (hb5 : ∀ k, blk a5 k → blk a3 k ∨ (w3.alloc o2).heap.size ≤ k) : Fr none_ w1 w5 ∧ ∀ k, blk a5 k → w1.heap.size ≤ k := by
  have g1 : Fr none_ w1 w3 := (Fr.alloc none_ w1 o1).step f3 (fun i hi e => by have := h0 i e; omega)
  have z1 := (Fr.alloc none_ w1 o1).size
  have h3 : ∀ k, blk a3 k → w1.heap.size ≤ k := fun k hk => by
    rcases hb3 k hk with q | q
    · exact h0 k q
    · omega
  have g2 := g1.trans (Fr.alloc none_ w3 o2)
  have z2 := g2.size
  refine ⟨g2.step f5 (fun i hi e => by have := h3 i e; omega), fun k hk => ?_⟩
  rcases hb5 k hk with q | q
  · exact h3 k q
  · omega
theorem RPost.same (h : RPAt w x ba ua ka bc uc kc s Bs) : RPost w x ba ua ka s w := ⟨_, _, _, _, _, _, _, h, fun k hk => Or.inl hk, Fr.refl _ _⟩
set_option maxHeartbeats 1000000 in
theorem Rp_Free (h : RPAt w x ba ua ka bc uc kc s Bs) (hw : s.WF) (off : Nat) (ho : off < 65536) :
    Calls Try.prog 37 #[.pointer (some ⟨x, 0, none⟩), .int .u16 (off : Int)] w fun e w' => e = .returned (.int .i64 ((freeR s off).1 : Int)) ∧ RPost w x ba ua ka (freeR s off).2 w' := by
  have G := Lib.hid (Rp_place h hw off ho)
  have H := Lib.hid h
  cases ha : s.at_ off with
  | none =>
    have hr : freeR s off = (5, s) := by unfold freeR; rw [ha]; rfl
    rw [hr]
    rw [ha] at G
    simp only [Option.isSome_none] at G
    generalize placeOf s off = K at G
    clear h ha hr
    go_enter Try.func37, Try.ntmps37
    go_wp2_with fail
    refine G.out.mono ?_
    rintro e w1 ⟨rfl, rfl⟩
    go_wp2_with fail
    go_ret
    exact ⟨rfl, RPost.same H.out⟩
  | some bs =>
    have hr : freeR s off = (0, s.free (off / s.slot)) := by unfold freeR; rw [ha]; rfl
    rw [hr]
    have hpl : placeOf s off = off / s.slot := by unfold placeOf; rw [ha]; rfl
    rw [ha, hpl] at G
    have hk := (PS.at_some ha).2
    have hlt := (List.getElem?_eq_some_iff.1 hk).1
    have hn := hw.nslots
    have hbl : s.back.length ≤ 2048 := by
      have hsub := List.Nodup.length_le_of_subset (l₂ := List.range s.slots.length) hw.nodup (fun j hj => List.mem_range.2 (List.getElem?_eq_some_iff.1 ((hw.backs j).1 hj)).1)
      rw [List.length_range] at hsub
      omega
    obtain ⟨g, rfl⟩ := h.us.isAddr (by omega)
    have cu := h.us.cell (usesOf_get hk)
    simp only [Option.isSome_some] at cu G
    have zu := h.us.free (off / s.slot)
    have c2 := h.c2
    generalize hKK : off / s.slot = K at G cu zu hlt hk ⊢
    obtain ⟨q1, fq1⟩ := h.raw.u_set K (.bool false)
    have q2 := q1.kept0 (Fr.alloc none_ _ (.cells #[] 3))
    have c3 := q2.c3
    have m0 := SlAt.made' (w.setCell ⟨g, K, none⟩ (.bool false)) 3 1
    have he : (w.setCell ⟨g, K, none⟩ (.bool false)).heap.size = w.heap.size := by simp
    rw [he] at m0
    have Q1 := Lib.hid q1
    have H0 := Lib.hid (show ∀ k, blk (some ⟨w.heap.size, 0, none⟩) k → (w.setCell ⟨g, K, none⟩ (.bool false)).heap.size ≤ k from fun k hk => by rw [blk_some] at hk; omega)
    have FQ1 := Lib.hid fq1
    have HK := Lib.hid hk
    obtain ⟨n, hnn⟩ : ∃ n, n = s.slots.length := ⟨_, rfl⟩
    obtain ⟨nb, hnb⟩ : ∃ nb, nb = s.back.length := ⟨_, rfl⟩
    have hks := q2.ks
    rw [← hnn] at hlt hn c2
    rw [← hnb] at hbl c3 hks
    have HNB := Lib.hid hnb
    clear ha hr hpl hk hKK h q1 fq1 q2 hnn hnb hw
    have hKb : K ≤ 65535 := by omega
    go_enter Try.func37, Try.ntmps37
    go_wp2_with fail
    refine G.out.mono ?_
    rintro e w1 ⟨rfl, rfl⟩
    go_wp2_with (first
      | ((with_reducible refine at_slot 27 ?_); refine wpAppendS rfl _ _ _ rfl 3 (.int .i64 0) 1 8 Try.underlying53 rp_int_info rfl m0 hks rfl rfl (by intro u hu; obtain ⟨_, _, rfl⟩ := List.mem_map.1 hu; rfl) (by simp [maxLen]; omega) (by omega) ?_; intro a3 k3 w3 hs3 f3 hb3; rw [Nat.zero_add, List.nil_append] at hs3)
      | ((with_reducible refine at_slot 30 ?_); refine wpAppendS rfl _ _ _ rfl 3 (.int .i64 0) 1 8 Try.underlying53 rp_int_info rfl (hs3.kept0 (Fr.alloc none_ _ (.cells #[.int .i64 (K : Int)] 3))) (SlAt.one w3 3 (.int .i64 (K : Int))) rfl rfl (by intro u hu; simp at hu; subst hu; rfl) (by simp [maxLen]; omega) (by omega) ?_; intro a5 k5 w5 hs5 f5 hb5; have N5 := two_new H0.out f3 hb3 f5 hb5; have q5 := Q1.out.kept0 N5.1; have c35 := q5.c3; have z35 := q5.z 3))
    have hlt5 := Q1.out.lt
    obtain ⟨q6, f6⟩ := q5.k_put hs5 (fun k hk e => by
      have := N5.2 k hk
      have := hlt5 k (by rcases e with e | e | e; exact Or.inl e; exact Or.inr (Or.inl e); exact Or.inr (Or.inr (Or.inl e)))
      omega)
    go_ret
    have e1 : (s.free K).slots.length = s.slots.length := by simp [PS.free]
    have e2 : (s.free K).back.length = s.back.length + 1 := by simp [PS.free]
    have e4 : (s.free K).back.reverse.map intN = s.back.reverse.map intN ++ [.int .i64 (K : Int)] := by simp [PS.free, intN]
    refine ⟨rfl, ba, some ⟨g, 0, none⟩, a5, bc, uc, k5, Bs, RR.up (s := s.free K) ?_ ?_, ?_, ?_⟩
    · rw [e1, e2, e4, uses_free, ← HNB.out]
      exact q6
    · intro j b hj
      have hj' : (s.slots.set K none)[j]? = some (some b) := hj
      rw [List.getElem?_set] at hj'
      split at hj'
      · split at hj' <;> cases hj'
      · exact H.out.val j b hj'
    · intro k hk
      rcases hk with e | e | e | e
      · exact Or.inl (Or.inl e)
      · exact Or.inl (Or.inr (Or.inl e))
      · exact Or.inl (Or.inr (Or.inr (Or.inl e)))
      · right
        have := N5.2 k e
        rw [he] at this
        exact this
    · exact (FQ1.out.trans N5.1.none).trans f6
end
end Go.Proofs.Ytdbnopfpopeefaa
