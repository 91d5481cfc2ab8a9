/-
  The reference of layer 3: Copy (a region that draws its order: three appends, each to a slice that the region builds).
-/
import Derived.Test.YteefcfndlggajaaRp
import Derived.Test.YteefcfndlggajaaAppendS
namespace Go.Proofs.Yteefcfndlggajaa
open Go.RowKit
set_option linter.unusedVariables false
set_option linter.unusedSimpArgs false
set_option maxRecDepth 100000

section
variable {w w' : World} {x : Nat} {ba ua ka : Option Addr} {bc uc kc : Nat} {s : PS} {Bs : List ByteArray}
/-- A copy at y, of new blocks. -/
def RCopy (w : World) (s : PS) (e : Ending) (w' : World) : Prop :=
  ∃ y ba' ua' ka' bc' uc' kc' Bs', e = .returned (.pointer (some ⟨y, 0, none⟩)) ∧ RPAt w' y ba' ua' ka' bc' uc' kc' s Bs' ∧ (∀ k, rown y ba' ua' ka' k → w.heap.size ≤ k) ∧ Fr none_ w w'
theorem alloc_size (w : World) (o : Obj) : (w.alloc o).heap.size = w.heap.size + 1 := by simp
theorem rcopy_end {w w5 : World} {sl n nb C1 C2 C3 : Nat} {A1 A2 A3 : Option Addr} {Bv Uv Kv : List Value} {s : PS} {Bs : List ByteArray} (hE : sl = s.slot ∧ n = s.slots.length ∧ nb = s.back.length) (hV : Bv = Bs.map Value.string ∧ Uv = usesOf s ∧ Kv = s.back.reverse.map intN)
    (hv : ∀ (k : Nat) (b : List UInt8), s.slots[k]? = some (some b) → Bs[k]? = some (strOf b))
    (T : Tri w w5 9 4 3 A1 (0 + n) C1 ([] ++ Bv) A2 (0 + n) C2 ([] ++ Uv) A3 (0 + nb) C3 ([] ++ Kv)) :
    RCopy w s (.returned (.pointer (some ⟨w5.heap.size, 0, none⟩))) (w5.alloc (.cells #[.int .i64 (sl : Int), .slice A1 n C1, .slice A2 n C2, .slice A3 nb C3] 164)) := by
  simp only [Nat.zero_add, List.nil_append] at T
  obtain ⟨rfl, rfl, rfl⟩ := hE
  obtain ⟨rfl, rfl, rfl⟩ := hV
  have f := Fr.alloc none_ w5 (.cells #[.int .i64 (s.slot : Int), .slice A1 s.slots.length C1, .slice A2 s.slots.length C2, .slice A3 s.back.length C3] 164)
  have z := T.fr.size
  refine ⟨w5.heap.size, A1, A2, A3, C1, C2, C3, Bs, rfl, ⟨Row.new w5 _ _, T.s1.kept0 f, T.s2.kept0 f, T.s3.kept0 f, hv, fun e => ?_, fun e => ?_, fun e => ?_, T.d12, T.d13, T.d23⟩, ?_, T.fr.trans f⟩
  · have := T.s1.lt _ e; omega
  · have := T.s2.lt _ e; omega
  · have := T.s3.lt _ e; omega
  · intro k hk
    rcases hk with rfl | e | e | e
    · exact z
    · exact T.o1 k e
    · exact T.o2 k e
    · exact T.o3 k e
set_option maxHeartbeats 16000000 in
theorem Rp_Copy (h : RPAt w x ba ua ka bc uc kc s Bs) (hw : s.WF) :
    Calls Try.prog 79 #[.pointer (some ⟨x, 0, none⟩)] w fun e w' => RCopy w s e w' := by
  have hn := hw.nslots
  have hbl : s.back.length ≤ 2048 := by
    have hsub := List.Nodup.length_le_of_subset (l₂ := List.range s.slots.length) hw.nodup (fun j hj => List.mem_range.2 (List.getElem?_eq_some_iff.1 ((hw.backs j).1 hj)).1)
    rw [List.length_range] at hsub
    omega
  have c0 := h.c0
  have c1 := h.c1
  have c2 := h.c2
  have c3 := h.c3
  obtain ⟨Bv, hBv⟩ : ∃ Bv, Bv = Bs.map Value.string := ⟨_, rfl⟩
  obtain ⟨Uv, hUv⟩ : ∃ Uv, Uv = usesOf s := ⟨_, rfl⟩
  obtain ⟨Kv, hKv⟩ : ∃ Kv, Kv = s.back.reverse.map intN := ⟨_, rfl⟩
  have hob : ∀ u ∈ Bv, u.oneCell' = true := by rw [hBv]; intro u hu; obtain ⟨_, _, rfl⟩ := List.mem_map.1 hu; rfl
  have hou : ∀ u ∈ Uv, u.oneCell' = true := by rw [hUv]; intro u hu; obtain ⟨_, _, rfl⟩ := List.mem_map.1 hu; rfl
  have hok : ∀ u ∈ Kv, u.oneCell' = true := by rw [hKv]; intro u hu; obtain ⟨_, _, rfl⟩ := List.mem_map.1 hu; rfl
  have hb0 := h.bs
  have hu0 := h.us
  have hk0 := h.ks
  rw [← hBv] at hb0
  rw [← hUv] at hu0
  rw [← hKv] at hk0
  have HV := Lib.hid h.val
  have HBV := Lib.hid (And.intro hBv (And.intro hUv hKv))
  clear hBv hUv hKv h hw
  obtain ⟨sl, hsl⟩ : ∃ sl, sl = s.slot := ⟨_, rfl⟩
  obtain ⟨n, hnn⟩ : ∃ n, n = s.slots.length := ⟨_, rfl⟩
  obtain ⟨nb, hnb⟩ : ∃ nb, nb = s.back.length := ⟨_, rfl⟩
  rw [← hsl] at c0
  rw [← hnn] at c1 c2 hn hb0 hu0
  rw [← hnb] at c3 hbl hk0
  have HE := Lib.hid (And.intro hsl (And.intro hnn hnb))
  clear hsl hnn hnb
  have HB := Lib.hid hb0
  have HU := Lib.hid hu0
  have HK := Lib.hid hk0
  clear hb0 hu0 hk0
  have hS : ∀ w', Fr none_ w w' → (Fr none_ w w' ∧ w'.cell? ⟨x, 0, none⟩ = some (.int .i64 (sl : Int)) ∧ w'.cell? ⟨x, 1, none⟩ = some (.slice ba n bc) ∧ w'.cell? ⟨x, 2, none⟩ = some (.slice ua n uc) ∧ w'.cell? ⟨x, 3, none⟩ = some (.slice ka nb kc)) := fun w' f => ⟨f, Fr.keep f c0, Fr.keep f c1, Fr.keep f c2, Fr.keep f c3⟩
  go_enter Try.func79, Try.ntmps79
  go_wp2_with fail
  refine wp_region_held_drew (S := fun w' => Fr none_ w w' ∧ w'.cell? ⟨x, 0, none⟩ = some (.int .i64 (sl : Int)) ∧ w'.cell? ⟨x, 1, none⟩ = some (.slice ba n bc) ∧ w'.cell? ⟨x, 2, none⟩ = some (.slice ua n uc) ∧ w'.cell? ⟨x, 3, none⟩ = some (.slice ka nb kc)) (by kernel_rfl) (hS _ (Fr.drew _ _)) (fun hHeld => ?_)
  refine held_take 0 3 (v := ?_) rfl rfl (by kernel_rfl) (by kernel_rfl) (by kernel_rfl) (fun _ _ _ h => h) (by rfl) ?xy0 (by assumption) ?_
  case xy0 => (intro w hSw; (try dsimp only at hSw); go_simp; try (with_reducible rfl))
  try simp only [List.setIfInBounds_toArray, List.set_cons_zero, List.set_cons_succ]
  refine held_take 1 4 (v := ?_) rfl rfl (by kernel_rfl) (by kernel_rfl) (by kernel_rfl) (fun _ _ _ h => h) (by rfl) ?xy1 (by assumption) ?_
  case xy1 => (intro w hSw; (try dsimp only at hSw); go_simp; try (with_reducible rfl))
  try simp only [List.setIfInBounds_toArray, List.set_cons_zero, List.set_cons_succ]
  refine held_take 2 5 (v := ?_) rfl rfl (by kernel_rfl) (by kernel_rfl) (by kernel_rfl) (fun _ _ _ h => h) (by rfl) ?xy2 (by assumption) ?_
  case xy2 => (intro w hSw; (try dsimp only at hSw); go_simp; try (with_reducible rfl))
  try simp only [List.setIfInBounds_toArray, List.set_cons_zero, List.set_cons_succ]
  refine held_take 3 6 (v := ?_) rfl rfl (by kernel_rfl) (by kernel_rfl) (by kernel_rfl) (fun _ _ _ h => h) (by rfl) ?xy3 (by assumption) ?_
  case xy3 => (intro w hSw; (try dsimp only at hSw); go_simp; try (with_reducible rfl))
  try simp only [List.setIfInBounds_toArray, List.set_cons_zero, List.set_cons_succ]
  refine held_take 5 8 (v := ?_) rfl rfl (by kernel_rfl) (by kernel_rfl) (by kernel_rfl) (fun _ _ _ h => h) (by rfl) ?xy5 (by assumption) ?_
  case xy5 => (intro w hSw; (try dsimp only at hSw); go_simp; try (with_reducible rfl))
  try simp only [List.setIfInBounds_toArray, List.set_cons_zero, List.set_cons_succ]
  refine held_take 6 9 (v := ?_) rfl rfl (by kernel_rfl) (by kernel_rfl) (by kernel_rfl) (fun _ _ _ h => h) (by rfl) ?xy6 (by assumption) ?_
  case xy6 => (intro w hSw; (try dsimp only at hSw); go_simp; try (with_reducible rfl))
  try simp only [List.setIfInBounds_toArray, List.set_cons_zero, List.set_cons_succ]
  refine held_take 7 10 (v := ?_) rfl rfl (by kernel_rfl) (by kernel_rfl) (by kernel_rfl) (fun _ _ _ h => h) (by rfl) ?xy7 (by assumption) ?_
  case xy7 => (intro w hSw; (try dsimp only at hSw); go_simp; try (with_reducible rfl))
  try simp only [List.setIfInBounds_toArray, List.set_cons_zero, List.set_cons_succ]
  refine held_take 8 11 (v := ?_) rfl rfl (by kernel_rfl) (by kernel_rfl) (by kernel_rfl) (fun _ _ _ h => h) (by rfl) ?xy8 (by assumption) ?_
  case xy8 => (intro w hSw; (try dsimp only at hSw); go_simp; try (with_reducible rfl))
  try simp only [List.setIfInBounds_toArray, List.set_cons_zero, List.set_cons_succ]
  refine held_take 11 14 (v := ?_) rfl rfl (by kernel_rfl) (by kernel_rfl) (by kernel_rfl) (fun _ _ _ h => h) (by rfl) ?xy11 (by assumption) ?_
  case xy11 => (intro w hSw; (try dsimp only at hSw); go_simp; try (with_reducible rfl))
  try simp only [List.setIfInBounds_toArray, List.set_cons_zero, List.set_cons_succ]
  refine held_take 12 15 (v := ?_) rfl rfl (by kernel_rfl) (by kernel_rfl) (by kernel_rfl) (fun _ _ _ h => h) (by rfl) ?xy12 (by assumption) ?_
  case xy12 => (intro w hSw; (try dsimp only at hSw); go_simp; try (with_reducible rfl))
  try simp only [List.setIfInBounds_toArray, List.set_cons_zero, List.set_cons_succ]
  refine held_take 13 16 (v := ?_) rfl rfl (by kernel_rfl) (by kernel_rfl) (by kernel_rfl) (fun _ _ _ h => h) (by rfl) ?xy13 (by assumption) ?_
  case xy13 => (intro w hSw; (try dsimp only at hSw); go_simp; try (with_reducible rfl))
  try simp only [List.setIfInBounds_toArray, List.set_cons_zero, List.set_cons_succ]
  refine held_take 14 17 (v := ?_) rfl rfl (by kernel_rfl) (by kernel_rfl) (by kernel_rfl) (fun _ _ _ h => h) (by rfl) ?xy14 (by assumption) ?_
  case xy14 => (intro w hSw; (try dsimp only at hSw); go_simp; try (with_reducible rfl))
  try simp only [List.setIfInBounds_toArray, List.set_cons_zero, List.set_cons_succ]
  refine held_take 17 20 (v := ?_) rfl rfl (by kernel_rfl) (by kernel_rfl) (by kernel_rfl) (fun _ _ _ h => h) (by rfl) ?xy17 (by assumption) ?_
  case xy17 => (intro w hSw; (try dsimp only at hSw); go_simp; try (with_reducible rfl))
  try simp only [List.setIfInBounds_toArray, List.set_cons_zero, List.set_cons_succ]
  refine held_take 18 21 (v := ?_) rfl rfl (by kernel_rfl) (by kernel_rfl) (by kernel_rfl) (fun _ _ _ h => h) (by rfl) ?xy18 (by assumption) ?_
  case xy18 => (intro w hSw; (try dsimp only at hSw); go_simp; try (with_reducible rfl))
  try simp only [List.setIfInBounds_toArray, List.set_cons_zero, List.set_cons_succ]
  refine held_take 19 22 (v := ?_) rfl rfl (by kernel_rfl) (by kernel_rfl) (by kernel_rfl) (fun _ _ _ h => h) (by rfl) ?xy19 (by assumption) ?_
  case xy19 => (intro w hSw; (try dsimp only at hSw); go_simp; try (with_reducible rfl))
  try simp only [List.setIfInBounds_toArray, List.set_cons_zero, List.set_cons_succ]
  refine held_take 20 23 (v := ?_) rfl rfl (by kernel_rfl) (by kernel_rfl) (by kernel_rfl) (fun _ _ _ h => h) (by rfl) ?xy20 (by assumption) ?_
  case xy20 => (intro w hSw; (try dsimp only at hSw); go_simp; try (with_reducible rfl))
  try simp only [List.setIfInBounds_toArray, List.set_cons_zero, List.set_cons_succ]
  have T := Tri.start w w.drew 9 4 3 (Fr.drew _ _)
  refine wpAnyH_ready (rs := [4, 10, 16]) (by kernel_rfl) (by simp) ?_
  refine AllReadyH.cons rfl (fun K hK => ?_) ?_
  · go_simp
    have T := T.b1
    try simp only [alloc_size] at T
    refine hK.out _ _ (hS _ T.fr) (fun hHeld => ?_)
    clear hK K
    try simp only [Act.put, List.setIfInBounds_toArray, List.set_cons_zero, List.set_cons_succ]
    refine wpAnyH_ready (rs := [9, 10, 16]) (by kernel_rfl) (by simp) ?_
    refine AllReadyH.cons rfl (fun K hK => ?_) ?_
    · refine stepAppendS rfl _ _ _ rfl 9 (.string ByteArray.empty) 1 16 Try.underlying160 rp_str_info rfl T.s1 (HB.out.kept0 T.fr) rfl rfl hob (by simp [maxLen]; omega) (by omega) ?_
      intro A1 C1 w1 hs fA hb
      have T := T.to1 fA hs hb
      clear hs fA hb
      refine hK.out _ _ (hS _ T.fr) (fun hHeld => ?_)
      clear hK K
      try simp only [Act.put, List.setIfInBounds_toArray, List.set_cons_zero, List.set_cons_succ]
      refine wpAnyH_ready (rs := [10, 16]) (by kernel_rfl) (by simp) ?_
      refine AllReadyH.cons rfl (fun K hK => ?_) ?_
      · go_simp
        have T := T.b2
        try simp only [alloc_size] at T
        refine hK.out _ _ (hS _ T.fr) (fun hHeld => ?_)
        clear hK K
        try simp only [Act.put, List.setIfInBounds_toArray, List.set_cons_zero, List.set_cons_succ]
        refine wpAnyH_ready (rs := [15, 16]) (by kernel_rfl) (by simp) ?_
        refine AllReadyH.cons rfl (fun K hK => ?_) ?_
        · refine stepAppendS rfl _ _ _ rfl 4 (.bool false) 1 1 Try.underlying161 rp_bool_info rfl T.s2 (HU.out.kept0 T.fr) rfl rfl hou (by simp [maxLen]; omega) (by omega) ?_
          intro A2 C2 w2 hs fA hb
          have T := T.to2 fA hs hb
          clear hs fA hb
          refine hK.out _ _ (hS _ T.fr) (fun hHeld => ?_)
          clear hK K
          try simp only [Act.put, List.setIfInBounds_toArray, List.set_cons_zero, List.set_cons_succ]
          refine wpAnyH_ready (rs := [16]) (by kernel_rfl) (by simp) ?_
          refine AllReadyH.cons rfl (fun K hK => ?_) ?_
          · go_simp
            have T := T.b3
            try simp only [alloc_size] at T
            refine hK.out _ _ (hS _ T.fr) (fun hHeld => ?_)
            clear hK K
            try simp only [Act.put, List.setIfInBounds_toArray, List.set_cons_zero, List.set_cons_succ]
            refine wpAnyH_ready (rs := [21]) (by kernel_rfl) (by simp) ?_
            refine AllReadyH.cons rfl (fun K hK => ?_) ?_
            · refine stepAppendS rfl _ _ _ rfl 3 (.int .i64 0) 1 8 Try.underlying162 rp_int_info rfl T.s3 (HK.out.kept0 T.fr) rfl rfl hok (by simp [maxLen]; omega) (by omega) ?_
              intro A3 C3 w3 hs fA hb
              have T := T.to3 fA hs hb
              clear hs fA hb
              refine hK.out _ _ (hS _ T.fr) (fun hHeld => ?_)
              clear hK K
              try simp only [Act.put, List.setIfInBounds_toArray, List.set_cons_zero, List.set_cons_succ]
              refine held_take 22 25 (v := ?_) rfl rfl (by kernel_rfl) (by kernel_rfl) (by kernel_rfl) (fun _ _ _ h => h) (by rfl) ?ly (by assumption) ?_
              case ly => (intro w hSw; (try dsimp only at hSw); go_simp; try (with_reducible rfl))
              try simp only [Act.put, List.setIfInBounds_toArray, List.set_cons_zero, List.set_cons_succ]
              refine wpAnyH_ready (rs := [23]) (by kernel_rfl) (by simp) ?_
              refine AllReadyH.cons rfl (fun K hK => ?_) AllReadyH.nil
              go_simp
              refine hK.out _ _ (hS _ (T.fr.trans (Fr.alloc _ _ _))) (fun hHeld => ?_)
              clear hK K
              try simp only [Act.put, List.setIfInBounds_toArray, List.set_cons_zero, List.set_cons_succ]
              refine held_take 24 2 (v := ?_) rfl rfl (by kernel_rfl) (by kernel_rfl) (by kernel_rfl) (fun _ _ _ h => h) (by rfl) ?lz (by assumption) ?_
              case lz => (intro w hSw; (try dsimp only at hSw); go_simp; try (with_reducible rfl))
              try simp only [Act.put, List.setIfInBounds_toArray, List.set_cons_zero, List.set_cons_succ]
              refine wpAnyH_done (by kernel_rfl) ?_ _
              go_wp2_with fail
              go_ret
              exact rcopy_end HE.out HBV.out HV.out T
            exact AllReadyH.nil
          exact AllReadyH.nil
        refine AllReadyH.cons rfl (fun K hK => ?_) ?_
        · go_simp
          have T := T.b3
          try simp only [alloc_size] at T
          refine hK.out _ _ (hS _ T.fr) (fun hHeld => ?_)
          clear hK K
          try simp only [Act.put, List.setIfInBounds_toArray, List.set_cons_zero, List.set_cons_succ]
          refine wpAnyH_ready (rs := [15]) (by kernel_rfl) (by simp) ?_
          refine AllReadyH.cons rfl (fun K hK => ?_) ?_
          · refine stepAppendS rfl _ _ _ rfl 4 (.bool false) 1 1 Try.underlying161 rp_bool_info rfl T.s2 (HU.out.kept0 T.fr) rfl rfl hou (by simp [maxLen]; omega) (by omega) ?_
            intro A2 C2 w2 hs fA hb
            have T := T.to2 fA hs hb
            clear hs fA hb
            refine hK.out _ _ (hS _ T.fr) (fun hHeld => ?_)
            clear hK K
            try simp only [Act.put, List.setIfInBounds_toArray, List.set_cons_zero, List.set_cons_succ]
            refine wpAnyH_ready (rs := [21]) (by kernel_rfl) (by simp) ?_
            refine AllReadyH.cons rfl (fun K hK => ?_) ?_
            · refine stepAppendS rfl _ _ _ rfl 3 (.int .i64 0) 1 8 Try.underlying162 rp_int_info rfl T.s3 (HK.out.kept0 T.fr) rfl rfl hok (by simp [maxLen]; omega) (by omega) ?_
              intro A3 C3 w3 hs fA hb
              have T := T.to3 fA hs hb
              clear hs fA hb
              refine hK.out _ _ (hS _ T.fr) (fun hHeld => ?_)
              clear hK K
              try simp only [Act.put, List.setIfInBounds_toArray, List.set_cons_zero, List.set_cons_succ]
              refine held_take 22 25 (v := ?_) rfl rfl (by kernel_rfl) (by kernel_rfl) (by kernel_rfl) (fun _ _ _ h => h) (by rfl) ?ly (by assumption) ?_
              case ly => (intro w hSw; (try dsimp only at hSw); go_simp; try (with_reducible rfl))
              try simp only [Act.put, List.setIfInBounds_toArray, List.set_cons_zero, List.set_cons_succ]
              refine wpAnyH_ready (rs := [23]) (by kernel_rfl) (by simp) ?_
              refine AllReadyH.cons rfl (fun K hK => ?_) AllReadyH.nil
              go_simp
              refine hK.out _ _ (hS _ (T.fr.trans (Fr.alloc _ _ _))) (fun hHeld => ?_)
              clear hK K
              try simp only [Act.put, List.setIfInBounds_toArray, List.set_cons_zero, List.set_cons_succ]
              refine held_take 24 2 (v := ?_) rfl rfl (by kernel_rfl) (by kernel_rfl) (by kernel_rfl) (fun _ _ _ h => h) (by rfl) ?lz (by assumption) ?_
              case lz => (intro w hSw; (try dsimp only at hSw); go_simp; try (with_reducible rfl))
              try simp only [Act.put, List.setIfInBounds_toArray, List.set_cons_zero, List.set_cons_succ]
              refine wpAnyH_done (by kernel_rfl) ?_ _
              go_wp2_with fail
              go_ret
              exact rcopy_end HE.out HBV.out HV.out T
            exact AllReadyH.nil
          exact AllReadyH.nil
        exact AllReadyH.nil
      refine AllReadyH.cons rfl (fun K hK => ?_) ?_
      · go_simp
        have T := T.b3
        try simp only [alloc_size] at T
        refine hK.out _ _ (hS _ T.fr) (fun hHeld => ?_)
        clear hK K
        try simp only [Act.put, List.setIfInBounds_toArray, List.set_cons_zero, List.set_cons_succ]
        refine wpAnyH_ready (rs := [10]) (by kernel_rfl) (by simp) ?_
        refine AllReadyH.cons rfl (fun K hK => ?_) ?_
        · go_simp
          have T := T.b2
          try simp only [alloc_size] at T
          refine hK.out _ _ (hS _ T.fr) (fun hHeld => ?_)
          clear hK K
          try simp only [Act.put, List.setIfInBounds_toArray, List.set_cons_zero, List.set_cons_succ]
          refine wpAnyH_ready (rs := [15]) (by kernel_rfl) (by simp) ?_
          refine AllReadyH.cons rfl (fun K hK => ?_) ?_
          · refine stepAppendS rfl _ _ _ rfl 4 (.bool false) 1 1 Try.underlying161 rp_bool_info rfl T.s2 (HU.out.kept0 T.fr) rfl rfl hou (by simp [maxLen]; omega) (by omega) ?_
            intro A2 C2 w2 hs fA hb
            have T := T.to2 fA hs hb
            clear hs fA hb
            refine hK.out _ _ (hS _ T.fr) (fun hHeld => ?_)
            clear hK K
            try simp only [Act.put, List.setIfInBounds_toArray, List.set_cons_zero, List.set_cons_succ]
            refine wpAnyH_ready (rs := [21]) (by kernel_rfl) (by simp) ?_
            refine AllReadyH.cons rfl (fun K hK => ?_) ?_
            · refine stepAppendS rfl _ _ _ rfl 3 (.int .i64 0) 1 8 Try.underlying162 rp_int_info rfl T.s3 (HK.out.kept0 T.fr) rfl rfl hok (by simp [maxLen]; omega) (by omega) ?_
              intro A3 C3 w3 hs fA hb
              have T := T.to3 fA hs hb
              clear hs fA hb
              refine hK.out _ _ (hS _ T.fr) (fun hHeld => ?_)
              clear hK K
              try simp only [Act.put, List.setIfInBounds_toArray, List.set_cons_zero, List.set_cons_succ]
              refine held_take 22 25 (v := ?_) rfl rfl (by kernel_rfl) (by kernel_rfl) (by kernel_rfl) (fun _ _ _ h => h) (by rfl) ?ly (by assumption) ?_
              case ly => (intro w hSw; (try dsimp only at hSw); go_simp; try (with_reducible rfl))
              try simp only [Act.put, List.setIfInBounds_toArray, List.set_cons_zero, List.set_cons_succ]
              refine wpAnyH_ready (rs := [23]) (by kernel_rfl) (by simp) ?_
              refine AllReadyH.cons rfl (fun K hK => ?_) AllReadyH.nil
              go_simp
              refine hK.out _ _ (hS _ (T.fr.trans (Fr.alloc _ _ _))) (fun hHeld => ?_)
              clear hK K
              try simp only [Act.put, List.setIfInBounds_toArray, List.set_cons_zero, List.set_cons_succ]
              refine held_take 24 2 (v := ?_) rfl rfl (by kernel_rfl) (by kernel_rfl) (by kernel_rfl) (fun _ _ _ h => h) (by rfl) ?lz (by assumption) ?_
              case lz => (intro w hSw; (try dsimp only at hSw); go_simp; try (with_reducible rfl))
              try simp only [Act.put, List.setIfInBounds_toArray, List.set_cons_zero, List.set_cons_succ]
              refine wpAnyH_done (by kernel_rfl) ?_ _
              go_wp2_with fail
              go_ret
              exact rcopy_end HE.out HBV.out HV.out T
            exact AllReadyH.nil
          exact AllReadyH.nil
        exact AllReadyH.nil
      exact AllReadyH.nil
    refine AllReadyH.cons rfl (fun K hK => ?_) ?_
    · go_simp
      have T := T.b2
      try simp only [alloc_size] at T
      refine hK.out _ _ (hS _ T.fr) (fun hHeld => ?_)
      clear hK K
      try simp only [Act.put, List.setIfInBounds_toArray, List.set_cons_zero, List.set_cons_succ]
      refine wpAnyH_ready (rs := [9, 16]) (by kernel_rfl) (by simp) ?_
      refine AllReadyH.cons rfl (fun K hK => ?_) ?_
      · refine stepAppendS rfl _ _ _ rfl 9 (.string ByteArray.empty) 1 16 Try.underlying160 rp_str_info rfl T.s1 (HB.out.kept0 T.fr) rfl rfl hob (by simp [maxLen]; omega) (by omega) ?_
        intro A1 C1 w1 hs fA hb
        have T := T.to1 fA hs hb
        clear hs fA hb
        refine hK.out _ _ (hS _ T.fr) (fun hHeld => ?_)
        clear hK K
        try simp only [Act.put, List.setIfInBounds_toArray, List.set_cons_zero, List.set_cons_succ]
        refine wpAnyH_ready (rs := [15, 16]) (by kernel_rfl) (by simp) ?_
        refine AllReadyH.cons rfl (fun K hK => ?_) ?_
        · refine stepAppendS rfl _ _ _ rfl 4 (.bool false) 1 1 Try.underlying161 rp_bool_info rfl T.s2 (HU.out.kept0 T.fr) rfl rfl hou (by simp [maxLen]; omega) (by omega) ?_
          intro A2 C2 w2 hs fA hb
          have T := T.to2 fA hs hb
          clear hs fA hb
          refine hK.out _ _ (hS _ T.fr) (fun hHeld => ?_)
          clear hK K
          try simp only [Act.put, List.setIfInBounds_toArray, List.set_cons_zero, List.set_cons_succ]
          refine wpAnyH_ready (rs := [16]) (by kernel_rfl) (by simp) ?_
          refine AllReadyH.cons rfl (fun K hK => ?_) ?_
          · go_simp
            have T := T.b3
            try simp only [alloc_size] at T
            refine hK.out _ _ (hS _ T.fr) (fun hHeld => ?_)
            clear hK K
            try simp only [Act.put, List.setIfInBounds_toArray, List.set_cons_zero, List.set_cons_succ]
            refine wpAnyH_ready (rs := [21]) (by kernel_rfl) (by simp) ?_
            refine AllReadyH.cons rfl (fun K hK => ?_) ?_
            · refine stepAppendS rfl _ _ _ rfl 3 (.int .i64 0) 1 8 Try.underlying162 rp_int_info rfl T.s3 (HK.out.kept0 T.fr) rfl rfl hok (by simp [maxLen]; omega) (by omega) ?_
              intro A3 C3 w3 hs fA hb
              have T := T.to3 fA hs hb
              clear hs fA hb
              refine hK.out _ _ (hS _ T.fr) (fun hHeld => ?_)
              clear hK K
              try simp only [Act.put, List.setIfInBounds_toArray, List.set_cons_zero, List.set_cons_succ]
              refine held_take 22 25 (v := ?_) rfl rfl (by kernel_rfl) (by kernel_rfl) (by kernel_rfl) (fun _ _ _ h => h) (by rfl) ?ly (by assumption) ?_
              case ly => (intro w hSw; (try dsimp only at hSw); go_simp; try (with_reducible rfl))
              try simp only [Act.put, List.setIfInBounds_toArray, List.set_cons_zero, List.set_cons_succ]
              refine wpAnyH_ready (rs := [23]) (by kernel_rfl) (by simp) ?_
              refine AllReadyH.cons rfl (fun K hK => ?_) AllReadyH.nil
              go_simp
              refine hK.out _ _ (hS _ (T.fr.trans (Fr.alloc _ _ _))) (fun hHeld => ?_)
              clear hK K
              try simp only [Act.put, List.setIfInBounds_toArray, List.set_cons_zero, List.set_cons_succ]
              refine held_take 24 2 (v := ?_) rfl rfl (by kernel_rfl) (by kernel_rfl) (by kernel_rfl) (fun _ _ _ h => h) (by rfl) ?lz (by assumption) ?_
              case lz => (intro w hSw; (try dsimp only at hSw); go_simp; try (with_reducible rfl))
              try simp only [Act.put, List.setIfInBounds_toArray, List.set_cons_zero, List.set_cons_succ]
              refine wpAnyH_done (by kernel_rfl) ?_ _
              go_wp2_with fail
              go_ret
              exact rcopy_end HE.out HBV.out HV.out T
            exact AllReadyH.nil
          exact AllReadyH.nil
        refine AllReadyH.cons rfl (fun K hK => ?_) ?_
        · go_simp
          have T := T.b3
          try simp only [alloc_size] at T
          refine hK.out _ _ (hS _ T.fr) (fun hHeld => ?_)
          clear hK K
          try simp only [Act.put, List.setIfInBounds_toArray, List.set_cons_zero, List.set_cons_succ]
          refine wpAnyH_ready (rs := [15]) (by kernel_rfl) (by simp) ?_
          refine AllReadyH.cons rfl (fun K hK => ?_) ?_
          · refine stepAppendS rfl _ _ _ rfl 4 (.bool false) 1 1 Try.underlying161 rp_bool_info rfl T.s2 (HU.out.kept0 T.fr) rfl rfl hou (by simp [maxLen]; omega) (by omega) ?_
            intro A2 C2 w2 hs fA hb
            have T := T.to2 fA hs hb
            clear hs fA hb
            refine hK.out _ _ (hS _ T.fr) (fun hHeld => ?_)
            clear hK K
            try simp only [Act.put, List.setIfInBounds_toArray, List.set_cons_zero, List.set_cons_succ]
            refine wpAnyH_ready (rs := [21]) (by kernel_rfl) (by simp) ?_
            refine AllReadyH.cons rfl (fun K hK => ?_) ?_
            · refine stepAppendS rfl _ _ _ rfl 3 (.int .i64 0) 1 8 Try.underlying162 rp_int_info rfl T.s3 (HK.out.kept0 T.fr) rfl rfl hok (by simp [maxLen]; omega) (by omega) ?_
              intro A3 C3 w3 hs fA hb
              have T := T.to3 fA hs hb
              clear hs fA hb
              refine hK.out _ _ (hS _ T.fr) (fun hHeld => ?_)
              clear hK K
              try simp only [Act.put, List.setIfInBounds_toArray, List.set_cons_zero, List.set_cons_succ]
              refine held_take 22 25 (v := ?_) rfl rfl (by kernel_rfl) (by kernel_rfl) (by kernel_rfl) (fun _ _ _ h => h) (by rfl) ?ly (by assumption) ?_
              case ly => (intro w hSw; (try dsimp only at hSw); go_simp; try (with_reducible rfl))
              try simp only [Act.put, List.setIfInBounds_toArray, List.set_cons_zero, List.set_cons_succ]
              refine wpAnyH_ready (rs := [23]) (by kernel_rfl) (by simp) ?_
              refine AllReadyH.cons rfl (fun K hK => ?_) AllReadyH.nil
              go_simp
              refine hK.out _ _ (hS _ (T.fr.trans (Fr.alloc _ _ _))) (fun hHeld => ?_)
              clear hK K
              try simp only [Act.put, List.setIfInBounds_toArray, List.set_cons_zero, List.set_cons_succ]
              refine held_take 24 2 (v := ?_) rfl rfl (by kernel_rfl) (by kernel_rfl) (by kernel_rfl) (fun _ _ _ h => h) (by rfl) ?lz (by assumption) ?_
              case lz => (intro w hSw; (try dsimp only at hSw); go_simp; try (with_reducible rfl))
              try simp only [Act.put, List.setIfInBounds_toArray, List.set_cons_zero, List.set_cons_succ]
              refine wpAnyH_done (by kernel_rfl) ?_ _
              go_wp2_with fail
              go_ret
              exact rcopy_end HE.out HBV.out HV.out T
            exact AllReadyH.nil
          exact AllReadyH.nil
        exact AllReadyH.nil
      refine AllReadyH.cons rfl (fun K hK => ?_) ?_
      · go_simp
        have T := T.b3
        try simp only [alloc_size] at T
        refine hK.out _ _ (hS _ T.fr) (fun hHeld => ?_)
        clear hK K
        try simp only [Act.put, List.setIfInBounds_toArray, List.set_cons_zero, List.set_cons_succ]
        refine wpAnyH_ready (rs := [9]) (by kernel_rfl) (by simp) ?_
        refine AllReadyH.cons rfl (fun K hK => ?_) ?_
        · refine stepAppendS rfl _ _ _ rfl 9 (.string ByteArray.empty) 1 16 Try.underlying160 rp_str_info rfl T.s1 (HB.out.kept0 T.fr) rfl rfl hob (by simp [maxLen]; omega) (by omega) ?_
          intro A1 C1 w1 hs fA hb
          have T := T.to1 fA hs hb
          clear hs fA hb
          refine hK.out _ _ (hS _ T.fr) (fun hHeld => ?_)
          clear hK K
          try simp only [Act.put, List.setIfInBounds_toArray, List.set_cons_zero, List.set_cons_succ]
          refine wpAnyH_ready (rs := [15]) (by kernel_rfl) (by simp) ?_
          refine AllReadyH.cons rfl (fun K hK => ?_) ?_
          · refine stepAppendS rfl _ _ _ rfl 4 (.bool false) 1 1 Try.underlying161 rp_bool_info rfl T.s2 (HU.out.kept0 T.fr) rfl rfl hou (by simp [maxLen]; omega) (by omega) ?_
            intro A2 C2 w2 hs fA hb
            have T := T.to2 fA hs hb
            clear hs fA hb
            refine hK.out _ _ (hS _ T.fr) (fun hHeld => ?_)
            clear hK K
            try simp only [Act.put, List.setIfInBounds_toArray, List.set_cons_zero, List.set_cons_succ]
            refine wpAnyH_ready (rs := [21]) (by kernel_rfl) (by simp) ?_
            refine AllReadyH.cons rfl (fun K hK => ?_) ?_
            · refine stepAppendS rfl _ _ _ rfl 3 (.int .i64 0) 1 8 Try.underlying162 rp_int_info rfl T.s3 (HK.out.kept0 T.fr) rfl rfl hok (by simp [maxLen]; omega) (by omega) ?_
              intro A3 C3 w3 hs fA hb
              have T := T.to3 fA hs hb
              clear hs fA hb
              refine hK.out _ _ (hS _ T.fr) (fun hHeld => ?_)
              clear hK K
              try simp only [Act.put, List.setIfInBounds_toArray, List.set_cons_zero, List.set_cons_succ]
              refine held_take 22 25 (v := ?_) rfl rfl (by kernel_rfl) (by kernel_rfl) (by kernel_rfl) (fun _ _ _ h => h) (by rfl) ?ly (by assumption) ?_
              case ly => (intro w hSw; (try dsimp only at hSw); go_simp; try (with_reducible rfl))
              try simp only [Act.put, List.setIfInBounds_toArray, List.set_cons_zero, List.set_cons_succ]
              refine wpAnyH_ready (rs := [23]) (by kernel_rfl) (by simp) ?_
              refine AllReadyH.cons rfl (fun K hK => ?_) AllReadyH.nil
              go_simp
              refine hK.out _ _ (hS _ (T.fr.trans (Fr.alloc _ _ _))) (fun hHeld => ?_)
              clear hK K
              try simp only [Act.put, List.setIfInBounds_toArray, List.set_cons_zero, List.set_cons_succ]
              refine held_take 24 2 (v := ?_) rfl rfl (by kernel_rfl) (by kernel_rfl) (by kernel_rfl) (fun _ _ _ h => h) (by rfl) ?lz (by assumption) ?_
              case lz => (intro w hSw; (try dsimp only at hSw); go_simp; try (with_reducible rfl))
              try simp only [Act.put, List.setIfInBounds_toArray, List.set_cons_zero, List.set_cons_succ]
              refine wpAnyH_done (by kernel_rfl) ?_ _
              go_wp2_with fail
              go_ret
              exact rcopy_end HE.out HBV.out HV.out T
            exact AllReadyH.nil
          exact AllReadyH.nil
        exact AllReadyH.nil
      exact AllReadyH.nil
    refine AllReadyH.cons rfl (fun K hK => ?_) ?_
    · go_simp
      have T := T.b3
      try simp only [alloc_size] at T
      refine hK.out _ _ (hS _ T.fr) (fun hHeld => ?_)
      clear hK K
      try simp only [Act.put, List.setIfInBounds_toArray, List.set_cons_zero, List.set_cons_succ]
      refine wpAnyH_ready (rs := [9, 10]) (by kernel_rfl) (by simp) ?_
      refine AllReadyH.cons rfl (fun K hK => ?_) ?_
      · refine stepAppendS rfl _ _ _ rfl 9 (.string ByteArray.empty) 1 16 Try.underlying160 rp_str_info rfl T.s1 (HB.out.kept0 T.fr) rfl rfl hob (by simp [maxLen]; omega) (by omega) ?_
        intro A1 C1 w1 hs fA hb
        have T := T.to1 fA hs hb
        clear hs fA hb
        refine hK.out _ _ (hS _ T.fr) (fun hHeld => ?_)
        clear hK K
        try simp only [Act.put, List.setIfInBounds_toArray, List.set_cons_zero, List.set_cons_succ]
        refine wpAnyH_ready (rs := [10]) (by kernel_rfl) (by simp) ?_
        refine AllReadyH.cons rfl (fun K hK => ?_) ?_
        · go_simp
          have T := T.b2
          try simp only [alloc_size] at T
          refine hK.out _ _ (hS _ T.fr) (fun hHeld => ?_)
          clear hK K
          try simp only [Act.put, List.setIfInBounds_toArray, List.set_cons_zero, List.set_cons_succ]
          refine wpAnyH_ready (rs := [15]) (by kernel_rfl) (by simp) ?_
          refine AllReadyH.cons rfl (fun K hK => ?_) ?_
          · refine stepAppendS rfl _ _ _ rfl 4 (.bool false) 1 1 Try.underlying161 rp_bool_info rfl T.s2 (HU.out.kept0 T.fr) rfl rfl hou (by simp [maxLen]; omega) (by omega) ?_
            intro A2 C2 w2 hs fA hb
            have T := T.to2 fA hs hb
            clear hs fA hb
            refine hK.out _ _ (hS _ T.fr) (fun hHeld => ?_)
            clear hK K
            try simp only [Act.put, List.setIfInBounds_toArray, List.set_cons_zero, List.set_cons_succ]
            refine wpAnyH_ready (rs := [21]) (by kernel_rfl) (by simp) ?_
            refine AllReadyH.cons rfl (fun K hK => ?_) ?_
            · refine stepAppendS rfl _ _ _ rfl 3 (.int .i64 0) 1 8 Try.underlying162 rp_int_info rfl T.s3 (HK.out.kept0 T.fr) rfl rfl hok (by simp [maxLen]; omega) (by omega) ?_
              intro A3 C3 w3 hs fA hb
              have T := T.to3 fA hs hb
              clear hs fA hb
              refine hK.out _ _ (hS _ T.fr) (fun hHeld => ?_)
              clear hK K
              try simp only [Act.put, List.setIfInBounds_toArray, List.set_cons_zero, List.set_cons_succ]
              refine held_take 22 25 (v := ?_) rfl rfl (by kernel_rfl) (by kernel_rfl) (by kernel_rfl) (fun _ _ _ h => h) (by rfl) ?ly (by assumption) ?_
              case ly => (intro w hSw; (try dsimp only at hSw); go_simp; try (with_reducible rfl))
              try simp only [Act.put, List.setIfInBounds_toArray, List.set_cons_zero, List.set_cons_succ]
              refine wpAnyH_ready (rs := [23]) (by kernel_rfl) (by simp) ?_
              refine AllReadyH.cons rfl (fun K hK => ?_) AllReadyH.nil
              go_simp
              refine hK.out _ _ (hS _ (T.fr.trans (Fr.alloc _ _ _))) (fun hHeld => ?_)
              clear hK K
              try simp only [Act.put, List.setIfInBounds_toArray, List.set_cons_zero, List.set_cons_succ]
              refine held_take 24 2 (v := ?_) rfl rfl (by kernel_rfl) (by kernel_rfl) (by kernel_rfl) (fun _ _ _ h => h) (by rfl) ?lz (by assumption) ?_
              case lz => (intro w hSw; (try dsimp only at hSw); go_simp; try (with_reducible rfl))
              try simp only [Act.put, List.setIfInBounds_toArray, List.set_cons_zero, List.set_cons_succ]
              refine wpAnyH_done (by kernel_rfl) ?_ _
              go_wp2_with fail
              go_ret
              exact rcopy_end HE.out HBV.out HV.out T
            exact AllReadyH.nil
          exact AllReadyH.nil
        exact AllReadyH.nil
      refine AllReadyH.cons rfl (fun K hK => ?_) ?_
      · go_simp
        have T := T.b2
        try simp only [alloc_size] at T
        refine hK.out _ _ (hS _ T.fr) (fun hHeld => ?_)
        clear hK K
        try simp only [Act.put, List.setIfInBounds_toArray, List.set_cons_zero, List.set_cons_succ]
        refine wpAnyH_ready (rs := [9]) (by kernel_rfl) (by simp) ?_
        refine AllReadyH.cons rfl (fun K hK => ?_) ?_
        · refine stepAppendS rfl _ _ _ rfl 9 (.string ByteArray.empty) 1 16 Try.underlying160 rp_str_info rfl T.s1 (HB.out.kept0 T.fr) rfl rfl hob (by simp [maxLen]; omega) (by omega) ?_
          intro A1 C1 w1 hs fA hb
          have T := T.to1 fA hs hb
          clear hs fA hb
          refine hK.out _ _ (hS _ T.fr) (fun hHeld => ?_)
          clear hK K
          try simp only [Act.put, List.setIfInBounds_toArray, List.set_cons_zero, List.set_cons_succ]
          refine wpAnyH_ready (rs := [15]) (by kernel_rfl) (by simp) ?_
          refine AllReadyH.cons rfl (fun K hK => ?_) ?_
          · refine stepAppendS rfl _ _ _ rfl 4 (.bool false) 1 1 Try.underlying161 rp_bool_info rfl T.s2 (HU.out.kept0 T.fr) rfl rfl hou (by simp [maxLen]; omega) (by omega) ?_
            intro A2 C2 w2 hs fA hb
            have T := T.to2 fA hs hb
            clear hs fA hb
            refine hK.out _ _ (hS _ T.fr) (fun hHeld => ?_)
            clear hK K
            try simp only [Act.put, List.setIfInBounds_toArray, List.set_cons_zero, List.set_cons_succ]
            refine wpAnyH_ready (rs := [21]) (by kernel_rfl) (by simp) ?_
            refine AllReadyH.cons rfl (fun K hK => ?_) ?_
            · refine stepAppendS rfl _ _ _ rfl 3 (.int .i64 0) 1 8 Try.underlying162 rp_int_info rfl T.s3 (HK.out.kept0 T.fr) rfl rfl hok (by simp [maxLen]; omega) (by omega) ?_
              intro A3 C3 w3 hs fA hb
              have T := T.to3 fA hs hb
              clear hs fA hb
              refine hK.out _ _ (hS _ T.fr) (fun hHeld => ?_)
              clear hK K
              try simp only [Act.put, List.setIfInBounds_toArray, List.set_cons_zero, List.set_cons_succ]
              refine held_take 22 25 (v := ?_) rfl rfl (by kernel_rfl) (by kernel_rfl) (by kernel_rfl) (fun _ _ _ h => h) (by rfl) ?ly (by assumption) ?_
              case ly => (intro w hSw; (try dsimp only at hSw); go_simp; try (with_reducible rfl))
              try simp only [Act.put, List.setIfInBounds_toArray, List.set_cons_zero, List.set_cons_succ]
              refine wpAnyH_ready (rs := [23]) (by kernel_rfl) (by simp) ?_
              refine AllReadyH.cons rfl (fun K hK => ?_) AllReadyH.nil
              go_simp
              refine hK.out _ _ (hS _ (T.fr.trans (Fr.alloc _ _ _))) (fun hHeld => ?_)
              clear hK K
              try simp only [Act.put, List.setIfInBounds_toArray, List.set_cons_zero, List.set_cons_succ]
              refine held_take 24 2 (v := ?_) rfl rfl (by kernel_rfl) (by kernel_rfl) (by kernel_rfl) (fun _ _ _ h => h) (by rfl) ?lz (by assumption) ?_
              case lz => (intro w hSw; (try dsimp only at hSw); go_simp; try (with_reducible rfl))
              try simp only [Act.put, List.setIfInBounds_toArray, List.set_cons_zero, List.set_cons_succ]
              refine wpAnyH_done (by kernel_rfl) ?_ _
              go_wp2_with fail
              go_ret
              exact rcopy_end HE.out HBV.out HV.out T
            exact AllReadyH.nil
          exact AllReadyH.nil
        exact AllReadyH.nil
      exact AllReadyH.nil
    exact AllReadyH.nil
  refine AllReadyH.cons rfl (fun K hK => ?_) ?_
  · go_simp
    have T := T.b2
    try simp only [alloc_size] at T
    refine hK.out _ _ (hS _ T.fr) (fun hHeld => ?_)
    clear hK K
    try simp only [Act.put, List.setIfInBounds_toArray, List.set_cons_zero, List.set_cons_succ]
    refine wpAnyH_ready (rs := [4, 16]) (by kernel_rfl) (by simp) ?_
    refine AllReadyH.cons rfl (fun K hK => ?_) ?_
    · go_simp
      have T := T.b1
      try simp only [alloc_size] at T
      refine hK.out _ _ (hS _ T.fr) (fun hHeld => ?_)
      clear hK K
      try simp only [Act.put, List.setIfInBounds_toArray, List.set_cons_zero, List.set_cons_succ]
      refine wpAnyH_ready (rs := [9, 16]) (by kernel_rfl) (by simp) ?_
      refine AllReadyH.cons rfl (fun K hK => ?_) ?_
      · refine stepAppendS rfl _ _ _ rfl 9 (.string ByteArray.empty) 1 16 Try.underlying160 rp_str_info rfl T.s1 (HB.out.kept0 T.fr) rfl rfl hob (by simp [maxLen]; omega) (by omega) ?_
        intro A1 C1 w1 hs fA hb
        have T := T.to1 fA hs hb
        clear hs fA hb
        refine hK.out _ _ (hS _ T.fr) (fun hHeld => ?_)
        clear hK K
        try simp only [Act.put, List.setIfInBounds_toArray, List.set_cons_zero, List.set_cons_succ]
        refine wpAnyH_ready (rs := [15, 16]) (by kernel_rfl) (by simp) ?_
        refine AllReadyH.cons rfl (fun K hK => ?_) ?_
        · refine stepAppendS rfl _ _ _ rfl 4 (.bool false) 1 1 Try.underlying161 rp_bool_info rfl T.s2 (HU.out.kept0 T.fr) rfl rfl hou (by simp [maxLen]; omega) (by omega) ?_
          intro A2 C2 w2 hs fA hb
          have T := T.to2 fA hs hb
          clear hs fA hb
          refine hK.out _ _ (hS _ T.fr) (fun hHeld => ?_)
          clear hK K
          try simp only [Act.put, List.setIfInBounds_toArray, List.set_cons_zero, List.set_cons_succ]
          refine wpAnyH_ready (rs := [16]) (by kernel_rfl) (by simp) ?_
          refine AllReadyH.cons rfl (fun K hK => ?_) ?_
          · go_simp
            have T := T.b3
            try simp only [alloc_size] at T
            refine hK.out _ _ (hS _ T.fr) (fun hHeld => ?_)
            clear hK K
            try simp only [Act.put, List.setIfInBounds_toArray, List.set_cons_zero, List.set_cons_succ]
            refine wpAnyH_ready (rs := [21]) (by kernel_rfl) (by simp) ?_
            refine AllReadyH.cons rfl (fun K hK => ?_) ?_
            · refine stepAppendS rfl _ _ _ rfl 3 (.int .i64 0) 1 8 Try.underlying162 rp_int_info rfl T.s3 (HK.out.kept0 T.fr) rfl rfl hok (by simp [maxLen]; omega) (by omega) ?_
              intro A3 C3 w3 hs fA hb
              have T := T.to3 fA hs hb
              clear hs fA hb
              refine hK.out _ _ (hS _ T.fr) (fun hHeld => ?_)
              clear hK K
              try simp only [Act.put, List.setIfInBounds_toArray, List.set_cons_zero, List.set_cons_succ]
              refine held_take 22 25 (v := ?_) rfl rfl (by kernel_rfl) (by kernel_rfl) (by kernel_rfl) (fun _ _ _ h => h) (by rfl) ?ly (by assumption) ?_
              case ly => (intro w hSw; (try dsimp only at hSw); go_simp; try (with_reducible rfl))
              try simp only [Act.put, List.setIfInBounds_toArray, List.set_cons_zero, List.set_cons_succ]
              refine wpAnyH_ready (rs := [23]) (by kernel_rfl) (by simp) ?_
              refine AllReadyH.cons rfl (fun K hK => ?_) AllReadyH.nil
              go_simp
              refine hK.out _ _ (hS _ (T.fr.trans (Fr.alloc _ _ _))) (fun hHeld => ?_)
              clear hK K
              try simp only [Act.put, List.setIfInBounds_toArray, List.set_cons_zero, List.set_cons_succ]
              refine held_take 24 2 (v := ?_) rfl rfl (by kernel_rfl) (by kernel_rfl) (by kernel_rfl) (fun _ _ _ h => h) (by rfl) ?lz (by assumption) ?_
              case lz => (intro w hSw; (try dsimp only at hSw); go_simp; try (with_reducible rfl))
              try simp only [Act.put, List.setIfInBounds_toArray, List.set_cons_zero, List.set_cons_succ]
              refine wpAnyH_done (by kernel_rfl) ?_ _
              go_wp2_with fail
              go_ret
              exact rcopy_end HE.out HBV.out HV.out T
            exact AllReadyH.nil
          exact AllReadyH.nil
        refine AllReadyH.cons rfl (fun K hK => ?_) ?_
        · go_simp
          have T := T.b3
          try simp only [alloc_size] at T
          refine hK.out _ _ (hS _ T.fr) (fun hHeld => ?_)
          clear hK K
          try simp only [Act.put, List.setIfInBounds_toArray, List.set_cons_zero, List.set_cons_succ]
          refine wpAnyH_ready (rs := [15]) (by kernel_rfl) (by simp) ?_
          refine AllReadyH.cons rfl (fun K hK => ?_) ?_
          · refine stepAppendS rfl _ _ _ rfl 4 (.bool false) 1 1 Try.underlying161 rp_bool_info rfl T.s2 (HU.out.kept0 T.fr) rfl rfl hou (by simp [maxLen]; omega) (by omega) ?_
            intro A2 C2 w2 hs fA hb
            have T := T.to2 fA hs hb
            clear hs fA hb
            refine hK.out _ _ (hS _ T.fr) (fun hHeld => ?_)
            clear hK K
            try simp only [Act.put, List.setIfInBounds_toArray, List.set_cons_zero, List.set_cons_succ]
            refine wpAnyH_ready (rs := [21]) (by kernel_rfl) (by simp) ?_
            refine AllReadyH.cons rfl (fun K hK => ?_) ?_
            · refine stepAppendS rfl _ _ _ rfl 3 (.int .i64 0) 1 8 Try.underlying162 rp_int_info rfl T.s3 (HK.out.kept0 T.fr) rfl rfl hok (by simp [maxLen]; omega) (by omega) ?_
              intro A3 C3 w3 hs fA hb
              have T := T.to3 fA hs hb
              clear hs fA hb
              refine hK.out _ _ (hS _ T.fr) (fun hHeld => ?_)
              clear hK K
              try simp only [Act.put, List.setIfInBounds_toArray, List.set_cons_zero, List.set_cons_succ]
              refine held_take 22 25 (v := ?_) rfl rfl (by kernel_rfl) (by kernel_rfl) (by kernel_rfl) (fun _ _ _ h => h) (by rfl) ?ly (by assumption) ?_
              case ly => (intro w hSw; (try dsimp only at hSw); go_simp; try (with_reducible rfl))
              try simp only [Act.put, List.setIfInBounds_toArray, List.set_cons_zero, List.set_cons_succ]
              refine wpAnyH_ready (rs := [23]) (by kernel_rfl) (by simp) ?_
              refine AllReadyH.cons rfl (fun K hK => ?_) AllReadyH.nil
              go_simp
              refine hK.out _ _ (hS _ (T.fr.trans (Fr.alloc _ _ _))) (fun hHeld => ?_)
              clear hK K
              try simp only [Act.put, List.setIfInBounds_toArray, List.set_cons_zero, List.set_cons_succ]
              refine held_take 24 2 (v := ?_) rfl rfl (by kernel_rfl) (by kernel_rfl) (by kernel_rfl) (fun _ _ _ h => h) (by rfl) ?lz (by assumption) ?_
              case lz => (intro w hSw; (try dsimp only at hSw); go_simp; try (with_reducible rfl))
              try simp only [Act.put, List.setIfInBounds_toArray, List.set_cons_zero, List.set_cons_succ]
              refine wpAnyH_done (by kernel_rfl) ?_ _
              go_wp2_with fail
              go_ret
              exact rcopy_end HE.out HBV.out HV.out T
            exact AllReadyH.nil
          exact AllReadyH.nil
        exact AllReadyH.nil
      refine AllReadyH.cons rfl (fun K hK => ?_) ?_
      · go_simp
        have T := T.b3
        try simp only [alloc_size] at T
        refine hK.out _ _ (hS _ T.fr) (fun hHeld => ?_)
        clear hK K
        try simp only [Act.put, List.setIfInBounds_toArray, List.set_cons_zero, List.set_cons_succ]
        refine wpAnyH_ready (rs := [9]) (by kernel_rfl) (by simp) ?_
        refine AllReadyH.cons rfl (fun K hK => ?_) ?_
        · refine stepAppendS rfl _ _ _ rfl 9 (.string ByteArray.empty) 1 16 Try.underlying160 rp_str_info rfl T.s1 (HB.out.kept0 T.fr) rfl rfl hob (by simp [maxLen]; omega) (by omega) ?_
          intro A1 C1 w1 hs fA hb
          have T := T.to1 fA hs hb
          clear hs fA hb
          refine hK.out _ _ (hS _ T.fr) (fun hHeld => ?_)
          clear hK K
          try simp only [Act.put, List.setIfInBounds_toArray, List.set_cons_zero, List.set_cons_succ]
          refine wpAnyH_ready (rs := [15]) (by kernel_rfl) (by simp) ?_
          refine AllReadyH.cons rfl (fun K hK => ?_) ?_
          · refine stepAppendS rfl _ _ _ rfl 4 (.bool false) 1 1 Try.underlying161 rp_bool_info rfl T.s2 (HU.out.kept0 T.fr) rfl rfl hou (by simp [maxLen]; omega) (by omega) ?_
            intro A2 C2 w2 hs fA hb
            have T := T.to2 fA hs hb
            clear hs fA hb
            refine hK.out _ _ (hS _ T.fr) (fun hHeld => ?_)
            clear hK K
            try simp only [Act.put, List.setIfInBounds_toArray, List.set_cons_zero, List.set_cons_succ]
            refine wpAnyH_ready (rs := [21]) (by kernel_rfl) (by simp) ?_
            refine AllReadyH.cons rfl (fun K hK => ?_) ?_
            · refine stepAppendS rfl _ _ _ rfl 3 (.int .i64 0) 1 8 Try.underlying162 rp_int_info rfl T.s3 (HK.out.kept0 T.fr) rfl rfl hok (by simp [maxLen]; omega) (by omega) ?_
              intro A3 C3 w3 hs fA hb
              have T := T.to3 fA hs hb
              clear hs fA hb
              refine hK.out _ _ (hS _ T.fr) (fun hHeld => ?_)
              clear hK K
              try simp only [Act.put, List.setIfInBounds_toArray, List.set_cons_zero, List.set_cons_succ]
              refine held_take 22 25 (v := ?_) rfl rfl (by kernel_rfl) (by kernel_rfl) (by kernel_rfl) (fun _ _ _ h => h) (by rfl) ?ly (by assumption) ?_
              case ly => (intro w hSw; (try dsimp only at hSw); go_simp; try (with_reducible rfl))
              try simp only [Act.put, List.setIfInBounds_toArray, List.set_cons_zero, List.set_cons_succ]
              refine wpAnyH_ready (rs := [23]) (by kernel_rfl) (by simp) ?_
              refine AllReadyH.cons rfl (fun K hK => ?_) AllReadyH.nil
              go_simp
              refine hK.out _ _ (hS _ (T.fr.trans (Fr.alloc _ _ _))) (fun hHeld => ?_)
              clear hK K
              try simp only [Act.put, List.setIfInBounds_toArray, List.set_cons_zero, List.set_cons_succ]
              refine held_take 24 2 (v := ?_) rfl rfl (by kernel_rfl) (by kernel_rfl) (by kernel_rfl) (fun _ _ _ h => h) (by rfl) ?lz (by assumption) ?_
              case lz => (intro w hSw; (try dsimp only at hSw); go_simp; try (with_reducible rfl))
              try simp only [Act.put, List.setIfInBounds_toArray, List.set_cons_zero, List.set_cons_succ]
              refine wpAnyH_done (by kernel_rfl) ?_ _
              go_wp2_with fail
              go_ret
              exact rcopy_end HE.out HBV.out HV.out T
            exact AllReadyH.nil
          exact AllReadyH.nil
        exact AllReadyH.nil
      exact AllReadyH.nil
    refine AllReadyH.cons rfl (fun K hK => ?_) ?_
    · go_simp
      have T := T.b3
      try simp only [alloc_size] at T
      refine hK.out _ _ (hS _ T.fr) (fun hHeld => ?_)
      clear hK K
      try simp only [Act.put, List.setIfInBounds_toArray, List.set_cons_zero, List.set_cons_succ]
      refine wpAnyH_ready (rs := [4]) (by kernel_rfl) (by simp) ?_
      refine AllReadyH.cons rfl (fun K hK => ?_) ?_
      · go_simp
        have T := T.b1
        try simp only [alloc_size] at T
        refine hK.out _ _ (hS _ T.fr) (fun hHeld => ?_)
        clear hK K
        try simp only [Act.put, List.setIfInBounds_toArray, List.set_cons_zero, List.set_cons_succ]
        refine wpAnyH_ready (rs := [9]) (by kernel_rfl) (by simp) ?_
        refine AllReadyH.cons rfl (fun K hK => ?_) ?_
        · refine stepAppendS rfl _ _ _ rfl 9 (.string ByteArray.empty) 1 16 Try.underlying160 rp_str_info rfl T.s1 (HB.out.kept0 T.fr) rfl rfl hob (by simp [maxLen]; omega) (by omega) ?_
          intro A1 C1 w1 hs fA hb
          have T := T.to1 fA hs hb
          clear hs fA hb
          refine hK.out _ _ (hS _ T.fr) (fun hHeld => ?_)
          clear hK K
          try simp only [Act.put, List.setIfInBounds_toArray, List.set_cons_zero, List.set_cons_succ]
          refine wpAnyH_ready (rs := [15]) (by kernel_rfl) (by simp) ?_
          refine AllReadyH.cons rfl (fun K hK => ?_) ?_
          · refine stepAppendS rfl _ _ _ rfl 4 (.bool false) 1 1 Try.underlying161 rp_bool_info rfl T.s2 (HU.out.kept0 T.fr) rfl rfl hou (by simp [maxLen]; omega) (by omega) ?_
            intro A2 C2 w2 hs fA hb
            have T := T.to2 fA hs hb
            clear hs fA hb
            refine hK.out _ _ (hS _ T.fr) (fun hHeld => ?_)
            clear hK K
            try simp only [Act.put, List.setIfInBounds_toArray, List.set_cons_zero, List.set_cons_succ]
            refine wpAnyH_ready (rs := [21]) (by kernel_rfl) (by simp) ?_
            refine AllReadyH.cons rfl (fun K hK => ?_) ?_
            · refine stepAppendS rfl _ _ _ rfl 3 (.int .i64 0) 1 8 Try.underlying162 rp_int_info rfl T.s3 (HK.out.kept0 T.fr) rfl rfl hok (by simp [maxLen]; omega) (by omega) ?_
              intro A3 C3 w3 hs fA hb
              have T := T.to3 fA hs hb
              clear hs fA hb
              refine hK.out _ _ (hS _ T.fr) (fun hHeld => ?_)
              clear hK K
              try simp only [Act.put, List.setIfInBounds_toArray, List.set_cons_zero, List.set_cons_succ]
              refine held_take 22 25 (v := ?_) rfl rfl (by kernel_rfl) (by kernel_rfl) (by kernel_rfl) (fun _ _ _ h => h) (by rfl) ?ly (by assumption) ?_
              case ly => (intro w hSw; (try dsimp only at hSw); go_simp; try (with_reducible rfl))
              try simp only [Act.put, List.setIfInBounds_toArray, List.set_cons_zero, List.set_cons_succ]
              refine wpAnyH_ready (rs := [23]) (by kernel_rfl) (by simp) ?_
              refine AllReadyH.cons rfl (fun K hK => ?_) AllReadyH.nil
              go_simp
              refine hK.out _ _ (hS _ (T.fr.trans (Fr.alloc _ _ _))) (fun hHeld => ?_)
              clear hK K
              try simp only [Act.put, List.setIfInBounds_toArray, List.set_cons_zero, List.set_cons_succ]
              refine held_take 24 2 (v := ?_) rfl rfl (by kernel_rfl) (by kernel_rfl) (by kernel_rfl) (fun _ _ _ h => h) (by rfl) ?lz (by assumption) ?_
              case lz => (intro w hSw; (try dsimp only at hSw); go_simp; try (with_reducible rfl))
              try simp only [Act.put, List.setIfInBounds_toArray, List.set_cons_zero, List.set_cons_succ]
              refine wpAnyH_done (by kernel_rfl) ?_ _
              go_wp2_with fail
              go_ret
              exact rcopy_end HE.out HBV.out HV.out T
            exact AllReadyH.nil
          exact AllReadyH.nil
        exact AllReadyH.nil
      exact AllReadyH.nil
    exact AllReadyH.nil
  refine AllReadyH.cons rfl (fun K hK => ?_) ?_
  · go_simp
    have T := T.b3
    try simp only [alloc_size] at T
    refine hK.out _ _ (hS _ T.fr) (fun hHeld => ?_)
    clear hK K
    try simp only [Act.put, List.setIfInBounds_toArray, List.set_cons_zero, List.set_cons_succ]
    refine wpAnyH_ready (rs := [4, 10]) (by kernel_rfl) (by simp) ?_
    refine AllReadyH.cons rfl (fun K hK => ?_) ?_
    · go_simp
      have T := T.b1
      try simp only [alloc_size] at T
      refine hK.out _ _ (hS _ T.fr) (fun hHeld => ?_)
      clear hK K
      try simp only [Act.put, List.setIfInBounds_toArray, List.set_cons_zero, List.set_cons_succ]
      refine wpAnyH_ready (rs := [9, 10]) (by kernel_rfl) (by simp) ?_
      refine AllReadyH.cons rfl (fun K hK => ?_) ?_
      · refine stepAppendS rfl _ _ _ rfl 9 (.string ByteArray.empty) 1 16 Try.underlying160 rp_str_info rfl T.s1 (HB.out.kept0 T.fr) rfl rfl hob (by simp [maxLen]; omega) (by omega) ?_
        intro A1 C1 w1 hs fA hb
        have T := T.to1 fA hs hb
        clear hs fA hb
        refine hK.out _ _ (hS _ T.fr) (fun hHeld => ?_)
        clear hK K
        try simp only [Act.put, List.setIfInBounds_toArray, List.set_cons_zero, List.set_cons_succ]
        refine wpAnyH_ready (rs := [10]) (by kernel_rfl) (by simp) ?_
        refine AllReadyH.cons rfl (fun K hK => ?_) ?_
        · go_simp
          have T := T.b2
          try simp only [alloc_size] at T
          refine hK.out _ _ (hS _ T.fr) (fun hHeld => ?_)
          clear hK K
          try simp only [Act.put, List.setIfInBounds_toArray, List.set_cons_zero, List.set_cons_succ]
          refine wpAnyH_ready (rs := [15]) (by kernel_rfl) (by simp) ?_
          refine AllReadyH.cons rfl (fun K hK => ?_) ?_
          · refine stepAppendS rfl _ _ _ rfl 4 (.bool false) 1 1 Try.underlying161 rp_bool_info rfl T.s2 (HU.out.kept0 T.fr) rfl rfl hou (by simp [maxLen]; omega) (by omega) ?_
            intro A2 C2 w2 hs fA hb
            have T := T.to2 fA hs hb
            clear hs fA hb
            refine hK.out _ _ (hS _ T.fr) (fun hHeld => ?_)
            clear hK K
            try simp only [Act.put, List.setIfInBounds_toArray, List.set_cons_zero, List.set_cons_succ]
            refine wpAnyH_ready (rs := [21]) (by kernel_rfl) (by simp) ?_
            refine AllReadyH.cons rfl (fun K hK => ?_) ?_
            · refine stepAppendS rfl _ _ _ rfl 3 (.int .i64 0) 1 8 Try.underlying162 rp_int_info rfl T.s3 (HK.out.kept0 T.fr) rfl rfl hok (by simp [maxLen]; omega) (by omega) ?_
              intro A3 C3 w3 hs fA hb
              have T := T.to3 fA hs hb
              clear hs fA hb
              refine hK.out _ _ (hS _ T.fr) (fun hHeld => ?_)
              clear hK K
              try simp only [Act.put, List.setIfInBounds_toArray, List.set_cons_zero, List.set_cons_succ]
              refine held_take 22 25 (v := ?_) rfl rfl (by kernel_rfl) (by kernel_rfl) (by kernel_rfl) (fun _ _ _ h => h) (by rfl) ?ly (by assumption) ?_
              case ly => (intro w hSw; (try dsimp only at hSw); go_simp; try (with_reducible rfl))
              try simp only [Act.put, List.setIfInBounds_toArray, List.set_cons_zero, List.set_cons_succ]
              refine wpAnyH_ready (rs := [23]) (by kernel_rfl) (by simp) ?_
              refine AllReadyH.cons rfl (fun K hK => ?_) AllReadyH.nil
              go_simp
              refine hK.out _ _ (hS _ (T.fr.trans (Fr.alloc _ _ _))) (fun hHeld => ?_)
              clear hK K
              try simp only [Act.put, List.setIfInBounds_toArray, List.set_cons_zero, List.set_cons_succ]
              refine held_take 24 2 (v := ?_) rfl rfl (by kernel_rfl) (by kernel_rfl) (by kernel_rfl) (fun _ _ _ h => h) (by rfl) ?lz (by assumption) ?_
              case lz => (intro w hSw; (try dsimp only at hSw); go_simp; try (with_reducible rfl))
              try simp only [Act.put, List.setIfInBounds_toArray, List.set_cons_zero, List.set_cons_succ]
              refine wpAnyH_done (by kernel_rfl) ?_ _
              go_wp2_with fail
              go_ret
              exact rcopy_end HE.out HBV.out HV.out T
            exact AllReadyH.nil
          exact AllReadyH.nil
        exact AllReadyH.nil
      refine AllReadyH.cons rfl (fun K hK => ?_) ?_
      · go_simp
        have T := T.b2
        try simp only [alloc_size] at T
        refine hK.out _ _ (hS _ T.fr) (fun hHeld => ?_)
        clear hK K
        try simp only [Act.put, List.setIfInBounds_toArray, List.set_cons_zero, List.set_cons_succ]
        refine wpAnyH_ready (rs := [9]) (by kernel_rfl) (by simp) ?_
        refine AllReadyH.cons rfl (fun K hK => ?_) ?_
        · refine stepAppendS rfl _ _ _ rfl 9 (.string ByteArray.empty) 1 16 Try.underlying160 rp_str_info rfl T.s1 (HB.out.kept0 T.fr) rfl rfl hob (by simp [maxLen]; omega) (by omega) ?_
          intro A1 C1 w1 hs fA hb
          have T := T.to1 fA hs hb
          clear hs fA hb
          refine hK.out _ _ (hS _ T.fr) (fun hHeld => ?_)
          clear hK K
          try simp only [Act.put, List.setIfInBounds_toArray, List.set_cons_zero, List.set_cons_succ]
          refine wpAnyH_ready (rs := [15]) (by kernel_rfl) (by simp) ?_
          refine AllReadyH.cons rfl (fun K hK => ?_) ?_
          · refine stepAppendS rfl _ _ _ rfl 4 (.bool false) 1 1 Try.underlying161 rp_bool_info rfl T.s2 (HU.out.kept0 T.fr) rfl rfl hou (by simp [maxLen]; omega) (by omega) ?_
            intro A2 C2 w2 hs fA hb
            have T := T.to2 fA hs hb
            clear hs fA hb
            refine hK.out _ _ (hS _ T.fr) (fun hHeld => ?_)
            clear hK K
            try simp only [Act.put, List.setIfInBounds_toArray, List.set_cons_zero, List.set_cons_succ]
            refine wpAnyH_ready (rs := [21]) (by kernel_rfl) (by simp) ?_
            refine AllReadyH.cons rfl (fun K hK => ?_) ?_
            · refine stepAppendS rfl _ _ _ rfl 3 (.int .i64 0) 1 8 Try.underlying162 rp_int_info rfl T.s3 (HK.out.kept0 T.fr) rfl rfl hok (by simp [maxLen]; omega) (by omega) ?_
              intro A3 C3 w3 hs fA hb
              have T := T.to3 fA hs hb
              clear hs fA hb
              refine hK.out _ _ (hS _ T.fr) (fun hHeld => ?_)
              clear hK K
              try simp only [Act.put, List.setIfInBounds_toArray, List.set_cons_zero, List.set_cons_succ]
              refine held_take 22 25 (v := ?_) rfl rfl (by kernel_rfl) (by kernel_rfl) (by kernel_rfl) (fun _ _ _ h => h) (by rfl) ?ly (by assumption) ?_
              case ly => (intro w hSw; (try dsimp only at hSw); go_simp; try (with_reducible rfl))
              try simp only [Act.put, List.setIfInBounds_toArray, List.set_cons_zero, List.set_cons_succ]
              refine wpAnyH_ready (rs := [23]) (by kernel_rfl) (by simp) ?_
              refine AllReadyH.cons rfl (fun K hK => ?_) AllReadyH.nil
              go_simp
              refine hK.out _ _ (hS _ (T.fr.trans (Fr.alloc _ _ _))) (fun hHeld => ?_)
              clear hK K
              try simp only [Act.put, List.setIfInBounds_toArray, List.set_cons_zero, List.set_cons_succ]
              refine held_take 24 2 (v := ?_) rfl rfl (by kernel_rfl) (by kernel_rfl) (by kernel_rfl) (fun _ _ _ h => h) (by rfl) ?lz (by assumption) ?_
              case lz => (intro w hSw; (try dsimp only at hSw); go_simp; try (with_reducible rfl))
              try simp only [Act.put, List.setIfInBounds_toArray, List.set_cons_zero, List.set_cons_succ]
              refine wpAnyH_done (by kernel_rfl) ?_ _
              go_wp2_with fail
              go_ret
              exact rcopy_end HE.out HBV.out HV.out T
            exact AllReadyH.nil
          exact AllReadyH.nil
        exact AllReadyH.nil
      exact AllReadyH.nil
    refine AllReadyH.cons rfl (fun K hK => ?_) ?_
    · go_simp
      have T := T.b2
      try simp only [alloc_size] at T
      refine hK.out _ _ (hS _ T.fr) (fun hHeld => ?_)
      clear hK K
      try simp only [Act.put, List.setIfInBounds_toArray, List.set_cons_zero, List.set_cons_succ]
      refine wpAnyH_ready (rs := [4]) (by kernel_rfl) (by simp) ?_
      refine AllReadyH.cons rfl (fun K hK => ?_) ?_
      · go_simp
        have T := T.b1
        try simp only [alloc_size] at T
        refine hK.out _ _ (hS _ T.fr) (fun hHeld => ?_)
        clear hK K
        try simp only [Act.put, List.setIfInBounds_toArray, List.set_cons_zero, List.set_cons_succ]
        refine wpAnyH_ready (rs := [9]) (by kernel_rfl) (by simp) ?_
        refine AllReadyH.cons rfl (fun K hK => ?_) ?_
        · refine stepAppendS rfl _ _ _ rfl 9 (.string ByteArray.empty) 1 16 Try.underlying160 rp_str_info rfl T.s1 (HB.out.kept0 T.fr) rfl rfl hob (by simp [maxLen]; omega) (by omega) ?_
          intro A1 C1 w1 hs fA hb
          have T := T.to1 fA hs hb
          clear hs fA hb
          refine hK.out _ _ (hS _ T.fr) (fun hHeld => ?_)
          clear hK K
          try simp only [Act.put, List.setIfInBounds_toArray, List.set_cons_zero, List.set_cons_succ]
          refine wpAnyH_ready (rs := [15]) (by kernel_rfl) (by simp) ?_
          refine AllReadyH.cons rfl (fun K hK => ?_) ?_
          · refine stepAppendS rfl _ _ _ rfl 4 (.bool false) 1 1 Try.underlying161 rp_bool_info rfl T.s2 (HU.out.kept0 T.fr) rfl rfl hou (by simp [maxLen]; omega) (by omega) ?_
            intro A2 C2 w2 hs fA hb
            have T := T.to2 fA hs hb
            clear hs fA hb
            refine hK.out _ _ (hS _ T.fr) (fun hHeld => ?_)
            clear hK K
            try simp only [Act.put, List.setIfInBounds_toArray, List.set_cons_zero, List.set_cons_succ]
            refine wpAnyH_ready (rs := [21]) (by kernel_rfl) (by simp) ?_
            refine AllReadyH.cons rfl (fun K hK => ?_) ?_
            · refine stepAppendS rfl _ _ _ rfl 3 (.int .i64 0) 1 8 Try.underlying162 rp_int_info rfl T.s3 (HK.out.kept0 T.fr) rfl rfl hok (by simp [maxLen]; omega) (by omega) ?_
              intro A3 C3 w3 hs fA hb
              have T := T.to3 fA hs hb
              clear hs fA hb
              refine hK.out _ _ (hS _ T.fr) (fun hHeld => ?_)
              clear hK K
              try simp only [Act.put, List.setIfInBounds_toArray, List.set_cons_zero, List.set_cons_succ]
              refine held_take 22 25 (v := ?_) rfl rfl (by kernel_rfl) (by kernel_rfl) (by kernel_rfl) (fun _ _ _ h => h) (by rfl) ?ly (by assumption) ?_
              case ly => (intro w hSw; (try dsimp only at hSw); go_simp; try (with_reducible rfl))
              try simp only [Act.put, List.setIfInBounds_toArray, List.set_cons_zero, List.set_cons_succ]
              refine wpAnyH_ready (rs := [23]) (by kernel_rfl) (by simp) ?_
              refine AllReadyH.cons rfl (fun K hK => ?_) AllReadyH.nil
              go_simp
              refine hK.out _ _ (hS _ (T.fr.trans (Fr.alloc _ _ _))) (fun hHeld => ?_)
              clear hK K
              try simp only [Act.put, List.setIfInBounds_toArray, List.set_cons_zero, List.set_cons_succ]
              refine held_take 24 2 (v := ?_) rfl rfl (by kernel_rfl) (by kernel_rfl) (by kernel_rfl) (fun _ _ _ h => h) (by rfl) ?lz (by assumption) ?_
              case lz => (intro w hSw; (try dsimp only at hSw); go_simp; try (with_reducible rfl))
              try simp only [Act.put, List.setIfInBounds_toArray, List.set_cons_zero, List.set_cons_succ]
              refine wpAnyH_done (by kernel_rfl) ?_ _
              go_wp2_with fail
              go_ret
              exact rcopy_end HE.out HBV.out HV.out T
            exact AllReadyH.nil
          exact AllReadyH.nil
        exact AllReadyH.nil
      exact AllReadyH.nil
    exact AllReadyH.nil
  exact AllReadyH.nil
end
end Go.Proofs.Yteefcfndlggajaa
