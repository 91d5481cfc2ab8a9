/-
  Package dead: Pass, Copy.
-/
import Derived.Test.YtkfnfflonjfglaaDeadPure
namespace Go.Proofs.Ytkfnfflonjfglaa
open Go.RowKit
set_option linter.unusedVariables false
set_option linter.unusedSimpArgs false
set_option maxRecDepth 100000

structure PsRel (w0 : World) (d m : Nat) (s : DS) (floor : Int) (a : Option Addr) (n cap k : Nat) (wr : World) : Prop where
  dead : DeadAt wr d m (passTo s floor (s.counts.take k)).2
  cs : SlAt wr a n cap 45 2 (flat2 s.counts)
  fr : Fr (two d m) w0 wr

set_option maxHeartbeats 2000000 in
theorem Dead_Pass {w : World} {d m : Nat} {s : DS} (h : DeadAt w d m s) (hw : s.WF) (floor : Int) :
    Calls Try.prog 17 #[.pointer (some ⟨d, 0, none⟩), .int .i64 floor] w fun e w' => e = .returned (.int .i64 ((dPass s floor).1 : Int)) ∧ DeadAt w' d m (dPass s floor).2 ∧ Fr (two d m) w w' := by
  have hcs := Dead_Counts h hw.wfk (by have := hw.len; omega) hw.le64
  have hkl := keys_length s
  have hcl : s.counts.length = s.of.length := by unfold DS.counts; rw [List.length_map, hkl]
  have H := Lib.hid h
  have HW := Lib.hid hw
  have HCS := Lib.hid hcs
  have HKL := Lib.hid hkl
  have HCL := Lib.hid hcl
  obtain ⟨n, hn⟩ : ∃ n, n = s.of.length := ⟨_, rfl⟩
  rw [← hn] at HCS HKL HCL
  have hlt := h.lt
  have hnb : n ≤ 64 := by rw [hn]; exact hw.len
  clear h hw hcs hkl hcl hn
  go_enter Try.func17, Try.ntmps17
  go_wp2_with fail
  refine HCS.out.mono ?_
  rintro e w1 ⟨a, cap, rfl, hsl, f1, hb⟩
  have hr0 : PsRel w d m s floor a n cap 0 w1 := ⟨H.out.kept0 f1, hsl, f1.none⟩
  have HB := Lib.hid hb
  clear hsl f1 hb
  go_wp2_with fail
  go_loopw [5, 11] (fun u i wr => ∃ k gone : Nat, Hid (k ≤ n) ∧ i = .int .i64 k ∧ u = .int .i64 gone ∧ Hid (gone = (passTo s floor (s.counts.take k)).1) ∧ PsRel w d m s floor a n cap k wr) (fun _ i _ => n - (intOf i).toNat)
  case atStart => exact ⟨0, 0, Nat.zero_le _, rfl, rfl, rfl, hr0⟩
  case round =>
    obtain ⟨k, gone, hk, rfl, rfl, hg, hr⟩ := hrel
    clear hr0
    by_cases hltn : k < n
    · obtain ⟨t, ht⟩ : ∃ t, s.keys[k]? = some t := ⟨s.keys[k]'(by rw [HKL.out]; exact hltn), List.getElem?_eq_getElem _⟩
      have hcg := counts_get ht
      obtain ⟨i1, i2, i3⟩ := pass_inv HW.out floor k (by rw [HKL.out]; omega)
      obtain ⟨j1, j2, j3⟩ := pass_inv HW.out floor (k + 1) (by rw [HKL.out]; omega)
      obtain ⟨g, rfl⟩ := hr.cs.isAddr (by omega)
      have hfl := flat2_get hcg
      have e0 := hr.cs.cell (i := k * 2) hfl.1
      have e1 := hr.cs.cell (i := k * 2 + 1) hfl.2
      have hpt : passTo s floor (s.counts.take (k + 1)) = if t ≤ floor then ((passTo s floor (s.counts.take k)).1 + s.cnt t, dTake (passTo s floor (s.counts.take k)).2 t (s.cnt t)) else passTo s floor (s.counts.take k) := by
        rw [take_succ_get2 _ _ _ hcg]
        unfold passTo
        rw [List.foldl_append]; rfl
      have hmax := HW.out.max
      have hcn := HW.out.le64 t
      have hgb : gone ≤ 64 := by have := hg.out; omega
      have HPT := Lib.hid hpt
      by_cases hf : t ≤ floor
      · have hnot : t ∉ s.keys.take k := by
          intro hm
          obtain ⟨j, hj, e⟩ := List.getElem_of_mem hm
          rw [List.length_take] at hj
          have h1 : s.keys[j]? = some t := by
            rw [List.getElem_take] at e
            rw [← e]; exact List.getElem?_eq_getElem (by omega)
          have h2 := (List.getElem?_inj (by omega) (keys_nodup HW.out)).1 (h1.trans ht.symm)
          omega
        have hc : (passTo s floor (s.counts.take k)).2.cnt t = s.cnt t := by rw [i2, if_neg (fun q => hnot q.1)]
        have hla := i1.le_all t
        have htk := fun w' (hd : DeadAt w' d m (passTo s floor (s.counts.take k)).2) => Dead_take hd (by omega) t (s.cnt t) (by omega) (by omega) (by omega)
        have HTK := Lib.hid htk
        have HF := Lib.hid hf
        have hf' : ¬ floor < t := by omega
        generalize hcc : s.cnt t = cn at e0 e1 HTK hcn HPT
        clear ht hcg hfl hpt hnot hc i2 j2 htk hcc
        go_wp2_with fail
        refine (HTK.out _ (hr.dead.kept0 (Fr.alloc none_ _ _))).mono ?_
        rintro e w5 ⟨rfl, hd5, f5⟩
        go_wp2_with fail
        go_roundw
        case rel =>
          have fA := Fr.alloc none_ wr (.cells #[.int .i64 t, .int .i64 (cn : Int)] 45)
          have hHB := HB.out g ⟨_, rfl, rfl⟩
          refine ⟨k + 1, gone + cn, hltn, by go_num, by go_num, ?_, ⟨?_, (hr.cs.kept0 fA).kept f5 (fun j hj e => ?_), (hr.fr.trans fA.none).trans f5⟩⟩
          · show gone + cn = _
            rw [HPT.out, if_pos HF.out, hg.out]
          · rw [HPT.out, if_pos HF.out]; exact hd5
          · rw [blk_some] at hj
            subst hj
            rcases e with e | e <;> omega
        case measure => simp [intOf]; omega
      · have HF := Lib.hid hf
        have hf' : floor < t := by omega
        generalize hcc : s.cnt t = cn at e0 e1 hcn HPT
        clear ht hcg hfl hpt i2 j2 hcc hf
        go_wp2_with fail
        go_roundw
        case rel =>
          have fA := Fr.alloc none_ wr (.cells #[.int .i64 t, .int .i64 (cn : Int)] 45)
          refine ⟨k + 1, gone, hltn, by go_num, rfl, ?_, ⟨?_, hr.cs.kept0 fA, hr.fr.trans fA.none⟩⟩
          · show gone = _
            rw [HPT.out, if_neg HF.out]; exact hg.out
          · rw [HPT.out, if_neg HF.out]; exact hr.dead.kept0 fA
        case measure => simp [intOf]; omega
    · have hke : k = n := by have := hk.out; omega
      have htk : s.counts.take k = s.counts := List.take_of_length_le (by rw [HCL.out]; omega)
      have hd := hr.dead
      have hg' := hg.out
      rw [htk] at hd hg'
      have HD := Lib.hid hd
      have HG := Lib.hid hg'
      have HFR := Lib.hid hr.fr
      clear hd hg' htk hke hr
      go_wp2_with fail
      go_ret
      refine ⟨?_, HD.out, HFR.out⟩
      rw [HG.out]; rfl

/-! ### Copy -/
set_option maxHeartbeats 400000 in
theorem clone_ints {K V : Type} [DecidableEq K] (w : World) (m : Nat) (ek : K → Value) (ev : V → Value) (l : List (K × V)) (h : MapAt w m ek ev l) :
    Calls Try.prog 31 #[.map (some m)] w fun e w' => e = .returned (.map (some w.heap.size)) ∧ MapAt w' w.heap.size ek ev l ∧ ∃ o, w' = w.alloc o := by
  obtain ⟨es, clock, hb, r⟩ := h
  have hq := fun w => run_eql_map_nil_sl (P := Try.prog) w 48 _ _ (some m) Try.underlying48
  go_enter Try.func31, Try.ntmps31
  go_wp2
  rw [run_callFunc_extern Try.func35 (by kernel_rfl) (by kernel_rfl) (by kernel_rfl) (e := Extern.MapsClone.clone) (by kernel_rfl), run_maps_clone_sl w 48 hb]
  simp only [Result.andThen]
  rw [Oper.upon_value]
  go_wp2
  rw [run_typeAssert_map_sl _ 48 20 _ _ _ Try.underlying48]
  simp only [Result.andThen]
  rw [Oper.upon_value]
  go_wp2
  go_ret
  exact ⟨rfl, ⟨es, clock, (MapKept.heap_alloc w _).1, r⟩, _, rfl⟩
theorem build_dead2 (m : Nat) (n : Int) (w : World) : (Instr.build 50 #[(0, .map (some m)), (1, .int .i64 n)]).run Try.prog w = .ok (.agg #[.map (some m), .int .i64 n]) w := by kernel_rfl
set_option maxHeartbeats 1000000 in
theorem Dead_Copy {w : World} {d m : Nat} {s : DS} (h : DeadAt w d m s) : Calls Try.prog 20 #[.pointer (some ⟨d, 0, none⟩)] w fun e w' => ∃ d' m', e = .returned (.pointer (some ⟨d', 0, none⟩)) ∧ DeadAt w' d' m' s ∧ Fr none_ w w' ∧ w.heap.size ≤ d' ∧ w.heap.size ≤ m' := by
  have c0 := h.c0
  have c1 := h.c1
  have hbd := fun (m : Nat) (w : World) => build_dead2 m (s.all : Int) w
  have H := Lib.hid h
  have fS : Fr none_ w w := Fr.refl _ _
  clear h
  go_enter Try.func20, Try.ntmps20
  go_wp2_with fail
  go_region_held3 (fun w' => Fr none_ w w' ∧ w'.cell? ⟨d, 0, none⟩ = some (.map (some m)) ∧ w'.cell? ⟨d, 1, none⟩ = some (.int .i64 (s.all : Int)))
    (first | (go_split_ands; refine ⟨?_, ?_, ?_⟩; exact Fr.trans (by assumption) f5; all_goals exact Fr.keep f5 (by assumption)) | (go_split_ands; refine ⟨?_, ?_, ?_⟩; exact Fr.trans (by assumption) (Fr.drew _ _); all_goals assumption) | (go_split_ands; refine ⟨?_, ?_, ?_⟩; exact Fr.trans (by assumption) (Fr.alloc _ _ _); all_goals exact Fr.keep (Fr.alloc none_ _ _) (by assumption)) | go_keep)
    (first | (go_at_call 31; refine (clone_ints _ m (Value.int .i64) intN s.of (H.out.kept0 (Fr.drew none_ w)).map).mono ?_; rintro e w5 ⟨rfl, hm5, o5, hw5⟩; have f5 : Fr none_ w.drew w5 := by rw [hw5]; exact Fr.alloc _ _ _))
  rename_i hh
  have f6 := hh.1
  clear hh
  subst hw5
  have hrow : Row ((w.alloc o5).alloc (.cells #[.map (some w.heap.size), .int .i64 (s.all : Int)] 50)).drew (w.heap.size + 1) #[.map (some w.heap.size), .int .i64 (s.all : Int)] 50 := by
    have h := Row.new (w.alloc o5) #[.map (some w.heap.size), .int .i64 (s.all : Int)] 50
    have e : (w.alloc o5).heap.size = w.heap.size + 1 := by simp
    rw [e] at h; exact h
  have hm6 : MapAt ((w.alloc o5).alloc (.cells #[.map (some w.heap.size), .int .i64 (s.all : Int)] 50)).drew w.heap.size (Value.int .i64) intN s.of := by
    have h := hm5.kept (F := none_) (Fr.alloc none_ _ (.cells #[.map (some w.heap.size), .int .i64 (s.all : Int)] 50)) (fun e => e)
    exact h
  have HR := Lib.hid (And.intro hrow hm6)
  clear hrow hm6 hm5 f5 hbd
  go_wp2_with fail
  go_ret
  exact ⟨w.heap.size + 1, w.heap.size, rfl, ⟨HR.out.1, HR.out.2, by omega⟩, f6, by omega, Nat.le_refl _⟩
end Go.Proofs.Ytkfnfflonjfglaa
