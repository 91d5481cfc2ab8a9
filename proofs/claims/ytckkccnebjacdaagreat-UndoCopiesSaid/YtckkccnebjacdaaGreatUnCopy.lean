/-
  Package undo: Copy.
-/
import Derived.Test.YtckkccnebjacdaaGreatUnCopyP
import Derived.Test.YtckkccnebjacdaaGreatMgUnBag
import Derived.Deep.RegionHeld3
import Derived.Deep.DeepCutAuto
namespace Go.Proofs.YtckkccnebjacdaaGreat
open Go.RowKit
set_option linter.unusedVariables false
set_option linter.unusedSimpArgs false
set_option maxRecDepth 100000

section
variable {w : World} {x a m N : Nat} {F : Nat → Prop} {vs : List (Int × SgV)} {c : CfgV} {s : AS}
set_option maxHeartbeats 8000000 in
theorem Undo_Copy_at (h : UnAt w x a m F vs c s) (hu : Upto N s) (hb : ∀ k, (segOf vs k).length ≤ 1000000000) :
    Calls Tryz.prog 31 #[.pointer (some ⟨x, 0, none⟩)] w fun e w' => ∃ y b n G us, e = .returned (.pointer (some ⟨y, 0, none⟩)) ∧ UnAt w' y b n G us c s ∧ (∀ k, segOf us k = segOf vs k) ∧ us.length ≤ vs.length ∧ Fr none_ w w' ∧ ∀ k, (k = y ∨ G k ∨ segOwn n us k) → w.heap.size ≤ k := by
  have GC := Lib.hid (fun w' (f : Fr none_ w w') => ar_copy (h.kept0 f).ar hu)
  have HOL := Lib.hid h.lt
  have H := Lib.hid h
  have HB := Lib.hid hb
  have HR := Lib.hid h.row
  obtain ⟨y0, y1, y2, y3, y4, y5, y6, y7⟩ := c
  unfold undoCells at HR
  simp only at HR
  have c0 : w.cell? ⟨x, 0, none⟩ = some (.int .i64 y0) := HR.out.cell 0
  have c1 : w.cell? ⟨x, 1, none⟩ = some (.int .i64 y1) := HR.out.cell 1
  have c2 : w.cell? ⟨x, 2, none⟩ = some (.int .i64 y2) := HR.out.cell 2
  have c3 : w.cell? ⟨x, 3, none⟩ = some (.int .i64 y3) := HR.out.cell 3
  have c4 : w.cell? ⟨x, 4, none⟩ = some (.int .i64 y4) := HR.out.cell 4
  have c5 : w.cell? ⟨x, 5, none⟩ = some (.int .i64 y5) := HR.out.cell 5
  have c6 : w.cell? ⟨x, 6, none⟩ = some (.int .i64 y6) := HR.out.cell 6
  have c7 : w.cell? ⟨x, 7, none⟩ = some (.int .i64 y7) := HR.out.cell 7
  have c8 : w.cell? ⟨x, 8, none⟩ = some (.pointer (some ⟨a, 0, none⟩)) := HR.out.cell 8
  have fS : Fr none_ w w := Fr.refl _ _
  have hmm := @run_makeMap Tryz.prog
  have hbd := fun a m w => build_undo y0 y1 y2 y3 y4 y5 y6 y7 a m w
  clear h hu hb HR
  go_enter Tryz.func31, Tryz.ntmps31
  go_upto_region 3 with fail
  go_cut [3] (fun v wx => ∃ y b n G, v = .pointer (some ⟨y, 0, none⟩) ∧ Hid (UnAt wx y b n G [] ⟨y0, y1, y2, y3, y4, y5, y6, y7⟩ s) ∧ Hid (Fr none_ w wx) ∧ Hid (w.heap.size ≤ y ∧ (∀ k, G k → w.heap.size ≤ k) ∧ w.heap.size ≤ n))
  case first =>
    go_wp2_with fail
    go_region_held3 (fun w' => Fr none_ w w' ∧ w'.cell? ⟨x, 0, none⟩ = some (.int .i64 y0) ∧ w'.cell? ⟨x, 1, none⟩ = some (.int .i64 y1) ∧ w'.cell? ⟨x, 2, none⟩ = some (.int .i64 y2) ∧ w'.cell? ⟨x, 3, none⟩ = some (.int .i64 y3) ∧ w'.cell? ⟨x, 4, none⟩ = some (.int .i64 y4) ∧ w'.cell? ⟨x, 5, none⟩ = some (.int .i64 y5) ∧ w'.cell? ⟨x, 6, none⟩ = some (.int .i64 y6) ∧ w'.cell? ⟨x, 7, none⟩ = some (.int .i64 y7) ∧ w'.cell? ⟨x, 8, none⟩ = some (.pointer (some ⟨a, 0, none⟩)))
      (first | (go_split_ands; refine ⟨?_, ?_, ?_, ?_, ?_, ?_, ?_, ?_, ?_, ?_⟩; exact Fr.trans (by assumption) f5; all_goals exact Fr.keep f5 (by assumption)) | (go_split_ands; refine ⟨?_, ?_, ?_, ?_, ?_, ?_, ?_, ?_, ?_, ?_⟩; exact Fr.trans (by assumption) (Fr.drew _ _); all_goals assumption) | (go_split_ands; refine ⟨?_, ?_, ?_, ?_, ?_, ?_, ?_, ?_, ?_, ?_⟩; exact Fr.trans (by assumption) (Fr.alloc _ _ _); all_goals exact Fr.keep (Fr.alloc none_ _ _) (by assumption)) | go_keep)
      (first | (go_at_call 65; refine (GC.out _ (by first | exact Fr.drew none_ w | exact (Fr.drew none_ w).alloc_r _)).mono ?_; rintro e w5 ⟨G, b, rfl, hb, f5, hF⟩; have HB5 := Lib.hid hb; have HF5 := Lib.hid hF; clear hb hF))
    · go_wp2_with fail
      go_meet
      obtain ⟨q1, q2, q3⟩ := cp_startA (c := ⟨y0, y1, y2, y3, y4, y5, y6, y7⟩) ((Fr.drew none_ w).trans f5) HB5.out HF5.out
      exact ⟨_, b, _, G, rfl, q1, q2, q3⟩
    · go_wp2_with fail
      go_meet
      obtain ⟨q1, q2, q3⟩ := cp_startB (c := ⟨y0, y1, y2, y3, y4, y5, y6, y7⟩) (Fr.drew none_ w) f5 HB5.out HF5.out
      exact ⟨_, b, _, G, rfl, q1, q2, q3⟩
  case rest =>
  obtain ⟨y, b, n, G, rfl, hN, hF, hY⟩ := hcut
  have c9 : wc.cell? ⟨x, 9, none⟩ = some (.map (some m)) := hF.out.keep H.out.mapc
  obtain ⟨o, hrg, hit⟩ := run_range_at (P := Tryz.prog) (H.out.kept0 hF.out).seg.map Tryz.underlying80
  have HCP := Lib.hid (CpR.start H.out hN.out hF.out hY.out.1 hY.out.2.1 hY.out.2.2 hit)
  obtain ⟨r, hr⟩ : ∃ r, r = wc.heap.size := ⟨_, rfl⟩
  rw [← hr] at HCP hrg
  obtain ⟨cc, hcc⟩ : ∃ cc : CfgV, cc = ⟨y0, y1, y2, y3, y4, y5, y6, y7⟩ := ⟨_, rfl⟩
  rw [← hcc] at HCP H
  have HCC := Lib.hid hcc
  clear hit hmm hbd c0 c1 c2 c3 c4 c5 c6 c7 c8 fS hr hcc hN hF hY HOL
  go_wp2_with fail
  go_loopw [4] (fun _ wr => ∃ (us done : List (Int × SgV)), Hid (CpR w wr x a m F vs y b n G us done cc s r)) (fun _ wr => vs.length - (wr.iterSeen r).size)
  case atStart => exact ⟨[], [], HCP.out⟩
  case round =>
  obtain ⟨us, done, hC⟩ := hrel
  clear HCP hrg c9
  have hrm : r ≠ m := fun e => by have := hC.out.ol m (Or.inr (Or.inr (Or.inl rfl))); have := hC.out.rn; omega
  rcases hC.out.it.next (P := Tryz.prog) hrm with ⟨hall, hrun⟩ | ⟨p, w', hp, hpd, hrun, hi, f1, hen⟩
  · have HX := Lib.hid (hC.out.seg hall)
    clear hall
    go_wp2_with fail
    go_ret
    exact ⟨y, b, n, G, us, rfl, (by rw [← HCC.out]; exact hC.out.new), HX.out.1, HX.out.2, hC.out.fr, fun k hk => by
      rcases hk with q | q | q
      · rw [q]; exact hC.out.ny
      · exact hC.out.nG k q
      · exact hC.out.nS k q⟩
  · obtain ⟨o1, n1, g1⟩ := hC.out.step hi f1
    have HCL := Lib.hid (fun w2 (f : Fr none_ w' w2) => clone_h w2 p.2.a p.2.l.length p.2.cap p.2.l (((o1.seg.sl p hp).kept0 f).ls1 (enc := hvN) rfl) rfl (by
      have := HB.out p.1
      have e := mem_kvGet (k := p.1) (v := p.2) o1.seg.nodup hp
      unfold segOf at this; rw [e] at this; exact this))
    have HN1 := Lib.hid n1
    have HMO := Lib.hid (fun w3 w4 a2 cap2 (f3 : Fr none_ w' w3) hs hb hm f4 => hC.out.more hp hpd hi f1 (a2 := a2) (cap2 := cap2) (w3 := w3) (w4 := w4) f3 hs hb hm f4)
    have d9 := n1.mapc
    obtain ⟨pk, pv⟩ := p
    simp only [sgEv] at hrun hen
    clear o1 n1 g1 hi f1
    have HN2 := Lib.hid (hC.out.it)
    go_wp2_with fail
    go_region_held3 (fun w2 => w2.cell? ⟨y, 9, none⟩ = some (.map (some n)))
      (first | exact d96 | exact Fr.keep f3 (Fr.keep (Fr.drew none_ w') d9) | exact Fr.keep (Fr.drew none_ w') d9 | go_keep)
      (first
        | (go_at_call 58; refine (HCL.out _ (Fr.drew none_ w')).mono ?_; rintro e w5 ⟨a2, cap2, rfl, hs, f3, hb, _⟩; obtain ⟨w6, hup, hm6, f4⟩ := run_update_at (ev := sgEv) (HN1.out.kept0 ((Fr.drew none_ w').trans f3)).seg.map Tryz.underlying80 int_keyU pk ⟨a2, cap2, pv.l⟩; have hup2 : (Instr.mapUpdate 80 (.map (some n)) (.int .i64 pk) (.slice a2 pv.l.length cap2)).run Tryz.prog w5 = .ok () w6 := hup; have d96 : w6.cell? ⟨y, 9, none⟩ = some (.map (some n)) := f4.keepF (fun e => HN1.out.xS (Or.inl e)) (Fr.keep f3 (Fr.keep (Fr.drew none_ w') d9))))
    have HX := Lib.hid (HMO.out w5 w6 a2 cap2 ((Fr.drew none_ w').trans f3) hs hb hm6 f4)
    clear hs f3 hb hm6 f4 hup hup2 d9 d96
    go_wp2_with fail
    go_roundw
    case rel => exact ⟨_, _, HX.out⟩
    case measure =>
      have e1 := HX.out.it.count
      have e2 := HN2.out.count
      have e3 := HX.out.it.len
      rw [e1, e2]
      rw [List.length_append, List.length_singleton] at e3 ⊢
      omega
end
section
variable {w : World} {x N vl : Nat} {G : Nat → Prop} {c : CfgV} {t : US}
theorem un_copy (h : Un G w x c vl N t) (hN : N ≤ 1000000) : Calls Tryz.prog 31 #[.pointer (some ⟨x, 0, none⟩)] w fun e w' => ∃ y G', e = .returned (.pointer (some ⟨y, 0, none⟩)) ∧ Un G' w' y c vl N t ∧ Fr none_ w w' ∧ ∀ k, G' k → w.heap.size ≤ k := by
  obtain ⟨a, m, F, vs, h, rfl⟩ := h
  refine (Undo_Copy_at h.at_ h.is_.up (fun k => by rw [h.seg]; have := h.is_.segl k; omega)).mono ?_
  rintro e w1 ⟨y, b, n, G', us, he, h1, h2, h3, f, hn⟩
  exact ⟨y, _, he, ⟨b, n, G', us, ⟨h1, h.is_, h.lim, h.cfg, fun k => (h2 k).trans (h.seg k), Nat.le_trans h3 h.keys⟩, rfl⟩, f, hn⟩
end
theorem bu_copy {W w : World} {Ts : List Thing} {i x N vl : Nat} {c : CfgV} {t : US} (h : Bag W Ts w) (hi : Ts[i]? = some (tUn x c vl N t)) (hN : N ≤ 1000000) :
    Calls Tryz.prog 31 #[.pointer (some ⟨x, 0, none⟩)] w fun e w' => ∃ y, e = .returned (.pointer (some ⟨y, 0, none⟩)) ∧ Bag W (Ts ++ [tUn y c vl N t]) w' := by
  obtain ⟨F, hc⟩ := h.un hi
  refine (un_copy hc hN).mono ?_
  rintro e w1 ⟨y, G', he, hu, f, hn⟩
  exact ⟨y, he, h.add (T := tUn y c vl N t) (F := G') f hu hn⟩
end Go.Proofs.YtckkccnebjacdaaGreat
