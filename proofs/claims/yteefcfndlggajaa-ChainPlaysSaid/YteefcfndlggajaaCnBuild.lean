/-
  Package chain's statements: build: a chain of versions.
-/
import Derived.Test.YteefcfndlggajaaCnBag
namespace Go.Proofs.Yteefcfndlggajaa
open Go.RowKit
set_option linter.unusedVariables false
set_option linter.unusedSimpArgs false
set_option maxRecDepth 100000

def hvU (h : Nat) : Value := .int .u64 (h : Int)
def BuildPost (w : World) (c : CfgV) (lim : Nat) (l : List VerV) (e : Ending) (w' : World) : Prop :=
  (e = .returned (.tuple #[.pointer none, .slice none 0 0, .bool false]) ∧ Fr none_ w w') ∨
  (∃ (x : Nat) (b : Option Addr) (cb : Nat) (hs : List Nat) (t : CS), e = .returned (.tuple #[.pointer (some ⟨x, 0, none⟩), .slice b l.length cb, .bool true]) ∧ Built lim l hs t ∧ Bag w [tEng x c lim l.length t, tSl b l.length cb 34 1 (hs.map hvU)] w')
theorem handleInfo : (Try.prog.info? 34).map (fun i => (i.zero, i.size, i.bytes)) = some (some (.int .u64 0), 1, 8) := by kernel_rfl
theorem hvU_one (l : List Nat) : ∀ u ∈ l.map hvU, u.oneCell' = true := by
  intro u hu
  obtain ⟨x, _, rfl⟩ := List.mem_map.1 hu
  rfl
/-- What Make of the next version comes to. -/
inductive NextR (lim : Nat) (l : List VerV) (hs : List Nat) (t : CS) (v : VerV) : Prop where
  | bad (q : Nat) (t' : CS) (h : t.put lim v (lastOf hs) = (0, q, t')) (hq : q = 1 ∨ q = 41)
  | good (hd : Nat) (t' : CS) (h : t.put lim v (lastOf hs) = (hd, 0, t')) (hb : Built lim (l ++ [v]) (hs ++ [hd]) t') (hl : hd < 18446744073709551616)
theorem next_put {lim : Nat} {l : List VerV} {hs : List Nat} {t : CS} (hb : Built lim l hs t) (hN : l.length < big) (v : VerV) (hw : v.wr < 9223372036854775808) : NextR lim l hs t v := by
  by_cases hv : v.Ok lim
  · have e : t.put lim v (lastOf hs) = t.make (v.nv (lastOf hs)) := by unfold CS.put; rw [if_pos (VerV.may_yes hv)]
    rcases hb.is_.make hN (VerV.nv_ok hv hw hb.last_lt) with ⟨e1, r⟩ | ⟨e1, e2, _, _⟩
    · exact .good (t.make (v.nv (lastOf hs))).1 (t.make (v.nv (lastOf hs))).2.2 (by rw [e, ← e1]) (hb.step hv r) r.lt
    · exact .bad 41 (t.make (v.nv (lastOf hs))).2.2 (by rw [e, ← e1, ← e2]) (Or.inr rfl)
  · exact .bad 1 t (put_bad hv _) (Or.inl rfl)
set_option maxHeartbeats 8000000 in
theorem build_any (w : World) (c : CfgV) (a : Option Addr) (cap : Nat) (l : List VerV) (hl : VersIn w a l) (hbig : isBigV l = false) :
    Calls Try.prog 11 #[.agg c.cells, .slice a l.length cap] w (BuildPost w c c.valLen.toNat l) := by
  obtain ⟨hb1, hb2⟩ := isBigV_no hbig
  by_cases hm : c.may = true
  · have hok : c.Ok := @of_decide_eq_true _ (Classical.propDecidable _) hm
    have h6 : 0 ≤ c.valLen ∧ c.valLen ≤ 256 := hok 6 (by omega)
    obtain ⟨lim, hlim⟩ : ∃ lim, lim = c.valLen.toNat := ⟨_, rfl⟩
    have hcl : c.valLen = lim := by omega
    have hl256 : lim ≤ 256 := by omega
    rw [← hlim]
    have HP := Lib.hid (fun e w' (h : BuildPost w c lim l e w') => h)
    have HNEW := Lib.hid (fun w' (f : Fr none_ w w') => bg_new ((Bag.start w).keep0 f) c hm hcl hl256)
    have HB0 := Lib.hid (Built.start hl256)
    have fB := Lib.hid (Fr.alloc none_ w (.cells c.cells 23))
    have HL := Lib.hid (fun w' (f : Fr none_ w w') => hl.kept f (fun _ _ e => e))
    have HOK := Lib.hid hl.ok
    have HB2 := Lib.hid hb2
    have HCV := Lib.hid (show c.cells = #[.int .i64 c.tasks, .int .i64 c.active, .int .i64 c.keys, .int .i64 c.depth, .int .i64 c.ts, .int .i64 c.keyLen, .int .i64 c.valLen, .int .i64 c.fan] from rfl)
    unfold CfgV.cells at HNEW fB ⊢
    clear hl hok h6 hm hb2 hlim hcl hbig
    go_enter Try.func11, Try.ntmps11
    go_wp2_with fail
    refine (HNEW.out _ fB.out).mono ?_
    rintro e w1 ⟨x, rfl, hg⟩
    have HG := Lib.hid (hg.addNil 34 1)
    clear hg
    go_wp2_with fail
    go_loopw [9, 10, 11] (fun al tp iv wr => ∃ (i : Nat) (b : Option Addr) (cb : Nat) (hs : List Nat) (t : CS), Hid (i ≤ l.length) ∧ al = .slice b i cb ∧ tp = .int .u64 (lastOf hs : Int) ∧ iv = .int .i64 (i : Int) ∧ Hid (Built lim (l.take i) hs t) ∧ Hid (Bag w [tEng x c lim i t, tSl b i cb 34 1 (hs.map hvU)] wr)) (fun _ _ iv _ => l.length - (intOf iv).toNat)
    case atStart => exact ⟨0, none, 0, [], CS.new lim, Nat.zero_le _, rfl, rfl, rfl, (show Built lim (l.take 0) [] _ from HB0.out), HG.out⟩
    case round =>
      obtain ⟨i, b, cb, hs, t, hi, rfl, rfl, rfl, hbt, hg⟩ := hrel
      by_cases hlt : i < l.length
      · obtain ⟨v, hv⟩ : ∃ v, l[i]? = some v := ⟨_, List.getElem?_eq_getElem hlt⟩
        have hvin := HOK.out v (List.mem_of_getElem? hv)
        have hvs := HB2.out v (List.mem_of_getElem? hv)
        have hil : (l.take i).length = i := by rw [List.length_take]; omega
        obtain ⟨g, o, rfl, hgl, hc⟩ := (HL.out _ hg.out.fr).at_.get hv
        have p0 : wr.cell? ⟨g, o + i * 4, none⟩ = some (.int .i64 v.wr) := hc i v hv 0 _ rfl
        have p1 : wr.cell? ⟨g, o + i * 4 + 1, none⟩ = some (.int .i64 v.ts) := hc i v hv 1 _ rfl
        have p2 : wr.cell? ⟨g, o + i * 4 + 2, none⟩ = some (.bool v.tomb) := hc i v hv 2 _ rfl
        have p3 : wr.cell? ⟨g, o + i * 4 + 3, none⟩ = some (.string v.val) := hc i v hv 3 _ rfl
        have hput := bg_put hg.out (i := 0) rfl (by unfold big; omega) v (by unfold maxLen; omega) hvin.wr hbt.out.last_lt
        have hnext := next_put hbt.out (by rw [hil]; unfold big; omega) v hvin.wr
        have HT := Lib.hid (take_more hv)
        unfold VerV.cells at hput
        clear hc hvin hvs hv
        rcases hnext with ⟨q, t', e, hq⟩ | ⟨hd, t', e, hb', hdl⟩
        · rw [e] at hput
          have HPUT := Lib.hid hput
          have hq0 : ((q : Int) != 0) = true := by simp; omega
          clear hput e hq
          go_wp2_with fail
          refine HPUT.out.mono ?_
          rintro e w2 ⟨rfl, hg2⟩
          have HF := Lib.hid hg2.fr
          clear hg2
          go_wp2_with fail
          go_ret3
          exact Or.inl ⟨rfl, HF.out⟩
        · rw [e] at hput
          have HPUT := Lib.hid hput
          clear hput e
          go_wp2_with fail
          refine HPUT.out.mono ?_
          rintro e w2 ⟨rfl, hg2⟩
          have HG2 := Lib.hid (show Bag w [tEng x c lim (i + 1) t', tSl b i cb 34 1 (hs.map hvU)] w2 from hg2)
          have HSA := Lib.hid ((HG2.out.sl (i := 1) rfl).kept0 (Fr.alloc none_ w2 (.cells [hvU hd].toArray 34)))
          have RA := Lib.hid (new_cells w2 [hvU hd] 34)
          have HVE := Lib.hid (show [hvU hd].toArray = #[.int .u64 (hd : Int)] from rfl)
          have HB' := Lib.hid hb'
          clear hg2 hb' p0 p1 p2 p3
          go_wp2_with (at_builtin; refine Stop.mk ?_)
          show wpList _ _ _ _ _ _
          rw [← HVE.out]
          refine wpAppend rfl _ _ _ rfl 34 (.int .u64 0) 1 8 Try.underlying28 handleInfo rfl HSA.out rfl ⟨w2.heap.size, 0, none⟩ 1 1 [hvU hd] rfl rfl RA.out (by intro u hu; simp at hu; subst hu; rfl) (by omega) (by unfold maxLen; omega) (by omega) ?_
          intro b' cb' w5 hs5 f5 hb5
          have HG5 := Lib.hid (HG2.out.appendedNew (i := 1) rfl hs5 f5 hb5)
          clear hs5 f5 hb5
          go_wp2_with fail
          go_roundw
          case rel => exact ⟨i + 1, b', cb', hs ++ [hd], t', hlt, rfl, by unfold lastOf; simp, by go_num, (show Built lim (l.take (i + 1)) (hs ++ [hd]) t' by rw [HT.out]; exact HB'.out), (show Bag w [tEng x c lim (i + 1) t', tSl b' (i + 1) cb' 34 1 ((hs ++ [hd]).map hvU)] w5 by rw [List.map_append]; exact HG5.out)⟩
          case measure => simp [intOf]; omega
      · have hie : i = l.length := by have := hi.out; omega
        subst hie
        have HBT := Lib.hid (show Built lim l hs t by have := hbt.out; rwa [List.take_of_length_le (Nat.le_refl _)] at this)
        go_wp2_with fail
        go_ret3
        exact Or.inr ⟨x, b, cb, hs, t, rfl, HBT.out, hg.out⟩
  · have hm' : c.may = false := by simpa using hm
    have HNEW := Lib.hid (fun w' => Chain_New_no w' c hm')
    have fB := Lib.hid (Fr.alloc none_ w (.cells c.cells 23))
    unfold CfgV.cells at HNEW fB ⊢
    clear hl hm hm' hb2 hbig
    go_enter Try.func11, Try.ntmps11
    go_wp2_with fail
    refine (HNEW.out _).mono ?_
    rintro e w1 ⟨rfl, f1⟩
    have F1 := Lib.hid f1
    clear f1
    go_wp2_with fail
    go_ret3
    exact Or.inl ⟨rfl, fB.out.trans F1.out⟩
end Go.Proofs.Yteefcfndlggajaa
