/-
  Package undo: an engine in memory ('UnAt'); New, Used; of, version.
-/
import Derived.Test.YtckkccnebjacdaaGreatMgUnShelf
import Derived.Test.YtckkccnebjacdaaGreatUnRead
import Derived.Test.YtckkccnebjacdaaGreatUnMay
import Derived.Test.YtckkccnebjacdaaGreatMgTextMay
import Derived.Test.YtckkccnebjacdaaGreatMgArUp
namespace Go.Proofs.YtckkccnebjacdaaGreat
open Go.RowKit
set_option linter.unusedVariables false
set_option linter.unusedSimpArgs false
set_option maxRecDepth 100000

/-- The engine's struct: its config, its arena, its segments. -/
def undoCells (c : CfgV) (a m : Nat) : Array Value := #[.int .i64 c.tasks, .int .i64 c.active, .int .i64 c.keys, .int .i64 c.depth, .int .i64 c.ts, .int .i64 c.keyLen, .int .i64 c.valLen, .int .i64 c.fan, .pointer (some ⟨a, 0, none⟩), .map (some m)]
structure UnAt (w : World) (x a m : Nat) (F : Nat → Prop) (vs : List (Int × SgV)) (c : CfgV) (s : AS) : Prop where
  row : Row w x (undoCells c a m) 82
  ar : Ar F w a s
  seg : SegM w m vs
  xF : ¬ F x
  xS : ¬ segOwn m vs x
  FS : ∀ k, F k → ¬ segOwn m vs k
section
variable {w w' : World} {x a m : Nat} {F F' G : Nat → Prop} {vs vs' : List (Int × SgV)} {c : CfgV} {s s' : AS}
theorem UnAt.arena (h : UnAt w x a m F vs c s) : w.cell? ⟨x, 8, none⟩ = some (.pointer (some ⟨a, 0, none⟩)) := (h.row.cell 8).trans rfl
theorem UnAt.mapc (h : UnAt w x a m F vs c s) : w.cell? ⟨x, 9, none⟩ = some (.map (some m)) := (h.row.cell 9).trans rfl
theorem UnAt.vlen (h : UnAt w x a m F vs c s) : w.cell? ⟨x, 6, none⟩ = some (.int .i64 c.valLen) := (h.row.cell 6).trans rfl
theorem UnAt.kept (h : UnAt w x a m F vs c s) (f : Fr G w w') (h1 : ¬ G x) (h2 : ∀ k, F k → ¬ G k) (h3 : ∀ k, segOwn m vs k → ¬ G k) : UnAt w' x a m F vs c s := ⟨h.row.kept f h1, h.ar.kept f h2, h.seg.kept f h3, h.xF, h.xS, h.FS⟩
theorem UnAt.kept0 (h : UnAt w x a m F vs c s) (f : Fr none_ w w') : UnAt w' x a m F vs c s := h.kept f (fun e => e) (fun _ _ e => e) (fun _ _ e => e)
theorem UnAt.lt (h : UnAt w x a m F vs c s) : ∀ k, (k = x ∨ F k ∨ segOwn m vs k) → k < w.heap.size := by
  rintro k (rfl | e | e)
  · exact h.row.lt
  · exact h.ar.lt k e
  · exact h.seg.lt k e
/-- The arena is turned. -/
theorem UnAt.turnA (h : UnAt w x a m F vs c s) (ha : Ar F' w' a s') (f : Fr F w w') (g : Grow F F' w) : UnAt w' x a m F' vs c s' :=
  ⟨h.row.kept f h.xF, ha, h.seg.kept f (fun k hk e => h.FS k e hk), fun e => by
    rcases g x e with q | q
    · exact h.xF q
    · have := h.row.lt; omega, h.xS, fun k hk hs => by
    rcases g k hk with q | q
    · exact h.FS k q hs
    · have := h.seg.lt k hs; omega⟩
/-- The segments are turned. -/
theorem UnAt.turnS (h : UnAt w x a m F vs c s) (hs : SegM w' m vs') (f : Fr (segOwn m vs) w w') (g : ∀ b, segOwn m vs' b → segOwn m vs b ∨ w.heap.size ≤ b) : UnAt w' x a m F vs' c s :=
  ⟨h.row.kept f h.xS, h.ar.kept f (fun k hk e => h.FS k hk e), hs, h.xF, fun e => by
    rcases g x e with q | q
    · exact h.xS q
    · have := h.row.lt; omega, fun k hk e => by
    rcases g k e with q | q
    · exact h.FS k hk q
    · have := h.ar.lt k hk; omega⟩
theorem Undo_Used (h : UnAt w x a m F vs c s) : Calls Tryz.prog 14 #[.pointer (some ⟨x, 0, none⟩)] w fun e w' => e = .returned (.int .i64 (s.used : Int)) ∧ w = w' := by
  have GU := Lib.hid (ar_used h.ar)
  have c8 := h.arena
  clear h
  go_enter Tryz.func14, Tryz.ntmps14
  go_wp2_with fail
  refine GU.out.mono ?_
  rintro e w1 ⟨rfl, rfl⟩
  go_wp2_with fail
  go_ret
  exact ⟨rfl, rfl⟩
end
set_option maxHeartbeats 2000000 in
theorem Undo_New_no (w : World) (c : CfgV) (h : c.may = false) :
    Calls Tryz.prog 10 #[.agg c.cells] w fun e w' => e = .returned (.tuple #[.pointer none, .int .i64 1]) ∧ Fr none_ w w' := by
  have GM := Lib.hid (fun w => May_any w c)
  rw [h] at GM
  have fB := Lib.hid (Fr.alloc none_ w (.cells c.cells 23))
  obtain ⟨x0, x1, x2, x3, x4, x5, x6, x7⟩ := c
  unfold CfgV.cells at GM fB ⊢
  simp only at GM fB ⊢
  clear h
  go_enter Tryz.func10, Tryz.ntmps10
  go_wp2_with fail
  refine (GM.out _).mono ?_
  rintro e w1 ⟨rfl, f1⟩
  go_wp2_with fail
  go_ret2
  exact ⟨rfl, fB.out.trans f1⟩
theorem build_undo (y0 y1 y2 y3 y4 y5 y6 y7 : Int) (a m : Nat) (w : World) : (Instr.build 82 #[(0, .agg #[.int .i64 y0, .int .i64 y1, .int .i64 y2, .int .i64 y3, .int .i64 y4, .int .i64 y5, .int .i64 y6, .int .i64 y7]), (1, .pointer (some ⟨a, 0, none⟩)), (2, .map (some m))]).run Tryz.prog w = .ok (.agg #[.int .i64 y0, .int .i64 y1, .int .i64 y2, .int .i64 y3, .int .i64 y4, .int .i64 y5, .int .i64 y6, .int .i64 y7, .pointer (some ⟨a, 0, none⟩), .map (some m)]) w := by kernel_rfl
set_option maxHeartbeats 4000000 in
theorem Undo_New_yes (w : World) (c : CfgV) (h : c.may = true) (vl : Nat) (hv : c.valLen = vl) (hvl : vl ≤ 256) :
    Calls Tryz.prog 10 #[.agg c.cells] w fun e w' => ∃ x a m F, e = .returned (.tuple #[.pointer (some ⟨x, 0, none⟩), .int .i64 0]) ∧ UnAt w' x a m F [] c (AS.new (32 + vl)) ∧ Fr none_ w w' ∧ w.heap.size ≤ x ∧ w.heap.size ≤ m ∧ ∀ k, F k → w.heap.size ≤ k := by
  have GM := Lib.hid (fun w => May_any w c)
  rw [h] at GM
  have fB := Lib.hid (Fr.alloc none_ w (.cells c.cells 23))
  have GA := Lib.hid (fun w => ar_new w (32 + vl) (by omega) (by omega))
  obtain ⟨sl, hsl⟩ : ∃ sl, sl = 32 + vl := ⟨_, rfl⟩
  have hw1 : IntKind.i64.wrap (32 + (vl : Int)) = (sl : Int) := by rw [show 32 + (vl : Int) = (sl : Int) by omega]; exact IntWalk.i64_in _ (by omega)
  rw [← hsl] at GA ⊢
  obtain ⟨x0, x1, x2, x3, x4, x5, x6, x7⟩ := c
  simp only at hv
  subst hv
  unfold CfgV.cells at GM fB ⊢
  simp only at GM fB ⊢
  have hk6 : ∀ w1, Fr none_ (w.alloc (.cells #[.int .i64 x0, .int .i64 x1, .int .i64 x2, .int .i64 x3, .int .i64 x4, .int .i64 x5, .int .i64 (vl : Int), .int .i64 x7] 23)) w1 → ∀ (j : Nat) (v : Value), #[Value.int .i64 x0, .int .i64 x1, .int .i64 x2, .int .i64 x3, .int .i64 x4, .int .i64 x5, .int .i64 (vl : Int), .int .i64 x7][j]? = some v → w1.cell? ⟨w.heap.size, j, none⟩ = some v := fun w1 f j v hj => Fr.keep f (((Row.new w _ _).cell j).trans hj)
  have HK := Lib.hid hk6
  clear h hsl hk6
  go_enter Tryz.func10, Tryz.ntmps10
  go_wp2_with fail
  refine (GM.out _).mono ?_
  rintro e w1 ⟨rfl, f1⟩
  have c6 := HK.out _ f1 6 _ rfl
  go_wp2_with fail
  refine (GA.out _).mono ?_
  rintro e w2 ⟨F, a, rfl, ha, f2, hF⟩
  have f12 := f1.trans f2
  have k0 := HK.out _ f12 0 _ rfl
  have k1 := HK.out _ f12 1 _ rfl
  have k2 := HK.out _ f12 2 _ rfl
  have k3 := HK.out _ f12 3 _ rfl
  have k4 := HK.out _ f12 4 _ rfl
  have k5 := HK.out _ f12 5 _ rfl
  have k6 := HK.out _ f12 6 _ rfl
  have k7 := HK.out _ f12 7 _ rfl
  have HX := Lib.hid (And.intro ha (And.intro (fB.out.trans f12) (And.intro hF (fB.out.trans f1).size)))
  have hmm := @run_makeMap Tryz.prog
  have hbd := fun m w => build_undo x0 x1 x2 x3 x4 x5 (vl : Int) x7 a m w
  clear ha f1 f2 hF f12 c6
  go_wp2_with fail
  go_ret2
  obtain ⟨ha, hf, hF, hz⟩ := HX.out
  have fm := Fr.alloc none_ w2 (.map #[] 0)
  have fa := Fr.alloc none_ (w2.alloc (.map #[] 0)) (.cells #[.int .i64 x0, .int .i64 x1, .int .i64 x2, .int .i64 x3, .int .i64 x4, .int .i64 x5, .int .i64 (vl : Int), .int .i64 x7, .pointer (some ⟨a, 0, none⟩), .map (some w2.heap.size)] 82)
  have hr := Row.new (w2.alloc (.map #[] 0)) #[.int .i64 x0, .int .i64 x1, .int .i64 x2, .int .i64 x3, .int .i64 x4, .int .i64 x5, .int .i64 (vl : Int), .int .i64 x7, .pointer (some ⟨a, 0, none⟩), .map (some w2.heap.size)] 82
  have e : (w2.alloc (.map #[] 0)).heap.size = w2.heap.size + 1 := by simp
  rw [e] at hr
  have hz2 := hf.size
  refine ⟨w2.heap.size + 1, a, w2.heap.size, F, rfl, ⟨hr, (ha.kept0 fm).kept0 fa, (SegM.new w2).kept0 fa, fun e => ?_, fun e => ?_, fun k hk e => ?_⟩, (hf.trans fm).trans fa, by omega, hz2, fun k hk => Nat.le_trans hz (hF k hk)⟩
  · have := ha.lt _ e; omega
  · rcases e with e | ⟨p, hp, _⟩
    · omega
    · simp at hp
  · rcases e with e | ⟨p, hp, _⟩
    · have := ha.lt _ hk; omega
    · simp at hp
/-! ### of, version -/
def VerV.uv (rcd : Bool) (v : VerV) (nx : Nat) : UV := { rcd := rcd, wr := v.wr.toNat, tomb := v.tomb, nx := nx, sg := 0, rest := v.val }
theorem VerV.uv_cells {v : VerV} (rcd : Bool) (h : 1 ≤ v.wr) (nx : Nat) : (v.uv rcd nx).cells = #[.int .u8 (if rcd then 2 else 1), .int .u8 (if v.tomb then 1 else 0), .int .u64 v.wr, .int .u64 (nx : Int), .int .u64 0, .string v.val] := by
  unfold UV.cells VerV.uv UV.kind UV.tb byteV
  have e : ((v.wr.toNat : Nat) : Int) = v.wr := by omega
  simp only [e]
  cases rcd <;> cases v.tomb <;> rfl
theorem mid_block (w : World) (o1 o3 : Obj) (cs : Array Value) (t : TypeId) {u : Array Value} (hu : cs = u := by rfl) : Row (((w.alloc o1).alloc (.cells cs t)).alloc o3) (w.heap.size + 1) u t := by
  subst hu
  have := Row.new (w.alloc o1) cs t
  rw [World.size_alloc] at this
  exact this.alloc o3
set_option maxHeartbeats 4000000 in
theorem Undo_of (w : World) (rcd : Bool) (v : VerV) (nx : Nat) (h1 : 1 ≤ v.wr) (h2 : v.wr < 9223372036854775808) :
    Calls Tryz.prog 55 #[.int .u8 (if rcd then 2 else 1), .agg v.cells, .int .u64 (nx : Int)] w fun e w' => e = .returned (.agg (v.uv rcd nx).cells) ∧ Fr none_ w w' := by
  rw [VerV.uv_cells rcd h1]
  have wu : IntKind.u64.wrap v.wr = v.wr := by rw [IntKind.wrap_u64]; omega
  obtain ⟨K, hK⟩ : ∃ K : Int, K = (if rcd then 2 else 1) := ⟨_, rfl⟩
  rw [← hK]
  obtain ⟨vw, vt, vtomb, vv⟩ := v
  unfold VerV.cells
  simp only at wu h1 h2 ⊢
  clear hK
  cases vtomb with
  | true =>
    go_enter Tryz.func55, Tryz.ntmps55
    go_wp2_with fail
    obtain ⟨c0, c1, c2, c3, c4, c5⟩ := six_cells (mid_block w (.cells #[.int .i64 vw, .int .i64 vt, .bool true, .string vv] 40) (.cells #[.int .u8 K, .int .u8 1, .int .u64 vw, .int .u64 (nx : Int), .int .u64 0, .string vv] 87) _ 87 (u := #[.int .u8 K, .int .u8 1, .int .u64 vw, .int .u64 (nx : Int), .int .u64 0, .string vv]))
    refine bodyPost_ret (v := .agg #[.int .u8 K, .int .u8 1, .int .u64 vw, .int .u64 (nx : Int), .int .u64 0, .string vv]) (by simp [results, Tryz.results55, go_sem, c0, c1, c2, c3, c4, c5]) rfl ⟨rfl, ((Fr.alloc none_ w _).alloc_r _).alloc_r _⟩
  | false =>
    go_enter Tryz.func55, Tryz.ntmps55
    go_wp2_with fail
    obtain ⟨c0, c1, c2, c3, c4, c5⟩ := six_cells (mid_block w (.cells #[.int .i64 vw, .int .i64 vt, .bool false, .string vv] 40) (.cells #[.int .u8 K, .int .u8 0, .int .u64 vw, .int .u64 (nx : Int), .int .u64 0, .string vv] 87) _ 87 (u := #[.int .u8 K, .int .u8 0, .int .u64 vw, .int .u64 (nx : Int), .int .u64 0, .string vv]))
    refine bodyPost_ret (v := .agg #[.int .u8 K, .int .u8 0, .int .u64 vw, .int .u64 (nx : Int), .int .u64 0, .string vv]) (by simp [results, Tryz.results55, go_sem, c0, c1, c2, c3, c4, c5]) rfl ⟨rfl, ((Fr.alloc none_ w _).alloc_r _).alloc_r _⟩
def OV.cells (v : OV) : Array Value := #[.int .i64 (v.wr : Int), .int .i64 0, .bool v.tomb, .string v.val]
theorem tb_one (n : UV) : ((n.tb.toNat : Int) == 1) = n.tomb := by
  unfold UV.tb
  cases n.tomb <;> rfl
set_option maxHeartbeats 4000000 in
theorem Undo_version (w : World) (n : UV) (val : ByteArray) (h : n.wr < 9223372036854775808) :
    Calls Tryz.prog 51 #[.agg n.cells, .string val] w fun e w' => e = .returned (.agg (OV.cells ⟨n.wr, n.tomb, val⟩)) ∧ Fr none_ w w' := by
  have wi : IntKind.i64.wrap (n.wr : Int) = (n.wr : Int) := IntWalk.i64_in _ (by omega)
  have ht := tb_one n
  unfold UV.cells byteV OV.cells
  simp only
  go_enter Tryz.func51, Tryz.ntmps51
  go_wp2_with fail
  have r := Row.new (w.alloc (.cells #[.int .u8 (n.kind.toNat : Int), .int .u8 (n.tb.toNat : Int), .int .u64 (n.wr : Int), .int .u64 (n.nx : Int), .int .u64 (n.sg : Int), .string n.rest] 87)) #[.int .i64 (n.wr : Int), .int .i64 0, .bool n.tomb, .string val] 40
  rw [World.size_alloc] at r
  have c0 := r.cell 0
  have c1 := r.cell 1
  have c2 := r.cell 2
  have c3 := r.cell 3
  refine bodyPost_ret (v := .agg #[.int .i64 (n.wr : Int), .int .i64 0, .bool n.tomb, .string val]) (by simp [results, Tryz.results51, go_sem, c0, c1, c2, c3]) rfl ⟨rfl, (Fr.alloc none_ w _).alloc_r _⟩
end Go.Proofs.YtckkccnebjacdaaGreat
