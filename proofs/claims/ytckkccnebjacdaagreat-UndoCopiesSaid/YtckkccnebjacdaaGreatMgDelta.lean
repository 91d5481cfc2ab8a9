/-
  Package delta: front, back, same, Make, Apply.
  Package delta: Apply.
-/
import Derived.Test.YtckkccnebjacdaaGreatMgDeltaP
import Derived.Test.YtckkccnebjacdaaGreatMgOwn
import Derived.Test.YtckkccnebjacdaaGreatMgTextMay
import Derived.Test.YtckkccnebjacdaaGreatMgPage
import Derived.Test.YtckkccnebjacdaaGreatMgBe
import Derived.Deep.QuietTactic
import Derived.BigQuiet
import Derived.Shelf.Abstract
namespace Go.Proofs.YtckkccnebjacdaaGreat
open Go.RowKit Go.Shelf
set_option linter.unusedVariables false
set_option linter.unusedSimpArgs false
set_option maxRecDepth 100000

theorem byte_at {s : ByteArray} {i : Nat} {b : UInt8} (h : s.data.toList[i]? = some b) : ∃ h : i < s.size, s[i] = b := by
  have hl := (List.getElem?_eq_some_iff.1 h).1
  have hi : i < s.size := by simpa using hl
  refine ⟨hi, ?_⟩
  have := (List.getElem?_eq_some_iff.1 h).2
  show s.data[i] = b
  simpa using this
theorem Delta_front (w : World) (s : ByteArray) (i : Nat) (b : UInt8) (h : s.data.toList[i]? = some b) (hs : s.size ≤ 140737488351232) :
    Calls Tryz.prog 100 #[.string s, .int .i64 (i : Int)] w fun e w' => e = .returned (byteV b) ∧ w = w' := by
  obtain ⟨h1, h2⟩ := byte_at h
  have HB := Lib.hid h2
  clear h h2
  go_enter Tryz.func100, Tryz.ntmps100
  go_wp2
  go_ret
  exact ⟨by rw [HB.out]; rfl, rfl⟩
theorem Delta_back (w : World) (s : ByteArray) (i : Nat) (b : UInt8) (h : s.data.toList.reverse[i]? = some b) (hs : s.size ≤ 140737488351232) :
    Calls Tryz.prog 101 #[.string s, .int .i64 (i : Int)] w fun e w' => e = .returned (byteV b) ∧ w = w' := by
  have hl := (List.getElem?_eq_some_iff.1 h).1
  have hlen : s.data.toList.length = s.size := rfl
  rw [List.length_reverse, hlen] at hl
  rw [List.getElem?_reverse (by rw [hlen]; exact hl), hlen] at h
  obtain ⟨h1, h2⟩ := byte_at h
  obtain ⟨j, hj⟩ : ∃ j, j = s.size - 1 - i := ⟨_, rfl⟩
  have w1 : IntKind.i64.wrap ((s.size : Int) - 1) = (s.size : Int) - 1 := IntWalk.i64_in _ (by omega)
  have w2 : IntKind.i64.wrap ((s.size : Int) - 1 - (i : Int)) = (j : Int) := by rw [show (s.size : Int) - 1 - (i : Int) = (j : Int) by omega]; exact IntWalk.i64_in _ (by omega)
  have hjl : j < s.size := by omega
  have HB := Lib.hid (show ∃ h : j < s.size, s[j] = b by subst hj; exact ⟨h1, h2⟩)
  clear h h2 hj hlen
  go_enter Tryz.func101, Tryz.ntmps101
  go_wp2
  go_ret
  exact ⟨by obtain ⟨_, e⟩ := HB.out; rw [e]; rfl, rfl⟩
theorem preN_step {a b : List UInt8} {k : Nat} (h : k ≤ preN a b) : k < preN a b ↔ ∃ x, a[k]? = some x ∧ b[k]? = some x := by
  have hl := preN_le a b
  constructor
  · intro hk
    have hg := preN_get a b k hk
    have : k < a.length := by omega
    exact ⟨a[k], List.getElem?_eq_getElem this, by rw [← hg]; exact List.getElem?_eq_getElem this⟩
  · rintro ⟨x, h1, h2⟩
    rcases Nat.lt_or_ge k (preN a b) with q | q
    · exact q
    · have e : k = preN a b := by omega
      exfalso
      have q1 := (List.getElem?_eq_some_iff.1 h1).1
      have q2 := (List.getElem?_eq_some_iff.1 h2).1
      rw [e] at q1 q2 h1 h2
      exact preN_stop a b q1 q2 (h1.trans h2.symm)
set_option maxHeartbeats 2000000 in
theorem Delta_same (w : World) (a b : ByteArray) (R : List UInt8 → List UInt8) (g : Nat) (hR : ∀ l, (R l).length = l.length) (ha : a.size ≤ 140737488351232) (hb : b.size ≤ 140737488351232)
    (eg : ∀ args w, (callFunc g args).run Tryz.prog w = .ok (.enter g args) w)
    (hg : ∀ (s : ByteArray) (i : Nat) (x : UInt8) (w : World), s.size ≤ 140737488351232 → (R s.data.toList)[i]? = some x → Calls Tryz.prog g #[.string s, .int .i64 (i : Int)] w fun e w' => e = .returned (byteV x) ∧ w = w') :
    Calls Tryz.prog 99 #[.string a, .string b, .func (.func g) #[] #[]] w fun e w' => e = .returned (.int .i64 (preN (R a.data.toList) (R b.data.toList) : Int)) ∧ w = w' := by
  obtain ⟨A, hA⟩ : ∃ A, A = R a.data.toList := ⟨_, rfl⟩
  obtain ⟨B, hB⟩ : ∃ B, B = R b.data.toList := ⟨_, rfl⟩
  have hAl : A.length = a.size := by rw [hA, hR]; rfl
  have hBl : B.length = b.size := by rw [hB, hR]; rfl
  have GA := Lib.hid (fun (i : Nat) (x : UInt8) (w : World) (h : A[i]? = some x) => hg a i x w ha (by rw [← hA]; exact h))
  have GB := Lib.hid (fun (i : Nat) (x : UInt8) (w : World) (h : B[i]? = some x) => hg b i x w hb (by rw [← hB]; exact h))
  rw [← hA, ← hB]
  have HAL := Lib.hid hAl
  have HBL := Lib.hid hBl
  clear hg hA hB hAl hBl hR
  go_enter Tryz.func99, Tryz.ntmps99
  go_wp2_with fail
  go_loop [7] (fun n => ∃ k : Nat, n = .int .i64 k ∧ Hid (k ≤ preN A B)) (fun n => preN A B - (intOf n).toNat)
  case atStart => exact ⟨0, rfl, Nat.zero_le _⟩
  case round =>
    obtain ⟨k, rfl, hk⟩ := hrel
    have hst := preN_step hk.out
    have hle := preN_le A B
    rw [HAL.out, HBL.out] at hle
    by_cases l1 : k < a.size
    · by_cases l2 : k < b.size
      · obtain ⟨x, hx⟩ : ∃ x, A[k]? = some x := ⟨A[k]'(by rw [HAL.out]; exact l1), List.getElem?_eq_getElem _⟩
        obtain ⟨y, hy⟩ : ∃ y, B[k]? = some y := ⟨B[k]'(by rw [HBL.out]; exact l2), List.getElem?_eq_getElem _⟩
        have CA := Lib.hid (fun w => GA.out k x w hx)
        have CB := Lib.hid (fun w => GB.out k y w hy)
        have hxl := x.toNat_lt
        have hyl := y.toNat_lt
        unfold byteV at CA CB
        by_cases e : x = y
        · subst e
          have hlt : k < preN A B := hst.2 ⟨x, hx, hy⟩
          have HLT := Lib.hid hlt
          have hwk : IntKind.i64.wrap ((k : Int) + 1) = ((k + 1 : Nat) : Int) := by rw [show (k : Int) + 1 = ((k + 1 : Nat) : Int) by omega]; exact IntWalk.i64_in _ (by omega)
          clear hst hx hy hlt hle hk
          go_wp2_with fail
          refine (CA.out _).mono ?_
          rintro e w1 ⟨rfl, rfl⟩
          go_wp2_with fail
          refine (CB.out _).mono ?_
          rintro e w1 ⟨rfl, rfl⟩
          go_wp2_with fail
          go_round
          case rel => exact ⟨k + 1, by first | rfl | (rw [hwk]), HLT.out⟩
          case measure => have := HLT.out; simp [intOf]; omega
        · have hke : k = preN A B := by
            rcases Nat.lt_or_ge k (preN A B) with q | q
            · obtain ⟨z, h1, h2⟩ := hst.1 q
              rw [hx] at h1; rw [hy] at h2
              cases h1; cases h2; exact absurd rfl e
            · have := hk.out; omega
          have HKE := Lib.hid hke
          have hne : ¬ (x.toNat : Int) = (y.toNat : Int) := fun q => e (UInt8.toNat_inj.1 (by omega))
          generalize x.toNat = xn at CA hxl hne
          generalize y.toNat = yn at CB hyl hne
          have hne2 : ¬ xn = yn := fun q => hne (by rw [q])
          clear hst hx hy hle hk hke
          go_wp2_with fail
          refine (CA.out _).mono ?_
          rintro e w1 ⟨rfl, rfl⟩
          go_wp2_with fail
          refine (CB.out _).mono ?_
          rintro e w1 ⟨rfl, rfl⟩
          go_wp2_with fail
          go_ret
          exact ⟨by rw [← HKE.out]; rfl, rfl⟩
      · have HKE := Lib.hid (show k = preN A B by have := hk.out; omega)
        clear hst hle hk
        go_wp2_with fail
        go_ret
        exact ⟨by rw [← HKE.out]; rfl, rfl⟩
    · have HKE := Lib.hid (show k = preN A B by have := hk.out; omega)
      clear hst hle hk
      go_wp2_with fail
      go_ret
      exact ⟨by rw [← HKE.out]; rfl, rfl⟩
theorem _root_.Go.Calls.turned {P : Program} {f : FuncId} {args : Array Value} {w : World} {v : Ending} (h : Calls P f args w fun e w' => e = v ∧ w = w') : Calls P f args w fun e w' => e = v ∧ w' = w := h.mono fun _ _ q => ⟨q.1, q.2.symm⟩
theorem front_enters : ∀ args w, (callFunc 100 args).run Tryz.prog w = .ok (.enter 100 args) w := enters_of Tryz.func100 (by kernel_rfl) rfl
theorem back_enters : ∀ args w, (callFunc 101 args).run Tryz.prog w = .ok (.enter 101 args) w := enters_of Tryz.func101 (by kernel_rfl) rfl
theorem same_front (w : World) (a b : ByteArray) (ha : a.size ≤ 140737488351232) (hb : b.size ≤ 140737488351232) :
    Calls Tryz.prog 99 #[.string a, .string b, .func (.func 100) #[] #[]] w fun e w' => e = .returned (.int .i64 (preN a.data.toList b.data.toList : Int)) ∧ w = w' :=
  Delta_same w a b id _ (fun _ => rfl) ha hb front_enters (fun s i x w hs h => Delta_front w s i x h hs)
theorem same_back (w : World) (a b : ByteArray) (ha : a.size ≤ 140737488351232) (hb : b.size ≤ 140737488351232) :
    Calls Tryz.prog 99 #[.string a, .string b, .func (.func 101) #[] #[]] w fun e w' => e = .returned (.int .i64 (sufN a.data.toList b.data.toList : Int)) ∧ w = w' :=
  Delta_same w a b List.reverse _ (fun _ => List.length_reverse) ha hb back_enters (fun s i x w hs h => Delta_back w s i x h hs)
theorem Delta_Make_large (w : World) (a b : ByteArray) (ha : a.size ≤ 1000000000) (hb : b.size ≤ 1000000000) (h : 256 < a.size ∨ 256 < b.size) :
    Calls Tryz.prog 64 #[.string a, .string b] w fun e w' => e = .returned (.tuple #[.string ⟨#[]⟩, .int .i64 40]) ∧ w = w' := by
  by_cases l1 : 256 < a.size
  · go_enter Tryz.func64, Tryz.ntmps64
    go_wp2_with fail
    go_ret2
    exact ⟨rfl, rfl⟩
  · have l2 : 256 < b.size := by omega
    clear h
    go_enter Tryz.func64, Tryz.ntmps64
    go_wp2_with fail
    go_ret2
    exact ⟨rfl, rfl⟩
theorem ext_drop (b : ByteArray) (p : Nat) : (b.extract p b.size).data.toList = b.data.toList.drop p := by
  rw [ByteArray.data_extract, Array.toList_extract, List.extract_eq_take_drop]
  apply List.take_of_length_le
  rw [List.length_drop]
  show b.size - p ≤ b.size - p
  exact Nat.le_refl _
set_option maxHeartbeats 2000000 in
theorem Delta_Make (w : World) (a b : ByteArray) (ha : a.size ≤ 256) (hb : b.size ≤ 256) :
    Calls Tryz.prog 64 #[.string a, .string b] w fun e w' => e = .returned (.tuple #[.string (strOf (dEnc (dMake a.data.toList b.data.toList))), .int .i64 0]) ∧ Fr none_ w w' := by
  have GF := Lib.hid (same_front w a b (by omega) (by omega))
  have hle := preN_le a.data.toList b.data.toList
  obtain ⟨p, hp⟩ : ∃ p, p = preN a.data.toList b.data.toList := ⟨_, rfl⟩
  have GB := Lib.hid (fun w => (same_back w (a.extract p a.size) (b.extract p b.size) (by rw [ByteArray.size_extract]; omega) (by rw [ByteArray.size_extract]; omega)).turned)
  rw [ext_drop, ext_drop] at GB
  have hle2 := sufN_le (a.data.toList.drop p) (b.data.toList.drop p)
  obtain ⟨s, hs⟩ : ∃ s, s = sufN (a.data.toList.drop p) (b.data.toList.drop p) := ⟨_, rfl⟩
  have HE := Lib.hid (show dMake a.data.toList b.data.toList = (p, s, (b.data.toList.take (b.size - s)).drop p) by rw [hs, hp]; rfl)
  have hla : a.data.toList.length = a.size := rfl
  have hlb : b.data.toList.length = b.size := rfl
  rw [List.length_drop, List.length_drop, hla, hlb, ← hs] at hle2
  rw [hla, hlb, ← hp] at hle
  rw [← hp] at GF
  rw [← hs] at GB
  obtain ⟨hpa, hpb⟩ := hle
  obtain ⟨hsa, hsb⟩ := hle2
  have w1 : IntKind.u16.wrap (p : Int) = (p : Int) := by rw [IntKind.wrap_u16]; omega
  have w2 : IntKind.u16.wrap (s : Int) = (s : Int) := by rw [IntKind.wrap_u16]; omega
  clear hp hs hla hlb
  go_enter Tryz.func64, Tryz.ntmps64
  go_wp2_with fail
  refine GF.out.mono ?_
  rintro e w1 ⟨rfl, rfl⟩
  go_wp2_with fail
  go_quiet (first | (go_at_call 99; exact Calls.quiet_of_same (GB.out _)))
  go_wp2_with fail
  have f0 : Fr none_ w ((w.drewN nq).alloc (.cells #[.int .u8 0, .int .u8 0, .int .u8 0, .int .u8 0] 155)) := (Fr.drewN none_ w nq).alloc_r _
  have r0 : Row ((w.drewN nq).alloc (.cells #[.int .u8 0, .int .u8 0, .int .u8 0, .int .u8 0] 155)) w.heap.size #[.int .u8 0, .int .u8 0, .int .u8 0, .int .u8 0] 155 := Row.new (w.drewN nq) #[.int .u8 0, .int .u8 0, .int .u8 0, .int .u8 0] 155
  obtain ⟨w1, hw1⟩ : ∃ w1, w1 = ((w.drewN nq).alloc (.cells #[.int .u8 0, .int .u8 0, .int .u8 0, .int .u8 0] 155)) := ⟨_, rfl⟩
  rw [← hw1] at f0 r0 ⊢
  clear hw1
  have P1 := put16 w1 w.heap.size 0 4 4 0 (p : Int) (by omega) (by omega) (by omega) (by omega) _ _ (r0.cell 0) (r0.cell 1) (r0.free 0) (r0.free 1) (by omega) (by omega)
  have r2 := (r0.set 0 (.int .u8 ((p : Int) / 256))).set 1 (.int .u8 ((p : Int) % 256))
  have P2 := put16 _ w.heap.size 0 4 4 2 (s : Int) (by omega) (by omega) (by omega) (by omega) _ _ (r2.cell 2) (r2.cell 3) (r2.free 2) (r2.free 3) (by omega) (by omega)
  have r4 := (r2.set 2 (.int .u8 ((s : Int) / 256))).set 3 (.int .u8 ((s : Int) % 256))
  have f4 : Fr none_ w _ := (((f0.setCell_r ⟨w.heap.size, 0, none⟩ (.int .u8 ((p : Int) / 256)) (fun q => absurd q (by simp))).setCell_r ⟨w.heap.size, 1, none⟩ (.int .u8 ((p : Int) % 256)) (fun q => absurd q (by simp))).setCell_r ⟨w.heap.size, 2, none⟩ (.int .u8 ((s : Int) / 256)) (fun q => absurd q (by simp))).setCell_r ⟨w.heap.size, 3, none⟩ (.int .u8 ((s : Int) % 256)) (fun q => absurd q (by simp))
  have PP1 := Lib.hid P1
  have PP2 := Lib.hid P2
  have R4 := Lib.hid r4
  have F4 := Lib.hid f4
  clear P1 P2 r0 r2 r4 f0 f4
  refine PP1.out.mono ?_
  rintro e w2 ⟨rfl, hw2⟩
  have HP2 := Lib.hid (show Calls _ _ _ w2 _ from by rw [hw2]; exact PP2.out)
  have HW2 := Lib.hid hw2
  clear hw2
  go_wp2_with fail
  refine HP2.out.mono ?_
  rintro e w3 ⟨rfl, hw3⟩
  have hw4 : w3 = (((w1.setCell ⟨w.heap.size, 0, none⟩ (.int .u8 ((p : Int) / 256))).setCell ⟨w.heap.size, 1, none⟩ (.int .u8 ((p : Int) % 256))).setCell ⟨w.heap.size, 2, none⟩ (.int .u8 ((s : Int) / 256))).setCell ⟨w.heap.size, 3, none⟩ (.int .u8 ((s : Int) % 256)) := hw3
  have r5 : Row w3 w.heap.size #[.int .u8 ((p : Int) / 256), .int .u8 ((p : Int) % 256), .int .u8 ((s : Int) / 256), .int .u8 ((s : Int) % 256)] 155 := by rw [hw4]; exact R4.out
  have f5 : Fr none_ w w3 := by rw [hw4]; exact F4.out
  have F5 := Lib.hid f5
  have bs : ∀ k : Nat, k ≤ 256 → byteV (UInt8.ofNat (k / 256)) = .int .u8 ((k : Int) / 256) ∧ byteV (UInt8.ofNat k) = .int .u8 ((k : Int) % 256) := fun k hk => by
    unfold byteV
    rw [UInt8.toNat_ofNat', UInt8.toNat_ofNat']
    constructor
    · congr 1; omega
    · congr 1
  have hcv : ∀ n, (convert 106 9 (.slice (some ⟨w.heap.size, 0, none⟩) 4 4)).run Tryz.prog (w3.drewN n) = .ok (.string (strOf (be 2 p ++ be 2 s))) (w3.drewN n) := fun n => by
    refine run_string_row (r5.kept (Fr.drewN none_ w3 n) (fun e => e)) _ _ 5 Tryz.underlying106 Tryz.underlying5 Tryz.underlying9 0 4 4 (be 2 p ++ be 2 s) (by simp [be_length]) (fun i hi => ?_)
    obtain ⟨p1, p2⟩ := bs p (by omega)
    obtain ⟨s1, s2⟩ := bs s (by omega)
    rw [be2, be2]
    rcases (show i = 0 ∨ i = 1 ∨ i = 2 ∨ i = 3 by omega) with rfl | rfl | rfl | rfl
    · exact congrArg some p1.symm
    · exact congrArg some p2.symm
    · exact congrArg some s1.symm
    · exact congrArg some s2.symm
  have wsub : IntKind.i64.wrap ((b.size : Int) - (s : Int)) = ((b.size - s : Nat) : Int) := by rw [show (b.size : Int) - (s : Int) = ((b.size - s : Nat) : Int) by omega]; exact IntWalk.i64_in _ (by omega)
  obtain ⟨e1, he1⟩ : ∃ e1, e1 = b.size - s := ⟨_, rfl⟩
  rw [← he1] at wsub
  have HE1 := Lib.hid he1
  have l1 : p ≤ e1 := by omega
  have l2 : e1 ≤ b.size := by omega
  have hsum : (strOf (be 2 p ++ be 2 s)).size + (b.extract p e1).size ≤ 9223372036854775807 := by
    rw [strOf_size, List.length_append, be_length, be_length, ByteArray.size_extract]; omega
  clear he1 HP2 HW2 PP1 PP2 R4 F4 hw3 hw4 r5 f5 bs
  go_wp2_with fail
  go_quiet (fail)
  go_wp2_with fail
  go_ret2
  have he : strOf (be 2 p ++ be 2 s) ++ b.extract p e1 = strOf (dEnc (dMake a.data.toList b.data.toList)) := by
    rw [add_str, HE.out, ← HE1.out]
    show strOf (be 2 p ++ be 2 s ++ (b.extract p e1).data.toList) = strOf (be 2 p ++ be 2 s ++ (b.data.toList.take e1).drop p)
    rw [ByteArray.data_extract, Array.toList_extract, List.extract_eq_take_drop, List.drop_take]
  exact ⟨by rw [← he]; rfl, F5.out.trans (Fr.drewN none_ w3 _)⟩
end Go.Proofs.YtckkccnebjacdaaGreat
namespace Go.Proofs.YtckkccnebjacdaaGreat
open Go.RowKit Go.Shelf
set_option linter.unusedVariables false
set_option linter.unusedSimpArgs false
set_option maxRecDepth 100000

/-- What Apply answers. -/
def ApplyR (o : Option (List UInt8)) (e : Ending) : Prop := match o with
  | some v => e = .returned (.tuple #[.string (strOf v), .int .i64 0])
  | none => ∃ q : Int, q ≠ 0 ∧ e = .returned (.tuple #[.string ⟨#[]⟩, .int .i64 q])
theorem beN2 (x y : UInt8) : beN [x, y] = x.toNat * 256 + y.toNat := by unfold beN; simp
theorem ext_data (b : ByteArray) (i j : Nat) : (b.extract i j).data.toList = (b.data.toList.take j).drop i := by
  rw [ByteArray.data_extract, Array.toList_extract, List.extract_eq_take_drop, List.drop_take]
theorem strOf_data (b : ByteArray) : strOf b.data.toList = b := by
  apply ByteArray.ext; simp [strOf]
set_option maxHeartbeats 8000000 in
theorem Delta_Apply (w : World) (a d : ByteArray) (ha : a.size ≤ 140737488351232) (hd : d.size ≤ 1000000) :
    Calls Tryz.prog 52 #[.string a, .string d] w fun e w' => ApplyR (dApply a.data.toList d.data.toList) e ∧ Fr none_ w w' := by
  have hla : a.data.toList.length = a.size := rfl
  have hld : d.data.toList.length = d.size := rfl
  by_cases l1 : 256 < a.size
  · have HE : Hid (dApply a.data.toList d.data.toList = none) := Lib.hid (by unfold dApply; rw [if_pos (by rw [hla]; exact l1)])
    clear hla hld
    go_enter Tryz.func52, Tryz.ntmps52
    go_wp2_with fail
    go_ret2
    rw [HE.out]
    exact ⟨⟨40, by decide, rfl⟩, Fr.refl _ _⟩
  by_cases l2 : d.size < 4
  · have HE : Hid (dApply a.data.toList d.data.toList = none) := Lib.hid (by unfold dApply; rw [if_neg (by rw [hla]; exact l1), if_pos (by rw [hld]; exact l2)])
    clear hla hld
    go_enter Tryz.func52, Tryz.ntmps52
    go_wp2_with fail
    go_ret2
    rw [HE.out]
    exact ⟨⟨4, by decide, rfl⟩, Fr.refl _ _⟩
  obtain ⟨x0, x1, x2, x3, rest, hD⟩ : ∃ x0 x1 x2 x3 rest, d.data.toList = x0 :: x1 :: x2 :: x3 :: rest := by
    cases h : d.data.toList with
    | nil => rw [h] at hld; simp at hld; omega
    | cons x0 r => cases r with
      | nil => rw [h] at hld; simp at hld; omega
      | cons x1 r => cases r with
        | nil => rw [h] at hld; simp at hld; omega
        | cons x2 r => cases r with
          | nil => rw [h] at hld; simp at hld; omega
          | cons x3 r => exact ⟨x0, x1, x2, x3, r, rfl⟩
  have b0 := x0.toNat_lt
  have b1 := x1.toNat_lt
  have b2 := x2.toNat_lt
  have b3 := x3.toNat_lt
  obtain ⟨P, hP⟩ : ∃ P, P = x0.toNat * 256 + x1.toNat := ⟨_, rfl⟩
  obtain ⟨S, hS⟩ : ∃ S, S = x2.toNat * 256 + x3.toNat := ⟨_, rfl⟩
  have e1 : beN (d.data.toList.take 2) = P := by rw [hD, hP]; exact beN2 _ _
  have e2 : beN ((d.data.toList.drop 2).take 2) = S := by rw [hD, hS]; exact beN2 _ _
  have cP : ((x0.toNat : Int) * 256 + (x1.toNat : Int)) = (P : Int) := by omega
  have cS : ((x2.toNat : Int) * 256 + (x3.toNat : Int)) = (S : Int) := by omega
  have lP : P < 65536 := by omega
  have lS : S < 65536 := by omega
  have GG := Lib.hid (fun (w : World) (g : Nat) (cap : Nat) (at_ : Int) (y0 y1 : UInt8) (Z : Nat) (h0 : 0 ≤ at_) (h1 : at_ + 2 ≤ 4) (hc : 4 ≤ cap) (hcap : cap ≤ 9223372036854775807) (c0 : w.cell? ⟨g, 0 + at_.toNat, none⟩ = some (byteV y0)) (c1 : w.cell? ⟨g, 0 + at_.toNat + 1, none⟩ = some (byteV y1)) (hz : ((y0.toNat : Int) * 256 + (y1.toNat : Int)) = (Z : Int)) =>
    (show Calls Tryz.prog 84 #[.slice (some ⟨g, 0, none⟩) 4 cap, .int .i64 at_] w fun e w' => e = .returned (.tuple #[.int .u16 (Z : Int), .bool true]) ∧ w = w' by
      have := y0.toNat_lt
      have := y1.toNat_lt
      rw [← hz]; exact get16 w g 0 4 cap at_ (y0.toNat : Int) (y1.toNat : Int) h0 (by omega) hc hcap c0 c1 (by omega) (by omega) (by omega) (by omega)))
  obtain ⟨d4, hd4⟩ : ∃ d4, d4 = d.extract 0 4 := ⟨_, rfl⟩
  have hd4s : d4.size = 4 := by rw [hd4, ByteArray.size_extract]; omega
  have HD4 := Lib.hid (show d4.data.toList = [x0, x1, x2, x3] by rw [hd4, ext_data, hD]; rfl)
  have HD4S := Lib.hid hd4s
  have HD := Lib.hid hD
  have hx4 : d.extract 0 4 = d4 := hd4.symm
  have wP : IntKind.i64.wrap (P : Int) = (P : Int) := IntWalk.i64_in _ (by omega)
  have wS : IntKind.i64.wrap (S : Int) = (S : Int) := IntWalk.i64_in _ (by omega)
  have hdap : dApply a.data.toList d.data.toList = (if a.size < P + S then none else if 256 < (dBack a.data.toList (P, S, d.data.toList.drop 4)).length then none else if dEnc (dMake a.data.toList (dBack a.data.toList (P, S, d.data.toList.drop 4))) = d.data.toList then some (dBack a.data.toList (P, S, d.data.toList.drop 4)) else none) := by
    unfold dApply
    rw [if_neg (by rw [hla]; exact l1), if_neg (by rw [hld]; exact l2), e1, e2, hla]
  have HAP := Lib.hid hdap
  have CP := Lib.hid cP
  have CS := Lib.hid cS
  clear hdap hD hP hS e1 e2 hd4 hd4s cP cS hla hld
  go_enter Tryz.func52, Tryz.ntmps52
  go_wp2_with ((with_reducible refine at_slot 22 ?_); refine wpBytesOf rfl _ _ _ 5 rfl Tryz.underlying9 Tryz.underlying106 Tryz.underlying5 d4 (by first | rfl | exact congrArg Value.string hx4) (by rw [HD4S.out]; omega) ?_; intro cap w2 hcap hcap2 hcells f2)
  have F2 := Lib.hid f2
  have hs4 := HD4S.out
  have k0 : w2.cell? ⟨w.heap.size, 0 + (0 : Int).toNat, none⟩ = some (byteV x0) := hcells 0 x0 (by rw [HD4.out]; rfl)
  have k1 : w2.cell? ⟨w.heap.size, 0 + (0 : Int).toNat + 1, none⟩ = some (byteV x1) := hcells 1 x1 (by rw [HD4.out]; rfl)
  rw [hs4] at hcap ⊢
  have G1 := Lib.hid (GG.out w2 w.heap.size cap 0 x0 x1 P (by omega) (by omega) hcap hcap2 k0 k1 CP.out)
  clear f2 hcells k0 k1 hs4 hcap hcap2
  refine G1.out.mono ?_
  rintro e w3 ⟨rfl, rfl⟩
  go_wp2_with ((with_reducible refine at_slot 29 ?_); refine wpBytesOf rfl _ _ _ 5 rfl Tryz.underlying9 Tryz.underlying106 Tryz.underlying5 d4 (by first | rfl | exact congrArg Value.string hx4) (by rw [HD4S.out]; omega) ?_; intro cap3 w3 hcap hcap2 hcells f3)
  have F3 := Lib.hid (F2.out.trans f3)
  have hs4 := HD4S.out
  have k2 : w3.cell? ⟨w2.heap.size, 0 + (2 : Int).toNat, none⟩ = some (byteV x2) := hcells 2 x2 (by rw [HD4.out]; rfl)
  have k3 : w3.cell? ⟨w2.heap.size, 0 + (2 : Int).toNat + 1, none⟩ = some (byteV x3) := hcells 3 x3 (by rw [HD4.out]; rfl)
  rw [hs4] at hcap ⊢
  have G2 := Lib.hid (GG.out w3 w2.heap.size cap3 2 x2 x3 S (by omega) (by omega) hcap hcap2 k2 k3 CS.out)
  clear f3 hcells k2 k3 hs4 hcap hcap2
  refine G2.out.mono ?_
  rintro e w4 ⟨rfl, rfl⟩
  have wPS : IntKind.i64.wrap ((P : Int) + (S : Int)) = ((P + S : Nat) : Int) := by rw [show (P : Int) + (S : Int) = ((P + S : Nat) : Int) by omega]; exact IntWalk.i64_in _ (by omega)
  obtain ⟨PS, hPS⟩ : ∃ PS, PS = P + S := ⟨_, rfl⟩
  rw [← hPS] at wPS
  by_cases l3 : a.size < PS
  · have HE : Hid (dApply a.data.toList d.data.toList = none) := Lib.hid (by rw [HAP.out, if_pos (by omega)])
    clear hPS
    go_wp2_with fail
    go_ret2
    rw [HE.out]
    exact ⟨⟨4, by decide, rfl⟩, F3.out⟩
  have HAP2 := Lib.hid (show dApply a.data.toList d.data.toList = (if 256 < (dBack a.data.toList (P, S, d.data.toList.drop 4)).length then none else if dEnc (dMake a.data.toList (dBack a.data.toList (P, S, d.data.toList.drop 4))) = d.data.toList then some (dBack a.data.toList (P, S, d.data.toList.drop 4)) else none) by rw [HAP.out, if_neg (by omega)])
  have lPa : P ≤ a.size := by omega
  have lSa : S ≤ a.size := by omega
  obtain ⟨q, hq⟩ : ∃ q, q = a.size - S := ⟨_, rfl⟩
  have wq : IntKind.i64.wrap ((a.size : Int) - (S : Int)) = (q : Int) := by rw [show (a.size : Int) - (S : Int) = (q : Int) by omega]; exact IntWalk.i64_in _ (by omega)
  have lq : q ≤ a.size := by omega
  have hs1 : (a.extract 0 P).size + (d.extract 4 d.size).size ≤ 9223372036854775807 := by rw [ByteArray.size_extract, ByteArray.size_extract]; omega
  have hs2 : ((a.extract 0 P) ++ (d.extract 4 d.size)).size + (a.extract q a.size).size ≤ 9223372036854775807 := by rw [ByteArray.size_append, ByteArray.size_extract, ByteArray.size_extract, ByteArray.size_extract]; omega
  have hd4' : (4 : Int) ≤ (d.size : Int) := by omega
  obtain ⟨old, hold⟩ : ∃ old, old = a.extract 0 P ++ d.extract 4 d.size ++ a.extract q a.size := ⟨_, rfl⟩
  have HOD := Lib.hid (show old.data.toList = dBack a.data.toList (P, S, d.data.toList.drop 4) by
    rw [hold]
    show (a.extract 0 P ++ d.extract 4 d.size ++ a.extract q a.size).data.toList = a.data.toList.take P ++ d.data.toList.drop 4 ++ a.data.toList.drop (a.size - S)
    rw [ByteArray.data_append, ByteArray.data_append, Array.toList_append, Array.toList_append, ext_data, ext_drop, ext_drop, hq, List.drop_zero])
  have HOL := Lib.hid (show old.size ≤ 3000000 by rw [hold, ByteArray.size_append, ByteArray.size_append, ByteArray.size_extract, ByteArray.size_extract, ByteArray.size_extract]; omega)
  have HOLD := Lib.hid hold
  clear hPS hq hold
  go_wp2_with fail
  go_quiet (fail)
  rw [← HOLD.out]
  by_cases l4 : 256 < old.size
  · have HE : Hid (dApply a.data.toList d.data.toList = none) := Lib.hid (by rw [HAP2.out, if_pos (by rw [← HOD.out]; exact l4)])
    have GM := Lib.hid (fun w => Delta_Make_large w a old (by omega) (by have := HOL.out; omega) (Or.inr l4))
    clear l4
    go_wp2_with fail
    refine (GM.out _).mono ?_
    rintro e w5 ⟨rfl, rfl⟩
    go_wp2_with fail
    go_ret2
    rw [HE.out]
    exact ⟨⟨4, by decide, rfl⟩, F3.out.trans (Fr.drewN none_ _ _)⟩
  have GM := Lib.hid (fun w => Delta_Make w a old (by omega) (by omega))
  obtain ⟨ag, hag⟩ : ∃ ag, ag = strOf (dEnc (dMake a.data.toList old.data.toList)) := ⟨_, rfl⟩
  rw [← hag] at GM
  have hiff : ag = d ↔ dEnc (dMake a.data.toList old.data.toList) = d.data.toList := by
    rw [hag]
    constructor
    · intro h; rw [← h]; rfl
    · intro h; rw [h]; exact strOf_data d
  by_cases l5 : ag = d
  · have HE : Hid (dApply a.data.toList d.data.toList = some old.data.toList) := Lib.hid (by rw [HAP2.out, ← HOD.out, if_neg (show ¬ 256 < old.data.toList.length from l4), if_pos (hiff.1 l5)])
    have hdec : decide (ag = d) = true := by simpa using l5
    clear hiff hag l4
    go_wp2_with fail
    refine (GM.out _).mono ?_
    rintro e w5 ⟨rfl, f5⟩
    have F5 := Lib.hid (F3.out.trans ((Fr.drewN none_ _ _).trans f5))
    clear f5
    go_wp2_with ((with_reducible refine at_slot 66 ?_); refine wpNeqStr rfl _ _ _ _ rfl ag d rfl rfl ?_; rw [hdec])
    go_ret2
    rw [HE.out]
    exact ⟨by unfold ApplyR; simp only; rw [strOf_data]; rfl, F5.out⟩
  · have HE : Hid (dApply a.data.toList d.data.toList = none) := Lib.hid (by rw [HAP2.out, ← HOD.out, if_neg (show ¬ 256 < old.data.toList.length from l4), if_neg (fun h => l5 (hiff.2 h))])
    have hdec : decide (ag = d) = false := by simpa using l5
    clear hiff hag l4 l5
    go_wp2_with fail
    refine (GM.out _).mono ?_
    rintro e w5 ⟨rfl, f5⟩
    have F5 := Lib.hid (F3.out.trans ((Fr.drewN none_ _ _).trans f5))
    clear f5
    go_wp2_with ((with_reducible refine at_slot 66 ?_); refine wpNeqStr rfl _ _ _ _ rfl ag d rfl rfl ?_; rw [hdec])
    go_ret2
    rw [HE.out]
    exact ⟨⟨4, by decide, rfl⟩, F5.out⟩
end Go.Proofs.YtckkccnebjacdaaGreat
