/-
  Package delta: front, back, same, Make, Apply.
-/
import Derived.Test.YtckkccnebjacdaaMgDeltaP
import Derived.Test.YtckkccnebjacdaaMgOwn
import Derived.Test.YtckkccnebjacdaaMgTextMay
import Derived.Test.YtckkccnebjacdaaMgPage
import Derived.Test.YtckkccnebjacdaaMgBe
import Derived.Deep.QuietTactic
import Derived.BigQuiet
import Derived.Shelf.Abstract
namespace Go.Proofs.Ytckkccnebjacdaa
open Go.RowKit Go.Shelf
set_option linter.unusedVariables false
set_option linter.unusedSimpArgs false
set_option maxRecDepth 100000

theorem byte_at {s : ByteArray} {i : Nat} {b : UInt8} (h : s.data.toList[i]? = some b) : ∃ h : i < s.size, s[i] = b := by
  have hl := (List.getElem?_eq_some_iff.1 h).1
  have hi : i < s.size := by simpa using hl
  refine ⟨hi, ?_⟩
  have := (List.getElem?_eq_some_iff.1 h).2
  show s.data[i] = b
  simpa using this
theorem Delta_front (w : World) (s : ByteArray) (i : Nat) (b : UInt8) (h : s.data.toList[i]? = some b) (hs : s.size ≤ 140737488351232) :
    Calls Try.prog 60 #[.string s, .int .i64 (i : Int)] w fun e w' => e = .returned (byteV b) ∧ w = w' := by
  obtain ⟨h1, h2⟩ := byte_at h
  have HB := Lib.hid h2
  clear h h2
  go_enter Try.func60, Try.ntmps60
  go_wp2
  go_ret
  exact ⟨by rw [HB.out]; rfl, rfl⟩
theorem Delta_back (w : World) (s : ByteArray) (i : Nat) (b : UInt8) (h : s.data.toList.reverse[i]? = some b) (hs : s.size ≤ 140737488351232) :
    Calls Try.prog 61 #[.string s, .int .i64 (i : Int)] w fun e w' => e = .returned (byteV b) ∧ w = w' := by
  have hl := (List.getElem?_eq_some_iff.1 h).1
  have hlen : s.data.toList.length = s.size := rfl
  rw [List.length_reverse, hlen] at hl
  rw [List.getElem?_reverse (by rw [hlen]; exact hl), hlen] at h
  obtain ⟨h1, h2⟩ := byte_at h
  obtain ⟨j, hj⟩ : ∃ j, j = s.size - 1 - i := ⟨_, rfl⟩
  have w1 : IntKind.i64.wrap ((s.size : Int) - 1) = (s.size : Int) - 1 := IntWalk.i64_in _ (by omega)
  have w2 : IntKind.i64.wrap ((s.size : Int) - 1 - (i : Int)) = (j : Int) := by rw [show (s.size : Int) - 1 - (i : Int) = (j : Int) by omega]; exact IntWalk.i64_in _ (by omega)
  have hjl : j < s.size := by omega
  have HB := Lib.hid (show ∃ h : j < s.size, s[j] = b by subst hj; exact ⟨h1, h2⟩)
  clear h h2 hj hlen
  go_enter Try.func61, Try.ntmps61
  go_wp2
  go_ret
  exact ⟨by obtain ⟨_, e⟩ := HB.out; rw [e]; rfl, rfl⟩
theorem preN_step {a b : List UInt8} {k : Nat} (h : k ≤ preN a b) : k < preN a b ↔ ∃ x, a[k]? = some x ∧ b[k]? = some x := by
  have hl := preN_le a b
  constructor
  · intro hk
    have hg := preN_get a b k hk
    have : k < a.length := by omega
    exact ⟨a[k], List.getElem?_eq_getElem this, by rw [← hg]; exact List.getElem?_eq_getElem this⟩
  · rintro ⟨x, h1, h2⟩
    rcases Nat.lt_or_ge k (preN a b) with q | q
    · exact q
    · have e : k = preN a b := by omega
      exfalso
      have q1 := (List.getElem?_eq_some_iff.1 h1).1
      have q2 := (List.getElem?_eq_some_iff.1 h2).1
      rw [e] at q1 q2 h1 h2
      exact preN_stop a b q1 q2 (h1.trans h2.symm)
set_option maxHeartbeats 2000000 in
theorem Delta_same (w : World) (a b : ByteArray) (R : List UInt8 → List UInt8) (g : Nat) (hR : ∀ l, (R l).length = l.length) (ha : a.size ≤ 140737488351232) (hb : b.size ≤ 140737488351232)
    (eg : ∀ args w, (callFunc g args).run Try.prog w = .ok (.enter g args) w)
    (hg : ∀ (s : ByteArray) (i : Nat) (x : UInt8) (w : World), s.size ≤ 140737488351232 → (R s.data.toList)[i]? = some x → Calls Try.prog g #[.string s, .int .i64 (i : Int)] w fun e w' => e = .returned (byteV x) ∧ w = w') :
    Calls Try.prog 59 #[.string a, .string b, .func (.func g) #[] #[]] w fun e w' => e = .returned (.int .i64 (preN (R a.data.toList) (R b.data.toList) : Int)) ∧ w = w' := by
  obtain ⟨A, hA⟩ : ∃ A, A = R a.data.toList := ⟨_, rfl⟩
  obtain ⟨B, hB⟩ : ∃ B, B = R b.data.toList := ⟨_, rfl⟩
  have hAl : A.length = a.size := by rw [hA, hR]; rfl
  have hBl : B.length = b.size := by rw [hB, hR]; rfl
  have GA := Lib.hid (fun (i : Nat) (x : UInt8) (w : World) (h : A[i]? = some x) => hg a i x w ha (by rw [← hA]; exact h))
  have GB := Lib.hid (fun (i : Nat) (x : UInt8) (w : World) (h : B[i]? = some x) => hg b i x w hb (by rw [← hB]; exact h))
  rw [← hA, ← hB]
  have HAL := Lib.hid hAl
  have HBL := Lib.hid hBl
  clear hg hA hB hAl hBl hR
  go_enter Try.func59, Try.ntmps59
  go_wp2_with fail
  go_loop [7] (fun n => ∃ k : Nat, n = .int .i64 k ∧ Hid (k ≤ preN A B)) (fun n => preN A B - (intOf n).toNat)
  case atStart => exact ⟨0, rfl, Nat.zero_le _⟩
  case round =>
    obtain ⟨k, rfl, hk⟩ := hrel
    have hst := preN_step hk.out
    have hle := preN_le A B
    rw [HAL.out, HBL.out] at hle
    by_cases l1 : k < a.size
    · by_cases l2 : k < b.size
      · obtain ⟨x, hx⟩ : ∃ x, A[k]? = some x := ⟨A[k]'(by rw [HAL.out]; exact l1), List.getElem?_eq_getElem _⟩
        obtain ⟨y, hy⟩ : ∃ y, B[k]? = some y := ⟨B[k]'(by rw [HBL.out]; exact l2), List.getElem?_eq_getElem _⟩
        have CA := Lib.hid (fun w => GA.out k x w hx)
        have CB := Lib.hid (fun w => GB.out k y w hy)
        have hxl := x.toNat_lt
        have hyl := y.toNat_lt
        unfold byteV at CA CB
        by_cases e : x = y
        · subst e
          have hlt : k < preN A B := hst.2 ⟨x, hx, hy⟩
          have HLT := Lib.hid hlt
          have hwk : IntKind.i64.wrap ((k : Int) + 1) = ((k + 1 : Nat) : Int) := by rw [show (k : Int) + 1 = ((k + 1 : Nat) : Int) by omega]; exact IntWalk.i64_in _ (by omega)
          clear hst hx hy hlt hle hk
          go_wp2_with fail
          refine (CA.out _).mono ?_
          rintro e w1 ⟨rfl, rfl⟩
          go_wp2_with fail
          refine (CB.out _).mono ?_
          rintro e w1 ⟨rfl, rfl⟩
          go_wp2_with fail
          go_round
          case rel => exact ⟨k + 1, by first | rfl | (rw [hwk]), HLT.out⟩
          case measure => have := HLT.out; simp [intOf]; omega
        · have hke : k = preN A B := by
            rcases Nat.lt_or_ge k (preN A B) with q | q
            · obtain ⟨z, h1, h2⟩ := hst.1 q
              rw [hx] at h1; rw [hy] at h2
              cases h1; cases h2; exact absurd rfl e
            · have := hk.out; omega
          have HKE := Lib.hid hke
          have hne : ¬ (x.toNat : Int) = (y.toNat : Int) := fun q => e (UInt8.toNat_inj.1 (by omega))
          generalize x.toNat = xn at CA hxl hne
          generalize y.toNat = yn at CB hyl hne
          have hne2 : ¬ xn = yn := fun q => hne (by rw [q])
          clear hst hx hy hle hk hke
          go_wp2_with fail
          refine (CA.out _).mono ?_
          rintro e w1 ⟨rfl, rfl⟩
          go_wp2_with fail
          refine (CB.out _).mono ?_
          rintro e w1 ⟨rfl, rfl⟩
          go_wp2_with fail
          go_ret
          exact ⟨by rw [← HKE.out]; rfl, rfl⟩
      · have HKE := Lib.hid (show k = preN A B by have := hk.out; omega)
        clear hst hle hk
        go_wp2_with fail
        go_ret
        exact ⟨by rw [← HKE.out]; rfl, rfl⟩
    · have HKE := Lib.hid (show k = preN A B by have := hk.out; omega)
      clear hst hle hk
      go_wp2_with fail
      go_ret
      exact ⟨by rw [← HKE.out]; rfl, rfl⟩
theorem _root_.Go.Calls.turned {P : Program} {f : FuncId} {args : Array Value} {w : World} {v : Ending} (h : Calls P f args w fun e w' => e = v ∧ w = w') : Calls P f args w fun e w' => e = v ∧ w' = w := h.mono fun _ _ q => ⟨q.1, q.2.symm⟩
theorem front_enters : ∀ args w, (callFunc 60 args).run Try.prog w = .ok (.enter 60 args) w := enters_of Try.func60 (by kernel_rfl) rfl
theorem back_enters : ∀ args w, (callFunc 61 args).run Try.prog w = .ok (.enter 61 args) w := enters_of Try.func61 (by kernel_rfl) rfl
theorem same_front (w : World) (a b : ByteArray) (ha : a.size ≤ 140737488351232) (hb : b.size ≤ 140737488351232) :
    Calls Try.prog 59 #[.string a, .string b, .func (.func 60) #[] #[]] w fun e w' => e = .returned (.int .i64 (preN a.data.toList b.data.toList : Int)) ∧ w = w' :=
  Delta_same w a b id _ (fun _ => rfl) ha hb front_enters (fun s i x w hs h => Delta_front w s i x h hs)
theorem same_back (w : World) (a b : ByteArray) (ha : a.size ≤ 140737488351232) (hb : b.size ≤ 140737488351232) :
    Calls Try.prog 59 #[.string a, .string b, .func (.func 61) #[] #[]] w fun e w' => e = .returned (.int .i64 (sufN a.data.toList b.data.toList : Int)) ∧ w = w' :=
  Delta_same w a b List.reverse _ (fun _ => List.length_reverse) ha hb back_enters (fun s i x w hs h => Delta_back w s i x h hs)
theorem Delta_Make_large (w : World) (a b : ByteArray) (ha : a.size ≤ 1000000000) (hb : b.size ≤ 1000000000) (h : 256 < a.size ∨ 256 < b.size) :
    Calls Try.prog 38 #[.string a, .string b] w fun e w' => e = .returned (.tuple #[.string ⟨#[]⟩, .int .i64 40]) ∧ w = w' := by
  by_cases l1 : 256 < a.size
  · go_enter Try.func38, Try.ntmps38
    go_wp2_with fail
    go_ret2
    exact ⟨rfl, rfl⟩
  · have l2 : 256 < b.size := by omega
    clear h
    go_enter Try.func38, Try.ntmps38
    go_wp2_with fail
    go_ret2
    exact ⟨rfl, rfl⟩
theorem ext_drop (b : ByteArray) (p : Nat) : (b.extract p b.size).data.toList = b.data.toList.drop p := by
  rw [ByteArray.data_extract, Array.toList_extract, List.extract_eq_take_drop]
  apply List.take_of_length_le
  rw [List.length_drop]
  show b.size - p ≤ b.size - p
  exact Nat.le_refl _
set_option maxHeartbeats 2000000 in
theorem Delta_Make (w : World) (a b : ByteArray) (ha : a.size ≤ 256) (hb : b.size ≤ 256) :
    Calls Try.prog 38 #[.string a, .string b] w fun e w' => e = .returned (.tuple #[.string (strOf (dEnc (dMake a.data.toList b.data.toList))), .int .i64 0]) ∧ Fr none_ w w' := by
  have GF := Lib.hid (same_front w a b (by omega) (by omega))
  have hle := preN_le a.data.toList b.data.toList
  obtain ⟨p, hp⟩ : ∃ p, p = preN a.data.toList b.data.toList := ⟨_, rfl⟩
  have GB := Lib.hid (fun w => (same_back w (a.extract p a.size) (b.extract p b.size) (by rw [ByteArray.size_extract]; omega) (by rw [ByteArray.size_extract]; omega)).turned)
  rw [ext_drop, ext_drop] at GB
  have hle2 := sufN_le (a.data.toList.drop p) (b.data.toList.drop p)
  obtain ⟨s, hs⟩ : ∃ s, s = sufN (a.data.toList.drop p) (b.data.toList.drop p) := ⟨_, rfl⟩
  have HE := Lib.hid (show dMake a.data.toList b.data.toList = (p, s, (b.data.toList.take (b.size - s)).drop p) by rw [hs, hp]; rfl)
  have hla : a.data.toList.length = a.size := rfl
  have hlb : b.data.toList.length = b.size := rfl
  rw [List.length_drop, List.length_drop, hla, hlb, ← hs] at hle2
  rw [hla, hlb, ← hp] at hle
  rw [← hp] at GF
  rw [← hs] at GB
  obtain ⟨hpa, hpb⟩ := hle
  obtain ⟨hsa, hsb⟩ := hle2
  have w1 : IntKind.u16.wrap (p : Int) = (p : Int) := by rw [IntKind.wrap_u16]; omega
  have w2 : IntKind.u16.wrap (s : Int) = (s : Int) := by rw [IntKind.wrap_u16]; omega
  clear hp hs hla hlb
  go_enter Try.func38, Try.ntmps38
  go_wp2_with fail
  refine GF.out.mono ?_
  rintro e w1 ⟨rfl, rfl⟩
  go_wp2_with fail
  go_quiet (first | (go_at_call 59; exact Calls.quiet_of_same (GB.out _)))
  go_wp2_with fail
  have f0 : Fr none_ w ((w.drewN nq).alloc (.cells #[.int .u8 0, .int .u8 0, .int .u8 0, .int .u8 0] 123)) := (Fr.drewN none_ w nq).alloc_r _
  have r0 : Row ((w.drewN nq).alloc (.cells #[.int .u8 0, .int .u8 0, .int .u8 0, .int .u8 0] 123)) w.heap.size #[.int .u8 0, .int .u8 0, .int .u8 0, .int .u8 0] 123 := Row.new (w.drewN nq) #[.int .u8 0, .int .u8 0, .int .u8 0, .int .u8 0] 123
  obtain ⟨w1, hw1⟩ : ∃ w1, w1 = ((w.drewN nq).alloc (.cells #[.int .u8 0, .int .u8 0, .int .u8 0, .int .u8 0] 123)) := ⟨_, rfl⟩
  rw [← hw1] at f0 r0 ⊢
  clear hw1
  have P1 := put16 w1 w.heap.size 0 4 4 0 (p : Int) (by omega) (by omega) (by omega) (by omega) _ _ (r0.cell 0) (r0.cell 1) (r0.free 0) (r0.free 1) (by omega) (by omega)
  have r2 := (r0.set 0 (.int .u8 ((p : Int) / 256))).set 1 (.int .u8 ((p : Int) % 256))
  have P2 := put16 _ w.heap.size 0 4 4 2 (s : Int) (by omega) (by omega) (by omega) (by omega) _ _ (r2.cell 2) (r2.cell 3) (r2.free 2) (r2.free 3) (by omega) (by omega)
  have r4 := (r2.set 2 (.int .u8 ((s : Int) / 256))).set 3 (.int .u8 ((s : Int) % 256))
  have f4 : Fr none_ w _ := (((f0.setCell_r ⟨w.heap.size, 0, none⟩ (.int .u8 ((p : Int) / 256)) (fun q => absurd q (by simp))).setCell_r ⟨w.heap.size, 1, none⟩ (.int .u8 ((p : Int) % 256)) (fun q => absurd q (by simp))).setCell_r ⟨w.heap.size, 2, none⟩ (.int .u8 ((s : Int) / 256)) (fun q => absurd q (by simp))).setCell_r ⟨w.heap.size, 3, none⟩ (.int .u8 ((s : Int) % 256)) (fun q => absurd q (by simp))
  have PP1 := Lib.hid P1
  have PP2 := Lib.hid P2
  have R4 := Lib.hid r4
  have F4 := Lib.hid f4
  clear P1 P2 r0 r2 r4 f0 f4
  refine PP1.out.mono ?_
  rintro e w2 ⟨rfl, hw2⟩
  have HP2 := Lib.hid (show Calls _ _ _ w2 _ from by rw [hw2]; exact PP2.out)
  have HW2 := Lib.hid hw2
  clear hw2
  go_wp2_with fail
  refine HP2.out.mono ?_
  rintro e w3 ⟨rfl, hw3⟩
  have hw4 : w3 = (((w1.setCell ⟨w.heap.size, 0, none⟩ (.int .u8 ((p : Int) / 256))).setCell ⟨w.heap.size, 1, none⟩ (.int .u8 ((p : Int) % 256))).setCell ⟨w.heap.size, 2, none⟩ (.int .u8 ((s : Int) / 256))).setCell ⟨w.heap.size, 3, none⟩ (.int .u8 ((s : Int) % 256)) := hw3
  have r5 : Row w3 w.heap.size #[.int .u8 ((p : Int) / 256), .int .u8 ((p : Int) % 256), .int .u8 ((s : Int) / 256), .int .u8 ((s : Int) % 256)] 123 := by rw [hw4]; exact R4.out
  have f5 : Fr none_ w w3 := by rw [hw4]; exact F4.out
  have F5 := Lib.hid f5
  have bs : ∀ k : Nat, k ≤ 256 → byteV (UInt8.ofNat (k / 256)) = .int .u8 ((k : Int) / 256) ∧ byteV (UInt8.ofNat k) = .int .u8 ((k : Int) % 256) := fun k hk => by
    unfold byteV
    rw [UInt8.toNat_ofNat', UInt8.toNat_ofNat']
    constructor
    · congr 1; omega
    · congr 1
  have hcv : ∀ n, (convert 98 9 (.slice (some ⟨w.heap.size, 0, none⟩) 4 4)).run Try.prog (w3.drewN n) = .ok (.string (strOf (be 2 p ++ be 2 s))) (w3.drewN n) := fun n => by
    refine run_string_row (r5.kept (Fr.drewN none_ w3 n) (fun e => e)) _ _ 5 Try.underlying98 Try.underlying5 Try.underlying9 0 4 4 (be 2 p ++ be 2 s) (by simp [be_length]) (fun i hi => ?_)
    obtain ⟨p1, p2⟩ := bs p (by omega)
    obtain ⟨s1, s2⟩ := bs s (by omega)
    rw [be2, be2]
    rcases (show i = 0 ∨ i = 1 ∨ i = 2 ∨ i = 3 by omega) with rfl | rfl | rfl | rfl
    · exact congrArg some p1.symm
    · exact congrArg some p2.symm
    · exact congrArg some s1.symm
    · exact congrArg some s2.symm
  have wsub : IntKind.i64.wrap ((b.size : Int) - (s : Int)) = ((b.size - s : Nat) : Int) := by rw [show (b.size : Int) - (s : Int) = ((b.size - s : Nat) : Int) by omega]; exact IntWalk.i64_in _ (by omega)
  obtain ⟨e1, he1⟩ : ∃ e1, e1 = b.size - s := ⟨_, rfl⟩
  rw [← he1] at wsub
  have HE1 := Lib.hid he1
  have l1 : p ≤ e1 := by omega
  have l2 : e1 ≤ b.size := by omega
  have hsum : (strOf (be 2 p ++ be 2 s)).size + (b.extract p e1).size ≤ 9223372036854775807 := by
    rw [strOf_size, List.length_append, be_length, be_length, ByteArray.size_extract]; omega
  clear he1 HP2 HW2 PP1 PP2 R4 F4 hw3 hw4 r5 f5 bs
  go_wp2_with fail
  go_quiet (fail)
  go_wp2_with fail
  go_ret2
  have he : strOf (be 2 p ++ be 2 s) ++ b.extract p e1 = strOf (dEnc (dMake a.data.toList b.data.toList)) := by
    rw [add_str, HE.out, ← HE1.out]
    show strOf (be 2 p ++ be 2 s ++ (b.extract p e1).data.toList) = strOf (be 2 p ++ be 2 s ++ (b.data.toList.take e1).drop p)
    rw [ByteArray.data_extract, Array.toList_extract, List.extract_eq_take_drop, List.drop_take]
  exact ⟨by rw [← he]; rfl, F5.out.trans (Fr.drewN none_ w3 _)⟩
end Go.Proofs.Ytckkccnebjacdaa
