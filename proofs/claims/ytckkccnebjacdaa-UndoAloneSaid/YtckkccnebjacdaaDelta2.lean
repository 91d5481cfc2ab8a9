/-
  Package delta: Apply.
-/
import Derived.Test.YtckkccnebjacdaaDelta
namespace Go.Proofs.Ytckkccnebjacdaa
open Go.RowKit Go.Shelf
set_option linter.unusedVariables false
set_option linter.unusedSimpArgs false
set_option maxRecDepth 100000

/-- What Apply answers. -/
def ApplyR (o : Option (List UInt8)) (e : Ending) : Prop := match o with
  | some v => e = .returned (.tuple #[.string (strOf v), .int .i64 0])
  | none => ∃ q : Int, q ≠ 0 ∧ e = .returned (.tuple #[.string ⟨#[]⟩, .int .i64 q])
theorem beN2 (x y : UInt8) : beN [x, y] = x.toNat * 256 + y.toNat := by unfold beN; simp
theorem ext_data (b : ByteArray) (i j : Nat) : (b.extract i j).data.toList = (b.data.toList.take j).drop i := by
  rw [ByteArray.data_extract, Array.toList_extract, List.extract_eq_take_drop, List.drop_take]
theorem strOf_data (b : ByteArray) : strOf b.data.toList = b := by
  apply ByteArray.ext; simp [strOf]
set_option maxHeartbeats 8000000 in
theorem Delta_Apply (w : World) (a d : ByteArray) (ha : a.size ≤ 140737488351232) (hd : d.size ≤ 1000000) :
    Calls Try.prog 40 #[.string a, .string d] w fun e w' => ApplyR (dApply a.data.toList d.data.toList) e ∧ Fr none_ w w' := by
  have hla : a.data.toList.length = a.size := rfl
  have hld : d.data.toList.length = d.size := rfl
  by_cases l1 : 256 < a.size
  · have HE : Hid (dApply a.data.toList d.data.toList = none) := Lib.hid (by unfold dApply; rw [if_pos (by rw [hla]; exact l1)])
    clear hla hld
    go_enter Try.func40, Try.ntmps40
    go_wp2_with fail
    go_ret2
    rw [HE.out]
    exact ⟨⟨40, by decide, rfl⟩, Fr.refl _ _⟩
  by_cases l2 : d.size < 4
  · have HE : Hid (dApply a.data.toList d.data.toList = none) := Lib.hid (by unfold dApply; rw [if_neg (by rw [hla]; exact l1), if_pos (by rw [hld]; exact l2)])
    clear hla hld
    go_enter Try.func40, Try.ntmps40
    go_wp2_with fail
    go_ret2
    rw [HE.out]
    exact ⟨⟨4, by decide, rfl⟩, Fr.refl _ _⟩
  obtain ⟨x0, x1, x2, x3, rest, hD⟩ : ∃ x0 x1 x2 x3 rest, d.data.toList = x0 :: x1 :: x2 :: x3 :: rest := by
    cases h : d.data.toList with
    | nil => rw [h] at hld; simp at hld; omega
    | cons x0 r => cases r with
      | nil => rw [h] at hld; simp at hld; omega
      | cons x1 r => cases r with
        | nil => rw [h] at hld; simp at hld; omega
        | cons x2 r => cases r with
          | nil => rw [h] at hld; simp at hld; omega
          | cons x3 r => exact ⟨x0, x1, x2, x3, r, rfl⟩
  have b0 := x0.toNat_lt
  have b1 := x1.toNat_lt
  have b2 := x2.toNat_lt
  have b3 := x3.toNat_lt
  obtain ⟨P, hP⟩ : ∃ P, P = x0.toNat * 256 + x1.toNat := ⟨_, rfl⟩
  obtain ⟨S, hS⟩ : ∃ S, S = x2.toNat * 256 + x3.toNat := ⟨_, rfl⟩
  have e1 : beN (d.data.toList.take 2) = P := by rw [hD, hP]; exact beN2 _ _
  have e2 : beN ((d.data.toList.drop 2).take 2) = S := by rw [hD, hS]; exact beN2 _ _
  have cP : ((x0.toNat : Int) * 256 + (x1.toNat : Int)) = (P : Int) := by omega
  have cS : ((x2.toNat : Int) * 256 + (x3.toNat : Int)) = (S : Int) := by omega
  have lP : P < 65536 := by omega
  have lS : S < 65536 := by omega
  have GG := Lib.hid (fun (w : World) (g : Nat) (cap : Nat) (at_ : Int) (y0 y1 : UInt8) (Z : Nat) (h0 : 0 ≤ at_) (h1 : at_ + 2 ≤ 4) (hc : 4 ≤ cap) (hcap : cap ≤ 9223372036854775807) (c0 : w.cell? ⟨g, 0 + at_.toNat, none⟩ = some (byteV y0)) (c1 : w.cell? ⟨g, 0 + at_.toNat + 1, none⟩ = some (byteV y1)) (hz : ((y0.toNat : Int) * 256 + (y1.toNat : Int)) = (Z : Int)) =>
    (show Calls Try.prog 46 #[.slice (some ⟨g, 0, none⟩) 4 cap, .int .i64 at_] w fun e w' => e = .returned (.tuple #[.int .u16 (Z : Int), .bool true]) ∧ w = w' by
      have := y0.toNat_lt
      have := y1.toNat_lt
      rw [← hz]; exact get16 w g 0 4 cap at_ (y0.toNat : Int) (y1.toNat : Int) h0 (by omega) hc hcap c0 c1 (by omega) (by omega) (by omega) (by omega)))
  obtain ⟨d4, hd4⟩ : ∃ d4, d4 = d.extract 0 4 := ⟨_, rfl⟩
  have hd4s : d4.size = 4 := by rw [hd4, ByteArray.size_extract]; omega
  have HD4 := Lib.hid (show d4.data.toList = [x0, x1, x2, x3] by rw [hd4, ext_data, hD]; rfl)
  have HD4S := Lib.hid hd4s
  have HD := Lib.hid hD
  have hx4 : d.extract 0 4 = d4 := hd4.symm
  have wP : IntKind.i64.wrap (P : Int) = (P : Int) := IntWalk.i64_in _ (by omega)
  have wS : IntKind.i64.wrap (S : Int) = (S : Int) := IntWalk.i64_in _ (by omega)
  have hdap : dApply a.data.toList d.data.toList = (if a.size < P + S then none else if 256 < (dBack a.data.toList (P, S, d.data.toList.drop 4)).length then none else if dEnc (dMake a.data.toList (dBack a.data.toList (P, S, d.data.toList.drop 4))) = d.data.toList then some (dBack a.data.toList (P, S, d.data.toList.drop 4)) else none) := by
    unfold dApply
    rw [if_neg (by rw [hla]; exact l1), if_neg (by rw [hld]; exact l2), e1, e2, hla]
  have HAP := Lib.hid hdap
  have CP := Lib.hid cP
  have CS := Lib.hid cS
  clear hdap hD hP hS e1 e2 hd4 hd4s cP cS hla hld
  go_enter Try.func40, Try.ntmps40
  go_wp2_with ((with_reducible refine at_slot 22 ?_); refine wpBytesOf rfl _ _ _ 5 rfl Try.underlying9 Try.underlying98 Try.underlying5 d4 (by first | rfl | exact congrArg Value.string hx4) (by rw [HD4S.out]; omega) ?_; intro cap w2 hcap hcap2 hcells f2)
  have F2 := Lib.hid f2
  have hs4 := HD4S.out
  have k0 : w2.cell? ⟨w.heap.size, 0 + (0 : Int).toNat, none⟩ = some (byteV x0) := hcells 0 x0 (by rw [HD4.out]; rfl)
  have k1 : w2.cell? ⟨w.heap.size, 0 + (0 : Int).toNat + 1, none⟩ = some (byteV x1) := hcells 1 x1 (by rw [HD4.out]; rfl)
  rw [hs4] at hcap ⊢
  have G1 := Lib.hid (GG.out w2 w.heap.size cap 0 x0 x1 P (by omega) (by omega) hcap hcap2 k0 k1 CP.out)
  clear f2 hcells k0 k1 hs4 hcap hcap2
  refine G1.out.mono ?_
  rintro e w3 ⟨rfl, rfl⟩
  go_wp2_with ((with_reducible refine at_slot 29 ?_); refine wpBytesOf rfl _ _ _ 5 rfl Try.underlying9 Try.underlying98 Try.underlying5 d4 (by first | rfl | exact congrArg Value.string hx4) (by rw [HD4S.out]; omega) ?_; intro cap3 w3 hcap hcap2 hcells f3)
  have F3 := Lib.hid (F2.out.trans f3)
  have hs4 := HD4S.out
  have k2 : w3.cell? ⟨w2.heap.size, 0 + (2 : Int).toNat, none⟩ = some (byteV x2) := hcells 2 x2 (by rw [HD4.out]; rfl)
  have k3 : w3.cell? ⟨w2.heap.size, 0 + (2 : Int).toNat + 1, none⟩ = some (byteV x3) := hcells 3 x3 (by rw [HD4.out]; rfl)
  rw [hs4] at hcap ⊢
  have G2 := Lib.hid (GG.out w3 w2.heap.size cap3 2 x2 x3 S (by omega) (by omega) hcap hcap2 k2 k3 CS.out)
  clear f3 hcells k2 k3 hs4 hcap hcap2
  refine G2.out.mono ?_
  rintro e w4 ⟨rfl, rfl⟩
  have wPS : IntKind.i64.wrap ((P : Int) + (S : Int)) = ((P + S : Nat) : Int) := by rw [show (P : Int) + (S : Int) = ((P + S : Nat) : Int) by omega]; exact IntWalk.i64_in _ (by omega)
  obtain ⟨PS, hPS⟩ : ∃ PS, PS = P + S := ⟨_, rfl⟩
  rw [← hPS] at wPS
  by_cases l3 : a.size < PS
  · have HE : Hid (dApply a.data.toList d.data.toList = none) := Lib.hid (by rw [HAP.out, if_pos (by omega)])
    clear hPS
    go_wp2_with fail
    go_ret2
    rw [HE.out]
    exact ⟨⟨4, by decide, rfl⟩, F3.out⟩
  have HAP2 := Lib.hid (show dApply a.data.toList d.data.toList = (if 256 < (dBack a.data.toList (P, S, d.data.toList.drop 4)).length then none else if dEnc (dMake a.data.toList (dBack a.data.toList (P, S, d.data.toList.drop 4))) = d.data.toList then some (dBack a.data.toList (P, S, d.data.toList.drop 4)) else none) by rw [HAP.out, if_neg (by omega)])
  have lPa : P ≤ a.size := by omega
  have lSa : S ≤ a.size := by omega
  obtain ⟨q, hq⟩ : ∃ q, q = a.size - S := ⟨_, rfl⟩
  have wq : IntKind.i64.wrap ((a.size : Int) - (S : Int)) = (q : Int) := by rw [show (a.size : Int) - (S : Int) = (q : Int) by omega]; exact IntWalk.i64_in _ (by omega)
  have lq : q ≤ a.size := by omega
  have hs1 : (a.extract 0 P).size + (d.extract 4 d.size).size ≤ 9223372036854775807 := by rw [ByteArray.size_extract, ByteArray.size_extract]; omega
  have hs2 : ((a.extract 0 P) ++ (d.extract 4 d.size)).size + (a.extract q a.size).size ≤ 9223372036854775807 := by rw [ByteArray.size_append, ByteArray.size_extract, ByteArray.size_extract, ByteArray.size_extract]; omega
  have hd4' : (4 : Int) ≤ (d.size : Int) := by omega
  obtain ⟨old, hold⟩ : ∃ old, old = a.extract 0 P ++ d.extract 4 d.size ++ a.extract q a.size := ⟨_, rfl⟩
  have HOD := Lib.hid (show old.data.toList = dBack a.data.toList (P, S, d.data.toList.drop 4) by
    rw [hold]
    show (a.extract 0 P ++ d.extract 4 d.size ++ a.extract q a.size).data.toList = a.data.toList.take P ++ d.data.toList.drop 4 ++ a.data.toList.drop (a.size - S)
    rw [ByteArray.data_append, ByteArray.data_append, Array.toList_append, Array.toList_append, ext_data, ext_drop, ext_drop, hq, List.drop_zero])
  have HOL := Lib.hid (show old.size ≤ 3000000 by rw [hold, ByteArray.size_append, ByteArray.size_append, ByteArray.size_extract, ByteArray.size_extract, ByteArray.size_extract]; omega)
  have HOLD := Lib.hid hold
  clear hPS hq hold
  go_wp2_with fail
  go_quiet (fail)
  rw [← HOLD.out]
  by_cases l4 : 256 < old.size
  · have HE : Hid (dApply a.data.toList d.data.toList = none) := Lib.hid (by rw [HAP2.out, if_pos (by rw [← HOD.out]; exact l4)])
    have GM := Lib.hid (fun w => Delta_Make_large w a old (by omega) (by have := HOL.out; omega) (Or.inr l4))
    clear l4
    go_wp2_with fail
    refine (GM.out _).mono ?_
    rintro e w5 ⟨rfl, rfl⟩
    go_wp2_with fail
    go_ret2
    rw [HE.out]
    exact ⟨⟨4, by decide, rfl⟩, F3.out.trans (Fr.drewN none_ _ _)⟩
  have GM := Lib.hid (fun w => Delta_Make w a old (by omega) (by omega))
  obtain ⟨ag, hag⟩ : ∃ ag, ag = strOf (dEnc (dMake a.data.toList old.data.toList)) := ⟨_, rfl⟩
  rw [← hag] at GM
  have hiff : ag = d ↔ dEnc (dMake a.data.toList old.data.toList) = d.data.toList := by
    rw [hag]
    constructor
    · intro h; rw [← h]; rfl
    · intro h; rw [h]; exact strOf_data d
  by_cases l5 : ag = d
  · have HE : Hid (dApply a.data.toList d.data.toList = some old.data.toList) := Lib.hid (by rw [HAP2.out, ← HOD.out, if_neg (show ¬ 256 < old.data.toList.length from l4), if_pos (hiff.1 l5)])
    have hdec : decide (ag = d) = true := by simpa using l5
    clear hiff hag l4
    go_wp2_with fail
    refine (GM.out _).mono ?_
    rintro e w5 ⟨rfl, f5⟩
    have F5 := Lib.hid (F3.out.trans ((Fr.drewN none_ _ _).trans f5))
    clear f5
    go_wp2_with ((with_reducible refine at_slot 66 ?_); refine wpNeqStr rfl _ _ _ _ rfl ag d rfl rfl ?_; rw [hdec])
    go_ret2
    rw [HE.out]
    exact ⟨by unfold ApplyR; simp only; rw [strOf_data]; rfl, F5.out⟩
  · have HE : Hid (dApply a.data.toList d.data.toList = none) := Lib.hid (by rw [HAP2.out, ← HOD.out, if_neg (show ¬ 256 < old.data.toList.length from l4), if_neg (fun h => l5 (hiff.2 h))])
    have hdec : decide (ag = d) = false := by simpa using l5
    clear hiff hag l4 l5
    go_wp2_with fail
    refine (GM.out _).mono ?_
    rintro e w5 ⟨rfl, f5⟩
    have F5 := Lib.hid (F3.out.trans ((Fr.drewN none_ _ _).trans f5))
    clear f5
    go_wp2_with ((with_reducible refine at_slot 66 ?_); refine wpNeqStr rfl _ _ _ _ rfl ag d rfl rfl ?_; rw [hdec])
    go_ret2
    rw [HE.out]
    exact ⟨⟨4, by decide, rfl⟩, F5.out⟩
end Go.Proofs.Ytckkccnebjacdaa
