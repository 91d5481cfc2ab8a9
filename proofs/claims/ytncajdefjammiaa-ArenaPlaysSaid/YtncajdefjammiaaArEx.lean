/-
  The examples of layer 4, of states alone.
-/
import Derived.Test.YtncajdefjammiaaArenaPure
namespace Go.Proofs.Ytncajdefjammiaa
set_option maxRecDepth 100000

def exAb : ByteArray := strOf [97, 98]
def ex0 : AS := AS.new 2000
def ex1 : AS := (aAlloc ex0).2.2
def ex2 : AS := (aAlloc ex1).2.2
def ex3 : AS := (aAlloc ex2).2.2
def ex4 : AS := (aFree ex3 1).2
def ex5 : AS := (aAlloc ex4).2.2
def ex6 : AS := (aWrite ex5 2 exAb).2
theorem ex_a1 : (aAlloc ex0).1 = 1 ∧ (aAlloc ex0).2.1 = 0 := by decide +kernel
theorem ex_a2 : (aAlloc ex1).1 = mkH 0 2000 1 ∧ (aAlloc ex1).2.1 = 0 := by decide +kernel
theorem ex_a3 : (aAlloc ex2).1 = mkH 1 0 1 ∧ (aAlloc ex2).2.1 = 0 := by decide +kernel
theorem ex_f : (aFree ex3 1).1 = 0 := by decide +kernel
theorem ex_a4 : (aAlloc ex4).1 = 2 ∧ (aAlloc ex4).2.1 = 0 := by decide +kernel
theorem ex_r : (aRead ex5 1).2 = 5 ∧ (aRead ex5 1).1 = [] := by decide +kernel
theorem ex_w : (aWrite ex5 2 exAb).1 = 0 := by decide +kernel
theorem ex_r2 : aRead ex6 2 = (97 :: 98 :: zeros 1998, 0) := by decide +kernel
theorem ex_n : ex6.used = 3 ∧ ex6.pages.length = 2 ∧ ex6.slot = 2000 := by decide +kernel
end Go.Proofs.Ytncajdefjammiaa
