/- num.digits: a number's digits, by runs with decisions. -/
import Derived.Test.YtacccimihgailaaPmv
import Derived.Test.YtacccimihgailaaProg
import Derived.KernelRfl
set_option linter.unusedVariables false
set_option maxRecDepth 1000000
namespace Go.Proofs.Ytacccimihgailaa
namespace Pm
open Go.RowKit

def stp (u : Int) : Int := IntKind.u64.wrap (u.tdiv 10)
def dgb (u : Int) : UInt8 := (IntKind.u8.wrap (IntKind.u64.wrap (48 + u.tmod 10))).toNat.toUInt8
def dsT : Nat → List Bool
  | 0 => [true, true, false, false]
  | k + 1 => true :: true :: false :: true :: dsT k
def csB (l : List (Bool × Bool)) : List (Bool × Bool) := (true, true) :: (true, true) :: (true, true) :: (true, true) :: l
def csT : Nat → Int → List (Bool × Bool)
  | 0, u => [(true, true), (true, true), (false, false), (decide (u > 0), false), (true, true)]
  | k + 1, u => (true, true) :: (true, true) :: (false, false) :: (decide (u > 0), true) :: csB (csT k (stp u))
def dgT : Nat → Int → List UInt8 → List UInt8
  | 0, u, acc => dgb u :: acc
  | k + 1, u, acc => dgT k (stp u) (dgb u :: acc)
def dsD (k : Nat) : List Bool := false :: false :: true :: true :: dsT k
def csD (k : Nat) (u : Int) : List (Bool × Bool) := (false, false) :: (false, false) :: (true, true) :: (true, true) :: csB (csT k (stp u))

theorem digits_run (k : Nat) (hk : k < 20) (u : Int) : oP Try.prog noOExt 52 [.int .u64 u] (dsD k) = some (csD k u, .str (dgT k u [])) := by
  have hk' : k = 0 ∨ k = 1 ∨ k = 2 ∨ k = 3 ∨ k = 4 ∨ k = 5 ∨ k = 6 ∨ k = 7 ∨ k = 8 ∨ k = 9 ∨ k = 10 ∨ k = 11 ∨ k = 12 ∨ k = 13 ∨ k = 14 ∨ k = 15 ∨ k = 16 ∨ k = 17 ∨ k = 18 ∨ k = 19 := by omega
  clear hk
  rcases hk' with rfl | rfl | rfl | rfl | rfl | rfl | rfl | rfl | rfl | rfl | rfl | rfl | rfl | rfl | rfl | rfl | rfl | rfl | rfl | rfl
  all_goals (show _ = _; kernel_rfl)

/-- So many digits: the numbers on the way are above nought, the last one is not. -/
def runsTo : Nat → Int → Prop
  | 0, u => ¬ (u > 0)
  | k + 1, u => u > 0 ∧ runsTo k (stp u)
theorem allB_csT : ∀ (k : Nat) (u : Int), runsTo k u → allB (csT k u)
  | 0, u, h => by
    have : decide (u > 0) = false := decide_eq_false h
    simp only [csT, allB, this, and_self]
  | k + 1, u, h => by
    have h1 : decide (u > 0) = true := decide_eq_true h.1
    have h2 := allB_csT k (stp u) h.2
    simp only [csT, csB, allB, h1, true_and, h2]
theorem digits_pure (k : Nat) (hk : k < 20) (u : Int) (h : runsTo k (stp u)) : Pure Try.prog 52 [.int .u64 u] (.str (dgT k u [])) :=
  pure_of_oP (noOExt_ok _) (digits_run k hk u) (by
    have h2 := allB_csT k (stp u) h
    simp only [csD, csB, allB, true_and, h2])

end Pm
end Go.Proofs.Ytacccimihgailaa
