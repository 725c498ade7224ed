/- tenterref03.Text: the document's text of a number. -/
import Derived.Test.YtacccimihgailaaPnum
set_option linter.unusedVariables false
set_option maxRecDepth 1000000
namespace Go.Proofs.Ytacccimihgailaa
namespace Pm

def csB5 (l : List (Bool × Bool)) : List (Bool × Bool) := (true, true) :: (true, true) :: (true, true) :: (true, true) :: (true, true) :: l
def csT5 (fin : List (Bool × Bool)) : Nat → Int → List (Bool × Bool)
  | 0, u => (true, true) :: (true, true) :: (false, false) :: (decide (u > 0), false) :: fin
  | k + 1, u => (true, true) :: (true, true) :: (false, false) :: (decide (u > 0), true) :: csB5 (csT5 fin k (stp u))
def dsR (k : Nat) (tl : List Bool) : List Bool := false :: false :: true :: true :: (dsT k ++ tl)
def csR (fin : List (Bool × Bool)) (k : Nat) (u : Int) : List (Bool × Bool) := (false, false) :: (false, false) :: (true, true) :: (true, true) :: csB5 (csT5 fin k (stp u))
theorem allB_csT5 {fin : List (Bool × Bool)} (hf : allB fin) : ∀ (k : Nat) (u : Int), runsTo k u → allB (csT5 fin k u)
  | 0, u, h => by
    have : decide (u > 0) = false := decide_eq_false h
    simp only [csT5, allB, this, true_and, hf]
  | k + 1, u, h => by
    have h1 : decide (u > 0) = true := decide_eq_true h.1
    have h2 := allB_csT5 hf k (stp u) h.2
    simp only [csT5, csB5, allB, h1, true_and, h2]
theorem ref03_run (k : Nat) (hk : k < 20) (n : Int) : oP Try.prog noOExt 30 [.int .i64 n] (false :: dsR k [false]) = some ((decide (n < 0), false) :: csR [(decide (n < 0), false)] k (IntKind.u64.wrap n), .str (dgT k (IntKind.u64.wrap n) [])) := by
  have hk' : k = 0 ∨ k = 1 ∨ k = 2 ∨ k = 3 ∨ k = 4 ∨ k = 5 ∨ k = 6 ∨ k = 7 ∨ k = 8 ∨ k = 9 ∨ k = 10 ∨ k = 11 ∨ k = 12 ∨ k = 13 ∨ k = 14 ∨ k = 15 ∨ k = 16 ∨ k = 17 ∨ k = 18 ∨ k = 19 := by omega
  clear hk
  rcases hk' with rfl | rfl | rfl | rfl | rfl | rfl | rfl | rfl | rfl | rfl | rfl | rfl | rfl | rfl | rfl | rfl | rfl | rfl | rfl | rfl
  all_goals (show _ = _; kernel_rfl)

theorem ref03_runN (k : Nat) (hk : k < 20) (n : Int) : oP Try.prog noOExt 30 [.int .i64 n] (true :: dsR k [true]) = some ((decide (n < 0), true) :: csR [(decide (n < 0), true), (true, true)] k (IntKind.u64.wrap (0 - IntKind.u64.wrap n)), .str (45 :: dgT k (IntKind.u64.wrap (0 - IntKind.u64.wrap n)) [])) := by
  have hk' : k = 0 ∨ k = 1 ∨ k = 2 ∨ k = 3 ∨ k = 4 ∨ k = 5 ∨ k = 6 ∨ k = 7 ∨ k = 8 ∨ k = 9 ∨ k = 10 ∨ k = 11 ∨ k = 12 ∨ k = 13 ∨ k = 14 ∨ k = 15 ∨ k = 16 ∨ k = 17 ∨ k = 18 ∨ k = 19 := by omega
  clear hk
  rcases hk' with rfl | rfl | rfl | rfl | rfl | rfl | rfl | rfl | rfl | rfl | rfl | rfl | rfl | rfl | rfl | rfl | rfl | rfl | rfl | rfl
  all_goals (show _ = _; kernel_rfl)

theorem ref03_Text {n : Int} (h0 : -9223372036854775808 ≤ n) (h1 : n ≤ 9223372036854775807) : Pure Try.prog 30 [.int .i64 n] (.str (intText n)) := by
  by_cases c : n < 0
  · have e1 : IntKind.u64.wrap (0 - IntKind.u64.wrap n) = (((-n).toNat : Nat) : Int) := by
      simp only [IntKind.wrap, IntKind.bits, IntKind.signed]
      simp
      omega
    obtain ⟨k, g1, g2, g3⟩ := digits_many 19 (-n).toNat (by omega)
    obtain ⟨g4, g5⟩ := digits_text k (-n).toNat [] (by omega) g2 g3
    have := pure_of_oP (noOExt_ok _) (ref03_runN k (by omega) n) (by
      have h2 := allB_csT5 (fin := [(decide (n < 0), true), (true, true)]) ⟨decide_eq_true c, rfl, trivial⟩ k (stp (IntKind.u64.wrap (0 - IntKind.u64.wrap n))) (by rw [e1]; exact g4)
      exact ⟨decide_eq_true c, rfl, rfl, rfl, rfl, rfl, rfl, rfl, rfl, rfl, h2⟩)
    rw [e1, g5, List.append_nil] at this
    rw [intText, if_pos c]
    exact this
  · have e1 : IntKind.u64.wrap n = ((n.toNat : Nat) : Int) := by rw [wrap_u64 (by omega) (by omega)]; omega
    obtain ⟨k, g1, g2, g3⟩ := digits_many 19 n.toNat (by omega)
    obtain ⟨g4, g5⟩ := digits_text k n.toNat [] (by omega) g2 g3
    have := pure_of_oP (noOExt_ok _) (ref03_run k (by omega) n) (by
      have h2 := allB_csT5 (fin := [(decide (n < 0), false)]) ⟨decide_eq_false c, trivial⟩ k (stp (IntKind.u64.wrap n)) (by rw [e1]; exact g4)
      exact ⟨decide_eq_false c, rfl, rfl, rfl, rfl, rfl, rfl, rfl, rfl, rfl, h2⟩)
    rw [e1, g5, List.append_nil] at this
    rw [intText, if_neg c]
    exact this

end Pm
end Go.Proofs.Ytacccimihgailaa
