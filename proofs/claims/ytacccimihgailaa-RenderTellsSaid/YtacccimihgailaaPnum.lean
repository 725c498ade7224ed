/- A number's text, as a plain law. -/
import Derived.Test.YtacccimihgailaaPdig
set_option linter.unusedVariables false
namespace Go.Proofs.Ytacccimihgailaa
namespace Pm

def natText (n : Nat) : List UInt8 := if h : n < 10 then [(48 + n).toUInt8] else natText (n / 10) ++ [(48 + n % 10).toUInt8]
theorem natText_small {n : Nat} (h : n < 10) : natText n = [(48 + n).toUInt8] := by rw [natText, dif_pos h]
theorem natText_big {n : Nat} (h : 10 ≤ n) : natText n = natText (n / 10) ++ [(48 + n % 10).toUInt8] := by rw [natText, dif_neg (by omega)]
theorem wrap_u64 {n : Int} (h0 : 0 ≤ n) (h : n < 18446744073709551616) : IntKind.u64.wrap n = n := by
  simp only [IntKind.wrap, IntKind.bits, IntKind.signed]
  simp
  omega
theorem stp_nat {n : Nat} (h : n < 18446744073709551616) : stp (n : Int) = ((n / 10 : Nat) : Int) := by
  unfold stp
  have e : (n : Int).tdiv 10 = ((n / 10 : Nat) : Int) := by simp [Int.tdiv]
  rw [e, wrap_u64 (by omega) (by omega)]
theorem dgb_nat {n : Nat} (h : n < 18446744073709551616) : dgb (n : Int) = (48 + n % 10).toUInt8 := by
  unfold dgb
  have e : (n : Int).tmod 10 = ((n % 10 : Nat) : Int) := by simp [Int.tmod]
  rw [e, wrap_u64 (by omega) (by omega)]
  have : IntKind.u8.wrap (48 + ((n % 10 : Nat) : Int)) = ((48 + n % 10 : Nat) : Int) := by
    simp only [IntKind.wrap, IntKind.bits, IntKind.signed]
    simp
    omega
  rw [this, Int.toNat_natCast]
theorem digits_text : ∀ (k n : Nat) (acc : List UInt8), n < 18446744073709551616 → n < 10 ^ (k + 1) → (0 < k → 10 ^ k ≤ n) → runsTo k (stp (n : Int)) ∧ dgT k (n : Int) acc = natText n ++ acc
  | 0, n, acc, h, h1, _ => by
    have h1 : n < 10 := by simpa using h1
    refine ⟨?_, ?_⟩
    · rw [stp_nat h]
      show ¬ (((n / 10 : Nat) : Int) > 0)
      omega
    · show dgb (n : Int) :: acc = _
      rw [dgb_nat h, natText_small h1, Nat.mod_eq_of_lt h1]; rfl
  | k + 1, n, acc, h, h1, h2 => by
    have h2 := h2 (by omega)
    have hp : 10 ^ (k + 1) = 10 * 10 ^ k := by rw [Nat.pow_succ]; omega
    have hp2 : 10 ^ (k + 1 + 1) = 10 * 10 ^ (k + 1) := by rw [Nat.pow_succ]; omega
    have hk1 : 0 < 10 ^ k := Nat.pow_pos (by omega)
    have ih := digits_text k (n / 10) (dgb (n : Int) :: acc) (by omega) (by omega) (fun _ => by omega)
    rw [stp_nat h]
    refine ⟨⟨by omega, ih.1⟩, ?_⟩
    show dgT k (stp (n : Int)) (dgb (n : Int) :: acc) = _
    rw [stp_nat h, ih.2, dgb_nat h, natText_big (n := n) (by omega)]
    simp

theorem digits_many : ∀ (m n : Nat), n < 10 ^ (m + 1) → ∃ k, k ≤ m ∧ n < 10 ^ (k + 1) ∧ (0 < k → 10 ^ k ≤ n)
  | 0, n, h => ⟨0, Nat.le_refl _, h, fun h => by omega⟩
  | m + 1, n, h => by
    rcases Nat.lt_or_ge n (10 ^ (m + 1)) with c | c
    · obtain ⟨k, h1, h2, h3⟩ := digits_many m n c
      exact ⟨k, by omega, h2, h3⟩
    · exact ⟨m + 1, Nat.le_refl _, h, fun _ => c⟩
/-- num.digits writes a number's text. -/
theorem digits_natText (n : Nat) (h : n < 18446744073709551616) : Pure Try.prog 52 [.int .u64 n] (.str (natText n)) := by
  obtain ⟨k, h1, h2, h3⟩ := digits_many 19 n (by omega)
  obtain ⟨g1, g2⟩ := digits_text k n [] h h2 h3
  have := digits_pure k (by omega) n g1
  rw [g2, List.append_nil] at this
  exact this

def digExt : OExt := fun f args =>
  match Nat.beq f 52, args with
  | true, [.int .u64 u] => some (decide (0 ≤ u ∧ u < 18446744073709551616), .str (natText u.toNat))
  | _, _ => none
theorem digExt_ok : OExtOk Try.prog digExt := by
  intro f args r h
  unfold digExt at h
  split at h
  · rename_i u hf
    have hf : f = 52 := Nat.eq_of_beq_eq_true hf
    subst hf
    simp only [Option.some.injEq, Prod.mk.injEq, decide_eq_true_eq] at h
    obtain ⟨⟨h0, h1⟩, rfl⟩ := h
    have := digits_natText u.toNat (by omega)
    rw [Int.toNat_of_nonneg h0] at this
    exact this
  · cases h

theorem natText_len : ∀ (m n : Nat), n < 10 ^ (m + 1) → (natText n).length ≤ m + 1
  | 0, n, h => by
    have h : n < 10 := by simpa using h
    rw [natText_small h]; simp
  | m + 1, n, h => by
    have hp : 10 ^ (m + 1 + 1) = 10 * 10 ^ (m + 1) := by rw [Nat.pow_succ]; omega
    rcases Nat.lt_or_ge n 10 with c | c
    · rw [natText_small c]; simp
    · have := natText_len m (n / 10) (by omega)
      rw [natText_big c]; simp; omega
def intText (n : Int) : List UInt8 := if n < 0 then 45 :: natText (-n).toNat else natText n.toNat
theorem num_Text {n : Int} (h0 : -9223372036854775808 ≤ n) (h1 : n ≤ 9223372036854775807) : Pure Try.prog 35 [.int .i64 n] (.str (intText n)) := by
  by_cases c : n < 0
  · have e1 : IntKind.u64.wrap (0 - IntKind.u64.wrap n) = -n := by
      simp only [IntKind.wrap, IntKind.bits, IntKind.signed]
      simp
      omega
    have e : intText n = [45] ++ natText (IntKind.u64.wrap (0 - IntKind.u64.wrap n)).toNat := by rw [e1, intText, if_pos c]; rfl
    have hl := natText_len 19 (IntKind.u64.wrap (0 - IntKind.u64.wrap n)).toNat (by rw [e1]; omega)
    rw [e]
    exact pure_of_oP digExt_ok (f := 35) (args := [.int .i64 n]) (v := .str ([45] ++ natText (IntKind.u64.wrap (0 - IntKind.u64.wrap n)).toNat)) (ds := [true]) (cs := [(decide (n < 0), true), (decide (0 ≤ IntKind.u64.wrap (0 - IntKind.u64.wrap n) ∧ IntKind.u64.wrap (0 - IntKind.u64.wrap n) < 18446744073709551616), true),
      (decide ([(45 : UInt8)].length + (natText (IntKind.u64.wrap (0 - IntKind.u64.wrap n)).toNat).length ≤ 4611686018427387904), true)])
      (by kernel_rfl) ⟨decide_eq_true c, decide_eq_true (by rw [e1]; omega), decide_eq_true (by simp only [List.length_singleton]; omega), trivial⟩
  · have e1 : IntKind.u64.wrap n = n := wrap_u64 (by omega) (by omega)
    have e : intText n = natText (IntKind.u64.wrap n).toNat := by rw [e1, intText, if_neg c]
    rw [e]
    exact pure_of_oP digExt_ok (f := 35) (args := [.int .i64 n]) (v := .str (natText (IntKind.u64.wrap n).toNat)) (ds := [false]) (cs := [(decide (n < 0), false), (decide (0 ≤ IntKind.u64.wrap n ∧ IntKind.u64.wrap n < 18446744073709551616), true)])
      (by kernel_rfl) ⟨decide_eq_false c, decide_eq_true (by rw [e1]; omega), trivial⟩

end Pm
end Go.Proofs.Ytacccimihgailaa
