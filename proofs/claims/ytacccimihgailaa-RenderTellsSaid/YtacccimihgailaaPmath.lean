/- Plain laws on typed functions: loops over indices, texts, lengths. -/
import Derived.Test.YtacccimihgailaaPknown
set_option linter.unusedVariables false
set_option linter.unusedSimpArgs false
namespace Go.Proofs.Ytacccimihgailaa
namespace Pm
namespace Tp

theorem bif_dec {α : Type} (p : Prop) [Decidable p] (a b : α) : (bif decide p then a else b) = if p then a else b := Bool.cond_decide ..
theorem bif_beq {α : Type} (x y : Int) (a b : α) : (bif x == y then a else b) = if x = y then a else b := by
  by_cases h : x = y
  · subst h; simp
  · have : (x == y) = false := by simpa using h
    rw [this, if_neg h]; rfl
theorem beq_dec (x y : Int) : (x == y) = decide (x = y) := by
  by_cases h : x = y
  · subst h; simp
  · have : (x == y) = false := by simpa using h
    rw [this]; simp [h]
theorem bne_dec (x y : Int) : (x != y) = decide (x ≠ y) := by
  simp only [bne, beq_dec]
  by_cases h : x = y <;> simp [h]
/-- A loop that counts up to n: what it hands on from round to round, and what it gives at the end. -/
theorem loop_run {ρ : Type} {F : Nat → Nat → Option ρ} {n : Nat} {r : ρ} (hs : ∀ fk i, i < n → F (fk + 1) i = F fk (i + 1)) (he : ∀ fk, F (fk + 1) n = some r) (hn : n ≤ 9223372036854775807) : F fuel 0 = some r := by
  have key : ∀ (m i : Nat), i ≤ n → n - i < m → F m i = some r := by
    intro m
    induction m with
    | zero => intro i _ h; omega
    | succ m ih =>
      intro i hi hm
      rcases Nat.lt_or_ge i n with c | c
      · rw [hs m i c]; exact ih (i + 1) (by omega) (by omega)
      · obtain rfl : i = n := by omega
        exact he m
  exact key fuel 0 (Nat.zero_le _) (by rw [fuel_eq]; omega)
/-- A loop that may end early. -/
theorem loop_some {ρ : Type} {F : Nat → Nat → Option ρ} {n k : Nat} {r : ρ} (hk : k ≤ n) (hs : ∀ fk i, i < k → F (fk + 1) i = F fk (i + 1)) (he : ∀ fk, F (fk + 1) k = some r) (hn : n ≤ 9223372036854775807) : F fuel 0 = some r :=
  loop_run hs he (by omega)
/-- A loop that looks for one. -/
theorem loop_any {α ρ : Type} {l : List α} {Q : α → Bool} {F : Nat → Nat → Option ρ} {A B : ρ} (hs : ∀ fk i (h : i < l.length), F (fk + 1) i = if Q l[i] = true then some A else F fk (i + 1)) (he : ∀ fk, F (fk + 1) l.length = some B)
    (hn : l.length ≤ 9223372036854775807) : F fuel 0 = some (if l.any Q = true then A else B) := by
  have key : ∀ (m i : Nat), i ≤ l.length → l.length - i < m → F m i = some (if (l.drop i).any Q = true then A else B) := by
    intro m
    induction m with
    | zero => intro i _ h; omega
    | succ m ih =>
      intro i hi hm
      rcases Nat.lt_or_ge i l.length with c | c
      · rw [hs m i c, ih (i + 1) (by omega) (by omega), List.drop_eq_getElem_cons c]
        by_cases hq : Q l[i] = true
        · rw [if_pos hq, if_pos (by simp only [List.any_cons, hq, Bool.true_or])]
        · have hq' : Q l[i] = false := by simpa using hq
          rw [if_neg hq]
          simp only [List.any_cons, hq', Bool.false_or]
      · obtain rfl : i = l.length := by omega
        rw [he m, List.drop_length]; simp
  have := key fuel 0 (Nat.zero_le _) (by rw [fuel_eq]; omega)
  simpa using this
theorem idx_nat {α : Type} {l : List α} {i : Nat} (h : i < l.length) : idx? l (i : Int) = some l[i] := by
  unfold idx?
  rw [if_pos (by omega), Int.toNat_natCast, List.getElem?_eq_getElem h]
theorem wrap_small {n : Int} (h0 : -9223372036854775808 ≤ n) (h1 : n ≤ 9223372036854775807) : IntKind.i64.wrap n = n := by
  simp only [IntKind.wrap, IntKind.bits, IntKind.signed]
  simp
  omega
theorem wrap_succ {i : Nat} (h : i < 9223372036854775807) : IntKind.i64.wrap ((i : Int) + 1) = ((i + 1 : Nat) : Int) := by
  rw [wrap_small (by omega) (by omega)]; omega
theorem wrap_u {n : Int} (h0 : 0 ≤ n) (h1 : n ≤ 18446744073709551615) : IntKind.u64.wrap n = n := wrap_u64 h0 (by omega)
theorem numText_eq {n : Int} (h : VI n) : numText n = some (intText n) := by
  unfold numText; exact if_pos h
theorem intText_len {n : Int} (h : VI n) : (intText n).length ≤ 21 := by
  obtain ⟨h0, h1⟩ := h
  unfold intText
  split
  · have := natText_len 19 (-n).toNat (by omega)
    simp; omega
  · have := natText_len 19 n.toNat (by omega)
    omega
theorem cat_eq {a b : List UInt8} (h : a.length + b.length ≤ 4611686018427387904) : cat? a b = some (a ++ b) := by
  unfold cat?; rw [if_pos h]
theorem app_eq {α : Type} {by_ : Nat} {l m : List α} (h : (l.length + m.length) * by_ ≤ 70368744177664) : app? by_ l m = some (l ++ m) := by
  unfold app?; exact if_pos h
theorem str_eq {l : List UInt8} (h : l.length ≤ 9223372036854775807) : str? l = some l := by
  unfold str?; rw [if_pos h]
theorem some_bind' {α β : Type} (x : α) (f : α → Option β) : (some x >>= f) = f x := rfl
theorem guard_t {α : Type} {c : Bool} (h : c = true) (x : Option α) : guard? c x = x := by rw [h]; rfl
theorem take_succ' {α : Type} {l : List α} {i : Nat} (h : i < l.length) : l.take (i + 1) = l.take i ++ [l[i]] := by
  rw [List.take_succ_eq_append_getElem h]
theorem flatMap_len {α : Type} (f : α → List UInt8) (B : Nat) : ∀ l : List α, (∀ x ∈ l, (f x).length ≤ B) → (l.flatMap f).length ≤ l.length * B
  | [], _ => by simp
  | a :: l, h => by
    have h1 := h a (by simp)
    have h2 := flatMap_len f B l (fun x hx => h x (by simp [hx]))
    simp only [List.flatMap_cons, List.length_append, List.length_cons, Nat.add_mul]
    omega
theorem VL.get {α : Type} {V : α → Prop} {l : List α} (h : VL V l) {i : Nat} (hi : i < l.length) : V l[i] := h.2 _ (List.getElem_mem hi)

end Tp
end Pm
end Go.Proofs.Ytacccimihgailaa
