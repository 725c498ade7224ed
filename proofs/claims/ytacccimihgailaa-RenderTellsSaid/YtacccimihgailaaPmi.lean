/- Arithmetic, comparison, conversion, literals. -/
import Derived.Test.YtacccimihgailaaPmh
import Derived.LaidEql
set_option linter.unusedVariables false
set_option linter.unusedSimpArgs false
namespace Go.Proofs.Ytacccimihgailaa
namespace Pm
open Go.RowKit
section
variable {P : Program} {B0 : Nat} {R : Rel} {h : Hp} {w : World}

theorem str_toList (l : List UInt8) : (⟨l.toArray⟩ : ByteArray).toList = l := by rw [ByteArray.toList_eq]

theorem equalIn_le (d D : Nat) (t : TypeId) (x y : PV) (b : Bool) {v u : Value} (hv : VR R v x) (hu : VR R u y) (hp : peq P d t x y = some b) (hd : d ≤ D) :
    (Op.equalIn D t v u).run P w = .ok b w := by
  induction d generalizing D t x y b v u with
  | zero => simp [peq] at hp
  | succ d ih =>
    obtain ⟨D, rfl⟩ : ∃ D', D = D' + 1 := ⟨D - 1, by omega⟩
    unfold peq at hp
    split at hp
    · rename_i a b hu'
      cases hp
      cases hv; cases hu
      simp [Op.equalIn, run_underlying hu']
    · rename_i k0 k a k' b hu'
      split at hp
      · rename_i hk
        cases hp
        cases hv; cases hu
        simp [Op.equalIn, run_underlying hu', hk]
      · cases hp
    · rename_i a b hu'
      cases hp
      cases hv; cases hu
      have := run_equalIn_string (P := P) w D t ⟨a.toArray⟩ ⟨b.toArray⟩ hu'
      rwa [str_toList, str_toList] at this
    · rename_i fs xs ys hu'
      split at hp
      · cases hp
      rename_i hst
      have hst' : P.stoodInHeld t = false := by simpa using hst
      cases hv with
      | agg vs _ hl hvs =>
      cases hu with
      | agg us _ hl' hus =>
      have hf : P.fieldsOf t = fs := by simp [Program.fieldsOf, hu']
      rw [run_equalIn_struct (P := P) w D t vs.toArray us.toArray (by rw [hf]; exact hu') hst', hf]
      generalize fs.toList = fl at hp ⊢
      clear hf hu'
      induction fl generalizing b with
      | nil => simp [peqFields] at hp; subst hp; simp [Op.eqFields]
      | cons f fl ihf =>
        unfold peqFields at hp
        split at hp
        · rename_i hn
          split at hp
          case h_2 => cases hp
          rename_i x1 y1 h1 h2
          split at hp
          case h_2 => cases hp
          rename_i r1 r2 h3 h4
          cases hp
          have e := ihf r2 h4
          obtain ⟨a1, a2, a3⟩ := part_sound (P := P) (w := w) hl hvs h1
          obtain ⟨b1, b2, b3⟩ := part_sound (P := P) (w := w) hl' hus h2
          have hq := ih D f.type x1 y1 r1 a3 b3 h3 (by omega)
          simp only [Op.eqFields, if_pos hn, Sem.run_bind, a2, b2, hq, Result.andThen_ok]
          cases r1
          · simp
          · simpa using e
        · rename_i hn
          have e := ihf b hp
          rw [Op.eqFields, if_neg hn]
          exact e
    · cases hp

theorem pun_sound {op : UnOp} {v : Value} {x p : PV} (hv : VR R v x) (hp : pun op x = some (true, p)) : ∃ u, (Op.unary op v).run P w = .ok u w ∧ VR R u p := by
  unfold pun at hp
  split at hp
  · cases hp
    cases hv
    exact ⟨_, rfl, .bool _⟩
  · cases hp
    cases hv
    exact ⟨_, rfl, .int _ _⟩
  · cases hp

theorem ints_sound {op : BinOp} {k : IntKind} {a b : Int} {t : TypeId} {p : PV} (h1 : op ≠ .shl) (h2 : op ≠ .shr) (hp : ints k a b op = some (true, p)) :
    ∃ u, (binOp op t (.int k a) (.int k b)).run P w = .ok u w ∧ VR R u p := by
  cases op <;> simp only [ints, Option.some.injEq, Prod.mk.injEq, decide_eq_true_eq, reduceCtorEq, true_and] at hp <;>
    first
      | (exact absurd rfl h1)
      | (exact absurd rfl h2)
      | (subst hp; refine ⟨_, ?_, .int _ _⟩; simp [binOp, Op.intArith, Op.intBits]; done)
      | (obtain ⟨hb, rfl⟩ := hp; refine ⟨_, ?_, .int _ _⟩; simp [binOp, Op.intDiv, hb]; done)
      | (subst hp; refine ⟨_, ?_, .bool _⟩; simp [binOp, Op.intCmp]; done)

theorem strs_sound {op : BinOp} {a b : List UInt8} {t : TypeId} {p : PV} (hp : strs a b op = some (true, p)) :
    ∃ u, (binOp op t (.string ⟨a.toArray⟩) (.string ⟨b.toArray⟩)).run P w = .ok u w ∧ VR R u p := by
  cases op <;> simp only [strs, Option.some.injEq, Prod.mk.injEq, decide_eq_true_eq, reduceCtorEq, true_and] at hp
  case add =>
    obtain ⟨hb, rfl⟩ := hp
    refine ⟨.string ⟨(a ++ b).toArray⟩, ?_, .str _⟩
    have h1 : (⟨a.toArray⟩ : ByteArray).size + (⟨b.toArray⟩ : ByteArray).size ≤ 9223372036854775807 := by
      have e1 : (⟨a.toArray⟩ : ByteArray).size = a.length := rfl
      have e2 : (⟨b.toArray⟩ : ByteArray).size = b.length := rfl
      omega
    have h2 := run_string_add_sum (P := P) w ⟨a.toArray⟩ ⟨b.toArray⟩ h1
    rw [binOp_string_add, h2, ByteArray.mk_append_mk]
  all_goals
    subst hp
    refine ⟨_, ?_, .bool _⟩
    simp [binOp, Op.stringOp, str_toList]

theorem pbin_sound {op : BinOp} {t : TypeId} {v u : Value} {x y p : PV} {xo yo : Operand} (hv : VR R v x) (hu : VR R u y) (hp : pbin P op t x y = some (true, p)) :
    ∃ r, (do eqGuard op t xo yo v u; binOp op t v u : Sem Value).run P w = .ok r w ∧ VR R r p := by
  unfold pbin at hp
  split at hp
  · rename_i k a k' b
    cases hv; cases hu
    have hg : eqGuard op t xo yo (.int k a) (.int k' b) = pure () := by cases op <;> rfl
    simp only [hg, Sem.run_bind, Sem.run_pure, Result.andThen_ok]
    split at hp
    · simp only [Option.some.injEq, Prod.mk.injEq, decide_eq_true_eq] at hp
      obtain ⟨hb, rfl⟩ := hp
      refine ⟨_, ?_, .int _ _⟩
      simp [binOp, Op.shift, show ¬ (b < 0) by omega]
    · simp only [Option.some.injEq, Prod.mk.injEq, decide_eq_true_eq] at hp
      obtain ⟨hb, rfl⟩ := hp
      refine ⟨_, ?_, .int _ _⟩
      simp [binOp, Op.shift, show ¬ (b < 0) by omega]
    · rename_i op' n1 n2
      split at hp
      · rename_i hk
        subst hk
        exact ints_sound n1 n2 hp
      · cases hp
  · rename_i a b
    cases hv; cases hu
    have hg : eqGuard op t xo yo (.string ⟨a.toArray⟩) (.string ⟨b.toArray⟩) = pure () := by cases op <;> rfl
    simp only [hg, Sem.run_bind, Sem.run_pure, Result.andThen_ok]
    exact strs_sound hp
  · rename_i a b
    cases hv; cases hu
    split at hp
    · rename_i hu'
      cases hp
      refine ⟨.bool (a == b), ?_, .bool _⟩
      have he : (Op.equal t (.bool a) (.bool b)).run P w = .ok (a == b) w := run_equalIn_bool' w 9999 t a b hu'
      have hg : eqGuard .eql t xo yo (.bool a) (.bool b) = pure () := rfl
      simp only [hg, binOp, Sem.run_bind, Sem.run_pure, Result.andThen_ok, he]
    · rename_i hu'
      cases hp
      refine ⟨.bool (!(a == b)), ?_, .bool _⟩
      have he : (Op.equal t (.bool a) (.bool b)).run P w = .ok (a == b) w := run_equalIn_bool' w 9999 t a b hu'
      have hg : eqGuard .neq t xo yo (.bool a) (.bool b) = pure () := rfl
      simp only [hg, binOp, Sem.run_bind, Sem.run_pure, Result.andThen_ok, he]
    · cases hp
  · rename_i xs ys
    split at hp
    · cases hp
    rename_i hgt
    split at hp
    · rename_i b hb
      cases hp
      have he := equalIn_le (P := P) (w := w) 12 10000 t _ _ b hv hu hb (by omega)
      cases hv with
      | agg vs _ hl hvs =>
      cases hu with
      | agg us _ hl' hus =>
      refine ⟨.bool b, ?_, .bool _⟩
      simp only [Sem.run_bind]
      have hg : (eqGuard .eql t xo yo (.agg vs.toArray) (.agg us.toArray)).run P w = .ok () w := by
        simp [eqGuard, hgt]
      rw [hg, Result.andThen_ok, run_eql_struct, he]
      rfl
    · rename_i b hb
      cases hp
      have he := equalIn_le (P := P) (w := w) 12 10000 t _ _ b hv hu hb (by omega)
      cases hv with
      | agg vs _ hl hvs =>
      cases hu with
      | agg us _ hl' hus =>
      refine ⟨.bool (!b), ?_, .bool _⟩
      simp only [Sem.run_bind]
      have hg : (eqGuard .neq t xo yo (.agg vs.toArray) (.agg us.toArray)).run P w = .ok () w := by
        simp [eqGuard, hgt]
      rw [hg, Result.andThen_ok, run_neq_struct, he]
      rfl
    · cases hp
  · -- a pointer into a box, and nil
    rename_i b o
    cases hv with
    | ptr _ blk _ hb =>
    cases hu
    have hg : eqGuard op t xo yo (.pointer (some ⟨blk, o, none⟩)) (.pointer none) = pure () := by cases op <;> rfl
    simp only [hg, Sem.run_bind, Sem.run_pure, Result.andThen_ok]
    split at hp
    · rename_i e hu'
      cases hp
      have h9 : ∀ d : Nat, (Op.equalIn (d + 1) t (.pointer (some ⟨blk, o, none⟩)) (.pointer none)).run P w = .ok false w := fun d => by simp [Op.equalIn, run_underlying hu']
      exact ⟨.bool false, by simp only [binOp]; simp [Op.equal, Op.maxDepth, h9 9999], .bool _⟩
    · rename_i e hu'
      cases hp
      have h9 : ∀ d : Nat, (Op.equalIn (d + 1) t (.pointer (some ⟨blk, o, none⟩)) (.pointer none)).run P w = .ok false w := fun d => by simp [Op.equalIn, run_underlying hu']
      exact ⟨.bool true, by simp only [binOp]; simp [Op.equal, Op.maxDepth, h9 9999], .bool _⟩
    · cases hp
  · -- nil and nil
    cases hv
    cases hu
    have hg : eqGuard op t xo yo (.pointer none) (.pointer none) = pure () := by cases op <;> rfl
    simp only [hg, Sem.run_bind, Sem.run_pure, Result.andThen_ok]
    split at hp
    · rename_i e hu'
      cases hp
      have h9 : ∀ d : Nat, (Op.equalIn (d + 1) t (.pointer none) (.pointer none)).run P w = .ok true w := fun d => by simp [Op.equalIn, run_underlying hu']
      exact ⟨.bool true, by simp only [binOp]; simp [Op.equal, Op.maxDepth, h9 9999], .bool _⟩
    · rename_i e hu'
      cases hp
      have h9 : ∀ d : Nat, (Op.equalIn (d + 1) t (.pointer none) (.pointer none)).run P w = .ok true w := fun d => by simp [Op.equalIn, run_underlying hu']
      exact ⟨.bool false, by simp only [binOp]; simp [Op.equal, Op.maxDepth, h9 9999], .bool _⟩
    · cases hp
  · -- a pointer and itself
    rename_i b o b' o'
    cases hv with
    | ptr _ blk _ hb =>
    cases hu with
    | ptr _ blk' _ hb' =>
    have hg : eqGuard op t xo yo (.pointer (some ⟨blk, o, none⟩)) (.pointer (some ⟨blk', o', none⟩)) = pure () := by cases op <;> rfl
    simp only [hg, Sem.run_bind, Sem.run_pure, Result.andThen_ok]
    split at hp
    · rename_i e hu'
      split at hp
      case isFalse => cases hp
      rename_i hc
      obtain ⟨rfl, rfl, hi⟩ := hc
      cases hp
      rw [hb] at hb'
      cases hb'
      obtain ⟨j, hj⟩ := Option.isSome_iff_exists.1 hi
      have h9 : ∀ d : Nat, (Op.equalIn (d + 1) t (.pointer (some ⟨blk, o, none⟩)) (.pointer (some ⟨blk, o, none⟩))).run P w = .ok true w := fun d => by simp [Op.equalIn, run_underlying hu', sizeOf, typeInfo, hj, run_sameAddr_same]
      exact ⟨.bool true, by simp only [binOp]; simp [Op.equal, Op.maxDepth, h9 9999], .bool _⟩
    · rename_i e hu'
      split at hp
      case isFalse => cases hp
      rename_i hc
      obtain ⟨rfl, rfl, hi⟩ := hc
      cases hp
      rw [hb] at hb'
      cases hb'
      obtain ⟨j, hj⟩ := Option.isSome_iff_exists.1 hi
      have h9 : ∀ d : Nat, (Op.equalIn (d + 1) t (.pointer (some ⟨blk, o, none⟩)) (.pointer (some ⟨blk, o, none⟩))).run P w = .ok true w := fun d => by simp [Op.equalIn, run_underlying hu', sizeOf, typeInfo, hj, run_sameAddr_same]
      exact ⟨.bool false, by simp only [binOp]; simp [Op.equal, Op.maxDepth, h9 9999], .bool _⟩
    · cases hp
  · rename_i tok nl cap z es tok' nl' cap' z' es'
    have key : ∀ e, P.underlying t = some (.slice e) → ((nl || nl') && (nl || !es.isEmpty) && (nl' || !es'.isEmpty)) = true → (Op.equal t v u).run P w = .ok (nl && nl') w := by
      intro e hu' hn
      show (Op.equalIn (9999 + 1) t v u).run P w = _
      generalize 9999 = D
      cases hv with
      | sl _ _ _ _ _ A c blk o f hc hcap hn1 ha hz hm hvs ht =>
      cases hu with
      | sl _ _ _ _ _ A' c' blk' o' f' hc' hcap' hn1' ha' hz' hm' hvs' ht' =>
      cases nl with
      | true =>
        obtain ⟨rfl, rfl, rfl⟩ := hn1 rfl
        cases nl' with
        | true => obtain ⟨rfl, rfl, rfl⟩ := hn1' rfl; simp [Op.equalIn, run_underlying hu']
        | false => obtain rfl := (ha' rfl).resolve_right (by rintro ⟨h0, _⟩; subst h0; simp at hn); simp [Op.equalIn, run_underlying hu']
      | false =>
        obtain rfl := (ha rfl).resolve_right (by rintro ⟨h0, _⟩; subst h0; simp at hn)
        have : nl' = true := by simp only [Bool.false_or, Bool.and_eq_true] at hn; exact hn.1.1
        subst this
        obtain ⟨rfl, rfl, rfl⟩ := hn1' rfl
        simp [Op.equalIn, run_underlying hu']
    have hg : eqGuard op t xo yo v u = pure () := by
      cases hv; cases hu
      cases op <;> rfl
    split at hp
    · rename_i e hu'
      simp only [Option.some.injEq, Prod.mk.injEq] at hp
      obtain ⟨hn, rfl⟩ := hp
      refine ⟨_, ?_, .bool (nl && nl')⟩
      have hk := key e hu' hn
      cases hv; cases hu
      simp only [hg, binOp, Sem.run_bind, Sem.run_pure, Result.andThen_ok, hk]
    · rename_i e hu'
      simp only [Option.some.injEq, Prod.mk.injEq] at hp
      obtain ⟨hn, rfl⟩ := hp
      refine ⟨_, ?_, .bool (!(nl && nl'))⟩
      have hk := key e hu' hn
      cases hv; cases hu
      simp only [hg, binOp, Sem.run_bind, Sem.run_pure, Result.andThen_ok, hk]
    · cases hp
  · cases hp

end
end Pm
end Go.Proofs.Ytacccimihgailaa
