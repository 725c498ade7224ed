/- Regions whose order is drawn: the end of the proof. -/
import Derived.Test.YtacccimihgailaaPmn
set_option linter.unusedVariables false
set_option linter.unusedSimpArgs false
namespace Go.Proofs.Ytacccimihgailaa
namespace Pm
open Go.RowKit

theorem countP_off (p p' : Nat → Bool) (i : Nat) (hi : p i = true) (hi' : p' i = false) (h : ∀ k, k ≠ i → p' k = p k) : ∀ n, i < n → (List.range n).countP p' + 1 = (List.range n).countP p
  | 0, hn => by omega
  | n + 1, hn => by
    rw [List.range_succ, List.countP_append, List.countP_append]
    by_cases c : i = n
    · subst c
      have : (List.range i).countP p' = (List.range i).countP p := by
        apply List.countP_congr
        intro k hk
        have : k < i := by simpa using hk
        rw [h k (by omega)]
      rw [this]
      simp [List.countP_cons, hi, hi']
    · have ih := countP_off p p' i hi hi' h n (by omega)
      have e : p' n = p n := h n (fun x => c x.symm)
      simp only [List.countP_cons, List.countP_nil, e]
      omega
theorem countP_from (m : Nat) : ∀ n, m ≤ n → (List.range n).countP (fun k => decide (m ≤ k)) = n - m
  | 0, h => by simp
  | n + 1, h => by
    rw [List.range_succ, List.countP_append]
    rcases Nat.lt_or_ge m (n + 1) with c | c
    · rw [countP_from m n (by omega)]
      simp [List.countP_cons, show m ≤ n by omega]; omega
    · have e : m = n + 1 := by omega
      subst e
      have : (List.range n).countP (fun k => decide (n + 1 ≤ k)) = 0 := by
        rw [List.countP_eq_zero]
        intro k hk
        have : k < n := by simpa using hk
        simp; omega
      rw [this]
      simp [List.countP_cons]

theorem tmpL_vals {ops : Array Oper} {vals vals' : Nat → PV} {L : Nat → Bool} {t0 : List PV} : ∀ (m : Nat), (∀ i, i < m → vals i = vals' i) → tmpL ops vals L t0 m = tmpL ops vals' L t0 m
  | 0, _ => rfl
  | m + 1, h => by unfold tmpL; rw [h m (by omega), tmpL_vals m (fun i hi => h i (by omega))]

section
variable {P : Program} {Z : Bas} {R : Rel} {s : PSt} {a : Act} {w : World}

theorem put_eq (s : PSt) (o : Oper) (v : PV) (t : List PV) : ({ s with t := t } : PSt).put o.dst v s.h = { s with t := match o.dst with | some d => Pm.put t d v | none => t } := rfl

theorem popsq_vals {ops : Array Oper} {K : PSt → Prop} {t0 : List PV} : ∀ (l : List Oper) (n : Nat) (vals0 : Nat → PV), (∀ k, k < l.length → ops[n + k]? = l[k]?) →
    popsq P ops K l { s with t := tmpL ops vals0 (fun _ => true) t0 n } → ∃ vals : Nat → PV, (∀ i, i < n → vals i = vals0 i) ∧
      (∀ k, k < l.length → ∀ o, ops[n + k]? = some o → Yields P ops { s with t := tmpL ops vals (fun _ => true) t0 (n + k) } o (vals (n + k))) ∧ K { s with t := tmpL ops vals (fun _ => true) t0 (n + l.length) }
  | [], n, vals0, _, hp => ⟨vals0, fun _ _ => rfl, fun k hk => by simp at hk, hp⟩
  | o :: l, n, vals0, hl, hp => by
    have ho : ops[n]? = some o := by have := hl 0 (by simp); simpa using this
    -- one step: a value, and what follows
    have step : ∃ v, Yields P ops { s with t := tmpL ops vals0 (fun _ => true) t0 n } o v ∧ popsq P ops K l (({ s with t := tmpL ops vals0 (fun _ => true) t0 n } : PSt).put o.dst v s.h) := by
      unfold popsq at hp
      unfold Yields
      cases hw : pwant ops { s with t := tmpL ops vals0 (fun _ => true) t0 n } o with
      | none => simp [hw] at hp
      | some b =>
        simp only [hw] at hp ⊢
        cases b with
        | false => exact ⟨_, rfl, hp⟩
        | true =>
          simp only at hp ⊢
          cases hc : ({ s with t := tmpL ops vals0 (fun _ => true) t0 n } : PSt).callee P o with
          | some fa =>
            obtain ⟨g, args⟩ := fa
            simp only [hc] at hp ⊢
            obtain ⟨h1, r, h2, h3⟩ := hp
            exact ⟨r, ⟨h1, h2⟩, h3⟩
          | none =>
            simp only [hc] at hp ⊢
            cases hq : popq P s.h o ({ s with t := tmpL ops vals0 (fun _ => true) t0 n } : PSt).ev with
            | none => simp [hq] at hp
            | some x =>
              obtain ⟨c, v⟩ := x
              simp only [hq] at hp
              obtain ⟨rfl, h3⟩ := hp
              exact ⟨v, rfl, h3⟩
    obtain ⟨v, hy, hrest⟩ := step
    have e0 : ∀ i, i < n → (fun i => if i = n then v else vals0 i) i = vals0 i := fun i hi => by simp only [show i ≠ n by omega, if_false]
    have e1 : tmpL ops (fun i => if i = n then v else vals0 i) (fun _ => true) t0 (n + 1) = match o.dst with | some d => Pm.put (tmpL ops vals0 (fun _ => true) t0 n) d v | none => tmpL ops vals0 (fun _ => true) t0 n := by
      rw [← tmpL_vals (L := fun _ => true) (t0 := t0) (ops := ops) (vals' := vals0) (vals := fun i => if i = n then v else vals0 i) n e0]
      show (if true then (match (ops[n]?).bind (·.dst) with | some d => Pm.put _ d ((fun i => if i = n then v else vals0 i) n) | none => _) else _) = _
      simp only [if_true, ho, Option.bind_some]
    rw [put_eq, ← e1] at hrest
    obtain ⟨vals, h1, h2, h3⟩ := popsq_vals l (n + 1) _ (fun k hk => by have := hl (k + 1) (by simpa using hk); rw [show n + 1 + k = n + (k + 1) by omega, this]; rfl) hrest
    refine ⟨vals, fun i hi => by rw [h1 i (by omega)]; exact e0 i hi, fun k hk o' ho' => ?_, ?_⟩
    · cases k with
      | zero =>
        rw [Nat.add_zero] at ho' ⊢
        rw [ho] at ho'
        cases ho'
        rw [tmpL_vals (vals' := vals0) n (fun i hi => by rw [h1 i (by omega)]; exact e0 i hi), h1 n (by omega)]
        simp only [if_true]; exact hy
      | succ k =>
        rw [show n + (k + 1) = n + 1 + k by omega] at ho' ⊢
        exact h2 k (by simpa using hk) o' ho'
    · rw [show n + (o :: l).length = n + 1 + l.length by simp; omega]
      exact h3

theorem FSim.congr (f : FSim Z R s a w) {t' : List PV} (h : ∀ i, get s.t i = get t' i) : FSim Z R { s with t := t' } a w where
  d := f.d
  n := f.n
  t i hi := by show VR R _ (get t' i); rw [← h i]; exact f.t i hi
  h := f.h
  b := f.b
  le := f.le
  dn := f.dn

theorem ready_iff {ops : Array Oper} {listed : Array Bool} {i : Nat} : i ∈ Region.ready .any ops listed ↔ i < ops.size ∧ listed.getD i true = false ∧ ∃ o, ops[i]? = some o ∧ ∀ e ∈ o.after.toList, ties e = true → listed.getD e.on false = true := by
  unfold Region.ready
  simp only [List.mem_filter, List.mem_range, Bool.and_eq_true, Bool.not_eq_true']
  constructor
  · rintro ⟨h1, h2, h3⟩
    refine ⟨h1, h2, ops[i], Array.getElem?_eq_getElem h1, fun e he ht => ?_⟩
    rw [Array.getElem?_eq_getElem h1] at h3
    simp only [Option.map_some, Option.getD_some] at h3
    have h4 := (Array.all_eq_true_iff_forall_mem.1 h3) e (by simpa using he)
    unfold ties at ht
    simpa [ht] using h4
  · rintro ⟨h1, h2, o, ho, h3⟩
    refine ⟨h1, h2, ?_⟩
    rw [ho]
    simp only [Option.map_some, Option.getD_some]
    refine Array.all_eq_true_iff_forall_mem.2 (fun e he => ?_)
    cases ht : Region.binds .any e with
    | false => rfl
    | true => simp only [Bool.not_true, Bool.false_or]; exact h3 e (by simpa using he) ht

theorem edges_lt {ops : Array Oper} (h : edgesOk ops = true) {i : Nat} {o : Oper} (ho : ops[i]? = some o) {e : Edge} (he : e ∈ o.after.toList) (ht : ties e = true) : e.on < i := by
  have hi : i < ops.size := (Array.getElem?_eq_some_iff.1 ho).1
  have h1 := List.all_eq_true.1 h i (by simpa using hi)
  rw [ho] at h1
  simp only [Option.map_some, Option.getD_some] at h1
  have h2 := List.all_eq_true.1 h1 e he
  simpa [ht] using h2

theorem getD_set {l : Array Bool} {i k : Nat} {d : Bool} (hi : i < l.size) : (l.setIfInBounds i true).getD k d = if k = i then true else l.getD k d := by
  simp only [Array.getD_eq_getD_getElem?]
  by_cases c : k = i
  · subst c; simp [hi]
  · rw [Array.getElem?_setIfInBounds_ne (fun e => c e.symm), if_neg c]

theorem wpOp_of_pop {ops : Array Oper} {i : Nat} {o : Oper} {K : PSt → Prop} {next : Act → World → Prop} {Q : Exit → Act → World → Prop} (hi : ops[i]? = some o) (f : FSim Z R s a w) {rest : List Oper} (hp : pops P ops K (o :: rest) s)
    (hk : ∀ R' s' a' w', FSim Z R' s' a' w' → pops P ops K rest s' → next a' w') : wpOp P ops Q i next a w := by
  unfold wpOp
  simp only [hi]
  unfold pops at hp
  cases hw : pwant ops s o with
  | none => simp [hw] at hp
  | some b =>
    rw [pwant_sound f hw]
    cases b with
    | true =>
      simp only [hw] at hp
      simp only [if_true]
      exact .inl (pop1_sound f hp hk)
    | false =>
      simp only [hw] at hp
      simp only [Bool.false_eq_true, if_false]
      exact hk _ _ _ _ (f.keep o.dst (.raw undef)) hp

theorem phaseB {ops : Array Oper} {K : PSt → Prop} {Q : Exit → Act → World → Prop} (hE : edgesOk ops = true) (hk : ∀ R' s' a' w', FSim Z R' s' a' w' → K s' → Q .normal a' w') :
    ∀ (l : List Oper) (i fuel : Nat) (listed : Array Bool) {R : Rel} {s : PSt} {a : Act} {w : World}, i + l.length = ops.size → (∀ k, l[k]? = ops[i + k]?) → l.length ≤ fuel → listed.size = ops.size → (∀ k, k < ops.size → listed.getD k false = decide (k < i)) →
      (∀ k, i ≤ k → k < ops.size → ∀ j, j < k → Reach ops j k) → FSim Z R s a w → pops P ops K l s → wpAny P .any ops Q fuel listed a w
  | l, i, fuel, listed, R, s, a, w, hn, hl, hfu, hsz, hL, hfull, f, hp => by
    have hL' : ∀ k, k < ops.size → listed.getD k true = decide (k < i) := by
      intro k hkk
      rw [← hL k hkk]
      simp only [Array.getD_eq_getD_getElem?, Array.getElem?_eq_getElem (show k < listed.size by omega), Option.getD_some]
    have hready : ∀ k, k ∈ Region.ready .any ops listed → k = i := by
      intro k hkr
      obtain ⟨h1, h2, o, ho, h3⟩ := ready_iff.1 hkr
      rw [hL' k h1] at h2
      have hge : i ≤ k := by simpa using h2
      rcases Nat.lt_or_ge i k with c | c
      · have hcl : Closed ops (fun j => listed.getD j false = true) := by
          intro j o' hj ho' e he ht
          have hjn : j < ops.size := (Array.getElem?_eq_some_iff.1 ho').1
          rw [hL j hjn] at hj
          have hej := edges_lt hE ho' he ht
          have : j < i := by simpa using hj
          rw [hL e.on (by omega)]
          simp; omega
        have := hcl.reach (hfull k hge h1 i c) (fun o' ho' e he ht => by rw [ho] at ho'; cases ho'; exact h3 e he ht)
        rw [hL i (by omega)] at this
        simp at this
      · omega
    cases l with
    | nil =>
      have hnil : Region.ready .any ops listed = [] := by
        rw [List.eq_nil_iff_forall_not_mem]
        intro k hkr
        have h1 := (ready_iff.1 hkr).1
        have h2 := hready k hkr
        simp at hn
        omega
      have hq : Q .normal a w := hk _ _ _ _ f hp
      cases fuel with
      | zero => exact ⟨hnil, hq⟩
      | succ fuel => exact ⟨fun _ => hq, fun k hkr => by rw [hnil] at hkr; cases hkr⟩
    | cons o l =>
      have hin : i < ops.size := by simp at hn; omega
      have ho : ops[i]? = some o := by have := hl 0; simpa using this.symm
      cases fuel with
      | zero => simp at hfu
      | succ fuel =>
        have hi : i ∈ Region.ready .any ops listed := by
          refine ready_iff.2 ⟨hin, by rw [hL' i hin]; simp, o, ho, fun e he ht => ?_⟩
          have := edges_lt hE ho he ht
          rw [hL e.on (by omega)]; simpa using this
        refine ⟨fun h => (by rw [h] at hi; cases hi), fun k hkr => ?_⟩
        rw [hready k hkr]
        refine wpOp_of_pop ho f hp (fun R' s' a' w' f' hp' => ?_)
        refine phaseB hE hk l (i + 1) fuel _ (by simp at hn; omega) (fun k => by have := hl (k + 1); rw [show i + 1 + k = i + (k + 1) by omega, ← this]; rfl) (by simpa using hfu) (by simpa using hsz) (fun k hkk => ?_) (fun k h1 h2 j hj => hfull k (by omega) h2 j hj) f' hp'
        rw [getD_set (by omega)]
        by_cases c : k = i
        · rw [if_pos c, c]; simp
        · rw [if_neg c, hL k hkk]
          rw [decide_eq_decide]; omega
  termination_by l => l.length

theorem FSim.drew (f : FSim Z R s a w) : FSim Z R s a { w with drawn := w.drawn + 1 } where
  d := f.d
  n := f.n
  t := f.t
  h := f.h.keep (fun _ _ => rfl)
  b := f.b.trans ⟨rfl, rfl, rfl, Nat.le_refl _, fun _ _ => rfl⟩
  le := f.le
  dn := f.dn

theorem phaseA {ops : Array Oper} {K : PSt → Prop} {Q : Exit → Act → World → Prop} {vals : Nat → PV} {m : Nat} {t0 : List PV} (hd : drawOk ops m = true) (hk : ∀ R' s' a' w', FSim Z R' s' a' w' → K s' → Q .normal a' w')
    (hy : ∀ k, k < m → ∀ o, ops[k]? = some o → Yields P ops { s with t := tmpL ops vals (fun _ => true) t0 k } o (vals k)) (hp : pops P ops K (ops.toList.drop m) { s with t := tmpL ops vals (fun _ => true) t0 m }) :
    ∀ (fuel : Nat) (listed : Array Bool) {R : Rel} {a : Act} {w : World}, listed.size = ops.size → (∀ k, k < ops.size → listed.getD k false = true → k < m) → Closed ops (fun k => listed.getD k false = true) →
      (List.range ops.size).countP (fun k => !listed.getD k false) ≤ fuel → FSim Z R { s with t := tmpL ops vals (fun k => listed.getD k false) t0 m } a w → wpAny P .any ops Q fuel listed a w := by
  have hd0 := hd
  unfold drawOk at hd
  simp only [Bool.and_eq_true, decide_eq_true_eq] at hd
  obtain ⟨⟨⟨hE, hmn⟩, hap⟩, htail⟩ := hd
  have hfull : ∀ k, m ≤ k → k < ops.size → ∀ j, j < k → Reach ops j k := by
    intro k h1 h2 j hj
    have h3 := List.all_eq_true.1 htail k (by simpa using h2)
    simp only [Bool.or_eq_true, decide_eq_true_eq, show ¬ k < m by omega, false_or] at h3
    exact reach_of_bit (List.all_eq_true.1 h3 j (by simpa using hj))
  have hapart : ∀ i j, i < m → j < m → i ≠ j → ∀ o d, ops[i]? = some o → (ops[j]?).bind (·.dst) = some d → d ∈ looks ops o → if j < i then Reach ops j i else Reach ops i j := by
    intro i j hi hj hne o d ho hdj hmem
    have h1 := List.all_eq_true.1 (List.all_eq_true.1 hap i (by simpa using hi)) j (by simpa using hj)
    simp only [Bool.or_eq_true, beq_iff_eq, hne, false_or] at h1
    unfold apartOk at h1
    simp only [hdj, ho, Option.map_some, Option.getD_some, Bool.or_eq_true, Bool.not_eq_true'] at h1
    rcases h1 with h1 | h1
    · have : (looks ops o).contains d = true := by simpa using hmem
      rw [this] at h1; cases h1
    · split
      · rename_i c
        simp only [c, if_true] at h1
        exact reach_of_bit h1
      · rename_i c
        simp only [c, if_false] at h1
        exact reach_of_bit h1
  intro fuel
  induction fuel with
  | zero =>
    intro listed R a w hsz hLm hcl hcount f
    have hall : ∀ k, k < ops.size → listed.getD k false = true := by
      intro k hkk
      have h0 : (List.range ops.size).countP (fun k => !listed.getD k false) = 0 := by omega
      have := List.countP_eq_zero.1 h0 k (by simpa using hkk)
      simpa using this
    have hm : m = ops.size := by
      rcases Nat.lt_or_ge m ops.size with c | c
      · exact absurd (hLm m c (hall m c)) (Nat.lt_irrefl _)
      · omega
    refine phaseB hE hk [] m 0 listed (by simpa using hm) (fun k => by simp; omega) (Nat.le_refl _) hsz (fun k hkk => by rw [hall k hkk]; simp; omega) hfull f ?_
    have : ops.toList.drop m = [] := by simp [hm]
    rw [this] at hp
    rw [tmpL_same (L' := fun _ => true) m (fun i hi => hall i (by omega))]
    exact hp
  | succ fuel ih =>
    intro listed R a w hsz hLm hcl hcount f
    by_cases hD : ∀ k, k < m → listed.getD k false = true
    · have hL : ∀ k, k < ops.size → listed.getD k false = decide (k < m) := by
        intro k hkk
        by_cases c : k < m
        · rw [hD k c]; simp [c]
        · cases h : listed.getD k false with
          | false => simp [c]
          | true => exact absurd (hLm k hkk h) c
      refine phaseB hE hk (ops.toList.drop m) m (fuel + 1) listed (by simp; omega) (fun k => by simp) ?_ hsz hL hfull f ?_
      · have : (List.range ops.size).countP (fun k => !listed.getD k false) = (List.range ops.size).countP (fun k => decide (m ≤ k)) := by
          apply List.countP_congr
          intro k hkk
          rw [hL k (by simpa using hkk)]
          simp
        rw [this, countP_from m _ hmn] at hcount
        simpa using hcount
      · rw [tmpL_same (L' := fun _ => true) m (fun i hi => hD i hi)]
        exact hp
    · -- some of the first part are left
      obtain ⟨k0, hk0⟩ := Classical.not_forall.1 hD
      have hk0m : k0 < m := by
        by_cases c : k0 < m
        · exact c
        · exact absurd (fun h => absurd h c) hk0
      have hk0f : listed.getD k0 false = false := by
        cases h : listed.getD k0 false with
        | false => rfl
        | true => exact absurd (fun _ => h) hk0
      have hgt : ∀ k, k < ops.size → listed.getD k true = listed.getD k false := by
        intro k hkk
        simp only [Array.getD_eq_getD_getElem?, Array.getElem?_eq_getElem (show k < listed.size by omega), Option.getD_some]
      have hsome : Region.ready .any ops listed ≠ [] := by
        -- the least one that is left
        have : ∀ n, (∃ k, k < n ∧ k < ops.size ∧ listed.getD k false = false) → ∃ k, k < ops.size ∧ listed.getD k false = false ∧ ∀ j, j < k → listed.getD j false = true := by
          intro n
          induction n with
          | zero => rintro ⟨k, h1, _⟩; omega
          | succ n ihn =>
            rintro ⟨k, h1, h2, h3⟩
            by_cases c : ∃ k, k < n ∧ k < ops.size ∧ listed.getD k false = false
            · exact ihn c
            · refine ⟨k, h2, h3, fun j hj => ?_⟩
              cases hx : listed.getD j false with
              | true => rfl
              | false => exact absurd ⟨j, by omega, by omega, hx⟩ c
        obtain ⟨k, h1, h2, h3⟩ := this (k0 + 1) ⟨k0, by omega, by omega, hk0f⟩
        intro hnil
        have : k ∈ Region.ready .any ops listed := ready_iff.2 ⟨h1, by rw [hgt k h1]; exact h2, ops[k], Array.getElem?_eq_getElem h1, fun e he ht => h3 _ (edges_lt hE (Array.getElem?_eq_getElem h1) he ht)⟩
        rw [hnil] at this; cases this
      refine ⟨fun h => absurd h hsome, fun i hi => ?_⟩
      obtain ⟨hin, hit, o, ho, hpre⟩ := ready_iff.1 hi
      rw [hgt i hin] at hit
      have hpre' : ∀ o', ops[i]? = some o' → ∀ e ∈ o'.after.toList, ties e = true → listed.getD e.on false = true := fun o' ho' e he ht => by
        rw [ho] at ho'; cases ho'; exact hpre e he ht
      have him : i < m := by
        rcases Nat.lt_or_ge i m with c | c
        · exact c
        · have := hcl.reach (hfull i c hin k0 (by omega)) hpre'
          rw [hk0f] at this; cases this
      -- what the operation looks at is as in the text's order
      have hlook : ∀ x ∈ looks ops o, ∀ j, j < m → j ≠ i → (ops[j]?).bind (·.dst) = some x → decide (j < i) = listed.getD j false := by
        intro x hx j hj hne hdj
        have h1 := hapart i j him hj (fun e => hne e.symm) o x ho hdj hx
        by_cases c : j < i
        · simp only [c, if_true] at h1
          rw [hcl.reach h1 hpre']; simp [c]
        · simp only [c, if_false] at h1
          cases hx' : listed.getD j false with
          | false => simp [c]
          | true =>
            have := hcl.reach h1 (fun o' ho' e he ht => hcl j o' hx' ho' e he ht)
            rw [hit] at this; cases this
      have hyi : Yields P ops { s with t := tmpL ops vals (fun k => listed.getD k false) t0 m } o (vals i) := by
        refine yields_congr (s := s) (t := tmpL ops vals (fun _ => true) t0 i) (fun x hx => ?_) (hy i him o ho)
        have e1 : tmpL ops vals (fun _ => true) t0 i = tmpL ops vals (fun k => decide (k < i)) t0 m := by
          rw [tmpL_stop (i := i) m (by omega) (fun k h1 h2 => by simp; omega)]
          exact tmpL_same i (fun k hkk => by simp [hkk])
        rw [e1]
        refine tmpL_congr m (fun j hj hdj => ?_)
        by_cases c : j = i
        · subst c; simp [hit]
        · exact hlook x (List.mem_append_left _ hx) j hj c hdj
      refine yields_sound ho f hyi (fun R' u w' f' => ?_)
      refine ih _ (by simpa using hsz) (fun k hkk hL => ?_) (fun k o' hL ho' e he ht => ?_) ?_ (R := R') ?_
      · rw [getD_set (by omega)] at hL
        by_cases c : k = i
        · omega
        · rw [if_neg c] at hL; exact hLm k hkk hL
      · have hL : (listed.setIfInBounds i true).getD k false = true := hL
        show (listed.setIfInBounds i true).getD e.on false = true
        rw [getD_set (by omega)] at hL ⊢
        by_cases c : k = i
        · subst c
          have := hpre' o' ho' e he ht
          rw [this]; simp
        · rw [if_neg c] at hL
          have := hcl k o' hL ho' e he ht
          rw [this]; simp
      · have := countP_off (fun k => !listed.getD k false) (fun k => !(listed.setIfInBounds i true).getD k false) i (by simp [hit]) (by rw [getD_set (by omega)]; simp) (fun k hkk => by rw [getD_set (by omega), if_neg hkk]) ops.size hin
        omega
      · have hg : ∀ x, get (({ s with t := tmpL ops vals (fun k => listed.getD k false) t0 m } : PSt).put o.dst (vals i) s.h).t x = get (tmpL ops vals (fun k => (listed.setIfInBounds i true).getD k false) t0 m) x := by
          intro x
          have hoth : (∀ d, o.dst = some d → d ≠ x) → get (tmpL ops vals (fun k => listed.getD k false) t0 m) x = get (tmpL ops vals (fun k => (listed.setIfInBounds i true).getD k false) t0 m) x := by
            intro hne
            refine tmpL_congr m (fun j hj hdj => ?_)
            rw [getD_set (by omega)]
            by_cases c : j = i
            · subst c
              rw [ho] at hdj
              exact absurd rfl (hne x hdj)
            · rw [if_neg c]
          cases hdst : o.dst with
          | none => exact hoth (fun d hdd => by rw [hdst] at hdd; cases hdd)
          | some d =>
            by_cases c : d = x
            · subst c
              show get (Pm.put _ d (vals i)) d = _
              rw [get_put_same]
              have e1 : get (tmpL ops vals (fun k => (listed.setIfInBounds i true).getD k false) t0 m) d = get (tmpL ops vals (fun k => (listed.setIfInBounds i true).getD k false && decide (k ≤ i)) t0 m) d := by
                refine tmpL_congr m (fun j hj hdj => ?_)
                by_cases cj : j ≤ i
                · simp [cj]
                · have h1 := hlook d (List.mem_append_right _ (by simp [hdst])) j hj (by omega) hdj
                  rw [getD_set (by omega), if_neg (by omega), ← h1]
                  simp; omega
              rw [e1, tmpL_stop (i := i + 1) m (by omega) (fun k h1 h2 => by simp; omega)]
              unfold tmpL
              have e2 : ((listed.setIfInBounds i true).getD i false && decide (i ≤ i)) = true := by rw [getD_set (by omega)]; simp
              simp only [e2, if_true, ho, Option.bind_some, hdst]
              rw [get_put_same]
            · show get (Pm.put _ d (vals i)) x = _
              rw [get_put_ne _ _ _ _ c]
              exact hoth (fun d' hdd => by rw [hdst] at hdd; cases hdd; exact c)
        exact f'.congr hg

theorem pdraw_sound {ops : Array Oper} {id : Nat} {K : PSt → Prop} {Q : Exit → Act → World → Prop} (f : FSim Z R s a w) (hp : pdraw P ops K s) (hk : ∀ R' s' a' w', FSim Z R' s' a' w' → K s' → Q .normal a' w') :
    (Code.region id ops true).wp P Q a w := by
  obtain ⟨hm, hd, hq⟩ := hp
  generalize dsplit ops = m at hd hq
  have hmn : m ≤ ops.size := by
    have := hd
    unfold drawOk at this
    simp only [Bool.and_eq_true, decide_eq_true_eq] at this
    exact this.1.1.2
  obtain ⟨vals, _, h2, h3⟩ := popsq_vals (s := s) (t0 := s.t) (ops.toList.take m) 0 (fun _ => .any) (fun k hkk => by
    simp only [List.length_take] at hkk
    rw [Nat.zero_add, List.getElem?_take, if_pos (by omega)]; simp) hq
  simp only [Nat.zero_add, List.length_take] at h2 h3
  have hlen : min m ops.toList.length = m := by simp; omega
  rw [hlen] at h2 h3
  refine wp_region_any hm (phaseA (s := s) (vals := vals) (m := m) (t0 := s.t) hd hk h2 h3 _ _ (by simp) (fun k hkk h => ?_) (fun k o h ho => ?_) ?_ (R := R) ?_)
  · simp [Array.getD_eq_getD_getElem?, hkk] at h
  · have hkn : k < ops.size := (Array.getElem?_eq_some_iff.1 ho).1
    simp [Array.getD_eq_getD_getElem?, hkn] at h
  · have : (List.range ops.size).countP (fun k => !(Array.replicate ops.size false).getD k false) ≤ (List.range ops.size).length := List.countP_le_length
    simpa using this
  · have e : tmpL ops vals (fun k => (Array.replicate ops.size false).getD k false) s.t m = s.t := by
      rw [tmpL_stop (i := 0) m (by omega) (fun k _ hkk => by simp [Array.getD_eq_getD_getElem?, show k < ops.size by omega])]
      rfl
    rw [e]
    exact f.drew

end
end Pm
end Go.Proofs.Ytacccimihgailaa
