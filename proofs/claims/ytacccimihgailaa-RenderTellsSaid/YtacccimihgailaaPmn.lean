/- Regions whose order is drawn: the proof. -/
import Derived.Test.YtacccimihgailaaPmm
set_option linter.unusedVariables false
set_option linter.unusedSimpArgs false
namespace Go.Proofs.Ytacccimihgailaa
namespace Pm
open Go.RowKit

inductive Reach (ops : Array Oper) : Nat → Nat → Prop
  | one {i : Nat} {o : Oper} {e : Edge} (ho : ops[i]? = some o) (he : e ∈ o.after.toList) (ht : ties e = true) : Reach ops e.on i
  | more {i j : Nat} {o : Oper} {e : Edge} (ho : ops[i]? = some o) (he : e ∈ o.after.toList) (ht : ties e = true) (h : Reach ops j e.on) : Reach ops j i

theorem fold_bits (acc : List Nat) : ∀ (l : List Edge) (b j : Nat), (l.foldl (fun b e => if ties e then b ||| 2 ^ e.on ||| acc.getD e.on 0 else b) b).testBit j = true →
    b.testBit j = true ∨ ∃ e ∈ l, ties e = true ∧ (e.on = j ∨ (acc.getD e.on 0).testBit j = true)
  | [], b, j, h => .inl h
  | e :: l, b, j, h => by
    rw [List.foldl_cons] at h
    rcases fold_bits acc l _ j h with h1 | ⟨e', h1, h2, h3⟩
    · by_cases ht : ties e = true
      · simp only [ht, if_true, Nat.testBit_or, Bool.or_eq_true] at h1
        rcases h1 with (h1 | h1) | h1
        · exact .inl h1
        · refine .inr ⟨e, List.mem_cons_self, ht, .inl ?_⟩
          rw [Nat.testBit_two_pow] at h1
          simpa using h1
        · exact .inr ⟨e, List.mem_cons_self, ht, .inr h1⟩
      · simp only [ht] at h1
        exact .inl h1
    · exact .inr ⟨e', List.mem_cons_of_mem _ h1, h2, h3⟩

theorem befs_sound (ops : Array Oper) : ∀ (l : List Oper) (acc : List Nat) (n : Nat), acc.length = n → (∀ k, l[k]? = ops[n + k]?) →
    (∀ i j, (acc.getD i 0).testBit j = true → Reach ops j i) → ∀ i j, ((befs l acc).getD i 0).testBit j = true → Reach ops j i
  | [], acc, n, _, _, h, i, j, hb => h i j hb
  | o :: r, acc, n, hn, hl, h, i, j, hb => by
    unfold befs at hb
    refine befs_sound ops r _ (n + 1) (by simp [hn]) (fun k => by rw [← List.getElem?_cons_succ (a := o), hl (k + 1)]; congr 1; omega) (fun i j hb => ?_) i j hb
    rcases Nat.lt_or_ge i acc.length with hlt | hge
    · rw [List.getD_eq_getElem?_getD, List.getElem?_append_left hlt, ← List.getD_eq_getElem?_getD] at hb
      exact h i j hb
    · by_cases hi : i = acc.length
      · subst hi
        rw [List.getD_eq_getElem?_getD, List.getElem?_append_right (Nat.le_refl _)] at hb
        simp only [Nat.sub_self, List.getElem?_cons_zero, Option.getD_some] at hb
        have ho : ops[acc.length]? = some o := by
          have := hl 0
          simp only [List.getElem?_cons_zero, Nat.add_zero] at this
          rw [hn]; exact this.symm
        rcases fold_bits acc _ _ _ hb with h1 | ⟨e, h1, h2, h3⟩
        · simp at h1
        · rcases h3 with rfl | h3
          · exact .one ho h1 h2
          · exact .more ho h1 h2 (h _ _ h3)
      · rw [List.getD_eq_getElem?_getD, List.getElem?_eq_none (by simp; omega)] at hb
        simp at hb

theorem reach_of_bit {ops : Array Oper} {i j : Nat} (hb : ((befs ops.toList []).getD i 0).testBit j = true) : Reach ops j i :=
  befs_sound ops ops.toList [] 0 rfl (fun k => by simp) (fun i j h => by simp at h) i j hb

/-- What has been done holds all that it had to wait for. -/
def Closed (ops : Array Oper) (L : Nat → Prop) : Prop := ∀ (k : Nat) (o : Oper), L k → ops[k]? = some o → ∀ e ∈ o.after.toList, ties e = true → L e.on
theorem Closed.reach {ops : Array Oper} {L : Nat → Prop} (hc : Closed ops L) {i j : Nat} (h : Reach ops j i) (hi : ∀ o, ops[i]? = some o → ∀ e ∈ o.after.toList, ties e = true → L e.on) : L j := by
  induction h with
  | one ho he ht => exact hi _ ho _ he ht
  | more ho he ht h ih => exact ih (fun o ho' e he' ht' => hc _ o (hi _ ho _ he ht) ho' e he' ht')

/-- The temporaries, where just the operations of L have yielded. -/
def tmpL (ops : Array Oper) (vals : Nat → PV) (L : Nat → Bool) (t0 : List PV) : Nat → List PV
  | 0 => t0
  | i + 1 => if L i then (match (ops[i]?).bind (·.dst) with | some d => Pm.put (tmpL ops vals L t0 i) d (vals i) | none => tmpL ops vals L t0 i) else tmpL ops vals L t0 i
theorem tmpL_congr {ops : Array Oper} {vals : Nat → PV} {L L' : Nat → Bool} {t0 : List PV} {t : Nat} : ∀ (m : Nat), (∀ i, i < m → (ops[i]?).bind (·.dst) = some t → L i = L' i) → get (tmpL ops vals L t0 m) t = get (tmpL ops vals L' t0 m) t
  | 0, _ => rfl
  | m + 1, h => by
    have ih := tmpL_congr (vals := vals) (t0 := t0) m (fun i hi => h i (by omega))
    unfold tmpL
    cases hd : (ops[m]?).bind (·.dst) with
    | none => simp only [ite_self]; exact ih
    | some d =>
      by_cases c : d = t
      · subst c
        rw [h m (by omega) hd]
        split
        · simp only [get_put_same]
        · exact ih
      · have e1 : ∀ (x : List PV) (b : Bool), get (if b then Pm.put x d (vals m) else x) t = get x t := by
          intro x b
          cases b
          · rfl
          · exact get_put_ne _ _ _ _ c
        simp only [e1]; exact ih
theorem tmpL_same {ops : Array Oper} {vals : Nat → PV} {L L' : Nat → Bool} {t0 : List PV} : ∀ (m : Nat), (∀ i, i < m → L i = L' i) → tmpL ops vals L t0 m = tmpL ops vals L' t0 m
  | 0, _ => rfl
  | m + 1, h => by unfold tmpL; rw [h m (by omega), tmpL_same m (fun i hi => h i (by omega))]
theorem tmpL_stop {ops : Array Oper} {vals : Nat → PV} {L : Nat → Bool} {t0 : List PV} {i : Nat} : ∀ (m : Nat), i ≤ m → (∀ k, i ≤ k → k < m → L k = false) → tmpL ops vals L t0 m = tmpL ops vals L t0 i
  | 0, h, _ => by rw [show i = 0 by omega]
  | m + 1, h, hf => by
    rcases Nat.lt_or_ge m i with c | c
    · rw [show i = m + 1 by omega]
    · unfold tmpL
      rw [hf m c (by omega)]
      simp only [Bool.false_eq_true, if_false]
      rw [tmpL_stop m c (fun k h1 h2 => hf k h1 (by omega))]
      cases i <;> rfl

section
variable {P : Program} {Z : Bas} {R : Rel} {s : PSt} {a : Act} {w : World}

theorem yields_sound {ops : Array Oper} {o : Oper} {v : PV} {i : Nat} {next : Act → World → Prop} {Q : Exit → Act → World → Prop} (hi : ops[i]? = some o) (f : FSim Z R s a w) (hy : Yields P ops s o v)
    (hk : ∀ R' u w', FSim Z R' (s.put o.dst v s.h) (a.put o.dst u) w' → next (a.put o.dst u) w') : wpOp P ops Q i next a w := by
  unfold wpOp
  simp only [hi]
  unfold Yields at hy
  cases hw : pwant ops s o with
  | none => simp [hw] at hy
  | some b =>
    rw [pwant_sound f hw]
    cases b with
    | false =>
      simp only [hw] at hy
      subst hy
      simp only [Bool.false_eq_true, if_false]
      exact hk _ _ _ (f.keep o.dst (.raw undef))
    | true =>
      simp only [hw] at hy
      simp only [if_true]
      left
      cases hc : s.callee P o with
      | some fa =>
        obtain ⟨g, args⟩ := fa
        simp only [hc] at hy
        -- the state behind it is just that
        have hB : Z.B0 ≤ w.heap.size := Nat.le_trans Z.hB f.b.size
        obtain ⟨c, x, hop, hcx, hx, rfl⟩ := callee_op hc
        have hvx := f.ev x
        rw [hx] at hvx
        have hex : a.eval x = .func (.func g) #[] #[] := by
          generalize a.eval x = v at hvx
          cases hvx; rfl
        have hrun : (execOp a.eval o).run P w = .ok (.enter g (c.args.map a.eval)) w := by
          have hcall := hy.1
          unfold callable at hcall
          cases hg : P.funcs[g]? with
          | none => simp [hg] at hcall
          | some fn =>
            simp only [hg, Bool.and_eq_true, Bool.not_eq_true', Option.isSome_iff_ne_none, ne_eq] at hcall
            have h1' : ¬ fn.name = "runtime.NumGoroutine" := by simpa using hcall.1
            have h2 : ¬ fn.body = none := hcall.2
            simp [execOp, hop, resolve, hcx, hex, Deferred.ofValue, invoke, callFunc, hg, h1', h2]
        unfold Oper.wp
        rw [hrun, Oper.upon_enter]
        refine (hy.2 Z.B0 R (c.args.map a.eval) w hB f.h (by simp) (fun i v p hi hj => ?_)).mono ?_
        · simp only [Array.getElem?_map] at hi
          simp only [List.getElem?_map] at hj
          cases hq : c.args[i]? with
          | none => simp [hq] at hi
          | some y =>
            have hq' : c.args.toList[i]? = some y := by simpa using hq
            simp [hq] at hi
            simp [hq'] at hj
            subst hi; subst hj
            exact f.ev y
        · rintro e w' ⟨v, rfl, R', g1, g2, g3, g4, g5⟩
          exact hk _ _ _ (f.step g1 g3 g4 g5 o.dst g2)
      | none =>
        simp only [hc] at hy
        obtain ⟨nx, u, w', hrun, hnx, R', g1, g2, g3, g4, g5⟩ := popq_sound f.h (Nat.le_trans Z.hB f.b.size) f.ev hy
        have := hk _ _ _ (f.step g1 g3 g4 g5 o.dst g2)
        unfold Oper.wp
        rw [hrun]
        rcases hnx with rfl | ⟨rfl, rfl⟩
        · exact this
        · exact this

theorem popv_congr {h : Hp} {o : Oper} {ev ev' : Operand → PV} (he : ∀ x ∈ o.op.operands, ev x = ev' x) : popv P h o ev = popv P h o ev' := by
  have hparts : ∀ (ps : Array (Nat × Operand)), (∀ x ∈ (ps.toList.map (·.2)).toArray, ev x = ev' x) → (ps.toList.map fun (x : Nat × Operand) => (x.1, ev x.2)) = ps.toList.map fun (x : Nat × Operand) => (x.1, ev' x.2) := by
    intro ps hx
    apply List.map_congr_left
    intro q hq
    rw [hx q.2 (by simp only [List.mem_toArray, List.mem_map]; exact ⟨q, hq, rfl⟩)]
  have hopt : ∀ (x : Option Operand), (∀ y ∈ x.toArray, ev y = ev' y) → x.map ev = x.map ev' := by
    intro x hx
    cases x with
    | none => rfl
    | some y => rw [Option.map_some, Option.map_some, hx y (by simp)]
  unfold popv
  cases hop : o.op <;> simp only [hop, Op.operands] at he ⊢
  case move x => rw [he x (by simp)]
  case assign x => rw [he x (by simp)]
  case pick c a b => rw [he c (by simp), he a (by simp), he b (by simp)]
  case box t x => rw [he x (by simp)]
  case build t ps => rw [hparts ps he]
  case buildSlice t n ps => rw [hparts ps he]
  case load t x => rw [he x (by simp)]
  case store t x y => rw [he x (by simp), he y (by simp)]
  case nilCheck x => rw [he x (by simp)]
  case binOp op t x y yt => rw [he x (by simp), he y (by simp)]
  case unOp op t x => rw [he x (by simp)]
  case convert a b x => rw [he x (by simp)]
  case slice t x lo hi mx =>
    rw [he x (by simp), hopt lo (fun y hy => he y (by simp [hy])), hopt hi (fun y hy => he y (by simp [hy])), hopt mx (fun y hy => he y (by simp [hy]))]
  case fieldAddr t x k => rw [he x (by simp)]
  case field t x k => rw [he x (by simp)]
  case indexAddr t x i => rw [he x (by simp), he i (by simp)]
  case index t x i => rw [he x (by simp), he i (by simp)]
  case extract x i => rw [he x (by simp)]
  case call c =>
    have hm : c.args.toList.map ev = c.args.toList.map ev' := by
      apply List.map_congr_left
      intro y hy
      refine he y ?_
      unfold Call.operands
      simp only [Array.mem_append]
      exact .inr (by simpa using hy)
    cases hc : c.callee with
    | builtin b => simp only [hm]
    | value f =>
      have hf : ev f = ev' f := he f (by unfold Call.operands; rw [hc]; simp)
      simp only [hm, hf]
    | invoke r n => rfl

theorem popq_congr {h : Hp} {o : Oper} {ev ev' : Operand → PV} (he : ∀ x ∈ o.op.operands, ev x = ev' x) : popq P h o ev = popq P h o ev' := by
  unfold popq
  rw [popv_congr he]

theorem ev_congr {t t' : List PV} {x : Operand} (h : ∀ k, x = .tmp k → get t k = get t' k) : ({ s with t := t } : PSt).ev x = ({ s with t := t' } : PSt).ev x := by
  cases x with
  | tmp k => simp only [PSt.ev]; rw [h k rfl]
  | _ => rfl

/-- An operation looks at its operands, and at what its guard yielded, alone. -/
theorem yields_congr {ops : Array Oper} {o : Oper} {v : PV} {t t' : List PV} (h : ∀ x ∈ o.looksAt ops, get t x = get t' x) (hy : Yields P ops { s with t := t } o v) : Yields P ops { s with t := t' } o v := by
  have he : ∀ x ∈ o.op.operands, ({ s with t := t } : PSt).ev x = ({ s with t := t' } : PSt).ev x := by
    intro x hx
    refine ev_congr (fun k hk => h k ?_)
    subst hk
    unfold Oper.looksAt
    refine List.mem_append_left _ (List.mem_filterMap.2 ⟨.tmp k, by simpa using hx, rfl⟩)
  have hw : pwant ops { s with t := t } o = pwant ops { s with t := t' } o := by
    unfold pwant
    cases hg : o.guard with
    | none => rfl
    | some g =>
      obtain ⟨j, b⟩ := g
      simp only
      congr 1
      unfold pyield
      cases hd : (ops[j]?).bind (·.dst) with
      | none => rfl
      | some d =>
        simp only
        rw [h d (by unfold Oper.looksAt; refine List.mem_append_right _ ?_; simp [hg, hd])]
  have hc : ({ s with t := t } : PSt).callee P o = ({ s with t := t' } : PSt).callee P o := by
    unfold PSt.callee
    cases hop : o.op <;> try rfl
    rename_i c
    simp only
    cases hcx : c.callee with
    | value x =>
      simp only
      have hx : x ∈ o.op.operands := by simp [hop, Op.operands, Call.operands, hcx]
      rw [he x hx]
      have ha : c.args.toList.map ({ s with t := t } : PSt).ev = c.args.toList.map ({ s with t := t' } : PSt).ev := by
        apply List.map_congr_left
        intro y hy
        refine he y ?_
        simp only [hop, Op.operands, Call.operands]
        simp only [Array.mem_append]
        exact .inr (by simpa using hy)
      rw [ha]
    | invoke x y => rfl
    | builtin b => rfl
  unfold Yields at hy ⊢
  rw [← hw, ← hc]
  cases h1 : pwant ops { s with t := t } o with
  | none => simp [h1] at hy
  | some b =>
    cases b with
    | false => simpa [h1] using hy
    | true =>
      simp only [h1] at hy ⊢
      cases h2 : ({ s with t := t } : PSt).callee P o with
      | some fa => obtain ⟨g, args⟩ := fa; simpa [h2] using hy
      | none =>
        simp only [h2] at hy ⊢
        rw [← popq_congr he]; exact hy
end
end Pm
end Go.Proofs.Ytacccimihgailaa
