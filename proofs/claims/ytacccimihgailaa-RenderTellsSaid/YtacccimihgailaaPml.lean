/- Functions: what a call comes to; the weakest precondition of a function's code over abstract states. -/
import Derived.Test.YtacccimihgailaaPmk
set_option linter.unusedVariables false
set_option linter.unusedSimpArgs false
namespace Go.Proofs.Ytacccimihgailaa
namespace Pm
open Go.RowKit

/- What is left of a value where boxes and rows are not known. -/
mutual
def PV.erase : PV → PV
  | .ptr _ _ => .any
  | .bsl _ _ _ _ => .any
  | .rp _ _ => .any
  | .own _ => .any
  | .eptr e o => .eptr e.erase o
  | .sl _ nl cap z es => .sl none nl cap z (eraseL es)
  | .agg cs => .agg (eraseL cs)
  | .tup cs => .tup (eraseL cs)
  | .any => .any
  | .raw v => .raw v
  | .int k n => .int k n
  | .bool b => .bool b
  | .str l => .str l
def eraseL : List PV → List PV
  | [] => []
  | p :: r => p.erase :: eraseL r
end
theorem eraseL_map : ∀ l : List PV, eraseL l = l.map PV.erase
  | [] => rfl
  | p :: r => by rw [eraseL, eraseL_map r]; rfl

abbrev Mem := Nat → Nat → Option Value
def bare (M : Mem) : Rel := ⟨M, [], [], []⟩
theorem bare_le {M : Mem} {R : Rel} (h : ∀ (b o : Nat) (v : Value), M b o = some v → R.M b o = some v) : (bare M).Le R :=
  ⟨h, fun i x hx => by simp [bare] at hx, fun r k hk => by simp [bare] at hk⟩

theorem cells_erase (p : PV) : p.erase.cells = p.cells.map PV.erase := by
  cases p <;> simp [PV.erase, PV.cells, eraseL_map]

theorem VR.erase {R : Rel} {v : Value} {p : PV} (h : VR R v p) : VR (bare R.M) v p.erase := by
  induction h with
  | any v => exact .any v
  | raw v => exact .raw v
  | int k n => exact .int k n
  | bool b => exact .bool b
  | str l => exact .str l
  | ptr b blk off h => exact .any _
  | eptr e blk o off f hm hv ih =>
    have key : ∀ (j : Nat) (p : PV), e.erase.cells[j]? = some p → ∃ q, e.cells[j]? = some q ∧ p = q.erase := by
      intro j p hj
      rw [cells_erase, List.getElem?_map] at hj
      obtain ⟨q, h1, h2⟩ := Option.map_eq_some_iff.1 hj
      exact ⟨q, h1, h2.symm⟩
    refine .eptr _ blk o off f (fun j p hj => ?_) (fun j p hj => ?_)
    · obtain ⟨q, h1, rfl⟩ := key j p hj; exact hm j q h1
    · obtain ⟨q, h1, rfl⟩ := key j p hj; exact ih j q h1
  | sl tok nl cap z es A c blk o f hc hcap hn ha hz hm hv ht ih =>
    have key : ∀ (i : Nat) (e : PV), (es.map PV.erase)[i]? = some e → ∃ q, es[i]? = some q ∧ e = q.erase := by
      intro i e hi
      rw [List.getElem?_map] at hi
      obtain ⟨q, h1, h2⟩ := Option.map_eq_some_iff.1 hi
      exact ⟨q, h1, h2.symm⟩
    have key2 : ∀ (i : Nat) (e : PV) (j : Nat) (p : PV), (es.map PV.erase)[i]? = some e → e.cells[j]? = some p → ∃ q r, es[i]? = some q ∧ q.cells[j]? = some r ∧ p = r.erase := by
      intro i e j p hi hj
      obtain ⟨q, h1, rfl⟩ := key i e hi
      rw [cells_erase, List.getElem?_map] at hj
      obtain ⟨r, h2, h3⟩ := Option.map_eq_some_iff.1 hj
      exact ⟨q, r, h1, h2, h3.symm⟩
    have hl : (es.map PV.erase).length = es.length := by simp
    rw [PV.erase, eraseL_map, ← hl]
    refine .sl none nl cap z _ A c blk o f (by simpa using hc) hcap (fun hh => ⟨(hn hh).1, by simp [(hn hh).2.1], (hn hh).2.2⟩) (fun hh => (ha hh).imp_right (fun hq => ⟨by simp [hq.1], hq.2⟩)) (fun i e hi => ?_) (fun i e j p hi hj => ?_) (fun i e j p hi hj => ?_) (fun r hr => by cases hr)
    · obtain ⟨q, h1, rfl⟩ := key i e hi
      rw [cells_erase, List.length_map]; exact hz i q h1
    · obtain ⟨q, r, h1, h2, rfl⟩ := key2 i e j p hi hj
      exact hm i q j r h1 h2
    · obtain ⟨q, r, h1, h2, rfl⟩ := key2 i e j p hi hj
      exact ih i q j r h1 h2
  | bsl b blk off len cap h => exact .any _
  | rp r es blk f hm hv ht ih => exact .any _
  | own0 b => exact .any _
  | own1 b blk h => exact .any _
  | agg vs ps hl hv ih =>
    rw [PV.erase, eraseL_map]
    refine .agg vs _ (by simpa using hl) (fun i v p hi hj => ?_)
    rw [List.getElem?_map] at hj
    obtain ⟨q, h1, rfl⟩ := Option.map_eq_some_iff.1 hj
    exact ih i v q hi h1
  | tup vs ps hl hv ih =>
    rw [PV.erase, eraseL_map]
    refine .tup vs _ (by simpa using hl) (fun i v p hi hj => ?_)
    rw [List.getElem?_map] at hj
    obtain ⟨q, h1, rfl⟩ := Option.map_eq_some_iff.1 hj
    exact ih i v q hi h1

/-- A function that computes: of such arguments it returns such a value; it writes nothing that was there. -/
def Pure (P : Program) (f : FuncId) (args : List PV) (r : PV) : Prop :=
  ∀ (M : Mem) (vals : Array Value) (w : World), (∀ (b o : Nat) (v : Value), M b o = some v → w.cell? ⟨b, o, none⟩ = some v ∧ v.oneCell' = true) →
    vals.size = args.length → (∀ (i : Nat) (v : Value) (p : PV), vals[i]? = some v → args[i]? = some p → VR (bare M) v p) →
    Calls P f vals w fun e w' => ∃ v M', e = .returned v ∧ VR (bare M') v r ∧ (∀ (b o : Nat) (x : Value), M b o = some x → M' b o = some x) ∧
      (∀ (b o : Nat) (x : Value), M' b o = some x → w'.cell? ⟨b, o, none⟩ = some x ∧ x.oneCell' = true) ∧
      (∀ (b o : Nat) (x : Value), M' b o = some x → M b o = some x ∨ w.heap.size ≤ b) ∧ Below w.heap.size w w'

/-- A function that may look into the boxes and rows that it is handed, write them, and hand back new ones. -/
def Does (P : Program) (f : FuncId) (args : List PV) (h : Hp) (r : PV) (h' : Hp) : Prop :=
  ∀ (B0 : Nat) (R : Rel) (vals : Array Value) (w : World), B0 ≤ w.heap.size → HSim B0 R h w → vals.size = args.length →
    (∀ (i : Nat) (v : Value) (p : PV), vals[i]? = some v → args[i]? = some p → VR R v p) →
    Calls P f vals w fun e w' => ∃ v, e = .returned v ∧ Good B0 R w v r h' w'

def PSt.put (s : PSt) (dst : Option Tmp) (v : PV) (h : Hp) : PSt :=
  { s with t := (match dst with | some d => Pm.put s.t d v | none => s.t), h := h }

def pyield (ops : Array Oper) (s : PSt) (j : Nat) : Option (Option Bool) :=
  match (ops[j]?).bind (·.dst) with
  | none => some none
  | some d =>
    if d < s.n then
      match get s.t d with
      | .bool b => some (some b)
      | .raw (.tuple _) => some none
      | _ => none
    else some none
def pwant (ops : Array Oper) (s : PSt) (o : Oper) : Option Bool :=
  match o.guard with
  | none => some true
  | some (j, b) => (pyield ops s j).map (· == some b)

def callable (P : Program) (f : FuncId) : Bool :=
  match P.funcs[f]? with
  | some fn => !(fn.name == "runtime.NumGoroutine") && fn.body.isSome
  | none => false
/-- A call of a Go function: its number, and the arguments. -/
def PSt.callee (P : Program) (s : PSt) (o : Oper) : Option (FuncId × List PV) :=
  match o.op with
  | .call c =>
    match c.callee with
    | .value f =>
      match s.ev f with
      | .raw (.func (.func f) first captured) => if first.toList.isEmpty && captured.toList.isEmpty && callable P f then some (f, c.args.toList.map s.ev) else none
      | _ => none
    | _ => none
  | _ => none
def pop1 (P : Program) (o : Oper) (s : PSt) (K : PSt → Prop) : Prop :=
  match s.callee P o with
  | some (f, args) => callable P f = true ∧ ∃ r h', Does P f args s.h r h' ∧ K (s.put o.dst r h')
  | none =>
    match popv P s.h o s.ev with
    | some (c, v, h') => c = true ∧ K (s.put o.dst v h')
    | none => False
def pops (P : Program) (ops : Array Oper) (K : PSt → Prop) : List Oper → PSt → Prop
  | [], s => K s
  | o :: rest, s =>
    match pwant ops s o with
    | some true => pop1 P o s (pops P ops K rest)
    | some false => pops P ops K rest (s.put o.dst (.raw undef) s.h)
    | none => False

/-- Where a function's run began: the block from which on all is its own, the world, what was known. -/
structure Bas where
  B0 : Nat
  w0 : World
  R0 : Rel
  hB : B0 ≤ w0.heap.size
structure FSim (Z : Bas) (R : Rel) (s : PSt) (a : Act) (w : World) : Prop where
  d : a.defers = []
  n : a.tmps.size = s.n
  t : ∀ i, i < s.n → VR R (a.tmps.getD i undef) (get s.t i)
  h : HSim Z.B0 R s.h w
  b : Below Z.B0 Z.w0 w
  le : Z.R0.Le R
  dn : ∀ (b o : Nat) (x : Value), R.M b o = some x → Z.R0.M b o = some x ∨ Z.B0 ≤ b

section
variable {P : Program} {Z : Bas} {R : Rel} {s : PSt} {a : Act} {w : World}

theorem FSim.ev (f : FSim Z R s a w) (x : Operand) : VR R (a.eval x) (s.ev x) := by
  cases x with
  | tmp t =>
    simp only [PSt.ev, Act.eval]
    split
    · exact f.t t ‹_›
    · exact .any _
  | const v => exact VR.lift R v
  | global g => exact .raw _
  | func g => exact .raw _

theorem FSim.step (f : FSim Z R s a w) {R' : Rel} {w' : World} {h' : Hp} (hle : R.Le R') (hs : HSim Z.B0 R' h' w') (hb : Below Z.B0 w w') (hd : ∀ (b o : Nat) (x : Value), R'.M b o = some x → R.M b o = some x ∨ Z.B0 ≤ b)
    (dst : Option Tmp) {v : Value} {p : PV} (hv : VR R' v p) : FSim Z R' (s.put dst p h') (a.put dst v) w' where
  d := by cases dst <;> exact f.d
  n := by cases dst <;> simp [Act.put, PSt.put, f.n]
  t i hi := by
    cases dst with
    | none => exact (f.t i hi).mono hle
    | some d =>
      have hi' : i < s.n := hi
      by_cases c : d = i
      · subst c
        show VR R' ((a.tmps.setIfInBounds d v).getD d undef) (get (Pm.put s.t d p) d)
        rw [get_put_same]
        have hlt : d < a.tmps.size := by rw [f.n]; exact hi'
        have : (a.tmps.setIfInBounds d v).getD d undef = v := by simp [Array.getD, hlt]
        rw [this]; exact hv
      · show VR R' ((a.tmps.setIfInBounds d v).getD i undef) (get (Pm.put s.t d p) i)
        rw [get_put_ne _ _ _ _ c]
        have : (a.tmps.setIfInBounds d v).getD i undef = a.tmps.getD i undef := by
          simp only [Array.getD_eq_getD_getElem?, Array.getElem?_setIfInBounds_ne c]
        rw [this]; exact (f.t i hi').mono hle
  h := hs
  b := f.b.trans hb
  le := f.le.trans hle
  dn b o x hx := by
    rcases hd b o x hx with h1 | h1
    · exact f.dn b o x h1
    · exact .inr h1

theorem FSim.keep (f : FSim Z R s a w) (dst : Option Tmp) {v : Value} {p : PV} (hv : VR R v p) : FSim Z R (s.put dst p s.h) (a.put dst v) w :=
  f.step (Rel.Le.refl R) f.h (Below.refl _ _) (fun _ _ _ hx => .inl hx) dst hv

theorem pwant_sound (f : FSim Z R s a w) {ops : Array Oper} {o : Oper} {b : Bool} (hp : pwant ops s o = some b) : Region.wanted o (yielded ops a.tmps) = b := by
  unfold pwant at hp
  unfold Region.wanted
  split at hp
  · rename_i hg; simp at hp; simp [hg, hp]
  · rename_i j c hg
    obtain ⟨y, hy, hb⟩ := Option.map_eq_some_iff.1 hp
    rw [hg]
    simp only
    rw [← hb]
    congr 1
    unfold pyield at hy
    unfold yielded
    cases hd : (ops[j]?).bind (·.dst) with
    | none => simp [hd] at hy ⊢; exact hy
    | some d =>
      simp only [hd] at hy
      simp only [Option.bind_some]
      split at hy
      · rename_i hlt
        have hv := f.t d hlt
        have hs : a.tmps[d]? = some (a.tmps.getD d undef) := by
          have : d < a.tmps.size := by rw [f.n]; exact hlt
          simp [Array.getD, this]
        rw [hs]
        split at hy
        · rename_i b' hb'
          rw [hb'] at hv
          generalize a.tmps.getD d undef = v at hv ⊢
          cases hv
          cases hy; rfl
        · rename_i vs hb'
          rw [hb'] at hv
          generalize a.tmps.getD d undef = v at hv ⊢
          cases hv
          cases hy; rfl
        · cases hy
      · have hge : ¬ d < s.n := by assumption
        have : a.tmps[d]? = none := Array.getElem?_eq_none (by rw [f.n]; exact Nat.le_of_not_lt hge)
        rw [this]
        cases hy; rfl

/-- The memory behind a call that computes. -/
theorem hsim_call {B0 : Nat} {h : Hp} (hs : HSim B0 R h w) {M' : Mem} {w' : World} (hB : B0 ≤ w.heap.size) (h1 : ∀ (b o : Nat) (x : Value), R.M b o = some x → M' b o = some x)
    (h2 : ∀ (b o : Nat) (x : Value), M' b o = some x → w'.cell? ⟨b, o, none⟩ = some x ∧ x.oneCell' = true) (h3 : ∀ (b o : Nat) (x : Value), M' b o = some x → R.M b o = some x ∨ w.heap.size ≤ b) (hb : Below w.heap.size w w') :
    R.Le { R with M := M' } ∧ HSim B0 { R with M := M' } h w' := by
  have hle : R.Le { R with M := M' } := ⟨h1, fun _ _ hx => hx, fun _ k hk => ⟨k, hk, Nat.le_refl _, fun _ => rfl⟩⟩
  have k := hs.keep (w1 := w') hb.block
  have hno : ∀ (b o : Nat), b < w.heap.size → R.M b o = none → M' b o = none := by
    intro b o hlt hn
    cases hm : M' b o with
    | none => rfl
    | some x =>
      rcases h3 b o x hm with h | h
      · rw [hn] at h; cases h
      · omega
  refine ⟨hle, ⟨hs.hw, hs.lρ, hs.lβ, h2, fun i blk cs hβ hc => ?_, hs.boxne, fun r blk sz kk hr hk h0 => ?_, hs.rowne, hs.boxrow, k.lty, k.ty, k.lrt, k.rt⟩⟩
  · obtain ⟨a1, a2, vs, e, hh, a3, a4⟩ := k.box i blk cs hβ hc
    exact ⟨a1, fun o => hno blk o (hs.boxlt hβ) (a2 o), vs, e, hh, a3, fun j v p hj hp => ⟨(a4 j v p hj hp).1.mono hle, (a4 j v p hj hp).2⟩⟩
  · obtain ⟨a1, a2, a3⟩ := k.row r blk sz kk hr hk h0
    exact ⟨a1, fun o ho => hno blk o (hs.rowlt hr hk h0) (a2 o ho), a3⟩

theorem callee_op {o : Oper} {f : FuncId} {args : List PV} (hc : s.callee P o = some (f, args)) : ∃ c x, o.op = .call c ∧ c.callee = .value x ∧ s.ev x = .raw (.func (.func f) #[] #[]) ∧ args = c.args.toList.map s.ev := by
  unfold PSt.callee at hc
  split at hc
  case h_2 => cases hc
  rename_i c hop
  split at hc
  case h_2 => cases hc
  rename_i x hx
  split at hc
  case h_2 => cases hc
  rename_i g first captured he
  split at hc
  case isFalse => cases hc
  rename_i hemp
  simp only [Option.some.injEq, Prod.mk.injEq] at hc
  obtain ⟨rfl, rfl⟩ := hc
  simp only [Bool.and_eq_true, List.isEmpty_iff, Array.toList_eq_nil_iff] at hemp
  obtain ⟨⟨rfl, rfl⟩, _⟩ := hemp
  exact ⟨c, x, hop, hx, he, rfl⟩

theorem does_of_pure {f : FuncId} {args : List PV} {h : Hp} {r : PV} (hp : Pure P f (args.map PV.erase) r) : Does P f args h r h := by
  intro B0 R vals w hB hs hl hv
  refine (hp R.M vals w hs.mem (by simpa using hl) (fun i v p hi hj => ?_)).mono ?_
  · rw [List.getElem?_map] at hj
    obtain ⟨q, h1, rfl⟩ := Option.map_eq_some_iff.1 hj
    exact (hv i v q hi h1).erase
  · rintro e w' ⟨v, M', rfl, hv', h1, h2, h3, hb⟩
    obtain ⟨g1, g2⟩ := hsim_call hs hB h1 h2 h3 hb
    exact ⟨v, rfl, _, g1, hv'.mono (bare_le (fun _ _ _ hx => hx)), g2, hb.mono hB, fun b o x hx => by
      rcases h3 b o x hx with h | h
      · exact .inl h
      · exact .inr (Nat.le_trans hB h)⟩

theorem pop1_sound {o : Oper} {K : PSt → Prop} {next : Act → World → Prop} {Q : Exit → Act → World → Prop} (f : FSim Z R s a w) (hp : pop1 P o s K)
    (hk : ∀ R' s' a' w', FSim Z R' s' a' w' → K s' → next a' w') : o.wp P a w next Q := by
  have hB : Z.B0 ≤ w.heap.size := Nat.le_trans Z.hB f.b.size
  unfold pop1 at hp
  cases hc : s.callee P o with
  | some fa =>
    obtain ⟨g, args⟩ := fa
    simp only [hc] at hp
    obtain ⟨hcall, r, h', hpure, hK⟩ := hp
    obtain ⟨c, x, hop, hcx, hx, rfl⟩ := callee_op hc
    have hvx := f.ev x
    rw [hx] at hvx
    have hex : a.eval x = .func (.func g) #[] #[] := by
      generalize a.eval x = v at hvx
      cases hvx; rfl
    have hrun : (execOp a.eval o).run P w = .ok (.enter g (c.args.map a.eval)) w := by
      unfold callable at hcall
      cases hg : P.funcs[g]? with
      | none => simp [hg] at hcall
      | some fn =>
        simp only [hg, Bool.and_eq_true, Bool.not_eq_true', Option.isSome_iff_ne_none, ne_eq] at hcall
        have h1 : (fn.name == "runtime.NumGoroutine") = false := hcall.1
        have h1' : ¬ fn.name = "runtime.NumGoroutine" := by simpa using h1
        have h2 : ¬ fn.body = none := hcall.2
        simp [execOp, hop, resolve, hcx, hex, Deferred.ofValue, invoke, callFunc, hg, h1', h2]
    unfold Oper.wp
    rw [hrun, Oper.upon_enter]
    refine (hpure Z.B0 R (c.args.map a.eval) w hB f.h (by simp) (fun i v p hi hj => ?_)).mono ?_
    · simp only [Array.getElem?_map] at hi
      simp only [List.getElem?_map] at hj
      cases hq : c.args[i]? with
      | none => simp [hq] at hi
      | some y =>
        have hq' : c.args.toList[i]? = some y := by simpa using hq
        simp [hq] at hi
        simp [hq'] at hj
        subst hi; subst hj
        exact f.ev y
    · rintro e w' ⟨v, rfl, R', g1, g2, g3, g4, g5⟩
      exact hk _ _ _ _ (f.step g1 g3 g4 g5 o.dst g2) hK
  | none =>
    simp only [hc] at hp
    cases hpv : popv P s.h o s.ev with
    | none => simp [hpv] at hp
    | some q =>
      obtain ⟨c, p, h'⟩ := q
      simp only [hpv] at hp
      obtain ⟨rfl, hK⟩ := hp
      obtain ⟨nx, v, w', hrun, hnx, R', g1, g2, g3, g4, g5⟩ := popv_sound f.h hB f.ev hpv
      have := hk _ _ _ _ (f.step g1 g3 g4 g5 o.dst g2) hK
      unfold Oper.wp
      rw [hrun]
      rcases hnx with rfl | ⟨rfl, rfl⟩
      · exact this
      · exact this

theorem pops_sound {ops : Array Oper} {K : PSt → Prop} {Q : Exit → Act → World → Prop} : ∀ (l : List Oper) {R : Rel} {s : PSt} {a : Act} {w : World}, FSim Z R s a w → pops P ops K l s →
    (∀ R' s' a' w', FSim Z R' s' a' w' → K s' → Q .normal a' w') → wpList P ops Q l a w
  | [], R, s, a, w, f, hp, hk => hk _ _ _ _ f hp
  | o :: rest, R, s, a, w, f, hp, hk => by
    unfold wpList
    unfold pops at hp
    cases hw : pwant ops s o with
    | none => simp [hw] at hp
    | some b =>
      rw [pwant_sound f hw]
      cases b with
      | true =>
        simp only [hw] at hp
        simp only [if_true]
        exact .inl (pop1_sound f hp (fun R' s' a' w' f' hp' => pops_sound rest f' hp' hk))
      | false =>
        simp only [hw] at hp
        simp only [Bool.false_eq_true, if_false]
        exact pops_sound rest (f.keep o.dst (.raw undef)) hp hk
end
end Pm
end Go.Proofs.Ytacccimihgailaa
