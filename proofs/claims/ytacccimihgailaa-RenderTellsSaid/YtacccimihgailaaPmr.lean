/- The interpreter once more, in a form that the kernel runs fast. -/
import Derived.Test.YtacccimihgailaaPmq
set_option linter.unusedVariables false
set_option linter.unusedSimpArgs false
namespace Go.Proofs.Ytacccimihgailaa
namespace Pm
open Go.RowKit

noncomputable section
def fget (l : List PV) : Nat → PV := List.rec (motive := fun _ => Nat → PV) (fun _ => .any) (fun x _ ih i => Nat.rec (motive := fun _ => PV) x (fun j _ => ih j) i) l
theorem fget_eq : ∀ (l : List PV) (i : Nat), fget l i = get l i
  | [], i => rfl
  | x :: l, 0 => rfl
  | x :: l, i + 1 => fget_eq l i
/-- In a list that is long enough. -/
def fput (v : PV) (l : List PV) : Nat → List PV := List.rec (motive := fun _ => Nat → List PV) (fun i => put [] i v) (fun x r ih i => Nat.rec (motive := fun _ => List PV) (v :: r) (fun j _ => x :: ih j) i) l
theorem fput_eq (v : PV) : ∀ (l : List PV) (i : Nat), fput v l i = put l i v
  | [], i => rfl
  | x :: l, 0 => rfl
  | x :: l, i + 1 => by
    show x :: fput v l i = x :: put l i v
    rw [fput_eq v l i]

def fev (n : Nat) (t : List PV) : Operand → PV
  | .tmp i => match Nat.blt i n with | true => fget t i | false => .any
  | .const v => lift v
  | .global g => .raw (.pointer (some ⟨g, 0, none⟩))
  | .func f => .raw (.func (.func f) #[] #[])
theorem fev_eq (n : Nat) (t : List PV) (h : Hp) : fev n t = PSt.ev ⟨n, t, h⟩ := by
  funext x
  cases x with
  | tmp i =>
    simp only [fev, PSt.ev, fget_eq]
    by_cases c : i < n
    · rw [show Nat.blt i n = true from by rw [Nat.blt_eq]; exact c, if_pos c]
    · rw [show Nat.blt i n = false from by rw [← Bool.not_eq_true, Nat.blt_eq]; exact c, if_neg c]
  | const v => rfl
  | global g => rfl
  | func f => rfl

def fdst (d : Option Tmp) (t : List PV) (v : PV) : List PV := match d with | some d => fput v t d | none => t
def fcallee (P : Program) (ev : Operand → PV) (o : Oper) : Option (FuncId × List PV) :=
  match o.op with
  | .call c =>
    match c.callee with
    | .value f =>
      match ev f with
      | .raw (.func (.func f) first captured) => if first.toList.isEmpty && captured.toList.isEmpty && callable P f then some (f, c.args.toList.map ev) else none
      | _ => none
    | _ => none
  | _ => none
def fyield (ops : Array Oper) (n : Nat) (t : List PV) (j : Nat) : Option (Option Bool) :=
  match (ops[j]?).bind (·.dst) with
  | none => some none
  | some d =>
    if d < n then
      match fget t d with
      | .bool b => some (some b)
      | .raw (.tuple _) => some none
      | _ => none
    else some none
def fwant (ops : Array Oper) (n : Nat) (t : List PV) (o : Oper) : Option Bool :=
  match o.guard with
  | none => some true
  | some (j, b) => (fyield ops n t j).map (· == some b)
theorem fwant_eq (ops : Array Oper) (n : Nat) (t : List PV) (h : Hp) (o : Oper) : fwant ops n t o = pwant ops ⟨n, t, h⟩ o := by
  unfold fwant pwant fyield pyield
  simp only [fget_eq]
  rfl

/- The operations' meanings, each behind a name of its own: so the kernel lays out one alone. -/
def qpure (h : Hp) (x : Option PV) : Res := match x with | some v => some (true, v, h) | none => none
def qcond (h : Hp) (x : Option (Bool × PV)) : Res := match x with | some y => some (y.1, y.2, h) | none => none
def qpick (h : Hp) (ev : Operand → PV) (c a b : Operand) : Res :=
  match ev c with
  | .bool c => if c then some (true, ev a, h) else some (true, ev b, h)
  | _ => none
def qalloc (P : Program) (h : Hp) (t : TypeId) : Res := (pzero P t).bind fun z => if z.flat then some (true, .ptr h.bx.length 0, { h with bx := h.bx ++ [z.cells], ty := h.ty ++ [t] }) else none
def qbox (h : Hp) (t : TypeId) (x : PV) : Res := if x.flat then some (true, .ptr h.bx.length 0, { h with bx := h.bx ++ [x.cells], ty := h.ty ++ [t] }) else none
def qbuild (P : Program) (h : Hp) (ev : Operand → PV) (t : TypeId) (parts : Array (Nat × Operand)) : Res := qpure h (pbuild P t (parts.toList.map fun (i, x) => (i, ev x)))
def qbuildSlice (P : Program) (h : Hp) (ev : Operand → PV) (t : TypeId) (len : Nat) (parts : Array (Nat × Operand)) : Res :=
  match P.underlying t with
  | some (.slice e) =>
    (pparts 0 (parts.toList.map fun (i, x) => (i, ev x))).bind fun es =>
      if es.length = len ∧ len ≤ 65536 ∧ 0 < P.cellsOf e ∧ P.cellsOf e ≤ 256 ∧ (pzero P e).isSome = true ∧ es.all (fun p => p.flat && p.cells.length == P.cellsOf e) = true then
        some (true, .sl (some h.hw.length) false (some len) (P.cellsOf e) es, { h with hw := h.hw ++ [len * P.cellsOf e], rt := h.rt ++ [e] })
      else none
  | _ => none
def qstore (P : Program) (h : Hp) (ev : Operand → PV) (t : TypeId) (a x : Operand) : Res :=
  match ev a with
  | .ptr b o =>
    match h.bx[b]? with
    | some cs =>
      if (P.underlying t).isSome = true ∧ (ev x).flat = true ∧ (ev x).cells.length = P.cellsOf t ∧ o + P.cellsOf t ≤ cs.length then
        some (true, .raw undef, { h with bx := h.bx.set b (splice cs o (ev x).cells) })
      else none
    | none => none
  | _ => none
def qnil (h : Hp) (x : PV) : Res :=
  match x with
  | .ptr b o => some (true, .ptr b o, h)
  | .eptr e o => some (true, .eptr e o, h)
  | _ => none
def qextract (h : Hp) (x : PV) (i : Nat) : Res :=
  match x with
  | .tup vs => qpure h vs[i]?
  | _ => none
def qcall (P : Program) (h : Hp) (ev : Operand → PV) (c : Call) : Res :=
  match c.callee with
  | .builtin b => pbuiltin P h b c.argTypes.toList (c.args.toList.map ev)
  | .value f => pnative P h (ev f) (c.args.toList.map ev)
  | _ => none
def fpopv (P : Program) (h : Hp) (op : Op) (ev : Operand → PV) : Res :=
  match op with
  | .move x => some (true, ev x, h)
  | .assign x => some (true, ev x, h)
  | .pick c a b => qpick h ev c a b
  | .alloc t => qalloc P h t
  | .box t x => qbox h t (ev x)
  | .build t parts => qbuild P h ev t parts
  | .buildSlice t len parts => qbuildSlice P h ev t len parts
  | .load t a => qpure h (pload P t h (ev a))
  | .store t a x => qstore P h ev t a x
  | .nilCheck x => qnil h (ev x)
  | .binOp op t x y _ => qcond h (pbin P op t (ev x) (ev y))
  | .unOp op _ x => qcond h (pun op (ev x))
  | .convert src dst x => qcond h (pconv P src dst h (ev x))
  | .slice t x lo hi mx => qcond h (PV.slice P t (ev x) (lo.map ev) (hi.map ev) (mx.map ev))
  | .fieldAddr s x k => qpure h ((ev x).fieldAddr P s k)
  | .field s x k => qpure h ((ev x).field P s k)
  | .indexAddr t x i => qcond h (PV.indexAddr P t (ev x) (ev i))
  | .index t x i => qcond h (PV.index P t (ev x) (ev i))
  | .extract x i => qextract h (ev x) i
  | .call c => qcall P h ev c
  | _ => none
theorem qpure_eq (h : Hp) (x : Option PV) : qpure h x = x.map fun v => (true, v, h) := by cases x <;> rfl
theorem qcond_eq (h : Hp) (x : Option (Bool × PV)) : qcond h x = x.map fun (c, v) => (c, v, h) := by cases x <;> rfl
theorem fpopv_eq (P : Program) (h : Hp) (o : Oper) (ev : Operand → PV) : fpopv P h o.op ev = popv P h o ev := by
  unfold fpopv popv
  cases o.op <;> simp only [qpure_eq, qcond_eq, qbuild, qextract, qcall] <;> rfl

def frun1 (P : Program) (call : Call1) (o : Oper) (n : Nat) (t : List PV) (h : Hp) : Option (List PV × Hp) :=
  match fcallee P (fev n t) o with
  | some (f, args) =>
    match callable P f with
    | true =>
      match pcall call f args h with
      | some (r, h') => some (fdst o.dst t r, h')
      | none => none
    | false => none
  | none =>
    match fpopv P h o.op (fev n t) with
    | some (c, v, h') =>
      match c with
      | true => some (fdst o.dst t v, h')
      | false => none
    | none => none
def fruns (P : Program) (call : Call1) (ops : Array Oper) (n : Nat) (l : List Oper) : List PV → Hp → Option (List PV × Hp) :=
  List.rec (motive := fun _ => List PV → Hp → Option (List PV × Hp)) (fun t h => some (t, h))
    (fun o _ ih t h =>
      match fwant ops n t o with
      | some b =>
        match b with
        | true =>
          match frun1 P call o n t h with
          | some (t', h') => ih t' h'
          | none => none
        | false => ih (fdst o.dst t (.raw undef)) h
      | none => none) l
def floop (body : List PV → Hp → Option (Exit × List PV × Hp)) (N : Nat) : List PV → Hp → Option (Exit × List PV × Hp) :=
  Nat.rec (motive := fun _ => List PV → Hp → Option (Exit × List PV × Hp)) (fun _ _ => none)
    (fun _ ih t h =>
      match body t h with
      | some (.normal, t', h') => ih t' h'
      | x => x) N
def frunC (P : Program) (call : Call1) (N n : Nat) : Code → List PV → Hp → Option (Exit × List PV × Hp)
  | .skip, t, h => some (.normal, t, h)
  | .label _, t, h => some (.normal, t, h)
  | .exit id, t, h => some (.exit id, t, h)
  | .ret, t, h => some (.ret, t, h)
  | .region _ ops draw, t, h =>
    match draw with
    | true =>
      match prunDraw P call ops ⟨n, t, h⟩ with
      | some s => some (.normal, s.t, s.h)
      | none => none
    | false =>
      match fruns P call ops n ops.toList t h with
      | some (t', h') => some (.normal, t', h')
      | none => none
  | .seq x y, t, h =>
    match frunC P call N n x t h with
    | some (.normal, t', h') => frunC P call N n y t' h'
    | r => r
  | .cond c x y, t, h =>
    match fev n t c with
    | .bool b =>
      match b with
      | true => frunC P call N n x t h
      | false => frunC P call N n y t h
    | _ => none
  | .block id c, t, h =>
    match frunC P call N n c t h with
    | some (.exit i, t', h') => if i = id then some (.normal, t', h') else some (.exit i, t', h')
    | r => r
  | .loop c, t, h => floop (frunC P call N n c) N t h
  | _, _, _ => none
/-- Functions whose contracts we have: by their numbers and arguments. -/
abbrev Ext := FuncId → List PV → Option PV
def ExtOk (P : Program) (ext : Ext) : Prop := ∀ f args r, ext f args = some r → Pure P f args r
def noExt : Ext := fun _ _ => none
theorem noExt_ok (P : Program) : ExtOk P noExt := fun _ _ _ h => by cases h
def frunB (P : Program) (N : Nat) (ih : Call1) : Call1 := fun f args h =>
  match P.funcs[f]? with
  | some fn =>
    match fn.body with
    | some c =>
      let n := max args.length fn.ntmps
      match frunC P ih N n c (args ++ List.replicate (n - args.length) .any) h with
      | some (.normal, t, h1) =>
        match presults P ⟨n, t, h1⟩ fn.results.toList with
        | some r => some (r, pgc h.bx.length h.hw.length r h1)
        | none => none
      | some (.ret, t, h1) =>
        match presults P ⟨n, t, h1⟩ fn.results.toList with
        | some r => some (r, pgc h.bx.length h.hw.length r h1)
        | none => none
      | _ => none
    | none => none
  | none => none
def frunF (P : Program) (ext : Ext) (N : Nat) (d : Nat) : Call1 :=
  Nat.rec (motive := fun _ => Call1) (fun _ _ _ => none)
    (fun _ ih f args h =>
      match ext f (args.map PV.erase) with
      | some r => some (r, h)
      | none => frunB P N ih f args h) d

theorem frun1_ok {P : Program} {call : Call1} {o : Oper} {n : Nat} {t t' : List PV} {h h' : Hp} (hr : frun1 P call o n t h = some (t', h')) : prun1 P call o ⟨n, t, h⟩ = some ⟨n, t', h'⟩ := by
  have hd : ∀ v, fdst o.dst t v = (match o.dst with | some d => Pm.put t d v | none => t) := by
    intro v
    unfold fdst
    cases o.dst with
    | none => rfl
    | some d => exact fput_eq v t d
  unfold frun1 at hr
  have e1 : fcallee P (fev n t) o = PSt.callee P ⟨n, t, h⟩ o := by rw [fev_eq n t h]; rfl
  rw [e1] at hr
  unfold prun1
  cases hc : PSt.callee P ⟨n, t, h⟩ o with
  | some fa =>
    obtain ⟨f, args⟩ := fa
    simp only [hc] at hr ⊢
    split at hr
    · rename_i hcl
      rw [if_pos hcl]
      split at hr
      · rename_i r h1 hcr
        cases hr
        rw [hcr, hd]; rfl
      · cases hr
    · cases hr
  | none =>
    simp only [hc] at hr ⊢
    rw [fev_eq n t h, fpopv_eq] at hr
    split at hr
    · rename_i c v h1 hp
      simp only [hp]
      split at hr
      · cases hr
        rw [hd]; rfl
      · cases hr
    · cases hr
theorem fruns_ok {P : Program} {call : Call1} {ops : Array Oper} {n : Nat} : ∀ (l : List Oper) {t t' : List PV} {h h' : Hp}, fruns P call ops n l t h = some (t', h') → pruns P call ops l ⟨n, t, h⟩ = some ⟨n, t', h'⟩
  | [], t, t', h, h', hr => by cases hr; rfl
  | o :: rest, t, t', h, h', hr => by
    have hr : (match fwant ops n t o with
      | some b =>
        match b with
        | true =>
          match frun1 P call o n t h with
          | some (t', h') => fruns P call ops n rest t' h'
          | none => none
        | false => fruns P call ops n rest (fdst o.dst t (.raw undef)) h
      | none => none) = some (t', h') := hr
    unfold pruns
    rw [fwant_eq ops n t h] at hr
    cases hw : pwant ops ⟨n, t, h⟩ o with
    | none => simp [hw] at hr
    | some b =>
      simp only [hw] at hr ⊢
      cases b with
      | true =>
        simp only at hr ⊢
        split at hr
        · rename_i t1 h1 h2
          rw [frun1_ok h2]
          exact fruns_ok rest hr
        · cases hr
      | false =>
        have := fruns_ok rest hr
        have hd : fdst o.dst t (.raw undef) = (match o.dst with | some d => Pm.put t d (.raw undef) | none => t) := by
          unfold fdst
          cases o.dst with
          | none => rfl
          | some d => exact fput_eq _ t d
        rw [hd] at this
        exact this
theorem prun1_n {P : Program} {call : Call1} {o : Oper} {s s' : PSt} (h : prun1 P call o s = some s') : s'.n = s.n := by
  unfold prun1 at h
  split at h
  · split at h
    · obtain ⟨r, _, rfl⟩ := Option.map_eq_some_iff.1 h; rfl
    · cases h
  · split at h
    · split at h
      · cases h; rfl
      · cases h
    · cases h
theorem pruns_n {P : Program} {call : Call1} {ops : Array Oper} : ∀ (l : List Oper) {s s' : PSt}, pruns P call ops l s = some s' → s'.n = s.n
  | [], s, s', h => by cases h; rfl
  | o :: rest, s, s', h => by
    unfold pruns at h
    split at h
    · obtain ⟨s1, h1, h2⟩ := Option.bind_eq_some_iff.1 h
      rw [pruns_n rest h2, prun1_n h1]
    · rw [pruns_n rest h]; rfl
    · cases h
theorem prunsq_n {P : Program} {call : Call1} {ops : Array Oper} : ∀ (l : List Oper) {s s' : PSt}, prunsq P call ops l s = some s' → s'.n = s.n
  | [], s, s', h => by cases h; rfl
  | o :: rest, s, s', h => by
    unfold prunsq at h
    split at h
    · split at h
      · split at h
        · obtain ⟨s1, h1, h2⟩ := Option.bind_eq_some_iff.1 h
          rw [prunsq_n rest h2]; rfl
        · cases h
      · split at h
        · split at h
          · rw [prunsq_n rest h]; rfl
          · cases h
        · cases h
    · rw [prunsq_n rest h]; rfl
    · cases h
theorem prunDraw_n {P : Program} {call : Call1} {ops : Array Oper} {s s' : PSt} (h : prunDraw P call ops s = some s') : s'.n = s.n := by
  unfold prunDraw at h
  split at h
  · split at h
    · obtain ⟨s1, h1, h2⟩ := Option.bind_eq_some_iff.1 h
      rw [pruns_n _ h2, prunsq_n _ h1]
    · cases h
  · cases h

theorem frunC_ok {P : Program} {call : Call1} {N n : Nat} : ∀ (c : Code) {e : Exit} {t t' : List PV} {h h' : Hp}, frunC P call N n c t h = some (e, t', h') → prunC P call N c ⟨n, t, h⟩ = some (e, ⟨n, t', h'⟩)
  | .skip, e, t, t', h, h', hr => by cases hr; rfl
  | .label _, e, t, t', h, h', hr => by cases hr; rfl
  | .exit _, e, t, t', h, h', hr => by cases hr; rfl
  | .ret, e, t, t', h, h', hr => by cases hr; rfl
  | .region _ ops draw, e, t, t', h, h', hr => by
    unfold frunC at hr
    unfold prunC
    cases draw with
    | true =>
      simp only at hr
      split at hr
      · rename_i s hs
        cases hr
        simp only [if_true, hs, Option.map_some]
        have := prunDraw_n hs
        obtain ⟨a, b, c⟩ := s
        simp only at this
        subst this; rfl
      · cases hr
    | false =>
      simp only at hr
      split at hr
      · rename_i t1 h1 hs
        cases hr
        simp only [Bool.false_eq_true, if_false, fruns_ok _ hs, Option.map_some]
      · cases hr
  | .seq x y, e, t, t', h, h', hr => by
    unfold frunC at hr
    unfold prunC
    split at hr
    · rename_i t1 h1 hs
      rw [frunC_ok x hs]
      exact frunC_ok y hr
    · rename_i hne
      rw [frunC_ok x hr]
      cases e with
      | normal => exact absurd hr (hne _ _)
      | _ => rfl
  | .cond c x y, e, t, t', h, h', hr => by
    unfold frunC at hr
    unfold prunC
    rw [fev_eq n t h] at hr
    split at hr
    · rename_i b hb
      rw [hb]
      cases b with
      | true => exact frunC_ok x hr
      | false => exact frunC_ok y hr
    · cases hr
  | .block id c, e, t, t', h, h', hr => by
    unfold frunC at hr
    unfold prunC
    split at hr
    · rename_i i t1 h1 hs
      rw [frunC_ok c hs]
      simp only
      split at hr
      · rw [if_pos ‹_›]; cases hr; rfl
      · rw [if_neg ‹_›]; cases hr; rfl
    · rename_i hne
      rw [frunC_ok c hr]
      cases e with
      | exit i => exact absurd hr (hne _ _ _)
      | _ => rfl
  | .loop c, e, t, t', h, h', hr => by
    unfold frunC at hr
    unfold prunC
    have key : ∀ (M : Nat) {t : List PV} {h : Hp}, floop (frunC P call N n c) M t h = some (e, t', h') → loopN (prunC P call N c) M ⟨n, t, h⟩ = some (e, ⟨n, t', h'⟩) := by
      intro M
      induction M with
      | zero => intro t h hr; cases hr
      | succ M ih =>
        intro t h hr
        have hr : (match frunC P call N n c t h with
          | some (.normal, t', h') => floop (frunC P call N n c) M t' h'
          | x => x) = some (e, t', h') := hr
        unfold loopN
        split at hr
        · rename_i t1 h1 hs
          rw [frunC_ok c hs]
          exact ih hr
        · rename_i hne
          rw [frunC_ok c hr]
          cases e with
          | normal => exact absurd hr (hne _ _)
          | _ => rfl
    exact key N hr
  | .rangeFunc .., e, t, t', h, h', hr => by cases hr
  | .scope _, e, t, t', h, h', hr => by cases hr
  | .goto _, e, t, t', h, h', hr => by cases hr
  | .refuse _, e, t, t', h, h', hr => by cases hr

theorem get_pad : ∀ (l : List PV) (k i : Nat), get (l ++ List.replicate k .any) i = get l i
  | [], 0, i => rfl
  | [], k + 1, 0 => rfl
  | [], k + 1, i + 1 => get_pad [] k i
  | x :: l, k, 0 => rfl
  | x :: l, k, i + 1 => get_pad l k i
theorem does_of_fruns {P : Program} {call : Call1} (hc : CallOk P call) {N k : Nat} {f : FuncId} {fn : Func} {c : Code} {args t : List PV} {h h1 : Hp} {e : Exit} {r : PV} (hf : P.funcs[f]? = some fn) (hb : fn.body = some c)
    (hp : frunC P call N (max args.length fn.ntmps) c (args ++ List.replicate k .any) h = some (e, t, h1)) (he : pend P fn r h1 e ⟨max args.length fn.ntmps, t, h1⟩) : Does P f args h r h1 :=
  does_of_run hf hb fun Z R a w hz f0 Q hk => prunC_sound hc c (f0.congr (fun i => (get_pad args k i).symm)) (frunC_ok c hp) (fun R' a' w' f' => hk _ _ _ _ _ f' he)
theorem frunB_ok {P : Program} {N : Nat} {ih : Call1} (hc : CallOk P ih) : CallOk P (frunB P N ih) := by
  intro f args h r h' hr
  unfold frunB at hr
  split at hr
  case h_2 => cases hr
  rename_i fn hf
  split at hr
  case h_2 => cases hr
  rename_i c hb
  dsimp only at hr
  split at hr
  · rename_i t1 h1 hp
    split at hr
    · rename_i r1 he
      cases hr
      exact does_gc (does_of_fruns hc hf hb hp ⟨he, rfl⟩)
    · cases hr
  · rename_i t1 h1 hp
    split at hr
    · rename_i r1 he
      cases hr
      exact does_gc (does_of_fruns hc hf hb hp ⟨he, rfl⟩)
    · cases hr
  · cases hr
theorem frunF_ok {P : Program} {ext : Ext} (hx : ExtOk P ext) (N : Nat) : ∀ d : Nat, CallOk P (frunF P ext N d)
  | 0, f, args, h, r, h', hr => by cases hr
  | d + 1, f, args, h, r, h', hr => by
    have hr : (match ext f (args.map PV.erase) with
      | some r => some (r, h)
      | none => frunB P N (frunF P ext N d) f args h) = some (r, h') := hr
    split at hr
    · rename_i r1 he
      cases hr
      exact does_of_pure (hx _ _ _ he)
    · exact frunB_ok (frunF_ok hx N d) _ _ _ _ _ hr
/-- A run on known values. -/
theorem does_of_frun {P : Program} {ext : Ext} (hx : ExtOk P ext) {f : FuncId} {args : List PV} {h h' : Hp} {r : PV} (N d : Nat) (hr : frunF P ext N d f args h = some (r, h')) : Does P f args h r h' := frunF_ok hx N d _ _ _ _ _ hr
theorem pure_of_frun {P : Program} {ext : Ext} (hx : ExtOk P ext) {f : FuncId} {args : List PV} {h' : Hp} {r : PV} (N d : Nat) (hr : frunF P ext N d f args noHp = some (r, h')) : Pure P f args r.erase := pure_of_does (does_of_frun hx N d hr)

end
end Pm
end Go.Proofs.Ytacccimihgailaa
