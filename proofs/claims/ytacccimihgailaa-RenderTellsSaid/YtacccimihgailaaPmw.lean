/- Runs by a tape: decisions and answers; each answer owes a proof. Pieces of code as steps from state to state; loops; what is weaker. -/
import Derived.Test.YtacccimihgailaaPmv
import Derived.LoopN
set_option linter.unusedVariables false
set_option linter.unusedSimpArgs false
namespace Go.Proofs.Ytacccimihgailaa
namespace Pm
namespace Tp
open Go.RowKit

/-- What is weaker: whatever is the one is the other. -/
def Wk (p q : PV) : Prop := ∀ (R : Rel) (v : Value), VR R v p → VR R v q
/-- The same across a call. -/
def WkE (p q : PV) : Prop := ∀ (R : Rel) (v : Value), VR R v p → VR (bare R.M) v q
inductive WkEs : List PV → List PV → Prop
  | nil : WkEs [] []
  | cons {p q : PV} {ps qs : List PV} (h : WkE p q) (t : WkEs ps qs) : WkEs (p :: ps) (q :: qs)
theorem WkEs.length {ps qs : List PV} (h : WkEs ps qs) : ps.length = qs.length := by
  induction h with
  | nil => rfl
  | cons _ _ ih => simp [ih]
theorem WkEs.get {ps qs : List PV} (h : WkEs ps qs) : ∀ (i : Nat) (q : PV), qs[i]? = some q → ∃ p, ps[i]? = some p ∧ WkE p q := by
  induction h with
  | nil => intro i q hi; simp at hi
  | cons h t ih =>
    intro i q hi
    cases i with
    | zero => simp at hi; subst hi; exact ⟨_, rfl, h⟩
    | succ i => exact ih i q (by simpa using hi)
def PureE (P : Program) (f : FuncId) (args : List PV) (r : PV) : Prop := ∃ args', WkEs args args' ∧ Pure P f args' r

theorem Wk.refl (p : PV) : Wk p p := fun _ _ h => h
theorem Wk.trans {p q r : PV} (h : Wk p q) (k : Wk q r) : Wk p r := fun R v x => k R v (h R v x)
theorem wk_own0 (b : Nat) : Wk (.raw (.pointer none)) (.own b) := fun R v h => by cases h; exact .own0 b
theorem wk_own1 (b : Nat) : Wk (.ptr b 0) (.own b) := fun R v h => by cases h with | ptr _ blk _ hb => exact .own1 b blk hb
theorem wk_any (p : PV) : Wk p .any := fun R v h => .any v
/-- A slice, less known: whether it is nil, its room. -/
theorem wk_sl (tok : Option Nat) (nl : Bool) (cap : Option Nat) (z : Nat) (es : List PV) : Wk (.sl tok nl cap z es) (.sl tok false none z es) := fun R v h => by
  cases h with
  | sl _ _ _ _ _ A c blk o f hc hcap hn ha hz hm hv ht =>
    refine .sl tok false none z es A c blk o f hc (fun _ h => by cases h) (fun h => by cases h) (fun _ => ?_) hz hm hv (fun r hr => ?_)
    · cases nl with
      | false => exact ha rfl
      | true => obtain ⟨h1, h2, h3⟩ := hn rfl; exact .inr ⟨h2, h3⟩
    · obtain ⟨x, g1, g2, g3⟩ := ht r hr
      refine ⟨x, g1, g2, fun hx => ?_⟩
      rcases g3 hx with g | ⟨q1, q2, q3⟩
      · exact .inl g
      · exact .inr ⟨q1, rfl, q3⟩
theorem wk_sl0 (tok : Option Nat) (nl : Bool) (cap : Option Nat) (z : Nat) (es : List PV) : Wk (.sl tok nl cap z es) (.sl none false none z es) := fun R v h => by
  cases wk_sl tok nl cap z es R v h with
  | sl _ _ _ _ _ A c blk o f hc hcap hn ha hz hm hv ht => exact .sl none false none z es A c blk o f hc hcap hn ha hz hm hv (fun r hr => by cases hr)
theorem wk_nil (tok : Option Nat) (nl : Bool) (cap : Option Nat) (z z' : Nat) : Wk (.sl tok nl cap z []) (.sl none false none z' []) := fun R v h => by
  cases wk_sl0 tok nl cap z [] R v h with
  | sl _ _ _ _ _ A c blk o f hc hcap hn ha hz hm hv ht => exact .sl none false none z' [] A c blk o f hc hcap hn ha (fun i e h => by simp at h) (fun i e j p h => by simp at h) (fun i e j p h => by simp at h) (fun r hr => by cases hr)

/-- A value that leans on no box and no row. -/
def Er (p : PV) : Prop := p.erase = p
def ErL (es : List PV) : Prop := ∀ p ∈ es, Er p
theorem erL_nil : ErL [] := fun p h => by cases h
theorem erL_cons {p : PV} {es : List PV} (h : Er p) (t : ErL es) : ErL (p :: es) := fun q hq => by
  rcases List.mem_cons.1 hq with rfl | hq
  · exact h
  · exact t q hq
theorem erL_map {α : Type} {f : α → PV} (h : ∀ x, Er (f x)) (xs : List α) : ErL (xs.map f) := fun p hp => by
  obtain ⟨x, _, rfl⟩ := List.mem_map.1 hp; exact h x
theorem eraseL_er {es : List PV} (h : ErL es) : eraseL es = es := by
  rw [eraseL_map]
  conv => rhs; rw [← List.map_id es]
  exact List.map_congr_left fun p hp => h p hp
theorem er_agg {cs : List PV} (h : ErL cs) : Er (.agg cs) := by unfold Er; rw [PV.erase, eraseL_er h]
theorem er_tup {cs : List PV} (h : ErL cs) : Er (.tup cs) := by unfold Er; rw [PV.erase, eraseL_er h]
theorem er_sl {nl : Bool} {cap : Option Nat} {z : Nat} {es : List PV} (h : ErL es) : Er (.sl none nl cap z es) := by unfold Er; rw [PV.erase, eraseL_er h]
theorem er_eptr {e : PV} {o : Nat} (h : Er e) : Er (.eptr e o) := by unfold Er at *; rw [PV.erase, h]
theorem wkE_er {p : PV} (h : Er p) : WkE p p := fun R v hv => by have := hv.erase; rwa [h] at this
theorem wkE_wk {p q : PV} (h : Er p) (k : Wk p q) : WkE p q := fun R v hv => k _ _ (wkE_er h R v hv)
theorem wkE_sl {tok : Option Nat} {nl : Bool} {cap : Option Nat} {z : Nat} {es : List PV} (h : ErL es) : WkE (.sl tok nl cap z es) (.sl none false none z es) := fun R v hv =>
  wkE_er (er_sl h) R v (wk_sl0 tok nl cap z es R v hv)
theorem wkE_nil (tok : Option Nat) (nl : Bool) (cap : Option Nat) (z z' : Nat) : WkE (.sl tok nl cap z []) (.sl none false none z' []) := fun R v hv =>
  wkE_er (er_sl erL_nil) R v (wk_nil tok nl cap z z' R v hv)
theorem wkEs_get2 {ps qs : List PV} (h : WkEs ps qs) : ∀ (i : Nat) (p q : PV), ps[i]? = some p → qs[i]? = some q → WkE p q := by
  induction h with
  | nil => intro i p q hi; simp at hi
  | cons h t ih =>
    intro i p q hi hj
    cases i with
    | zero => simp at hi hj; subst hi; subst hj; exact h
    | succ i => exact ih i p q (by simpa using hi) (by simpa using hj)
theorem wkE_agg {ps qs : List PV} (h : WkEs ps qs) : WkE (.agg ps) (.agg qs) := fun R v hv => by
  cases hv with
  | agg vs _ hl hv =>
    refine .agg vs qs (by rw [hl, h.length]) (fun i v q hi hj => ?_)
    obtain ⟨p, hp, hw⟩ := h.get i q hj
    exact hw R v (hv i v p hi hp)
theorem wkE_tup {ps qs : List PV} (h : WkEs ps qs) : WkE (.tup ps) (.tup qs) := fun R v hv => by
  cases hv with
  | tup vs _ hl hv =>
    refine .tup vs qs (by rw [hl, h.length]) (fun i v q hi hj => ?_)
    obtain ⟨p, hp, hw⟩ := h.get i q hj
    exact hw R v (hv i v p hi hp)
theorem sunk_er (nb nr : Nat) (p : PV) : Er p → p.sunk nb nr = true := by
  refine PV.rec (motive_1 := fun p => p.erase = p → p.sunk nb nr = true) (motive_2 := fun l => eraseL l = l → sunkL nb nr l = true) ?_ ?_ ?_ ?_ ?_ ?_ ?_ ?_ ?_ ?_ ?_ ?_ ?_ ?_ ?_ p
  · intro _; rfl
  · intro v _; rfl
  · intro k n _; rfl
  · intro b _; rfl
  · intro l _; rfl
  · intro b o h; simp [PV.erase] at h
  · intro e o ih h; simp [PV.erase] at h; exact ih h
  · intro tok nl cap z es ih h
    simp only [PV.erase, PV.sl.injEq] at h
    obtain ⟨rfl, _, _, _, h⟩ := h
    exact ih h
  · intro b o l c h; simp [PV.erase] at h
  · intro cs ih h; simp only [PV.erase, PV.agg.injEq] at h; exact ih h
  · intro cs ih h; simp only [PV.erase, PV.tup.injEq] at h; exact ih h
  · intro r es ih h; simp [PV.erase] at h
  · intro b h; simp [PV.erase] at h
  · intro _; rfl
  · intro p r ih1 ih2 h
    simp only [eraseL, List.cons.injEq] at h
    simp only [sunkL, ih1 h.1, ih2 h.2, Bool.and_self]
theorem sunkL_er {nb nr : Nat} {es : List PV} (h : ErL es) : sunkL nb nr es = true := by
  rw [sunkL_all, List.all_eq_true]; exact fun p hp => sunk_er nb nr p (h p hp)
theorem sunk_tok {nb nr r : Nat} {nl : Bool} {cap : Option Nat} {z : Nat} {es : List PV} (hr : r < nr) (h : ErL es) : (PV.sl (some r) nl cap z es).sunk nb nr = true := by
  simp only [PV.sunk, decide_eq_true hr, sunkL_er h, Bool.and_self]
theorem sunkL_nil (nb nr : Nat) : sunkL nb nr [] = true := rfl
theorem sunkL_cons {nb nr : Nat} {p : PV} {es : List PV} (h : p.sunk nb nr = true) (t : sunkL nb nr es = true) : sunkL nb nr (p :: es) = true := by simp only [sunkL, h, t, Bool.and_self]
theorem sunk_agg {nb nr : Nat} {cs : List PV} (h : sunkL nb nr cs = true) : (PV.agg cs).sunk nb nr = true := h
theorem sunk_tup {nb nr : Nat} {cs : List PV} (h : sunkL nb nr cs = true) : (PV.tup cs).sunk nb nr = true := h

theorem does_of_pureE {P : Program} {f : FuncId} {args : List PV} {h : Hp} {r : PV} (hp : PureE P f args r) : Does P f args h r h := by
  intro B0 R vals w hB hs hl hv
  obtain ⟨args', hw, hp⟩ := hp
  refine (hp R.M vals w hs.mem (by rw [hl]; exact hw.length) (fun i v p hi hj => ?_)).mono ?_
  · obtain ⟨q, h1, h2⟩ := hw.get i p hj
    exact h2 R v (hv i v q hi h1)
  · rintro e w' ⟨v, M', rfl, hv', h1, h2, h3, hb⟩
    obtain ⟨g1, g2⟩ := hsim_call hs hB h1 h2 h3 hb
    exact ⟨v, rfl, _, g1, hv'.mono (bare_le (fun _ _ _ hx => hx)), g2, hb.mono hB, fun b o x hx => by
      rcases h3 b o x hx with h | h
      · exact .inl h
      · exact .inr (Nat.le_trans hB h)⟩
theorem pure_wk {P : Program} {f : FuncId} {args args' : List PV} {r r' : PV} (h : Pure P f args' r) (hw : WkEs args args') (hr : Wk r r') : Pure P f args r' := by
  intro M vals w hM hl hv
  refine (h M vals w hM (by rw [hl]; exact hw.length) (fun i v p hi hj => ?_)).mono ?_
  · obtain ⟨q, h1, h2⟩ := hw.get i p hj
    exact h2 (bare M) v (hv i v q hi h1)
  · rintro e w' ⟨v, M', rfl, hv', h1⟩
    exact ⟨v, M', rfl, hr _ _ hv', h1⟩

noncomputable section
inductive Dec where
  | b (d : Bool)
  | v (k : Nat) (x : PV)
  | h (k : Nat) (x : PV) (h : Hp)
  | d (k : Nat) (x : PV)
  | sg (tag : Nat) (ks : List Nat) (nb nr : Nat) (T0 : Sl) (h0 : Hp) (e : Exit) (T' : Sl) (h' : Hp)
  | fin (ks : List Nat) (nb nr : Nat) (T' : Sl) (h' : Hp)
abbrev KO (X : Type) := Option (Prop × X)
abbrev KT (X : Type) := Sl → Hp → List Dec → KO X
def must {X : Type} (p : Prop) (k : KO X) : KO X :=
  match k with
  | some (q, r) => some (p ∧ q, r)
  | none => none
def ask {X : Type} (c : Bool) (ds : List Dec) (k : Bool → List Dec → KO X) : KO X :=
  match ds with
  | .b d :: ds' => must (c = d) (k d ds')
  | _ => none
def okey (o : Oper) : Nat := match o.dst with | some d => d + 1 | none => 0
def ppick (c a b : PV) : Option PV := match c with | .bool c => (match c with | true => some a | false => some b) | _ => none
def ansOp (P : Program) (h : Hp) (op : Op) (ev : Operand → PV) (x : PV) : Prop :=
  match op with
  | .indexAddr t a i => PV.indexAddr P t (ev a) (ev i) = some (true, x)
  | .index t a i => PV.index P t (ev a) (ev i) = some (true, x)
  | .slice t a lo hi mx => PV.slice P t (ev a) (lo.map ev) (hi.map ev) (mx.map ev) = some (true, x)
  | .binOp op t a b _ => pbin P op t (ev a) (ev b) = some (true, x)
  | .unOp op _ a => pun op (ev a) = some (true, x)
  | .convert s d a => pconv P s d h (ev a) = some (true, x)
  | .pick c a b => ppick (ev c) (ev a) (ev b) = some x
  | .move a => ev a = x
  | .assign a => ev a = x
  | .load t a => pload P t h (ev a) = some x
  | .field s a k => (ev a).field P s k = some x
  | .build t parts => pbuild P t (parts.toList.map fun (i, x) => (i, ev x)) = some x
  | .call c =>
    match c.callee with
    | .builtin b => pbuiltin P h b c.argTypes.toList (c.args.toList.map ev) = some (true, x, h)
    | .value f => pnative P h (ev f) (c.args.toList.map ev) = some (true, x, h)
    | _ => False
  | _ => False
def tval (P : Program) (h : Hp) (o : Oper) (ev : Operand → PV) (x : PV) : Prop :=
  match fcallee P ev o with
  | some (f, args) => PureE P f args x
  | none => ansOp P h o.op ev x
def pstore (P : Program) (h : Hp) (t : TypeId) (a x : PV) : Res :=
  match a with
  | .ptr b o =>
    match h.bx[b]? with
    | some cs =>
      if (P.underlying t).isSome = true ∧ x.flat = true ∧ x.cells.length = P.cellsOf t ∧ o + P.cellsOf t ≤ cs.length then
        some (true, .raw undef, { h with bx := h.bx.set b (splice cs o x.cells) })
      else none
    | none => none
  | _ => none
def theap (P : Program) (h : Hp) (o : Oper) (ev : Operand → PV) (x : PV) (h' : Hp) : Prop :=
  match fcallee P ev o with
  | some (f, args) => Does P f args h x h'
  | none =>
    match o.op with
    | .call c =>
      match c.callee with
      | .builtin b => pbuiltin P h b c.argTypes.toList (c.args.toList.map ev) = some (true, x, h')
      | _ => False
    | .store t a v => pstore P h t (ev a) (ev v) = some (true, x, h')
    | _ => False
def tdoes (P : Program) (h : Hp) (o : Oper) (ev : Operand → PV) (x : PV) : Prop :=
  match fcallee P ev o with
  | some (f, args) => Does P f args h x h
  | none => False
def ttake {X : Type} (o : Oper) (T : Sl) (ds : List Dec) (k : KT X) (r : Res) : KO X :=
  match r with
  | some (c, v, h') =>
    match mayFail o.op with
    | true => must (c = true) (k (gdst o.dst T v) h' ds)
    | false => match c with | true => k (gdst o.dst T v) h' ds | false => none
  | none => none
/-- An operation that is computed. -/
def tcomp {X : Type} (P : Program) (o : Oper) (n : Nat) (T : Sl) (h : Hp) (ds : List Dec) (k : KT X) : KO X :=
  match o.op with
  | .move x => k (gdst o.dst T (gev n T x)) h ds
  | .assign x => k (gdst o.dst T (gev n T x)) h ds
  | .pick c a b =>
    match gev n T c with
    | .bool y => ask y ds fun d ds' => match d with | true => k (gdst o.dst T (gev n T a)) h ds' | false => k (gdst o.dst T (gev n T b)) h ds'
    | _ => none
  | .call c =>
    match fcallee P (gev n T) o with
    | some _ => none
    | none => ttake o T ds k (qcall P h (gev n T) c)
  | op => ttake o T ds k (fpopv P h op (gev n T))
def tstep {X : Type} (P : Program) (o : Oper) (n : Nat) (T : Sl) (h : Hp) (ds : List Dec) (k : KT X) : KO X :=
  match ds with
  | .v key x :: ds' => match Nat.beq key (okey o) with | true => must (tval P h o (gev n T) x) (k (gdst o.dst T x) h ds') | false => tcomp P o n T h ds k
  | .h key x h' :: ds' => match Nat.beq key (okey o) with | true => must (theap P h o (gev n T) x h') (k (gdst o.dst T x) h' ds') | false => tcomp P o n T h ds k
  | .d key x :: ds' => match Nat.beq key (okey o) with | true => must (tdoes P h o (gev n T) x) (k (gdst o.dst T x) h ds') | false => tcomp P o n T h ds k
  | _ => tcomp P o n T h ds k
def twant (ops : Array Oper) (n : Nat) (T : Sl) (o : Oper) : Option Bool :=
  match o.guard with
  | none => some true
  | some (j, b) =>
    match gyield ops n T j with
    | some (some c) => match b with | true => some c | false => some !c
    | some none => some false
    | none => none
def truns {X : Type} (P : Program) (ops : Array Oper) (n : Nat) (k : KT X) (l : List Oper) : KT X :=
  List.rec (motive := fun _ => KT X) k
    (fun o _ ih T h ds =>
      match o.guard with
      | none => tstep P o n T h ds ih
      | some _ =>
        match twant ops n T o with
        | some b => ask b ds fun d ds' => match d with | true => tstep P o n T h ds' ih | false => ih (gdst o.dst T (.raw undef)) h ds'
        | none => none) l
/-- In a region whose order is drawn: operations that leave boxes and rows alone. -/
def quiet (op : Op) : Bool :=
  match op with
  | .alloc _ => false
  | .box _ _ => false
  | .store _ _ _ => false
  | .buildSlice _ _ _ => false
  | .call c => match c.callee with | .builtin .append => false | _ => true
  | _ => true
def tcompq1 {X : Type} (P : Program) (o : Oper) (n : Nat) (T : Sl) (h : Hp) (ds : List Dec) (k : KT X) : KO X :=
  match fcallee P (gev n T) o with
  | some _ => none
  | none =>
    match popq P h o (gev n T) with
    | some (c, v) =>
      match mayFail o.op with
      | true => must (c = true) (k (gdst o.dst T v) h ds)
      | false => match c with | true => k (gdst o.dst T v) h ds | false => none
    | none => none
def tcompq {X : Type} (P : Program) (o : Oper) (n : Nat) (T : Sl) (h : Hp) (ds : List Dec) (k : KT X) : KO X :=
  match o.op with
  | .pick c a b =>
    match gev n T c with
    | .bool y => ask y ds fun d ds' => match d with | true => k (gdst o.dst T (gev n T a)) h ds' | false => k (gdst o.dst T (gev n T b)) h ds'
    | _ => none
  | _ => tcompq1 P o n T h ds k
def tstepq {X : Type} (P : Program) (o : Oper) (n : Nat) (T : Sl) (h : Hp) (ds : List Dec) (k : KT X) : KO X :=
  match ds with
  | .v key x :: ds' => match Nat.beq key (okey o) && quiet o.op with | true => must (tval P h o (gev n T) x) (k (gdst o.dst T x) h ds') | false => tcompq P o n T h ds k
  | .d key x :: ds' => match Nat.beq key (okey o) with | true => must (tdoes P h o (gev n T) x) (k (gdst o.dst T x) h ds') | false => tcompq P o n T h ds k
  | _ => tcompq P o n T h ds k
def trunsq {X : Type} (P : Program) (ops : Array Oper) (n : Nat) (k : KT X) (l : List Oper) : KT X :=
  List.rec (motive := fun _ => KT X) k
    (fun o _ ih T h ds =>
      match o.guard with
      | none => tstepq P o n T h ds ih
      | some _ =>
        match twant ops n T o with
        | some b => ask b ds fun d ds' => match d with | true => tstepq P o n T h ds' ih | false => ih (gdst o.dst T (.raw undef)) h ds'
        | none => none) l
def tdraw {X : Type} (P : Program) (ops : Array Oper) (n : Nat) (k : KT X) (T : Sl) (h : Hp) (ds : List Dec) : KO X :=
  match P.follows .mixedOrders && drawOk ops (dsplit ops) with
  | true => trunsq P ops n (truns P ops n k (ops.toList.drop (dsplit ops))) (ops.toList.take (dsplit ops)) T h ds
  | false => none

/-- Few boxes and rows are leaned on. -/
def Kept (nb nr : Nat) (vs : List PV) (bs : List (List PV)) : Prop := (∀ v ∈ vs, v.sunk nb nr = true) ∧ ∀ b ∈ bs, sunkL nb nr b = true
theorem kept_nil (nb nr : Nat) : Kept nb nr [] [] := ⟨fun v h => (List.not_mem_nil h).elim, fun v h => (List.not_mem_nil h).elim⟩
theorem kept_v {nb nr : Nat} {v : PV} {vs : List PV} {bs : List (List PV)} (h : v.sunk nb nr = true) (t : Kept nb nr vs bs) : Kept nb nr (v :: vs) bs :=
  ⟨fun x hx => by
    rcases List.mem_cons.1 hx with rfl | hx
    · exact h
    · exact t.1 x hx, t.2⟩
theorem kept_b {nb nr : Nat} {b : List PV} {bs : List (List PV)} (h : sunkL nb nr b = true) (t : Kept nb nr [] bs) : Kept nb nr [] (b :: bs) :=
  ⟨t.1, fun x hx => by
    rcases List.mem_cons.1 hx with rfl | hx
    · exact h
    · exact t.2 x hx⟩
def Far (Z : Bas) (z : Nat × Nat) : Prop := Z.R0.β.length ≤ z.1 ∧ Z.R0.hw.length ≤ z.2
/-- A state is another one, too. -/
def Ent (z : Nat × Nat) (T : Sl) (h : Hp) (T' : Sl) (h' : Hp) : Prop := ∀ (Z : Bas) (R : Rel) (n : Nat) (a : Act) (w : World), Far Z z → Sim Z R n T h a w → ∃ R', Sim Z R' n T' h' a w
/-- From a state a piece of code ends so, in such a state. -/
def SD (P : Program) (z : Nat × Nat) (n : Nat) (c : Code) (T : Sl) (h : Hp) (e : Exit) (T' : Sl) (h' : Hp) : Prop :=
  ∀ (Z : Bas) (R : Rel) (a : Act) (w : World), Far Z z → Sim Z R n T h a w → ∀ (Q : Exit → Act → World → Prop), (∀ R' a' w', Sim Z R' n T' h' a' w' → Q e a' w') → c.wp P Q a w
/-- The same of a loop's rounds. -/
def SR (P : Program) (z : Nat × Nat) (n : Nat) (c : Code) (k : Nat) (T : Sl) (h : Hp) (e : Exit) (T' : Sl) (h' : Hp) : Prop :=
  ∀ (Z : Bas) (R : Rel) (a : Act) (w : World), Far Z z → Sim Z R n T h a w → ∀ (Q : Exit → Act → World → Prop), (∀ R' a' w', Sim Z R' n T' h' a' w' → Q e a' w') → Code.rounds P c Q k a w
theorem sr_next {P : Program} {z : Nat × Nat} {n : Nat} {c : Code} {k : Nat} {T T1 T' : Sl} {h h1 h' : Hp} {e : Exit} (a : SD P z n c T h .normal T1 h1) (b : SR P z n c k T1 h1 e T' h') : SR P z n c (k + 1) T h e T' h' := by
  intro Z R x w hz s Q hk
  rw [rounds_succ]
  exact a Z R x w hz s _ (fun R' a' w' s' => b Z R' a' w' hz s' Q hk)
theorem sr_exit {P : Program} {z : Nat × Nat} {n : Nat} {c : Code} {k : Nat} {T T' : Sl} {h h' : Hp} {e : Exit} (a : SD P z n c T h e T' h') (hne : e ≠ .normal) : SR P z n c (k + 1) T h e T' h' := by
  intro Z R x w hz s Q hk
  rw [rounds_succ]
  refine a Z R x w hz s _ (fun R' a' w' s' => ?_)
  have := hk R' a' w' s'
  cases e with
  | normal => exact absurd rfl hne
  | _ => exact this
theorem sd_of_sr {P : Program} {z : Nat × Nat} {n : Nat} {c : Code} {k : Nat} {T T' : Sl} {h h' : Hp} {e : Exit} (a : SR P z n c k T h e T' h') : SD P z n (.loop c) T h e T' h' :=
  fun Z R x w hz s Q hk => wp_loop_rounds k (a Z R x w hz s Q hk)

def tgo {X : Type} (e : Exit) (kn : KT X) (ke : Exit → KT X) : KT X := match e with | .normal => kn | e => ke e
def tkeepS (P : Program) (z : Nat × Nat) {X : Type} (ks : List Nat) (nb nr : Nat) (T : Sl) (h : Hp) (T' : Sl) (h' : Hp) (k : KO X) : KO X :=
  match Nat.ble z.1 nb && Nat.ble z.2 nr with
  | true => must (Kept nb nr (ks.map (tget T)) (h.bx.take nb)) (must (Ent z (tkeep T ks) (hcut h nb nr) T' h') k)
  | false => none
def tsg {X : Type} (P : Program) (z : Nat × Nat) (n : Nat) (c : Code) (tag : Nat) (kn : KT X) (ke : Exit → KT X) (T : Sl) (h : Hp) (ds : List Dec) (els : KO X) : KO X :=
  match ds with
  | .sg t ks nb nr T0 h0 e T' h' :: ds' => match Nat.beq t tag with | true => tkeepS P z ks nb nr T h T0 h0 (must (SD P z n c T0 h0 e T' h') (tgo e kn ke T' h' ds')) | false => els
  | _ => els
def tC {X : Type} (P : Program) (z : Nat × Nat) (n : Nat) (c : Code) : KT X → (Exit → KT X) → KT X :=
  Code.rec (motive := fun _ => KT X → (Exit → KT X) → KT X)
    (fun kn _ T h ds => kn T h ds)
    (fun _ ops draw kn _ T h ds => match draw with | true => tdraw P ops n kn T h ds | false => truns P ops n kn ops.toList T h ds)
    (fun _ _ ix iy kn ke T h ds => ix (iy kn ke) ke T h ds)
    (fun c x y ix iy kn ke T h ds =>
      tsg P z n (.cond c x y) 1 kn ke T h ds
        (match gev n T c with
        | .bool b => ask b ds fun d ds' => match d with | true => ix kn ke T h ds' | false => iy kn ke T h ds'
        | _ => none))
    (fun id c ic kn ke T h ds => tsg P z n (.block id c) (2 + id) kn ke T h ds (ic kn (fun e T h ds => match e with | .exit i => (match Nat.beq i id with | true => kn T h ds | false => ke (.exit i) T h ds) | e => ke e T h ds) T h ds))
    (fun c ic kn ke T h ds => tsg P z n (.loop c) 0 kn ke T h ds none)
    (fun _ _ _ _ _ _ _ _ _ _ _ => none)
    (fun id _ ke T h ds => ke (.exit id) T h ds)
    (fun _ _ _ _ _ _ _ => none)
    (fun _ kn _ T h ds => kn T h ds)
    (fun _ _ _ _ _ _ => none)
    (fun _ ke T h ds => ke .ret T h ds)
    (fun _ _ _ _ _ _ => none) c

section
variable {P : Program} {Z : Bas} {z : Nat × Nat} {n : Nat} {X : Type} {r : X}
def Out {X : Type} (k : KO X) (r : X) : Prop := ∃ C, k = some (C, r) ∧ C
theorem out_none {X : Type} {r : X} : ¬ Out (none : KO X) r := by rintro ⟨C, h, _⟩; cases h
theorem out_must {p : Prop} {k : KO X} (h : Out (must p k) r) : p ∧ Out k r := by
  obtain ⟨C, h1, h2⟩ := h
  unfold must at h1
  split at h1
  · rename_i q r'
    cases h1
    exact ⟨h2.1, q, rfl, h2.2⟩
  · cases h1
theorem out_ask {c : Bool} {ds : List Dec} {k : Bool → List Dec → KO X} (h : Out (ask c ds k) r) : ∃ ds', Out (k c ds') r := by
  unfold ask at h
  split at h
  · rename_i d ds'
    obtain ⟨rfl, h2⟩ := out_must h
    exact ⟨ds', h2⟩
  · exact (out_none h).elim
def OK {X : Type} (n : Nat) (k : KT X) (r : X) (s : PSt) : Prop := s.n = n ∧ ∃ T ds, Rep T s.t ∧ Out (k T s.h ds) r
theorem twant_eq {ops : Array Oper} {T : Sl} {t : List PV} (hr : Rep T t) (h : Hp) (o : Oper) : twant ops n T o = pwant ops ⟨n, t, h⟩ o := by
  rw [← gwant_eq hr h]
  unfold twant gwant
  cases o.guard with
  | none => rfl
  | some jb =>
    obtain ⟨j, b⟩ := jb
    dsimp only
    cases gyield ops n T j with
    | none => rfl
    | some y =>
      cases y with
      | none => cases b <;> rfl
      | some c => cases b <;> cases c <;> rfl

theorem ansOp_popv {h : Hp} {o : Oper} {ev : Operand → PV} {x : PV} (ha : ansOp P h o.op ev x) : popv P h o ev = some (true, x, h) := by
  rw [← fpopv_eq]
  generalize o.op = op at ha
  cases op <;> simp only [ansOp] at ha <;> try exact ha.elim
  case move a => show some (true, ev a, h) = _; rw [ha]
  case assign a => show some (true, ev a, h) = _; rw [ha]
  case pick c a b =>
    show qpick h ev c a b = _
    unfold qpick
    unfold ppick at ha
    split at ha
    · rename_i y hy
      simp only [hy]
      cases y with
      | true => simp at ha; simp [ha]
      | false => simp at ha; simp [ha]
    · cases ha
  case build t parts => show qbuild P h ev t parts = _; unfold qbuild; rw [ha]; rfl
  case call c =>
    show qcall P h ev c = _
    unfold qcall
    split at ha
    · rename_i b hb; simp only [hb]; exact ha
    · rename_i f hb; simp only [hb]; exact ha
    · exact ha.elim
  all_goals first | (show qcond h _ = _; rw [ha]; rfl) | (show qpure h _ = _; rw [ha]; rfl)

theorem tval_pop {o : Oper} {T : Sl} {t : List PV} {h : Hp} {ds : List Dec} {k : KT X} {x : PV} (hr : Rep T t) (hv : tval P h o (gev n T) x) (hg : Out (k (gdst o.dst T x) h ds) r) : pop1 P o ⟨n, t, h⟩ (OK n k r) := by
  have hev := gev_eq (n := n) hr h
  unfold tval at hv
  have e1 : fcallee P (gev n T) o = PSt.callee P ⟨n, t, h⟩ o := by rw [hev]; rfl
  rw [e1] at hv
  unfold pop1
  split at hv
  · rename_i f args hcl
    simp only [hcl]
    exact ⟨callee_callable hcl, x, h, does_of_pureE hv, rfl, _, ds, gdst_rep hr o.dst x, hg⟩
  · rename_i hcl
    simp only [hcl]
    rw [hev] at hv
    simp only [ansOp_popv hv]
    exact ⟨trivial, rfl, _, ds, gdst_rep hr o.dst x, hg⟩
theorem theap_pop {o : Oper} {T : Sl} {t : List PV} {h h' : Hp} {ds : List Dec} {k : KT X} {x : PV} (hr : Rep T t) (hv : theap P h o (gev n T) x h') (hg : Out (k (gdst o.dst T x) h' ds) r) : pop1 P o ⟨n, t, h⟩ (OK n k r) := by
  have hev := gev_eq (n := n) hr h
  unfold theap at hv
  have e1 : fcallee P (gev n T) o = PSt.callee P ⟨n, t, h⟩ o := by rw [hev]; rfl
  rw [e1] at hv
  unfold pop1
  split at hv
  · rename_i f args hcl
    simp only [hcl]
    exact ⟨callee_callable hcl, x, h', hv, rfl, _, ds, gdst_rep hr o.dst x, hg⟩
  · rename_i hcl
    simp only [hcl]
    rw [hev] at hv
    have : popv P h o (PSt.ev ⟨n, t, h⟩) = some (true, x, h') := by
      rw [← fpopv_eq]
      split at hv
      · rename_i c hop
        split at hv
        · rename_i b hb
          rw [hop]
          unfold fpopv qcall
          simp only [hb]
          exact hv
        · exact hv.elim
      · rename_i t a v hop
        rw [hop]
        exact hv
      · exact hv.elim
    simp only [this]
    exact ⟨trivial, rfl, _, ds, gdst_rep hr o.dst x, hg⟩
theorem tdoes_pop {o : Oper} {T : Sl} {t : List PV} {h : Hp} {ds : List Dec} {k : KT X} {x : PV} (hr : Rep T t) (hv : tdoes P h o (gev n T) x) (hg : Out (k (gdst o.dst T x) h ds) r) : pop1 P o ⟨n, t, h⟩ (OK n k r) := by
  have hev := gev_eq (n := n) hr h
  unfold tdoes at hv
  have e1 : fcallee P (gev n T) o = PSt.callee P ⟨n, t, h⟩ o := by rw [hev]; rfl
  rw [e1] at hv
  unfold pop1
  split at hv
  · rename_i f args hcl
    simp only [hcl]
    exact ⟨callee_callable hcl, x, h, hv, rfl, _, ds, gdst_rep hr o.dst x, hg⟩
  · exact hv.elim
theorem ttake_pop {o : Oper} {T : Sl} {t : List PV} {h : Hp} {ds : List Dec} {k : KT X} {x : Res} (hr : Rep T t) (hn : PSt.callee P ⟨n, t, h⟩ o = none) (he : x = popv P h o (PSt.ev ⟨n, t, h⟩)) (hg : Out (ttake o T ds k x) r) : pop1 P o ⟨n, t, h⟩ (OK n k r) := by
  unfold ttake at hg
  unfold pop1
  simp only [hn]
  subst he
  split at hg
  · rename_i c v h' hp
    simp only [hp]
    split at hg
    · obtain ⟨rfl, h2⟩ := out_must hg
      exact ⟨rfl, rfl, _, ds, gdst_rep hr o.dst v, h2⟩
    · split at hg
      · exact ⟨rfl, rfl, _, ds, gdst_rep hr o.dst v, hg⟩
      · exact (out_none hg).elim
  · exact (out_none hg).elim
theorem tcomp_pop {o : Oper} {T : Sl} {t : List PV} {h : Hp} {ds : List Dec} {k : KT X} (hr : Rep T t) (hg : Out (tcomp P o n T h ds k) r) : pop1 P o ⟨n, t, h⟩ (OK n k r) := by
  have hev := gev_eq (n := n) hr h
  unfold tcomp at hg
  split at hg
  · rename_i x hop
    have hn : PSt.callee P ⟨n, t, h⟩ o = none := by unfold PSt.callee; rw [hop]
    have : popv P h o (PSt.ev ⟨n, t, h⟩) = some (true, PSt.ev ⟨n, t, h⟩ x, h) := by unfold popv; rw [hop]
    unfold pop1
    simp only [hn, this]
    rw [hev] at hg
    exact ⟨trivial, rfl, _, ds, gdst_rep hr o.dst _, hg⟩
  · rename_i x hop
    have hn : PSt.callee P ⟨n, t, h⟩ o = none := by unfold PSt.callee; rw [hop]
    have : popv P h o (PSt.ev ⟨n, t, h⟩) = some (true, PSt.ev ⟨n, t, h⟩ x, h) := by unfold popv; rw [hop]
    unfold pop1
    simp only [hn, this]
    rw [hev] at hg
    exact ⟨trivial, rfl, _, ds, gdst_rep hr o.dst _, hg⟩
  · rename_i c a b hop
    have hn : PSt.callee P ⟨n, t, h⟩ o = none := by unfold PSt.callee; rw [hop]
    rw [hev] at hg
    split at hg
    · rename_i y hy
      obtain ⟨ds', h2⟩ := out_ask hg
      unfold pop1
      cases y with
      | true =>
        have : popv P h o (PSt.ev ⟨n, t, h⟩) = some (true, PSt.ev ⟨n, t, h⟩ a, h) := by unfold popv; rw [hop]; simp only [hy]; rfl
        simp only [hn, this]
        exact ⟨trivial, rfl, _, ds', gdst_rep hr o.dst _, h2⟩
      | false =>
        have : popv P h o (PSt.ev ⟨n, t, h⟩) = some (true, PSt.ev ⟨n, t, h⟩ b, h) := by unfold popv; rw [hop]; simp only [hy]; rfl
        simp only [hn, this]
        exact ⟨trivial, rfl, _, ds', gdst_rep hr o.dst _, h2⟩
    · exact (out_none hg).elim
  · rename_i c hop
    have e1 : fcallee P (gev n T) o = PSt.callee P ⟨n, t, h⟩ o := by rw [hev]; rfl
    rw [e1] at hg
    split at hg
    · exact (out_none hg).elim
    · rename_i hcl
      refine ttake_pop hr hcl ?_ hg
      rw [hev, ← fpopv_eq, hop]
      rfl
  · rename_i hne1 hne2 hne3 hne4
    refine ttake_pop hr ?_ ?_ hg
    · unfold PSt.callee
      split
      · rename_i c hop
        exact absurd hop (hne4 c)
      · rfl
    · rw [hev, fpopv_eq]
theorem tstep_pop {o : Oper} {T : Sl} {t : List PV} {h : Hp} {ds : List Dec} {k : KT X} (hr : Rep T t) (hg : Out (tstep P o n T h ds k) r) : pop1 P o ⟨n, t, h⟩ (OK n k r) := by
  unfold tstep at hg
  split at hg
  · split at hg
    · obtain ⟨h1, h2⟩ := out_must hg
      exact tval_pop hr h1 h2
    · exact tcomp_pop hr hg
  · split at hg
    · obtain ⟨h1, h2⟩ := out_must hg
      exact theap_pop hr h1 h2
    · exact tcomp_pop hr hg
  · split at hg
    · obtain ⟨h1, h2⟩ := out_must hg
      exact tdoes_pop hr h1 h2
    · exact tcomp_pop hr hg
  · exact tcomp_pop hr hg
theorem truns_pops {ops : Array Oper} {k : KT X} : ∀ (l : List Oper) {T : Sl} {t : List PV} {h : Hp} {ds : List Dec}, Rep T t → Out (truns P ops n k l T h ds) r → pops P ops (OK n k r) l ⟨n, t, h⟩
  | [], T, t, h, ds, hr, hg => ⟨rfl, T, ds, hr, hg⟩
  | o :: rest, T, t, h, ds, hr, hg => by
    have next : ∀ {T : Sl} {t : List PV} {ds : List Dec}, Rep T t → Out (tstep P o n T h ds (truns P ops n k rest)) r → pop1 P o ⟨n, t, h⟩ (pops P ops (OK n k r) rest) := fun hr hg =>
      pop1_mono (tstep_pop hr hg) (fun s' hk => by
        obtain ⟨hn, T', ds', hr', hg'⟩ := hk
        have : s' = ⟨n, s'.t, s'.h⟩ := by rw [← hn]
        rw [this]
        exact truns_pops rest hr' hg')
    have hg : Out (match o.guard with
      | none => tstep P o n T h ds (truns P ops n k rest)
      | some _ =>
        match twant ops n T o with
        | some b => ask b ds fun d ds' => match d with | true => tstep P o n T h ds' (truns P ops n k rest) | false => truns P ops n k rest (gdst o.dst T (.raw undef)) h ds'
        | none => none) r := hg
    unfold pops
    split at hg
    · rename_i hgd
      have hw : pwant ops ⟨n, t, h⟩ o = some true := by unfold pwant; rw [hgd]
      simp only [hw]
      exact next hr hg
    · rw [twant_eq hr h] at hg
      split at hg
      · rename_i b hw
        obtain ⟨ds', h2⟩ := out_ask hg
        simp only [hw]
        cases b with
        | true => exact next hr h2
        | false => exact truns_pops rest (gdst_rep hr o.dst _) h2
      · exact (out_none hg).elim

theorem quiet_popq {h : Hp} {o : Oper} {ev : Operand → PV} {x : PV} (hq : quiet o.op = true) (ha : popv P h o ev = some (true, x, h)) : popq P h o ev = some (true, x) := by
  unfold popq
  unfold quiet at hq
  split <;> rename_i hop <;> simp only [hop] at hq <;> try (cases hq; done)
  · split
    · rename_i hc; simp [hc] at hq
    · simp [ha]
  · simp [ha]
/-- One operation of a drawn region's first part. -/
def pop1q (P : Program) (o : Oper) (s : PSt) (K : PSt → Prop) : Prop :=
  match s.callee P o with
  | some (f, args) => callable P f = true ∧ ∃ r, Does P f args s.h r s.h ∧ K (s.put o.dst r s.h)
  | none =>
    match popq P s.h o s.ev with
    | some (c, v) => c = true ∧ K (s.put o.dst v s.h)
    | none => False
theorem tcompq1_pop {o : Oper} {T : Sl} {t : List PV} {h : Hp} {ds : List Dec} {k : KT X} (hr : Rep T t) (hg : Out (tcompq1 P o n T h ds k) r) : pop1q P o ⟨n, t, h⟩ (OK n k r) := by
  have hev := gev_eq (n := n) hr h
  unfold tcompq1 at hg
  have e1 : fcallee P (gev n T) o = PSt.callee P ⟨n, t, h⟩ o := by rw [hev]; rfl
  rw [e1] at hg
  unfold pop1q
  split at hg
  · exact (out_none hg).elim
  · rename_i hcl
    simp only [hcl]
    rw [hev] at hg
    split at hg
    · rename_i c v hp
      split at hg
      · obtain ⟨rfl, h2⟩ := out_must hg
        exact ⟨rfl, rfl, _, ds, gdst_rep hr o.dst v, h2⟩
      · split at hg
        · exact ⟨rfl, rfl, _, ds, gdst_rep hr o.dst v, hg⟩
        · exact (out_none hg).elim
    · exact (out_none hg).elim
theorem tcompq_pop {o : Oper} {T : Sl} {t : List PV} {h : Hp} {ds : List Dec} {k : KT X} (hr : Rep T t) (hg : Out (tcompq P o n T h ds k) r) : pop1q P o ⟨n, t, h⟩ (OK n k r) := by
  unfold tcompq at hg
  split at hg
  · rename_i c a b hop
    have hev := gev_eq (n := n) hr h
    have hn : PSt.callee P ⟨n, t, h⟩ o = none := by unfold PSt.callee; rw [hop]
    rw [hev] at hg
    split at hg
    · rename_i y hy
      obtain ⟨ds', h2⟩ := out_ask hg
      unfold pop1q
      simp only [hn]
      cases y with
      | true =>
        have : popq P (⟨n, t, h⟩ : PSt).h o (PSt.ev ⟨n, t, h⟩) = some (true, PSt.ev ⟨n, t, h⟩ a) := by unfold popq popv; simp only [hop, hy]; rfl
        simp only [this]
        exact ⟨trivial, rfl, _, ds', gdst_rep hr o.dst _, h2⟩
      | false =>
        have : popq P (⟨n, t, h⟩ : PSt).h o (PSt.ev ⟨n, t, h⟩) = some (true, PSt.ev ⟨n, t, h⟩ b) := by unfold popq popv; simp only [hop, hy]; rfl
        simp only [this]
        exact ⟨trivial, rfl, _, ds', gdst_rep hr o.dst _, h2⟩
    · exact (out_none hg).elim
  · exact tcompq1_pop hr hg
theorem tstepq_pop {o : Oper} {T : Sl} {t : List PV} {h : Hp} {ds : List Dec} {k : KT X} (hr : Rep T t) (hg : Out (tstepq P o n T h ds k) r) : pop1q P o ⟨n, t, h⟩ (OK n k r) := by
  unfold tstepq at hg
  split at hg
  · rename_i key x ds'
    split at hg
    · rename_i hb
      simp only [Bool.and_eq_true] at hb
      obtain ⟨hv, hg⟩ := out_must hg
      have hev := gev_eq (n := n) hr h
      unfold tval at hv
      have e1 : fcallee P (gev n T) o = PSt.callee P ⟨n, t, h⟩ o := by rw [hev]; rfl
      rw [e1] at hv
      unfold pop1q
      split at hv
      · rename_i f args hcl
        simp only [hcl]
        exact ⟨callee_callable hcl, x, does_of_pureE hv, rfl, _, ds', gdst_rep hr o.dst x, hg⟩
      · rename_i hcl
        simp only [hcl]
        rw [hev] at hv
        have hp' : popq P (⟨n, t, h⟩ : PSt).h o (⟨n, t, h⟩ : PSt).ev = some (true, x) := quiet_popq hb.2 (ansOp_popv hv)
        simp only [hp']
        exact ⟨trivial, rfl, _, ds', gdst_rep hr o.dst x, hg⟩
    · exact tcompq_pop hr hg
  · rename_i key x ds'
    split at hg
    · obtain ⟨hv, hg⟩ := out_must hg
      have hev := gev_eq (n := n) hr h
      unfold tdoes at hv
      have e1 : fcallee P (gev n T) o = PSt.callee P ⟨n, t, h⟩ o := by rw [hev]; rfl
      rw [e1] at hv
      unfold pop1q
      split at hv
      · rename_i f args hcl
        simp only [hcl]
        exact ⟨callee_callable hcl, x, hv, rfl, _, ds', gdst_rep hr o.dst x, hg⟩
      · exact hv.elim
    · exact tcompq_pop hr hg
  · exact tcompq_pop hr hg
theorem pop1q_mono {o : Oper} {s : PSt} {K K' : PSt → Prop} (h : pop1q P o s K) (hk : ∀ s', K s' → K' s') : pop1q P o s K' := by
  unfold pop1q at h ⊢
  split at h
  · obtain ⟨a, r, b, c⟩ := h
    exact ⟨a, r, b, hk _ c⟩
  · split at h
    · exact ⟨h.1, hk _ h.2⟩
    · exact h.elim
theorem trunsq_pops {ops : Array Oper} {k : KT X} : ∀ (l : List Oper) {T : Sl} {t : List PV} {h : Hp} {ds : List Dec}, Rep T t → Out (trunsq P ops n k l T h ds) r → popsq P ops (OK n k r) l ⟨n, t, h⟩
  | [], T, t, h, ds, hr, hg => ⟨rfl, T, ds, hr, hg⟩
  | o :: rest, T, t, h, ds, hr, hg => by
    have next : ∀ {T : Sl} {t : List PV} {ds : List Dec}, Rep T t → Out (tstepq P o n T h ds (trunsq P ops n k rest)) r → pop1q P o ⟨n, t, h⟩ (popsq P ops (OK n k r) rest) := fun hr hg =>
      pop1q_mono (tstepq_pop hr hg) (fun s' hk => by
        obtain ⟨hn, T', ds', hr', hg'⟩ := hk
        have : s' = ⟨n, s'.t, s'.h⟩ := by rw [← hn]
        rw [this]
        exact trunsq_pops rest hr' hg')
    have hg : Out (match o.guard with
      | none => tstepq P o n T h ds (trunsq P ops n k rest)
      | some _ =>
        match twant ops n T o with
        | some b => ask b ds fun d ds' => match d with | true => tstepq P o n T h ds' (trunsq P ops n k rest) | false => trunsq P ops n k rest (gdst o.dst T (.raw undef)) h ds'
        | none => none) r := hg
    have fin : pop1q P o ⟨n, t, h⟩ (popsq P ops (OK n k r) rest) → pwant ops ⟨n, t, h⟩ o = some true → popsq P ops (OK n k r) (o :: rest) ⟨n, t, h⟩ := by
      intro hp hw
      unfold popsq
      simp only [hw]
      exact hp
    split at hg
    · rename_i hgd
      exact fin (next hr hg) (by unfold pwant; rw [hgd])
    · rw [twant_eq hr h] at hg
      split at hg
      · rename_i b hw
        obtain ⟨ds', h2⟩ := out_ask hg
        cases b with
        | true => exact fin (next hr h2) hw
        | false =>
          unfold popsq
          simp only [hw]
          exact trunsq_pops rest (gdst_rep hr o.dst _) h2
      · exact (out_none hg).elim

theorem tsg_sound {c : Code} {tag : Nat} {kn : KT X} {ke : Exit → KT X} {els : KO X} {Q : Exit → Act → World → Prop} (hz : Far Z z) {R : Rel} {T : Sl} {h : Hp} {ds : List Dec} {a : Act} {w : World} (s : Sim Z R n T h a w)
    (hg : Out (tsg P z n c tag kn ke T h ds els) r) (helse : Out els r → c.wp P Q a w)
    (h1 : ∀ R' T' h' ds' a' w', Sim Z R' n T' h' a' w' → Out (kn T' h' ds') r → Q .normal a' w')
    (h2 : ∀ e R' T' h' ds' a' w', Sim Z R' n T' h' a' w' → Out (ke e T' h' ds') r → e ≠ .normal → Q e a' w') : c.wp P Q a w := by
  unfold tsg at hg
  split at hg
  · rename_i t ks nb nr T0 h0 e T' h' ds'
    split at hg
    · unfold tkeepS at hg
      split at hg
      · rename_i hb
        simp only [Bool.and_eq_true] at hb
        obtain ⟨g1, g2⟩ := out_must hg
        obtain ⟨g3, g4⟩ := out_must g2
        obtain ⟨g5, g6⟩ := out_must g4
        have s1 := s.keep (ks := ks) (nb := nb) (nr := nr) (Nat.le_trans hz.1 (Nat.le_of_ble_eq_true hb.1)) (Nat.le_trans hz.2 (Nat.le_of_ble_eq_true hb.2)) (by
          rw [Bool.and_eq_true, List.all_eq_true, List.all_eq_true]
          exact ⟨fun k hk => g1.1 _ (List.mem_map_of_mem hk), fun b hb => g1.2 b hb⟩)
        obtain ⟨R1, s2⟩ := g3 Z _ n a w hz s1
        refine g5 Z R1 a w hz s2 Q (fun R' a' w' s' => ?_)
        cases e with
        | normal => exact h1 _ _ _ _ _ _ s' g6
        | _ => exact h2 _ _ _ _ _ _ _ s' g6 (by simp)
      · exact (out_none hg).elim
    · exact helse hg
  · exact helse hg
end
end
end Tp
end Pm
end Go.Proofs.Ytacccimihgailaa
