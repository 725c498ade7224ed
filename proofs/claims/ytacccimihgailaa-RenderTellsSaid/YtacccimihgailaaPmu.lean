/- Runs on values that are not all known: decisions are handed in; what they stand for is handed back. -/
import Derived.Test.YtacccimihgailaaPmt
set_option linter.unusedVariables false
set_option linter.unusedSimpArgs false
namespace Go.Proofs.Ytacccimihgailaa
namespace Pm
open Go.RowKit

/-- Contracts with a condition. -/
abbrev OExt := FuncId → List PV → Option (Bool × PV)
def OExtOk (P : Program) (ext : OExt) : Prop := ∀ f args r, ext f args = some (true, r) → Pure P f args r
/-- What was met and what it must be; the result. -/
abbrev KO (X : Type) := Option (List (Bool × Bool) × X)
abbrev KT (X : Type) := Sl → Hp → List Bool → KO X
def must {X : Type} (c d : Bool) (k : KO X) : KO X :=
  match k with
  | some (cs, r) => some ((c, d) :: cs, r)
  | none => none
def ask {X : Type} (c : Bool) (ds : List Bool) (k : Bool → List Bool → KO X) : KO X :=
  match ds with
  | d :: ds' => must c d (k d ds')
  | [] => none
noncomputable section
/-- Operations that may fail on the way. -/
def mayFail (op : Op) : Bool :=
  match op with
  | .slice .. => true
  | .indexAddr .. => true
  | .index .. => true
  | .call _ => true
  | .binOp op _ _ _ _ => match op with | .quo => true | .rem => true | .shl => true | .shr => true | .add => true | _ => false
  | _ => false
def otake {X : Type} (o : Oper) (T : Sl) (ds : List Bool) (k : KT X) (r : Res) : KO X :=
  match r with
  | some (c, v, h') =>
    match mayFail o.op with
    | true => must c true (k (gdst o.dst T v) h' ds)
    | false => match c with | true => k (gdst o.dst T v) h' ds | false => none
  | none => none
def oop {X : Type} (P : Program) (ext : OExt) (o : Oper) (n : Nat) (T : Sl) (h : Hp) (ds : List Bool) (k : KT X) : KO X :=
  match o.op with
  | .move x => k (gdst o.dst T (gev n T x)) h ds
  | .assign x => k (gdst o.dst T (gev n T x)) h ds
  | .pick c a b =>
    match gev n T c with
    | .bool y => ask y ds fun d ds' => match d with | true => k (gdst o.dst T (gev n T a)) h ds' | false => k (gdst o.dst T (gev n T b)) h ds'
    | _ => none
  | .call c =>
    match fcallee P (gev n T) o with
    | some (f, args) =>
      match ext f (args.map PV.erase) with
      | some (y, r) => must y true (k (gdst o.dst T r) h ds)
      | none => none
    | none => otake o T ds k (qcall P h (gev n T) c)
  | op => otake o T ds k (fpopv P h op (gev n T))
def oruns {X : Type} (P : Program) (ext : OExt) (ops : Array Oper) (n : Nat) (k : KT X) (l : List Oper) : KT X :=
  List.rec (motive := fun _ => KT X) k
    (fun o _ ih T h ds =>
      match o.guard with
      | none => oop P ext o n T h ds ih
      | some _ =>
        match gwant ops n T o with
        | some b => ask b ds fun d ds' => match d with | true => oop P ext o n T h ds' ih | false => ih (gdst o.dst T (.raw undef)) h ds'
        | none => none) l
def oC {X : Type} (P : Program) (ext : OExt) (N n : Nat) (c : Code) : KT X → (Exit → KT X) → KT X :=
  Code.rec (motive := fun _ => KT X → (Exit → KT X) → KT X)
    (fun kn _ T h ds => kn T h ds)
    (fun _ ops draw kn _ T h ds => match draw with | true => none | false => oruns P ext ops n kn ops.toList T h ds)
    (fun _ _ ix iy kn ke T h ds => ix (iy kn ke) ke T h ds)
    (fun c _ _ ix iy kn ke T h ds =>
      match gev n T c with
      | .bool b => ask b ds fun d ds' => match d with | true => ix kn ke T h ds' | false => iy kn ke T h ds'
      | _ => none)
    (fun id _ ic kn ke T h ds => ic kn (fun e T h ds => match e with | .exit i => (match Nat.beq i id with | true => kn T h ds | false => ke (.exit i) T h ds) | e => ke e T h ds) T h ds)
    (fun _ ic kn ke T h ds => Nat.rec (motive := fun _ => KT X) (fun _ _ _ => none) (fun _ ih T h ds => ic ih ke T h ds) N T h ds)
    (fun _ _ _ _ _ _ _ _ _ _ _ => none)
    (fun id _ ke T h ds => ke (.exit id) T h ds)
    (fun _ _ _ _ _ _ _ => none)
    (fun _ kn _ T h ds => kn T h ds)
    (fun _ _ _ _ _ _ => none)
    (fun _ ke T h ds => ke .ret T h ds)
    (fun _ _ _ _ _ _ => none) c

section
variable {P : Program} {ext : OExt} {Z : Bas} {n : Nat} {X : Type} {r : X}
def All (cs : List (Bool × Bool)) : Prop := ∀ p ∈ cs, p.1 = p.2
/-- A continuation gives this result, and all that it met is as it must be. -/
def Out {X : Type} (k : KO X) (r : X) : Prop := ∃ cs, k = some (cs, r) ∧ All cs
theorem out_must {c d : Bool} {k : KO X} (h : Out (must c d k) r) : c = d ∧ Out k r := by
  obtain ⟨cs, h1, h2⟩ := h
  unfold must at h1
  split at h1
  · rename_i cs' r'
    cases h1
    exact ⟨h2 (c, d) (by simp), cs', rfl, fun p hp => h2 p (List.mem_cons_of_mem _ hp)⟩
  · cases h1
theorem out_ask {c : Bool} {ds : List Bool} {k : Bool → List Bool → KO X} (h : Out (ask c ds k) r) : ∃ ds', Out (k c ds') r := by
  unfold ask at h
  split at h
  · rename_i d ds'
    obtain ⟨rfl, h2⟩ := out_must h
    exact ⟨ds', h2⟩
  · obtain ⟨cs, h1, _⟩ := h; cases h1

def OK {X : Type} (n : Nat) (k : KT X) (r : X) (s : PSt) : Prop := s.n = n ∧ ∃ T ds, Rep T s.t ∧ Out (k T s.h ds) r

theorem otake_pop {o : Oper} {T : Sl} {t : List PV} {h : Hp} {ds : List Bool} {k : KT X} {x : Res} (hr : Rep T t) (hn : PSt.callee P ⟨n, t, h⟩ o = none) (he : x = popv P h o (PSt.ev ⟨n, t, h⟩)) (hg : Out (otake o T ds k x) r) : pop1 P o ⟨n, t, h⟩ (OK n k r) := by
  unfold otake at hg
  unfold pop1
  simp only [hn]
  subst he
  split at hg
  · rename_i c v h' hp
    simp only [hp]
    split at hg
    · obtain ⟨rfl, h2⟩ := out_must hg
      exact ⟨rfl, rfl, _, ds, gdst_rep hr o.dst v, h2⟩
    · split at hg
      · exact ⟨rfl, rfl, _, ds, gdst_rep hr o.dst v, hg⟩
      · obtain ⟨cs, h1, _⟩ := hg; cases h1
  · obtain ⟨cs, h1, _⟩ := hg; cases h1

theorem oop_pop (hx : OExtOk P ext) {o : Oper} {T : Sl} {t : List PV} {h : Hp} {ds : List Bool} {k : KT X} (hr : Rep T t) (hg : Out (oop P ext o n T h ds k) r) : pop1 P o ⟨n, t, h⟩ (OK n k r) := by
  have hev := gev_eq (n := n) hr h
  unfold oop at hg
  split at hg
  · rename_i x hop
    have hn : PSt.callee P ⟨n, t, h⟩ o = none := by unfold PSt.callee; rw [hop]
    have : popv P h o (PSt.ev ⟨n, t, h⟩) = some (true, PSt.ev ⟨n, t, h⟩ x, h) := by unfold popv; rw [hop]
    unfold pop1
    simp only [hn, this]
    rw [hev] at hg
    exact ⟨trivial, rfl, _, ds, gdst_rep hr o.dst _, hg⟩
  · rename_i x hop
    have hn : PSt.callee P ⟨n, t, h⟩ o = none := by unfold PSt.callee; rw [hop]
    have : popv P h o (PSt.ev ⟨n, t, h⟩) = some (true, PSt.ev ⟨n, t, h⟩ x, h) := by unfold popv; rw [hop]
    unfold pop1
    simp only [hn, this]
    rw [hev] at hg
    exact ⟨trivial, rfl, _, ds, gdst_rep hr o.dst _, hg⟩
  · rename_i c a b hop
    have hn : PSt.callee P ⟨n, t, h⟩ o = none := by unfold PSt.callee; rw [hop]
    rw [hev] at hg
    split at hg
    · rename_i y hy
      obtain ⟨ds', h2⟩ := out_ask hg
      unfold pop1
      cases y with
      | true =>
        have : popv P h o (PSt.ev ⟨n, t, h⟩) = some (true, PSt.ev ⟨n, t, h⟩ a, h) := by unfold popv; rw [hop]; simp only [hy]; rfl
        simp only [hn, this]
        exact ⟨trivial, rfl, _, ds', gdst_rep hr o.dst _, h2⟩
      | false =>
        have : popv P h o (PSt.ev ⟨n, t, h⟩) = some (true, PSt.ev ⟨n, t, h⟩ b, h) := by unfold popv; rw [hop]; simp only [hy]; rfl
        simp only [hn, this]
        exact ⟨trivial, rfl, _, ds', gdst_rep hr o.dst _, h2⟩
    · obtain ⟨cs, h1, _⟩ := hg; cases h1
  · rename_i c hop
    have e1 : fcallee P (gev n T) o = PSt.callee P ⟨n, t, h⟩ o := by rw [hev]; rfl
    rw [e1] at hg
    split at hg
    · rename_i f args hcl
      unfold pop1
      simp only [hcl]
      split at hg
      · rename_i y v hp
        obtain ⟨rfl, h2⟩ := out_must hg
        exact ⟨callee_callable hcl, v, h, does_of_pure (hx _ _ _ hp), rfl, _, ds, gdst_rep hr o.dst v, h2⟩
      · obtain ⟨cs, h1, _⟩ := hg; cases h1
    · rename_i hcl
      refine otake_pop hr hcl ?_ hg
      rw [hev, ← fpopv_eq, hop]
      rfl
  · rename_i hne1 hne2 hne3 hne4
    refine otake_pop hr ?_ ?_ hg
    · unfold PSt.callee
      split
      · rename_i c hop
        exact absurd hop (hne4 c)
      · rfl
    · rw [hev, fpopv_eq]

theorem oruns_pops (hx : OExtOk P ext) {ops : Array Oper} {k : KT X} : ∀ (l : List Oper) {T : Sl} {t : List PV} {h : Hp} {ds : List Bool}, Rep T t → Out (oruns P ext ops n k l T h ds) r → pops P ops (OK n k r) l ⟨n, t, h⟩
  | [], T, t, h, ds, hr, hg => ⟨rfl, T, ds, hr, hg⟩
  | o :: rest, T, t, h, ds, hr, hg => by
    have next : ∀ {T : Sl} {t : List PV} {ds : List Bool}, Rep T t → Out (oop P ext o n T h ds (oruns P ext ops n k rest)) r → pop1 P o ⟨n, t, h⟩ (pops P ops (OK n k r) rest) := fun hr hg =>
      pop1_mono (oop_pop hx hr hg) (fun s' hk => by
        obtain ⟨hn, T', ds', hr', hg'⟩ := hk
        have : s' = ⟨n, s'.t, s'.h⟩ := by rw [← hn]
        rw [this]
        exact oruns_pops hx rest hr' hg')
    have hg : Out (match o.guard with
      | none => oop P ext o n T h ds (oruns P ext ops n k rest)
      | some _ =>
        match gwant ops n T o with
        | some b => ask b ds fun d ds' => match d with | true => oop P ext o n T h ds' (oruns P ext ops n k rest) | false => oruns P ext ops n k rest (gdst o.dst T (.raw undef)) h ds'
        | none => none) r := hg
    unfold pops
    split at hg
    · rename_i hgd
      have hw : pwant ops ⟨n, t, h⟩ o = some true := by unfold pwant; rw [hgd]
      simp only [hw]
      exact next hr hg
    · rw [gwant_eq hr h] at hg
      split at hg
      · rename_i b hw
        obtain ⟨ds', h2⟩ := out_ask hg
        simp only [hw]
        cases b with
        | true => exact next hr h2
        | false => exact oruns_pops hx rest (gdst_rep hr o.dst _) h2
      · obtain ⟨cs, h1, _⟩ := hg; cases h1

theorem oC_sound (hx : OExtOk P ext) {N : Nat} : ∀ (c : Code) {kn : KT X} {ke : Exit → KT X} {Q : Exit → Act → World → Prop} {R : Rel} {T : Sl} {t : List PV} {h : Hp} {ds : List Bool} {a : Act} {w : World}, FSim Z R ⟨n, t, h⟩ a w → Rep T t → Out (oC P ext N n c kn ke T h ds) r →
    (∀ R' T' t' h' ds' a' w', FSim Z R' ⟨n, t', h'⟩ a' w' → Rep T' t' → Out (kn T' h' ds') r → Q .normal a' w') →
    (∀ e R' T' t' h' ds' a' w', FSim Z R' ⟨n, t', h'⟩ a' w' → Rep T' t' → Out (ke e T' h' ds') r → e ≠ .normal → Q e a' w') → c.wp P Q a w
  | .skip, kn, ke, Q, R, T, t, h, ds, a, w, f, hr, hg, h1, h2 => wp_skip (h1 _ _ _ _ _ _ _ f hr hg)
  | .label _, kn, ke, Q, R, T, t, h, ds, a, w, f, hr, hg, h1, h2 => wp_label (h1 _ _ _ _ _ _ _ f hr hg)
  | .exit _, kn, ke, Q, R, T, t, h, ds, a, w, f, hr, hg, h1, h2 => wp_exit (h2 _ _ _ _ _ _ _ _ f hr hg (by simp))
  | .ret, kn, ke, Q, R, T, t, h, ds, a, w, f, hr, hg, h1, h2 => wp_ret (h2 _ _ _ _ _ _ _ _ f hr hg (by simp))
  | .region _ ops draw, kn, ke, Q, R, T, t, h, ds, a, w, f, hr, hg, h1, h2 => by
    have fin : ∀ R' s' a' w', FSim Z R' s' a' w' → OK n kn r s' → Q .normal a' w' := by
      rintro R' s' a' w' f' ⟨hn, T', ds', hr', hg'⟩
      have : s' = ⟨n, s'.t, s'.h⟩ := by rw [← hn]
      rw [this] at f'
      exact h1 _ _ _ _ _ _ _ f' hr' hg'
    cases draw with
    | true => obtain ⟨cs, h3, _⟩ := hg; cases h3
    | false => exact wp_region_list (pops_sound _ f (oruns_pops hx _ hr hg) fin)
  | .seq x y, kn, ke, Q, R, T, t, h, ds, a, w, f, hr, hg, h1, h2 => by
    refine wp_seq (oC_sound hx x (kn := oC P ext N n y kn ke) f hr hg (fun R' T' t' h' ds' a' w' f' hr' hg' => oC_sound hx y f' hr' hg' h1 h2) (fun e R' T' t' h' ds' a' w' f' hr' hg' hne => ?_))
    cases e with
    | normal => exact absurd rfl hne
    | _ => exact h2 _ _ _ _ _ _ _ _ f' hr' hg' hne
  | .cond c x y, kn, ke, Q, R, T, t, h, ds, a, w, f, hr, hg, h1, h2 => by
    have hg : Out (match gev n T c with
      | .bool b => ask b ds fun d ds' => match d with | true => oC P ext N n x kn ke T h ds' | false => oC P ext N n y kn ke T h ds'
      | _ => none) r := hg
    rw [gev_eq hr h] at hg
    have hv := f.ev c
    split at hg
    · rename_i b he
      rw [he] at hv
      have hcb : a.eval c = .bool b := by
        generalize a.eval c = v at hv
        cases hv; rfl
      obtain ⟨ds', hg'⟩ := out_ask hg
      cases b with
      | true => exact wp_cond_true hcb (oC_sound hx x f hr hg' h1 h2)
      | false => exact wp_cond_false hcb (oC_sound hx y f hr hg' h1 h2)
    · obtain ⟨cs, h3, _⟩ := hg; cases h3
  | .block id c, kn, ke, Q, R, T, t, h, ds, a, w, f, hr, hg, h1, h2 => by
    refine wp_block (oC_sound hx c (kn := kn) (ke := fun e T h ds => match e with | .exit i => (match Nat.beq i id with | true => kn T h ds | false => ke (.exit i) T h ds) | e => ke e T h ds) f hr hg (fun R' T' t' h' ds' a' w' f' hr' hg' => ?_) (fun e R' T' t' h' ds' a' w' f' hr' hg' hne => ?_))
    · exact h1 _ _ _ _ _ _ _ f' hr' hg'
    · cases e with
      | normal => exact absurd rfl hne
      | exit i =>
        simp only [Exit.inBlock]
        simp only at hg'
        split at hg'
        · rename_i hb
          rw [if_pos (Nat.eq_of_beq_eq_true hb)]
          exact h1 _ _ _ _ _ _ _ f' hr' hg'
        · rename_i hb
          rw [if_neg (Nat.ne_of_beq_eq_false hb)]
          exact h2 _ _ _ _ _ _ _ _ f' hr' hg' (by simp)
      | _ => exact h2 _ _ _ _ _ _ _ _ f' hr' hg' hne
  | .loop c, kn, ke, Q, R, T, t, h, ds, a, w, f, hr, hg, h1, h2 => by
    have hg : Out (Nat.rec (motive := fun _ => KT X) (fun _ _ _ => none) (fun _ ih T h ds => oC P ext N n c ih ke T h ds) N T h ds) r := hg
    refine wp_loop_ghost (fun m a w => ∃ R T t h ds, FSim Z R ⟨n, t, h⟩ a w ∧ Rep T t ∧ Out (Nat.rec (motive := fun _ => KT X) (fun _ _ _ => none) (fun _ ih T h ds => oC P ext N n c ih ke T h ds) m T h ds) r) N ⟨_, _, _, _, _, f, hr, hg⟩ ?_
    rintro m a w ⟨R, T, t, h, ds, f, hr, hm⟩
    cases m with
    | zero => obtain ⟨cs, h3, _⟩ := hm; cases h3
    | succ m =>
      refine oC_sound hx c f hr hm (fun R' T' t' h' ds' a' w' f' hr' hg' => ⟨m, Nat.lt_succ_self m, R', T', t', h', ds', f', hr', hg'⟩) (fun e R' T' t' h' ds' a' w' f' hr' hg' hne => ?_)
      cases e with
      | normal => exact absurd rfl hne
      | _ => exact h2 _ _ _ _ _ _ _ _ f' hr' hg' hne
  | .rangeFunc .., kn, ke, Q, R, T, t, h, ds, a, w, f, hr, hg, h1, h2 => by obtain ⟨cs, h3, _⟩ := hg; cases h3
  | .scope _, kn, ke, Q, R, T, t, h, ds, a, w, f, hr, hg, h1, h2 => by obtain ⟨cs, h3, _⟩ := hg; cases h3
  | .goto _, kn, ke, Q, R, T, t, h, ds, a, w, f, hr, hg, h1, h2 => by obtain ⟨cs, h3, _⟩ := hg; cases h3
  | .refuse _, kn, ke, Q, R, T, t, h, ds, a, w, f, hr, hg, h1, h2 => by obtain ⟨cs, h3, _⟩ := hg; cases h3

def oend (P : Program) (rs : List ResultVar) (n : Nat) : KT (PV × Hp) := fun T h ds =>
  match ds with
  | [] =>
    match gresults P h (gev n T) rs with
    | some r => some ([], r, h)
    | none => none
  | _ :: _ => none
/-- A function's run, of such arguments, by such decisions. -/
def oF (P : Program) (ext : OExt) (f : FuncId) (args : List PV) (h : Hp) (ds : List Bool) : KO (PV × Hp) :=
  match P.funcs[f]? with
  | some fn =>
    match fn.body with
    | some c =>
      match Nat.ble args.length 8 with
      | true => oC P ext 1000 (max args.length fn.ntmps) c (oend P fn.results.toList (max args.length fn.ntmps)) (fun e T h ds => match e with | .ret => oend P fn.results.toList (max args.length fn.ntmps) T h ds | _ => none) [args] h ds
      | false => none
    | none => none
  | none => none

theorem does_of_orun (hx : OExtOk P ext) {f : FuncId} {args : List PV} {h h' : Hp} {v : PV} {ds : List Bool} (hr : Out (oF P ext f args h ds) (v, h')) : Does P f args h v h' := by
  unfold oF at hr
  have no : ∀ {x : PV × Hp}, ¬ Out (none : KO (PV × Hp)) x := by
    rintro x ⟨cs, h3, _⟩; cases h3
  split at hr
  case h_2 => exact (no hr).elim
  rename_i fn hf
  split at hr
  case h_2 => exact (no hr).elim
  rename_i c hb
  split at hr
  case h_2 => exact (no hr).elim
  rename_i hl
  have hl : args.length ≤ 8 := Nat.le_of_ble_eq_true hl
  refine does_of_run hf hb (fun Z R a w _ f0 Q hk => ?_)
  have fin : ∀ {R' : Rel} {T' : Sl} {t' : List PV} {h1 : Hp} {ds' : List Bool} {a' : Act} {w' : World} {e : Exit}, FSim Z R' ⟨max args.length fn.ntmps, t', h1⟩ a' w' → Rep T' t' → Out (oend P fn.results.toList (max args.length fn.ntmps) T' h1 ds') (v, h') → e = .normal ∨ e = .ret → Q e a' w' := by
    intro R' T' t' h9 ds' a' w' e f' hr' hg' he
    unfold oend at hg'
    rw [gev_eq hr' h9] at hg'
    split at hg'
    · split at hg'
      · rename_i r1 hres
        obtain ⟨cs, h3, _⟩ := hg'
        cases h3
        have h4 := (gresults_eq P ⟨max args.length fn.ntmps, t', _⟩ _).symm.trans hres
        refine hk _ _ _ _ _ f' ?_
        rcases he with rfl | rfl
        · exact ⟨h4, rfl⟩
        · exact ⟨h4, rfl⟩
      · exact (no hg').elim
    · exact (no hg').elim
  refine oC_sound hx c f0 (rep_one hl) hr (fun R' T' t' h1 ds' a' w' f' hr' hg' => fin f' hr' hg' (.inl rfl)) (fun e R' T' t' h1 ds' a' w' f' hr' hg' hne => ?_)
  cases e with
  | ret => exact fin f' hr' hg' (.inr rfl)
  | _ => exact (no hg').elim
theorem pure_of_orun (hx : OExtOk P ext) {f : FuncId} {args : List PV} {h' : Hp} {v : PV} {ds : List Bool} {cs : List (Bool × Bool)} (hr : oF P ext f args noHp ds = some (cs, v, h')) (hc : All cs) : Pure P f args v.erase :=
  pure_of_does (does_of_orun hx ⟨cs, hr, hc⟩)

/-- The same, the heap left out. -/
def oP (P : Program) (ext : OExt) (f : FuncId) (args : List PV) (ds : List Bool) : Option (List (Bool × Bool) × PV) :=
  match oF P ext f args noHp ds with
  | some (cs, v, _) => some (cs, v)
  | none => none
def allB : List (Bool × Bool) → Prop
  | [] => True
  | (a, b) :: r => a = b ∧ allB r
theorem all_of_allB : ∀ {cs : List (Bool × Bool)}, allB cs → All cs
  | [], _, p, hp => by cases hp
  | (a, b) :: r, h, p, hp => by
    rcases List.mem_cons.1 hp with rfl | hp
    · exact h.1
    · exact all_of_allB h.2 p hp
theorem pure_of_oP (hx : OExtOk P ext) {f : FuncId} {args : List PV} {v : PV} {ds : List Bool} {cs : List (Bool × Bool)} (hr : oP P ext f args ds = some (cs, v)) (hc : allB cs) : Pure P f args v.erase := by
  unfold oP at hr
  split at hr
  · rename_i cs' v' h' he
    cases hr
    exact pure_of_orun hx he (all_of_allB hc)
  · cases hr
def noOExt : OExt := fun _ _ => none
theorem noOExt_ok (P : Program) : OExtOk P noOExt := fun _ _ _ h => by cases h

end
end
end Pm
end Go.Proofs.Ytacccimihgailaa
