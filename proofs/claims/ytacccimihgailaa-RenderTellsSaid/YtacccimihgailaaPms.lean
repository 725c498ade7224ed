/- The interpreter for the kernel: continuations, slots in chunks. -/
import Derived.Test.YtacccimihgailaaPmr
set_option linter.unusedVariables false
set_option linter.unusedSimpArgs false
namespace Go.Proofs.Ytacccimihgailaa
namespace Pm
open Go.RowKit

/-- Slots, eight in a chunk. -/
abbrev Sl := List (List PV)
noncomputable section
def lget (l : Sl) : Nat → List PV := List.rec (motive := fun _ => Nat → List PV) (fun _ => []) (fun x _ ih i => Nat.rec (motive := fun _ => List PV) x (fun j _ => ih j) i) l
def lput0 (v : List PV) : Nat → Sl := fun i => Nat.rec (motive := fun _ => Sl) [v] (fun _ ih => [] :: ih) i
def lput (v : List PV) (l : Sl) : Nat → Sl := List.rec (motive := fun _ => Nat → Sl) (lput0 v) (fun x r ih i => Nat.rec (motive := fun _ => Sl) (v :: r) (fun j _ => x :: ih j) i) l
theorem lget_put0_same (v : List PV) : ∀ i, lget (lput0 v i) i = v
  | 0 => rfl
  | i + 1 => lget_put0_same v i
theorem lget_put0_ne (v : List PV) : ∀ (i j : Nat), i ≠ j → lget (lput0 v i) j = []
  | 0, 0, h => absurd rfl h
  | 0, j + 1, _ => rfl
  | i + 1, 0, _ => rfl
  | i + 1, j + 1, h => lget_put0_ne v i j (by omega)
theorem lget_put_same (v : List PV) : ∀ (l : Sl) (i : Nat), lget (lput v l i) i = v
  | [], i => lget_put0_same v i
  | x :: l, 0 => rfl
  | x :: l, i + 1 => lget_put_same v l i
theorem lget_put_ne (v : List PV) : ∀ (l : Sl) (i j : Nat), i ≠ j → lget (lput v l i) j = lget l j
  | [], i, j, h => lget_put0_ne v i j h
  | x :: l, 0, 0, h => absurd rfl h
  | x :: l, 0, j + 1, _ => rfl
  | x :: l, i + 1, 0, _ => rfl
  | x :: l, i + 1, j + 1, h => lget_put_ne v l i j (by omega)

def tget (t : Sl) (i : Nat) : PV := fget (lget t (Nat.div i 8)) (Nat.mod i 8)
def tput (t : Sl) (i : Nat) (v : PV) : Sl := lput (fput v (lget t (Nat.div i 8)) (Nat.mod i 8)) t (Nat.div i 8)
theorem tget_put_same (t : Sl) (i : Nat) (v : PV) : tget (tput t i v) i = v := by
  unfold tget tput
  rw [lget_put_same, fput_eq, fget_eq, get_put_same]
theorem tget_put_ne (t : Sl) (i j : Nat) (v : PV) (h : i ≠ j) : tget (tput t i v) j = tget t j := by
  unfold tget tput
  by_cases c : Nat.div i 8 = Nat.div j 8
  · rw [← c, lget_put_same, fput_eq, fget_eq, fget_eq, get_put_ne]
    intro hm
    apply h
    have h1 : i / 8 = j / 8 := c
    have h2 : i % 8 = j % 8 := hm
    omega
  · rw [lget_put_ne _ _ _ _ c]

/-- The slots as chunks and as a list. -/
def Rep (T : Sl) (t : List PV) : Prop := ∀ i, tget T i = get t i
theorem Rep.put {T : Sl} {t : List PV} (h : Rep T t) (d : Nat) (v : PV) : Rep (tput T d v) (Pm.put t d v) := by
  intro i
  by_cases c : d = i
  · subst c; rw [tget_put_same, get_put_same]
  · rw [tget_put_ne _ _ _ _ c, get_put_ne _ _ _ _ c]; exact h i

def gev (n : Nat) (T : Sl) (x : Operand) : PV :=
  Operand.rec (motive := fun _ => PV) (fun i => Bool.rec (motive := fun _ => PV) .any (tget T i) (Nat.blt i n)) (fun v => lift v) (fun g => .raw (.pointer (some ⟨g, 0, none⟩))) (fun f => .raw (.func (.func f) #[] #[])) x
theorem gev_eq {n : Nat} {T : Sl} {t : List PV} (hr : Rep T t) (h : Hp) : gev n T = PSt.ev ⟨n, t, h⟩ := by
  rw [← fev_eq n t h]
  funext x
  cases x with
  | tmp i =>
    show Bool.rec (motive := fun _ => PV) .any (tget T i) (Nat.blt i n) = match Nat.blt i n with | true => fget t i | false => .any
    cases Nat.blt i n with
    | true => show tget T i = fget t i; rw [fget_eq]; exact hr i
    | false => rfl
  | const v => rfl
  | global g => rfl
  | func f => rfl

def gdst (d : Option Tmp) (T : Sl) (v : PV) : Sl := Option.rec (motive := fun _ => Sl) T (fun d => tput T d v) d
theorem gdst_rep {T : Sl} {t : List PV} (hr : Rep T t) (d : Option Tmp) (v : PV) : Rep (gdst d T v) (match d with | some d => Pm.put t d v | none => t) := by
  cases d with
  | none => exact hr
  | some d => exact hr.put d v

abbrev KR := Option (PV × Hp)
def gyield (ops : Array Oper) (n : Nat) (T : Sl) (j : Nat) : Option (Option Bool) :=
  match (ops[j]?).bind (·.dst) with
  | none => some none
  | some d =>
    if d < n then
      match tget T d with
      | .bool b => some (some b)
      | .raw (.tuple _) => some none
      | _ => none
    else some none
def gwant (ops : Array Oper) (n : Nat) (T : Sl) (o : Oper) : Option Bool :=
  match o.guard with
  | none => some true
  | some (j, b) => (gyield ops n T j).map (· == some b)
theorem gwant_eq {ops : Array Oper} {n : Nat} {T : Sl} {t : List PV} (hr : Rep T t) (h : Hp) (o : Oper) : gwant ops n T o = pwant ops ⟨n, t, h⟩ o := by
  unfold gwant pwant gyield pyield
  cases o.guard with
  | none => rfl
  | some jb =>
    obtain ⟨j, b⟩ := jb
    dsimp only
    cases (ops[j]?).bind (·.dst) with
    | none => rfl
    | some d =>
      dsimp only
      rw [hr d]
      rfl

def gtake (o : Oper) (T : Sl) (k : Sl → Hp → KR) (r : Res) : KR :=
  match r with
  | some (c, v, h') =>
    match c with
    | true => k (gdst o.dst T v) h'
    | false => none
  | none => none
def gop (P : Program) (call : Call1) (o : Oper) (n : Nat) (T : Sl) (h : Hp) (k : Sl → Hp → KR) : KR :=
  match o.op with
  | .move x => k (gdst o.dst T (gev n T x)) h
  | .assign x => k (gdst o.dst T (gev n T x)) h
  | .call c =>
    match fcallee P (gev n T) o with
    | some (f, args) =>
      match pcall call f args h with
      | some (r, h') => k (gdst o.dst T r) h'
      | none => none
    | none => gtake o T k (qcall P h (gev n T) c)
  | op => gtake o T k (fpopv P h op (gev n T))
def gruns (P : Program) (call : Call1) (ops : Array Oper) (n : Nat) (k : Sl → Hp → KR) (l : List Oper) : Sl → Hp → KR :=
  List.rec (motive := fun _ => Sl → Hp → KR) k
    (fun o _ ih T h =>
      match gwant ops n T o with
      | some b =>
        match b with
        | true => gop P call o n T h ih
        | false => ih (gdst o.dst T (.raw undef)) h
      | none => none) l
def grunsq (P : Program) (call : Call1) (ops : Array Oper) (n : Nat) (k : Sl → Hp → KR) (l : List Oper) : Sl → Hp → KR :=
  List.rec (motive := fun _ => Sl → Hp → KR) k
    (fun o _ ih T h =>
      match gwant ops n T o with
      | some b =>
        match b with
        | true =>
          match fcallee P (gev n T) o with
          | some (f, args) =>
            match pcallq call f args with
            | some r => ih (gdst o.dst T r) h
            | none => none
          | none =>
            match popq P h o (gev n T) with
            | some (c, v) =>
              match c with
              | true => ih (gdst o.dst T v) h
              | false => none
            | none => none
        | false => ih (gdst o.dst T (.raw undef)) h
      | none => none) l
def gdraw (P : Program) (call : Call1) (ops : Array Oper) (n : Nat) (k : Sl → Hp → KR) (T : Sl) (h : Hp) : KR :=
  match P.follows .mixedOrders && drawOk ops (dsplit ops) with
  | true => grunsq P call ops n (gruns P call ops n k (ops.toList.drop (dsplit ops))) (ops.toList.take (dsplit ops)) T h
  | false => none

def gC (P : Program) (call : Call1) (N n : Nat) (c : Code) : (Sl → Hp → KR) → (Exit → Sl → Hp → KR) → Sl → Hp → KR :=
  Code.rec (motive := fun _ => (Sl → Hp → KR) → (Exit → Sl → Hp → KR) → Sl → Hp → KR)
    (fun kn _ T h => kn T h)
    (fun _ ops draw kn _ T h => match draw with | true => gdraw P call ops n kn T h | false => gruns P call ops n kn ops.toList T h)
    (fun _ _ ix iy kn ke T h => ix (iy kn ke) ke T h)
    (fun c _ _ ix iy kn ke T h =>
      match gev n T c with
      | .bool b =>
        match b with
        | true => ix kn ke T h
        | false => iy kn ke T h
      | _ => none)
    (fun id _ ic kn ke T h => ic kn (fun e T h => match e with | .exit i => (match Nat.beq i id with | true => kn T h | false => ke (.exit i) T h) | e => ke e T h) T h)
    (fun _ ic kn ke T h => Nat.rec (motive := fun _ => Sl → Hp → KR) (fun _ _ => none) (fun _ ih T h => ic ih ke T h) N T h)
    (fun _ _ _ _ _ _ _ _ _ _ => none)
    (fun id _ ke T h => ke (.exit id) T h)
    (fun _ _ _ _ _ _ => none)
    (fun _ kn _ T h => kn T h)
    (fun _ _ _ _ _ => none)
    (fun _ ke T h => ke .ret T h)
    (fun _ _ _ _ _ => none) c

def gresult (P : Program) (h : Hp) (ev : Operand → PV) : ResultVar → Option PV
  | .tmp t => some (ev (.tmp t))
  | .cell a t => pload P t h (ev (.tmp a))
def gresultsL (P : Program) (h : Hp) (ev : Operand → PV) : List ResultVar → Option (List PV)
  | [] => some []
  | r :: l => (gresult P h ev r).bind fun p => (gresultsL P h ev l).map (p :: ·)
def gresults (P : Program) (h : Hp) (ev : Operand → PV) : List ResultVar → Option PV
  | [r] => gresult P h ev r
  | rs => (gresultsL P h ev rs).map .tup
theorem gresult_eq (P : Program) (s : PSt) (r : ResultVar) : gresult P s.h s.ev r = presult P s r := by cases r <;> rfl
theorem gresultsL_eq (P : Program) (s : PSt) : ∀ rs, gresultsL P s.h s.ev rs = presultsL P s rs
  | [] => rfl
  | r :: l => by simp only [gresultsL, presultsL, gresult_eq, gresultsL_eq P s l]
theorem gresults_eq (P : Program) (s : PSt) (rs : List ResultVar) : gresults P s.h s.ev rs = presults P s rs := by
  match rs with
  | [] => rfl
  | [r] => exact gresult_eq P s r
  | a :: b :: l =>
    show (gresultsL P s.h s.ev (a :: b :: l)).map PV.tup = (presultsL P s (a :: b :: l)).map PV.tup
    rw [gresultsL_eq]

def gend (P : Program) (rs : List ResultVar) (n nb nr : Nat) (T : Sl) (h : Hp) : KR :=
  match gresults P h (gev n T) rs with
  | some r => some (r, pgc nb nr r h)
  | none => none
def gB (P : Program) (N : Nat) (ih : Call1) : Call1 := fun f args h =>
  match P.funcs[f]? with
  | some fn =>
    match fn.body with
    | some c =>
      match Nat.ble args.length 8 with
      | true =>
        gC P ih N (max args.length fn.ntmps) c (gend P fn.results.toList (max args.length fn.ntmps) h.bx.length h.hw.length)
          (fun e T h1 => match e with | .ret => gend P fn.results.toList (max args.length fn.ntmps) h.bx.length h.hw.length T h1 | _ => none) [args] h
      | false => none
    | none => none
  | none => none
def gF (P : Program) (ext : Ext) (N : Nat) (d : Nat) : Call1 :=
  Nat.rec (motive := fun _ => Call1) (fun _ _ _ => none)
    (fun _ ih f args h =>
      match ext f (args.map PV.erase) with
      | some r => some (r, h)
      | none => gB P N ih f args h) d

section
variable {P : Program} {call : Call1} {Z : Bas} {n : Nat} {res : PV × Hp}

def GK (n : Nat) (k : Sl → Hp → KR) (res : PV × Hp) (s : PSt) : Prop := s.n = n ∧ ∃ T, Rep T s.t ∧ k T s.h = some res

theorem gtake_pop {o : Oper} {T : Sl} {t : List PV} {h : Hp} {k : Sl → Hp → KR} {r : Res} (hr : Rep T t) (hn : PSt.callee P ⟨n, t, h⟩ o = none) (he : r = popv P h o (PSt.ev ⟨n, t, h⟩)) (hg : gtake o T k r = some res) : pop1 P o ⟨n, t, h⟩ (GK n k res) := by
  unfold gtake at hg
  unfold pop1
  simp only [hn]
  subst he
  split at hg
  · rename_i c v h' hp
    simp only [hp]
    split at hg
    · exact ⟨rfl, rfl, _, gdst_rep hr o.dst v, hg⟩
    · cases hg
  · cases hg
theorem callee_callable {s : PSt} {o : Oper} {f : FuncId} {args : List PV} (hc : s.callee P o = some (f, args)) : callable P f = true := by
  unfold PSt.callee at hc
  split at hc
  case h_2 => cases hc
  split at hc
  case h_2 => cases hc
  split at hc
  case h_2 => cases hc
  split at hc
  case isFalse => cases hc
  rename_i hemp
  simp only [Option.some.injEq, Prod.mk.injEq] at hc
  obtain ⟨rfl, _⟩ := hc
  simp only [Bool.and_eq_true] at hemp
  exact hemp.2
theorem gop_pop (hc : CallOk P call) {o : Oper} {T : Sl} {t : List PV} {h : Hp} {k : Sl → Hp → KR} (hr : Rep T t) (hg : gop P call o n T h k = some res) : pop1 P o ⟨n, t, h⟩ (GK n k res) := by
  have hev := gev_eq (n := n) hr h
  unfold gop at hg
  split at hg
  · rename_i x hop
    have hn : PSt.callee P ⟨n, t, h⟩ o = none := by unfold PSt.callee; rw [hop]
    unfold pop1
    simp only [hn]
    have : popv P h o (PSt.ev ⟨n, t, h⟩) = some (true, PSt.ev ⟨n, t, h⟩ x, h) := by unfold popv; rw [hop]
    simp only [this]
    rw [hev] at hg
    exact ⟨trivial, rfl, _, gdst_rep hr o.dst _, hg⟩
  · rename_i x hop
    have hn : PSt.callee P ⟨n, t, h⟩ o = none := by unfold PSt.callee; rw [hop]
    unfold pop1
    simp only [hn]
    have : popv P h o (PSt.ev ⟨n, t, h⟩) = some (true, PSt.ev ⟨n, t, h⟩ x, h) := by unfold popv; rw [hop]
    simp only [this]
    rw [hev] at hg
    exact ⟨trivial, rfl, _, gdst_rep hr o.dst _, hg⟩
  · rename_i c hop
    have e1 : fcallee P (gev n T) o = PSt.callee P ⟨n, t, h⟩ o := by rw [hev]; rfl
    rw [e1] at hg
    split at hg
    · rename_i f args hcl
      unfold pop1
      simp only [hcl]
      split at hg
      · rename_i r h' hp
        have hcb := callee_callable hcl
        exact ⟨hcb, r, h', pcall_ok hc hp, rfl, _, gdst_rep hr o.dst r, hg⟩
      · cases hg
    · rename_i hcl
      refine gtake_pop hr hcl ?_ hg
      rw [hev, ← fpopv_eq, hop]
      rfl
  · rename_i hne1 hne2 hne3
    refine gtake_pop hr ?_ ?_ hg
    · unfold PSt.callee
      split
      · rename_i c hop
        exact absurd hop (hne3 c)
      · rfl
    · rw [hev, fpopv_eq]

theorem pop1_mono {o : Oper} {s : PSt} {K K' : PSt → Prop} (h : pop1 P o s K) (hk : ∀ s', K s' → K' s') : pop1 P o s K' := by
  unfold pop1 at h ⊢
  split at h
  · obtain ⟨a, r, h', b, c⟩ := h
    exact ⟨a, r, h', b, hk _ c⟩
  · split at h
    · exact ⟨h.1, hk _ h.2⟩
    · exact h.elim

theorem gruns_pops (hc : CallOk P call) {ops : Array Oper} {k : Sl → Hp → KR} : ∀ (l : List Oper) {T : Sl} {t : List PV} {h : Hp}, Rep T t → gruns P call ops n k l T h = some res → pops P ops (GK n k res) l ⟨n, t, h⟩
  | [], T, t, h, hr, hg => ⟨rfl, T, hr, hg⟩
  | o :: rest, T, t, h, hr, hg => by
    have hg : (match gwant ops n T o with
      | some b =>
        match b with
        | true => gop P call o n T h (gruns P call ops n k rest)
        | false => gruns P call ops n k rest (gdst o.dst T (.raw undef)) h
      | none => none) = some res := hg
    rw [gwant_eq hr h] at hg
    unfold pops
    split at hg
    · rename_i b hw
      simp only [hw]
      cases b with
      | true =>
        have := gop_pop hc hr hg
        exact pop1_mono this (fun s' hk => by
          obtain ⟨hn, T', hr', hg'⟩ := hk
          have : s' = ⟨n, s'.t, s'.h⟩ := by rw [← hn]
          rw [this]
          exact gruns_pops hc rest hr' hg')
      | false => exact gruns_pops hc rest (gdst_rep hr o.dst _) hg
    · cases hg

theorem grunsq_popsq (hc : CallOk P call) {ops : Array Oper} {k : Sl → Hp → KR} : ∀ (l : List Oper) {T : Sl} {t : List PV} {h : Hp}, Rep T t → grunsq P call ops n k l T h = some res → popsq P ops (GK n k res) l ⟨n, t, h⟩
  | [], T, t, h, hr, hg => ⟨rfl, T, hr, hg⟩
  | o :: rest, T, t, h, hr, hg => by
    have hg : (match gwant ops n T o with
      | some b =>
        match b with
        | true =>
          match fcallee P (gev n T) o with
          | some (f, args) =>
            match pcallq call f args with
            | some r => grunsq P call ops n k rest (gdst o.dst T r) h
            | none => none
          | none =>
            match popq P h o (gev n T) with
            | some (c, v) =>
              match c with
              | true => grunsq P call ops n k rest (gdst o.dst T v) h
              | false => none
            | none => none
        | false => grunsq P call ops n k rest (gdst o.dst T (.raw undef)) h
      | none => none) = some res := hg
    have hev := gev_eq (n := n) hr h
    have e1 : fcallee P (gev n T) o = PSt.callee P ⟨n, t, h⟩ o := by rw [hev]; rfl
    rw [gwant_eq hr h, e1, hev] at hg
    unfold popsq
    split at hg
    · rename_i b hw
      simp only [hw]
      cases b with
      | true =>
        simp only at hg ⊢
        split at hg
        · rename_i f args hcl
          simp only [hcl]
          split at hg
          · rename_i r hp
            exact ⟨callee_callable hcl, r, pcallq_ok hc hp, grunsq_popsq hc rest (gdst_rep hr o.dst _) hg⟩
          · cases hg
        · rename_i hcl
          simp only [hcl]
          split at hg
          · rename_i c v hp
            simp only [hp]
            split at hg
            · exact ⟨rfl, grunsq_popsq hc rest (gdst_rep hr o.dst _) hg⟩
            · cases hg
          · cases hg
      | false => exact grunsq_popsq hc rest (gdst_rep hr o.dst _) hg
    · cases hg

theorem popsq_mono {ops : Array Oper} {K K' : PSt → Prop} (hk : ∀ s', K s' → K' s') : ∀ (l : List Oper) {s : PSt}, popsq P ops K l s → popsq P ops K' l s
  | [], s, h => hk _ h
  | o :: rest, s, h => by
    unfold popsq at h ⊢
    split at h
    · split at h
      · obtain ⟨a, r, b, c⟩ := h
        exact ⟨a, r, b, popsq_mono hk rest c⟩
      · split at h
        · exact ⟨h.1, popsq_mono hk rest h.2⟩
        · exact h.elim
    · exact popsq_mono hk rest h
    · exact h.elim

theorem gC_sound (hc : CallOk P call) {N : Nat} : ∀ (c : Code) {kn : Sl → Hp → KR} {ke : Exit → Sl → Hp → KR} {Q : Exit → Act → World → Prop} {R : Rel} {T : Sl} {t : List PV} {h : Hp} {a : Act} {w : World}, FSim Z R ⟨n, t, h⟩ a w → Rep T t → gC P call N n c kn ke T h = some res →
    (∀ R' T' t' h' a' w', FSim Z R' ⟨n, t', h'⟩ a' w' → Rep T' t' → kn T' h' = some res → Q .normal a' w') →
    (∀ e R' T' t' h' a' w', FSim Z R' ⟨n, t', h'⟩ a' w' → Rep T' t' → ke e T' h' = some res → e ≠ .normal → Q e a' w') → c.wp P Q a w
  | .skip, kn, ke, Q, R, T, t, h, a, w, f, hr, hg, h1, h2 => wp_skip (h1 _ _ _ _ _ _ f hr hg)
  | .label _, kn, ke, Q, R, T, t, h, a, w, f, hr, hg, h1, h2 => wp_label (h1 _ _ _ _ _ _ f hr hg)
  | .exit _, kn, ke, Q, R, T, t, h, a, w, f, hr, hg, h1, h2 => wp_exit (h2 _ _ _ _ _ _ _ f hr hg (by simp))
  | .ret, kn, ke, Q, R, T, t, h, a, w, f, hr, hg, h1, h2 => wp_ret (h2 _ _ _ _ _ _ _ f hr hg (by simp))
  | .region _ ops draw, kn, ke, Q, R, T, t, h, a, w, f, hr, hg, h1, h2 => by
    have fin : ∀ R' s' a' w', FSim Z R' s' a' w' → GK n kn res s' → Q .normal a' w' := by
      rintro R' s' a' w' f' ⟨hn, T', hr', hg'⟩
      have : s' = ⟨n, s'.t, s'.h⟩ := by rw [← hn]
      rw [this] at f'
      exact h1 _ _ _ _ _ _ f' hr' hg'
    cases draw with
    | true =>
      have hg : gdraw P call ops n kn T h = some res := hg
      unfold gdraw at hg
      split at hg
      · rename_i hd
        simp only [Bool.and_eq_true] at hd
        refine pdraw_sound f ⟨hd.1, hd.2, popsq_mono (fun s' hk => ?_) _ (grunsq_popsq hc _ hr hg)⟩ fin
        obtain ⟨hn, T', hr', hg'⟩ := hk
        have : s' = ⟨n, s'.t, s'.h⟩ := by rw [← hn]
        rw [this]
        exact gruns_pops hc _ hr' hg'
      · cases hg
    | false => exact wp_region_list (pops_sound _ f (gruns_pops hc _ hr hg) fin)
  | .seq x y, kn, ke, Q, R, T, t, h, a, w, f, hr, hg, h1, h2 => by
    refine wp_seq (gC_sound hc x (kn := gC P call N n y kn ke) f hr hg (fun R' T' t' h' a' w' f' hr' hg' => gC_sound hc y f' hr' hg' h1 h2) (fun e R' T' t' h' a' w' f' hr' hg' hne => ?_))
    cases e with
    | normal => exact absurd rfl hne
    | _ => exact h2 _ _ _ _ _ _ _ f' hr' hg' hne
  | .cond c x y, kn, ke, Q, R, T, t, h, a, w, f, hr, hg, h1, h2 => by
    have hg : (match gev n T c with
      | .bool b =>
        match b with
        | true => gC P call N n x kn ke T h
        | false => gC P call N n y kn ke T h
      | _ => none) = some res := hg
    rw [gev_eq hr h] at hg
    have hv := f.ev c
    split at hg
    · rename_i b he
      rw [he] at hv
      have hcb : a.eval c = .bool b := by
        generalize a.eval c = v at hv
        cases hv; rfl
      cases b with
      | true => exact wp_cond_true hcb (gC_sound hc x f hr hg h1 h2)
      | false => exact wp_cond_false hcb (gC_sound hc y f hr hg h1 h2)
    · cases hg
  | .block id c, kn, ke, Q, R, T, t, h, a, w, f, hr, hg, h1, h2 => by
    refine wp_block (gC_sound hc c (kn := kn) (ke := fun e T h => match e with | .exit i => (match Nat.beq i id with | true => kn T h | false => ke (.exit i) T h) | e => ke e T h) f hr hg (fun R' T' t' h' a' w' f' hr' hg' => ?_) (fun e R' T' t' h' a' w' f' hr' hg' hne => ?_))
    · exact h1 _ _ _ _ _ _ f' hr' hg'
    · cases e with
      | normal => exact absurd rfl hne
      | exit i =>
        simp only [Exit.inBlock]
        simp only at hg'
        split at hg'
        · rename_i hb
          rw [if_pos (Nat.eq_of_beq_eq_true hb)]
          exact h1 _ _ _ _ _ _ f' hr' hg'
        · rename_i hb
          rw [if_neg (Nat.ne_of_beq_eq_false hb)]
          exact h2 _ _ _ _ _ _ _ f' hr' hg' (by simp)
      | _ => exact h2 _ _ _ _ _ _ _ f' hr' hg' hne
  | .loop c, kn, ke, Q, R, T, t, h, a, w, f, hr, hg, h1, h2 => by
    have hg : Nat.rec (motive := fun _ => Sl → Hp → KR) (fun _ _ => none) (fun _ ih T h => gC P call N n c ih ke T h) N T h = some res := hg
    refine wp_loop_ghost (fun m a w => ∃ R T t h, FSim Z R ⟨n, t, h⟩ a w ∧ Rep T t ∧ Nat.rec (motive := fun _ => Sl → Hp → KR) (fun _ _ => none) (fun _ ih T h => gC P call N n c ih ke T h) m T h = some res) N ⟨_, _, _, _, f, hr, hg⟩ ?_
    rintro m a w ⟨R, T, t, h, f, hr, hm⟩
    cases m with
    | zero => cases hm
    | succ m =>
      refine gC_sound hc c f hr hm (fun R' T' t' h' a' w' f' hr' hg' => ⟨m, Nat.lt_succ_self m, R', T', t', h', f', hr', hg'⟩) (fun e R' T' t' h' a' w' f' hr' hg' hne => ?_)
      cases e with
      | normal => exact absurd rfl hne
      | _ => exact h2 _ _ _ _ _ _ _ f' hr' hg' hne
  | .rangeFunc .., kn, ke, Q, R, T, t, h, a, w, f, hr, hg, h1, h2 => by cases hg
  | .scope _, kn, ke, Q, R, T, t, h, a, w, f, hr, hg, h1, h2 => by cases hg
  | .goto _, kn, ke, Q, R, T, t, h, a, w, f, hr, hg, h1, h2 => by cases hg
  | .refuse _, kn, ke, Q, R, T, t, h, a, w, f, hr, hg, h1, h2 => by cases hg

theorem rep_one {args : List PV} (h : args.length ≤ 8) : Rep [args] args := by
  intro i
  show fget (lget [args] (i / 8)) (i % 8) = get args i
  rw [fget_eq]
  by_cases c : i < 8
  · rw [Nat.div_eq_of_lt c, Nat.mod_eq_of_lt c]; rfl
  · have h1 : lget [args] (i / 8) = [] := by
      have : 0 < i / 8 := Nat.div_pos (by omega) (by omega)
      obtain ⟨k, hk⟩ : ∃ k, i / 8 = k + 1 := ⟨i / 8 - 1, by omega⟩
      rw [hk]; rfl
    rw [h1]
    have : ∀ (l : List PV) (i : Nat), l.length ≤ i → get l i = .any := by
      intro l
      induction l with
      | nil => intro i _; cases i <;> rfl
      | cons x l ih => intro i hi; cases i with
        | zero => simp at hi
        | succ i => exact ih i (by simpa using hi)
    rw [this args i (by omega)]
    cases i % 8 <;> rfl

theorem does_of_run2 {f : FuncId} {fn : Func} {c : Code} {args : List PV} {h h' : Hp} {r : PV} (hf : P.funcs[f]? = some fn) (hb : fn.body = some c)
    (hp : ∀ (Z : Bas) (R : Rel) (a : Act) (w : World), FSim Z R (pstart fn args h) a w → ∀ (Q : Exit → Act → World → Prop), (∀ e R' s' a' w', FSim Z R' s' a' w' → e = .normal ∨ e = .ret → presults P s' fn.results.toList = some r → pgc h.bx.length h.hw.length r s'.h = h' → Q e a' w') → c.wp P Q a w) :
    Does P f args h r h' := by
  intro B0 R vals w hB hs hl hv
  refine calls_of_wp hf hb ?_
  refine hp ⟨B0, w, R, hB⟩ R _ w (start_sim hB hs hl hv) _ (fun e R' s' a' w' f' he h1 h2 => ?_)
  obtain ⟨v, g2, g3⟩ := presults_sound (P := P) f' h1
  have fin : a'.defers = [] ∧ ∃ v, (results fn a'.tmps).run P w' = .ok v w' ∧ ∃ u, Ending.returned v = .returned u ∧ Good B0 R w u r h' w' := by
    refine ⟨f'.d, v, g2, v, rfl, ?_⟩
    subst h2
    unfold pgc
    split
    · rename_i hc
      simp only [Bool.and_eq_true] at hc
      exact ⟨R'.cut h.bx.length h.hw.length, f'.le.cut (Nat.le_of_eq hs.lβ) (Nat.le_of_eq (by show R.hw.length = _; rw [hs.hw])), g3.cut hc.1, f'.h.cut hc.2, f'.b, f'.dn⟩
    · exact ⟨R', f'.le, g3, f'.h, f'.b, f'.dn⟩
  rcases he with rfl | rfl
  · exact fin
  · exact fin

theorem gB_ok {N : Nat} {ih : Call1} (hc : CallOk P ih) : CallOk P (gB P N ih) := by
  intro f args h r h' hr
  unfold gB at hr
  split at hr
  case h_2 => cases hr
  rename_i fn hf
  split at hr
  case h_2 => cases hr
  rename_i c hb
  split at hr
  case h_2 => cases hr
  rename_i hl
  have hl : args.length ≤ 8 := Nat.le_of_ble_eq_true hl
  refine does_of_run2 hf hb (fun Z R a w f0 Q hk => ?_)
  have fin : ∀ {R' : Rel} {T' : Sl} {t' : List PV} {h1 : Hp} {a' : Act} {w' : World} {e : Exit}, FSim Z R' ⟨max args.length fn.ntmps, t', h1⟩ a' w' → Rep T' t' → gend P fn.results.toList (max args.length fn.ntmps) h.bx.length h.hw.length T' h1 = some (r, h') → e = .normal ∨ e = .ret → Q e a' w' := by
    intro R' T' t' h1 a' w' e f' hr' hg' he
    unfold gend at hg'
    rw [gev_eq hr' h1] at hg'
    split at hg'
    · rename_i r1 hres
      cases hg'
      exact hk _ _ _ _ _ f' he ((gresults_eq P ⟨max args.length fn.ntmps, t', h1⟩ _).symm.trans hres) rfl
    · cases hg'
  refine gC_sound hc c f0 (rep_one hl) hr (fun R' T' t' h1 a' w' f' hr' hg' => fin f' hr' hg' (.inl rfl)) (fun e R' T' t' h1 a' w' f' hr' hg' hne => ?_)
  cases e with
  | ret => exact fin f' hr' hg' (.inr rfl)
  | _ => cases hg'
theorem gF_ok {ext : Ext} (hx : ExtOk P ext) (N : Nat) : ∀ d : Nat, CallOk P (gF P ext N d)
  | 0, f, args, h, r, h', hr => by cases hr
  | d + 1, f, args, h, r, h', hr => by
    have hr : (match ext f (args.map PV.erase) with
      | some r => some (r, h)
      | none => gB P N (gF P ext N d) f args h) = some (r, h') := hr
    split at hr
    · rename_i r1 he
      cases hr
      exact does_of_pure (hx _ _ _ he)
    · exact gB_ok (gF_ok hx N d) _ _ _ _ _ hr

/-- A run on known values. -/
theorem does_of_grun {ext : Ext} (hx : ExtOk P ext) {f : FuncId} {args : List PV} {h h' : Hp} {r : PV} (N d : Nat) (hr : gF P ext N d f args h = some (r, h')) : Does P f args h r h' := gF_ok hx N d _ _ _ _ _ hr
theorem pure_of_grun {ext : Ext} (hx : ExtOk P ext) {f : FuncId} {args : List PV} {h' : Hp} {r : PV} (N d : Nat) (hr : gF P ext N d f args noHp = some (r, h')) : Pure P f args r.erase := pure_of_does (does_of_grun hx N d hr)

end
end
end Pm
end Go.Proofs.Ytacccimihgailaa
