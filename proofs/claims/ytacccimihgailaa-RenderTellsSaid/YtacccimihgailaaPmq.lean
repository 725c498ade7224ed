/- Runs on known values: an interpreter over abstract states, and that it is right. -/
import Derived.Test.YtacccimihgailaaPmp
set_option linter.unusedVariables false
set_option linter.unusedSimpArgs false
namespace Go.Proofs.Ytacccimihgailaa
namespace Pm
open Go.RowKit

/-- A run of a function: of such arguments and such a heap. -/
abbrev Call1 := FuncId → List PV → Hp → Option (PV × Hp)
def CallOk (P : Program) (call : Call1) : Prop := ∀ f args h r h', call f args h = some (r, h') → Does P f args h r h'
/-- Does it lean on no box and no row? -/
def alone (args : List PV) : Bool := sunkL 0 0 args
def noHp : Hp := ⟨[], [], [], []⟩
/-- A call: arguments that lean on no box are computed with alone. -/
def pcall (call : Call1) (f : FuncId) (args : List PV) (h : Hp) : Option (PV × Hp) :=
  match alone args with
  | true =>
    match call f args noHp with
    | some (r, _) => some (r.erase, h)
    | none => none
  | false => call f args h
/-- In a region whose order is drawn. -/
def pcallq (call : Call1) (f : FuncId) (args : List PV) : Option PV :=
  match call f (args.map PV.erase) noHp with
  | some (r, _) => some r.erase
  | none => none

def prun1 (P : Program) (call : Call1) (o : Oper) (s : PSt) : Option PSt :=
  match s.callee P o with
  | some (f, args) => if callable P f then (pcall call f args s.h).map fun x => s.put o.dst x.1 x.2 else none
  | none =>
    match popv P s.h o s.ev with
    | some (c, v, h') => if c then some (s.put o.dst v h') else none
    | none => none
def pruns (P : Program) (call : Call1) (ops : Array Oper) : List Oper → PSt → Option PSt
  | [], s => some s
  | o :: rest, s =>
    match pwant ops s o with
    | some true => (prun1 P call o s).bind fun s' => pruns P call ops rest s'
    | some false => pruns P call ops rest (s.put o.dst (.raw undef) s.h)
    | none => none
def prunsq (P : Program) (call : Call1) (ops : Array Oper) : List Oper → PSt → Option PSt
  | [], s => some s
  | o :: rest, s =>
    match pwant ops s o with
    | some true =>
      match s.callee P o with
      | some (f, args) => if callable P f then (pcallq call f args).bind fun r => prunsq P call ops rest (s.put o.dst r s.h) else none
      | none =>
        match popq P s.h o s.ev with
        | some (c, v) => if c then prunsq P call ops rest (s.put o.dst v s.h) else none
        | none => none
    | some false => prunsq P call ops rest (s.put o.dst (.raw undef) s.h)
    | none => none
def prunDraw (P : Program) (call : Call1) (ops : Array Oper) (s : PSt) : Option PSt :=
  if P.follows .mixedOrders then
    if drawOk ops (dsplit ops) then (prunsq P call ops (ops.toList.take (dsplit ops)) s).bind fun s' => pruns P call ops (ops.toList.drop (dsplit ops)) s' else none
  else none

def loopN (body : PSt → Option (Exit × PSt)) : Nat → PSt → Option (Exit × PSt)
  | 0, _ => none
  | n + 1, s =>
    match body s with
    | some (.normal, s') => loopN body n s'
    | x => x
def prunC (P : Program) (call : Call1) (N : Nat) : Code → PSt → Option (Exit × PSt)
  | .skip, s => some (.normal, s)
  | .label _, s => some (.normal, s)
  | .exit id, s => some (.exit id, s)
  | .ret, s => some (.ret, s)
  | .region _ ops draw, s => (if draw then prunDraw P call ops s else pruns P call ops ops.toList s).map fun s' => (.normal, s')
  | .seq x y, s =>
    match prunC P call N x s with
    | some (.normal, s') => prunC P call N y s'
    | r => r
  | .cond c x y, s =>
    match s.ev c with
    | .bool b => if b then prunC P call N x s else prunC P call N y s
    | _ => none
  | .block id c, s =>
    match prunC P call N c s with
    | some (.exit i, s') => if i = id then some (.normal, s') else some (.exit i, s')
    | r => r
  | .loop c, s => loopN (prunC P call N c) N s
  | _, _ => none
theorem erase_sunk (p : PV) : p.sunk 0 0 = true → p.erase = p := by
  refine PV.rec (motive_1 := fun p => p.sunk 0 0 = true → p.erase = p) (motive_2 := fun l => sunkL 0 0 l = true → eraseL l = l) ?_ ?_ ?_ ?_ ?_ ?_ ?_ ?_ ?_ ?_ ?_ ?_ ?_ ?_ ?_ p
  · intro _; rfl
  · intro v _; rfl
  · intro k n _; rfl
  · intro b _; rfl
  · intro l _; rfl
  · intro b off h; simp [PV.sunk] at h
  · intro e off ih h
    simp only [PV.sunk] at h
    simp only [PV.erase, ih h]
  · intro tok nl cap z es ih h
    cases tok with
    | none =>
      simp only [PV.sunk] at h
      simp only [PV.erase, ih h]
    | some r => simp [PV.sunk] at h
  · intro b off len cap h; simp [PV.sunk] at h
  · intro cs ih h
    simp only [PV.sunk] at h
    simp only [PV.erase, ih h]
  · intro cs ih h
    simp only [PV.sunk] at h
    simp only [PV.erase, ih h]
  · intro r es ih h; simp [PV.sunk] at h
  · intro b h; simp [PV.sunk] at h
  · intro _; rfl
  · intro p r ih1 ih2 h
    simp only [sunkL, Bool.and_eq_true] at h
    simp only [eraseL, ih1 h.1, ih2 h.2]
theorem alone_erase {args : List PV} (h : alone args = true) : args.map PV.erase = args := by
  rw [← eraseL_map]
  unfold alone at h
  induction args with
  | nil => rfl
  | cons p r ih =>
    simp only [sunkL, Bool.and_eq_true] at h
    simp only [eraseL, erase_sunk p h.1, ih h.2]

theorem pcall_ok {P : Program} {call : Call1} (hc : CallOk P call) {f : FuncId} {args : List PV} {h h' : Hp} {r : PV} (hp : pcall call f args h = some (r, h')) : Does P f args h r h' := by
  unfold pcall at hp
  split at hp
  · rename_i ha
    split at hp
    · rename_i r1 h1 he
      cases hp
      refine does_of_pure ?_
      rw [alone_erase ha]
      exact pure_of_does (hc _ _ _ _ _ he)
    · cases hp
  · exact hc _ _ _ _ _ hp
theorem pcallq_ok {P : Program} {call : Call1} (hc : CallOk P call) {f : FuncId} {args : List PV} {h : Hp} {r : PV} (hp : pcallq call f args = some r) : Does P f args h r h := by
  unfold pcallq at hp
  split at hp
  · rename_i r1 h1 he
    cases hp
    exact does_of_pure (pure_of_does (hc _ _ _ _ _ he))
  · cases hp

section
variable {P : Program} {call : Call1} {Z : Bas}

theorem prun1_pop (hc : CallOk P call) {o : Oper} {s s' : PSt} {K : PSt → Prop} (h : prun1 P call o s = some s') (hk : K s') : pop1 P o s K := by
  unfold prun1 at h
  unfold pop1
  cases hcal : s.callee P o with
  | some fa =>
    obtain ⟨f, args⟩ := fa
    simp only [hcal] at h ⊢
    split at h
    case isFalse => cases h
    rename_i hcl
    obtain ⟨⟨r, h'⟩, h1, rfl⟩ := Option.map_eq_some_iff.1 h
    exact ⟨hcl, r, h', pcall_ok hc h1, hk⟩
  | none =>
    simp only [hcal] at h ⊢
    split at h
    · rename_i c v h' hp
      split at h
      · rename_i hcc
        cases h
        simp only [hp]
        exact ⟨hcc, hk⟩
      · cases h
    · cases h

theorem pruns_pops (hc : CallOk P call) {ops : Array Oper} {K : PSt → Prop} : ∀ (l : List Oper) {s s' : PSt}, pruns P call ops l s = some s' → K s' → pops P ops K l s
  | [], s, s', h, hk => by cases h; exact hk
  | o :: rest, s, s', h, hk => by
    unfold pruns at h
    unfold pops
    split at h
    · rename_i hw
      obtain ⟨s1, h1, h2⟩ := Option.bind_eq_some_iff.1 h
      simp only [hw]
      exact prun1_pop hc h1 (pruns_pops hc rest h2 hk)
    · rename_i hw
      simp only [hw]
      exact pruns_pops hc rest h hk
    · cases h

theorem prunsq_popsq (hc : CallOk P call) {ops : Array Oper} {K : PSt → Prop} : ∀ (l : List Oper) {s s' : PSt}, prunsq P call ops l s = some s' → K s' → popsq P ops K l s
  | [], s, s', h, hk => by cases h; exact hk
  | o :: rest, s, s', h, hk => by
    unfold prunsq at h
    unfold popsq
    split at h
    · rename_i hw
      simp only [hw]
      cases hcal : s.callee P o with
      | some fa =>
        obtain ⟨f, args⟩ := fa
        simp only [hcal] at h ⊢
        split at h
        case isFalse => cases h
        rename_i hcl
        obtain ⟨r, h1, h2⟩ := Option.bind_eq_some_iff.1 h
        exact ⟨hcl, r, pcallq_ok hc h1, prunsq_popsq hc rest h2 hk⟩
      | none =>
        simp only [hcal] at h ⊢
        split at h
        · rename_i c v hp
          split at h
          · rename_i hcc
            simp only [hp]
            exact ⟨hcc, prunsq_popsq hc rest h hk⟩
          · cases h
        · cases h
    · rename_i hw
      simp only [hw]
      exact prunsq_popsq hc rest h hk
    · cases h

theorem prunC_sound (hc : CallOk P call) {N : Nat} : ∀ (c : Code) {Q : Exit → Act → World → Prop} {e : Exit} {R : Rel} {s s' : PSt} {a : Act} {w : World}, FSim Z R s a w → prunC P call N c s = some (e, s') →
    (∀ R' a' w', FSim Z R' s' a' w' → Q e a' w') → c.wp P Q a w
  | .skip, Q, e, R, s, s', a, w, f, hp, hk => by cases hp; exact wp_skip (hk _ _ _ f)
  | .label _, Q, e, R, s, s', a, w, f, hp, hk => by cases hp; exact wp_label (hk _ _ _ f)
  | .exit _, Q, e, R, s, s', a, w, f, hp, hk => by cases hp; exact wp_exit (hk _ _ _ f)
  | .ret, Q, e, R, s, s', a, w, f, hp, hk => by cases hp; exact wp_ret (hk _ _ _ f)
  | .region _ ops draw, Q, e, R, s, s', a, w, f, hp, hk => by
    unfold prunC at hp
    obtain ⟨s1, h1, h2⟩ := Option.map_eq_some_iff.1 hp
    cases h2
    cases draw with
    | true =>
      simp only [if_true] at h1
      unfold prunDraw at h1
      split at h1
      case isFalse => cases h1
      rename_i h2
      split at h1
      case isFalse => cases h1
      rename_i h3
      obtain ⟨s2, h4, h5⟩ := Option.bind_eq_some_iff.1 h1
      refine pdraw_sound (K := fun x => x = s') f ⟨h2, h3, prunsq_popsq hc _ h4 (pruns_pops hc _ h5 rfl)⟩ (fun R' s1 a' w' f' h' => ?_)
      subst h'; exact hk _ _ _ f'
    | false =>
      refine wp_region_list (pops_sound (K := fun x => x = s') _ f (pruns_pops hc _ h1 rfl) (fun R' s1 a' w' f' h' => ?_))
      subst h'; exact hk _ _ _ f'
  | .seq x y, Q, e, R, s, s', a, w, f, hp, hk => by
    unfold prunC at hp
    split at hp
    · rename_i s1 h1
      exact wp_seq (prunC_sound hc x f h1 (fun R' a' w' f' => prunC_sound hc y f' hp hk))
    · rename_i hne
      refine wp_seq (prunC_sound hc x f hp (fun R' a' w' f' => ?_))
      cases e with
      | normal => exact absurd hp (hne _)
      | _ => exact hk _ _ _ f'
  | .cond c x y, Q, e, R, s, s', a, w, f, hp, hk => by
    unfold prunC at hp
    have hv := f.ev c
    split at hp
    · rename_i b he
      rw [he] at hv
      have hcb : a.eval c = .bool b := by
        generalize a.eval c = v at hv
        cases hv; rfl
      cases b with
      | true => exact wp_cond_true hcb (prunC_sound hc x f hp hk)
      | false => exact wp_cond_false hcb (prunC_sound hc y f hp hk)
    · cases hp
  | .block id c, Q, e, R, s, s', a, w, f, hp, hk => by
    unfold prunC at hp
    split at hp
    · rename_i i s1 h1
      refine wp_block (prunC_sound hc c f h1 (fun R' a' w' f' => ?_))
      simp only [Exit.inBlock]
      split at hp
      · rw [if_pos ‹_›]; cases hp; exact hk _ _ _ f'
      · rw [if_neg ‹_›]; cases hp; exact hk _ _ _ f'
    · rename_i hne
      refine wp_block (prunC_sound hc c f hp (fun R' a' w' f' => ?_))
      cases e with
      | exit i => exact absurd hp (hne _ _)
      | _ => exact hk _ _ _ f'
  | .loop c, Q, e, R, s, s', a, w, f, hp, hk => by
    unfold prunC at hp
    refine wp_loop_ghost (fun n a w => ∃ R s, FSim Z R s a w ∧ loopN (prunC P call N c) n s = some (e, s')) N ⟨_, _, f, hp⟩ ?_
    rintro n a w ⟨R, s, f, hn⟩
    cases n with
    | zero => cases hn
    | succ n =>
      unfold loopN at hn
      split at hn
      · rename_i s1 h1
        exact prunC_sound hc c f h1 (fun R' a' w' f' => ⟨n, Nat.lt_succ_self n, R', _, f', hn⟩)
      · rename_i hne
        refine prunC_sound hc c f hn (fun R' a' w' f' => ?_)
        cases e with
        | normal => exact absurd hn (hne _)
        | _ => exact hk _ _ _ f'
  | .rangeFunc .., Q, e, R, s, s', a, w, f, hp, hk => by cases hp
  | .scope _, Q, e, R, s, s', a, w, f, hp, hk => by cases hp
  | .goto _, Q, e, R, s, s', a, w, f, hp, hk => by cases hp
  | .refuse _, Q, e, R, s, s', a, w, f, hp, hk => by cases hp

end
end Pm
end Go.Proofs.Ytacccimihgailaa
