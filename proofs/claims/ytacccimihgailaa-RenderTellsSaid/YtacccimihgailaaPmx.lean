/- Runs by a tape, sound; functions; the answers that are typed. -/
import Derived.Test.YtacccimihgailaaPmw
import Derived.KernelRfl
set_option linter.unusedVariables false
set_option linter.unusedSimpArgs false
namespace Go.Proofs.Ytacccimihgailaa
namespace Pm
namespace Tp
open Go.RowKit

noncomputable section
section
variable {P : Program} {Z : Bas} {z : Nat × Nat} {n : Nat} {X : Type} {r : X}
theorem tC_sound (hz : Far Z z) : ∀ (c : Code) {kn : KT X} {ke : Exit → KT X} {Q : Exit → Act → World → Prop} {R : Rel} {T : Sl} {h : Hp} {ds : List Dec} {a : Act} {w : World}, Sim Z R n T h a w → Out (tC P z n c kn ke T h ds) r →
    (∀ R' T' h' ds' a' w', Sim Z R' n T' h' a' w' → Out (kn T' h' ds') r → Q .normal a' w') →
    (∀ e R' T' h' ds' a' w', Sim Z R' n T' h' a' w' → Out (ke e T' h' ds') r → e ≠ .normal → Q e a' w') → c.wp P Q a w
  | .skip, kn, ke, Q, R, T, h, ds, a, w, s, hg, h1, h2 => wp_skip (h1 _ _ _ _ _ _ s hg)
  | .label _, kn, ke, Q, R, T, h, ds, a, w, s, hg, h1, h2 => wp_label (h1 _ _ _ _ _ _ s hg)
  | .exit _, kn, ke, Q, R, T, h, ds, a, w, s, hg, h1, h2 => wp_exit (h2 _ _ _ _ _ _ _ s hg (by simp))
  | .ret, kn, ke, Q, R, T, h, ds, a, w, s, hg, h1, h2 => wp_ret (h2 _ _ _ _ _ _ _ s hg (by simp))
  | .region _ ops draw, kn, ke, Q, R, T, h, ds, a, w, s, hg, h1, h2 => by
    obtain ⟨t, hr, f⟩ := s
    have fin : ∀ R' s' a' w', FSim Z R' s' a' w' → OK n kn r s' → Q .normal a' w' := by
      rintro R' s' a' w' f' ⟨hn, T', ds', hr', hg'⟩
      have : s' = ⟨n, s'.t, s'.h⟩ := by rw [← hn]
      rw [this] at f'
      exact h1 _ _ _ _ _ _ ⟨_, hr', f'⟩ hg'
    cases draw with
    | true =>
      have hg : Out (tdraw P ops n kn T h ds) r := hg
      unfold tdraw at hg
      split at hg
      · rename_i hd
        simp only [Bool.and_eq_true] at hd
        refine pdraw_sound f ⟨hd.1, hd.2, popsq_mono (fun s' hk => ?_) _ (trunsq_pops _ hr hg)⟩ fin
        obtain ⟨hn, T', ds', hr', hg'⟩ := hk
        have : s' = ⟨n, s'.t, s'.h⟩ := by rw [← hn]
        rw [this]
        exact truns_pops _ hr' hg'
      · exact (out_none hg).elim
    | false => exact wp_region_list (pops_sound _ f (truns_pops _ hr hg) fin)
  | .seq x y, kn, ke, Q, R, T, h, ds, a, w, s, hg, h1, h2 => by
    refine wp_seq (tC_sound hz x (kn := tC P z n y kn ke) s hg (fun R' T' h' ds' a' w' s' hg' => tC_sound hz y s' hg' h1 h2) (fun e R' T' h' ds' a' w' s' hg' hne => ?_))
    cases e with
    | normal => exact absurd rfl hne
    | _ => exact h2 _ _ _ _ _ _ _ s' hg' hne
  | .cond c x y, kn, ke, Q, R, T, h, ds, a, w, s, hg, h1, h2 => by
    refine tsg_sound hz s hg (fun hg => ?_) h1 h2
    obtain ⟨t, hr, f⟩ := id s
    rw [gev_eq hr h] at hg
    have hv := f.ev c
    split at hg
    · rename_i b he
      rw [he] at hv
      have hcb : a.eval c = .bool b := by
        generalize a.eval c = v at hv
        cases hv; rfl
      obtain ⟨ds', hg'⟩ := out_ask hg
      cases b with
      | true => exact wp_cond_true hcb (tC_sound hz x s hg' h1 h2)
      | false => exact wp_cond_false hcb (tC_sound hz y s hg' h1 h2)
    · exact (out_none hg).elim
  | .block id c, kn, ke, Q, R, T, h, ds, a, w, s, hg, h1, h2 => by
    refine tsg_sound hz s hg (fun hg => ?_) h1 h2
    refine wp_block (tC_sound hz c (kn := kn) (ke := fun e T h ds => match e with | .exit i => (match Nat.beq i id with | true => kn T h ds | false => ke (.exit i) T h ds) | e => ke e T h ds) s hg (fun R' T' h' ds' a' w' s' hg' => ?_) (fun e R' T' h' ds' a' w' s' hg' hne => ?_))
    · exact h1 _ _ _ _ _ _ s' hg'
    · cases e with
      | normal => exact absurd rfl hne
      | exit i =>
        simp only [Exit.inBlock]
        simp only at hg'
        split at hg'
        · rename_i hb
          rw [if_pos (Nat.eq_of_beq_eq_true hb)]
          exact h1 _ _ _ _ _ _ s' hg'
        · rename_i hb
          rw [if_neg (Nat.ne_of_beq_eq_false hb)]
          exact h2 _ _ _ _ _ _ _ s' hg' (by simp)
      | _ => exact h2 _ _ _ _ _ _ _ s' hg' hne
  | .loop c, kn, ke, Q, R, T, h, ds, a, w, s, hg, h1, h2 => tsg_sound hz s hg (fun hg => (out_none hg).elim) h1 h2
  | .rangeFunc .., kn, ke, Q, R, T, h, ds, a, w, s, hg, h1, h2 => (out_none hg).elim
  | .scope _, kn, ke, Q, R, T, h, ds, a, w, s, hg, h1, h2 => (out_none hg).elim
  | .goto _, kn, ke, Q, R, T, h, ds, a, w, s, hg, h1, h2 => (out_none hg).elim
  | .refuse _, kn, ke, Q, R, T, h, ds, a, w, s, hg, h1, h2 => (out_none hg).elim

def tfin (z : Nat × Nat) (P : Program) (e : Exit) : KT (Exit × Sl × Hp) := fun T h ds =>
  match ds with
  | [.fin ks nb nr T' h'] => tkeepS P z ks nb nr T h T' h' (some (True, (e, T', h')))
  | _ => none
/-- A piece of code's run. -/
def tseg (P : Program) (z : Nat × Nat) (n : Nat) (c : Code) (T : Sl) (h : Hp) (ds : List Dec) : KO (Exit × Sl × Hp) := tC P z n c (tfin z P .normal) (tfin z P) T h ds
theorem tfin_sound {Q : Exit → Act → World → Prop} (hz : Far Z z) {e0 e : Exit} {T T' : Sl} {h h' : Hp} {ds : List Dec} {R : Rel} {a : Act} {w : World} (s : Sim Z R n T h a w) (hg : Out (tfin z P e0 T h ds) (e, T', h'))
    (hk : ∀ R' a' w', Sim Z R' n T' h' a' w' → Q e a' w') : Q e0 a w := by
  unfold tfin at hg
  split at hg
  · rename_i ks nb nr T1 h1
    unfold tkeepS at hg
    split at hg
    · rename_i hb
      simp only [Bool.and_eq_true] at hb
      obtain ⟨g1, g2⟩ := out_must hg
      obtain ⟨g3, g4⟩ := out_must g2
      obtain ⟨C, g5, _⟩ := g4
      cases g5
      have s1 := s.keep (ks := ks) (nb := nb) (nr := nr) (Nat.le_trans hz.1 (Nat.le_of_ble_eq_true hb.1)) (Nat.le_trans hz.2 (Nat.le_of_ble_eq_true hb.2)) (by
        rw [Bool.and_eq_true, List.all_eq_true, List.all_eq_true]
        exact ⟨fun k hk => g1.1 _ (List.mem_map_of_mem hk), fun b hb => g1.2 b hb⟩)
      obtain ⟨R1, s2⟩ := g3 Z _ n a w hz s1
      exact hk _ _ _ s2
    · exact (out_none hg).elim
  · exact (out_none hg).elim
theorem sd_run {c : Code} {T T' : Sl} {h h' : Hp} {e : Exit} {ds : List Dec} {C : Prop} (hr : tseg P z n c T h ds = some (C, e, T', h')) (hc : C) : SD P z n c T h e T' h' :=
  fun Z R a w hz s Q hk => tC_sound hz c s (r := (e, T', h')) ⟨C, hr, hc⟩ (fun R' T1 h1 ds' a' w' s' hg' => tfin_sound hz s' hg' hk) (fun e0 R' T1 h1 ds' a' w' s' hg' _ => tfin_sound hz s' hg' hk)

def tend (P : Program) (rs : List ResultVar) (n : Nat) : KT (PV × Hp) := fun T h ds =>
  match ds with
  | [] =>
    match gresults P h (gev n T) rs with
    | some r => some (True, r, h)
    | none => none
  | _ :: _ => none
/-- Arguments in slots. -/
def targs (args : List PV) : Sl := match Nat.ble args.length 8 with | true => [args] | false => [args.take 8, args.drop 8]
theorem rep_args {args : List PV} (h : args.length ≤ 16) : Rep (targs args) args := by
  unfold targs
  split
  · rename_i hl; exact rep_one (Nat.le_of_ble_eq_true hl)
  · have far : ∀ (l : List PV) (i : Nat), l.length ≤ i → get l i = .any := by
      intro l
      induction l with
      | nil => intro i _; cases i <;> rfl
      | cons x l ih => intro i hi; cases i with
        | zero => simp at hi
        | succ i => exact ih i (by simpa using hi)
    have key : ∀ (l : List PV) (i : Nat), get l i = (l[i]?).getD .any := by
      intro l
      induction l with
      | nil => intro i; simp [get]
      | cons x l ih => intro i; cases i with
        | zero => simp [get]
        | succ i => simp [get, ih]
    intro i
    show fget (lget [args.take 8, args.drop 8] (i / 8)) (i % 8) = get args i
    rw [fget_eq]
    rcases Nat.lt_or_ge i 8 with c | c
    · rw [Nat.div_eq_of_lt c, Nat.mod_eq_of_lt c]
      show get (args.take 8) i = _
      rw [key, key, List.getElem?_take, if_pos c]
    · rcases Nat.lt_or_ge i 16 with c2 | c2
      · have e1 : i / 8 = 1 := by omega
        have e2 : 8 + i % 8 = i := by omega
        rw [e1]
        show get (args.drop 8) (i % 8) = _
        rw [key, key, List.getElem?_drop, e2]
      · rw [far args i (by omega)]
        have h1 : lget [args.take 8, args.drop 8] (i / 8) = [] := by
          obtain ⟨k, hk⟩ : ∃ k, i / 8 = k + 2 := ⟨i / 8 - 2, by omega⟩
          rw [hk]; rfl
        rw [h1]
        cases i % 8 <;> rfl
/-- A function's run. -/
def tF (P : Program) (z : Nat × Nat) (f : FuncId) (args : List PV) (h : Hp) (ds : List Dec) : KO (PV × Hp) :=
  match P.funcs[f]? with
  | some fn =>
    match fn.body with
    | some c =>
      match Nat.ble args.length 16 with
      | true => tC P z (max args.length fn.ntmps) c (tend P fn.results.toList (max args.length fn.ntmps)) (fun e T h ds => match e with | .ret => tend P fn.results.toList (max args.length fn.ntmps) T h ds | _ => none) (targs args) h ds
      | false => none
    | none => none
  | none => none
theorem does_run {f : FuncId} {args : List PV} {h h' : Hp} {v : PV} {ds : List Dec} {C : Prop} (hr : tF P (h.bx.length, h.hw.length) f args h ds = some (C, v, h')) (hc : C) : Does P f args h v h' := by
  have hr : Out (tF P (h.bx.length, h.hw.length) f args h ds) (v, h') := ⟨C, hr, hc⟩
  unfold tF at hr
  split at hr
  case h_2 => exact (out_none hr).elim
  rename_i fn hf
  split at hr
  case h_2 => exact (out_none hr).elim
  rename_i c hb
  split at hr
  case h_2 => exact (out_none hr).elim
  rename_i hl
  have hl : args.length ≤ 16 := Nat.le_of_ble_eq_true hl
  refine does_of_run hf hb (fun Z R a w hZ f0 Q hk => ?_)
  have fin : ∀ {R' : Rel} {T' : Sl} {h1 : Hp} {ds' : List Dec} {a' : Act} {w' : World} {e : Exit}, Sim Z R' (max args.length fn.ntmps) T' h1 a' w' → Out (tend P fn.results.toList (max args.length fn.ntmps) T' h1 ds') (v, h') → e = .normal ∨ e = .ret → Q e a' w' := by
    rintro R' T' h9 ds' a' w' e ⟨t', hr', f'⟩ hg' he
    unfold tend at hg'
    rw [gev_eq hr' h9] at hg'
    split at hg'
    · split at hg'
      · rename_i r1 hres
        obtain ⟨C', h3, _⟩ := hg'
        cases h3
        have h4 := (gresults_eq P ⟨max args.length fn.ntmps, t', _⟩ _).symm.trans hres
        refine hk _ _ _ _ _ f' ?_
        rcases he with rfl | rfl
        · exact ⟨h4, rfl⟩
        · exact ⟨h4, rfl⟩
      · exact (out_none hg').elim
    · exact (out_none hg').elim
  refine tC_sound ⟨Nat.le_of_eq hZ.1, Nat.le_of_eq hZ.2⟩ c ⟨args, rep_args hl, f0⟩ hr (fun R' T' h1 ds' a' w' s' hg' => fin s' hg' (.inl rfl)) (fun e R' T' h1 ds' a' w' s' hg' hne => ?_)
  cases e with
  | ret => exact fin s' hg' (.inr rfl)
  | _ => exact (out_none hg').elim
theorem pure_of_does_wk {f : FuncId} {args : List PV} {h' : Hp} {v r : PV} (hd : Does P f args ⟨[], [], [], []⟩ v h') (hw : WkE v r) : Pure P f args r := by
  intro M vals w hM hl hv
  have hs : HSim w.heap.size (bare M) ⟨[], [], [], []⟩ w := ⟨rfl, rfl, rfl, hM, fun i blk cs hi => by simp [bare] at hi, fun i j blk hi => by simp [bare] at hi, fun r blk sz k hr => by simp [bare] at hr, fun r r' blk sz sz' k k' hr => by simp [bare] at hr, fun i r blk sz k hi => by simp [bare] at hi, rfl, fun i blk t hi => by simp [bare] at hi, rfl, fun r blk sz k t hr => by simp [bare] at hr⟩
  refine (hd w.heap.size (bare M) vals w (Nat.le_refl _) hs hl hv).mono ?_
  rintro e w' ⟨v, rfl, R', g1, g2, g3, g4, g5⟩
  exact ⟨v, R'.M, rfl, hw _ _ g2, g1.M, g3.mem, g5, g4⟩
theorem pure_run {f : FuncId} {args : List PV} {h' : Hp} {v r : PV} {ds : List Dec} {C : Prop} (hr : tF P (0, 0) f args noHp ds = some (C, v, h')) (hc : C) (hw : WkE v r) : Pure P f args r :=
  pure_of_does_wk (does_run (h := noHp) hr hc) hw

/-- A function's run, the heap left out. -/
def tP (P : Program) (f : FuncId) (args : List PV) (ds : List Dec) : KO PV :=
  match tF P (0, 0) f args noHp ds with
  | some (C, v, _) => some (C, v)
  | none => none
theorem pure_tP {f : FuncId} {args : List PV} {v r : PV} {ds : List Dec} {C : Prop} (hr : tP P f args ds = some (C, v)) (hc : C) (hw : WkE v r) : Pure P f args r := by
  unfold tP at hr
  split at hr
  · rename_i C' v' h' he
    cases hr
    exact pure_run he hc hw
  · cases hr
theorem ent_eq (z : Nat × Nat) {T T' : Sl} {h h' : Hp} (hT : T = T') (hh : h = h') : Ent z T h T' h' := by
  subst hT; subst hh; exact fun Z R n a w _ s => ⟨R, s⟩
theorem ent_refl (z : Nat × Nat) (T : Sl) (h : Hp) : Ent z T h T h := fun Z R n a w _ s => ⟨R, s⟩
theorem ent_trans {z : Nat × Nat} {T T1 T2 : Sl} {h h1 h2 : Hp} (a : Ent z T h T1 h1) (b : Ent z T1 h1 T2 h2) : Ent z T h T2 h2 := fun Z R n x w hz s => by
  obtain ⟨R1, s1⟩ := a Z R n x w hz s
  exact b Z R1 n x w hz s1
theorem ent_slot (z : Nat × Nat) {T : Sl} {h : Hp} (k : Nat) (q : PV) (hw : Wk (tget T k) q) : Ent z T h (tput T k q) h := by
  rintro Z R n a w hz ⟨t, hr, f⟩
  refine ⟨R, _, hr.put k q, f.d, f.n, fun i hi => ?_, f.h, f.b, f.le, f.dn⟩
  have h1 := f.t i hi
  show VR R _ (get (Pm.put t k q) i)
  by_cases c : k = i
  · subst c
    rw [get_put_same]
    have h2 : get (⟨n, t, h⟩ : PSt).t k = tget T k := (hr k).symm
    rw [h2] at h1
    exact hw _ _ h1
  · rw [get_put_ne _ _ _ _ c]; exact h1
theorem ent_slot2 (z : Nat × Nat) {T T' : Sl} {h : Hp} (k : Nat) (p q : PV) (h1 : tget T k = p) (hw : Wk p q) (h2 : tput T k q = T') : Ent z T h T' h := by
  subst h1; subst h2; exact ent_slot z k q hw
theorem HSim.weak {B0 : Nat} {R : Rel} {h : Hp} {w : World} (hs : HSim B0 R h w) {b j : Nat} {cs : List PV} {p q : PV} (hb : h.bx[b]? = some cs) (hj : cs[j]? = some p) (hw : Wk p q) (hq : q.isCell = true) : HSim B0 R { h with bx := h.bx.set b (cs.set j q) } w where
  hw := hs.hw
  lρ := hs.lρ
  lβ := by simp [hs.lβ]
  mem := hs.mem
  box i blk ds hβ hc := by
    by_cases c : b = i
    · subst c
      have hlt := (List.getElem?_eq_some_iff.1 hb).1
      have : ds = cs.set j q := by
        simp only [List.getElem?_set_self hlt, Option.some.injEq] at hc
        exact hc.symm
      subst this
      obtain ⟨a1, a2, vs, e, a3, a4, a5⟩ := hs.box b blk cs hβ hb
      refine ⟨a1, a2, vs, e, a3, by simp [a4], fun k v x hk hx => ?_⟩
      by_cases c2 : j = k
      · subst c2
        have hjl := (List.getElem?_eq_some_iff.1 hj).1
        simp only [List.getElem?_set_self hjl, Option.some.injEq] at hx
        subst hx
        exact ⟨hw _ _ (a5 j v p hk hj).1, hq⟩
      · rw [List.getElem?_set_ne c2] at hx
        exact a5 k v x hk hx
    · rw [List.getElem?_set_ne c] at hc
      exact hs.box i blk ds hβ hc
  boxne := hs.boxne
  row := hs.row
  rowne := hs.rowne
  boxrow := hs.boxrow
  lty := by simp [hs.lty]
  ty := hs.ty
  lrt := hs.lrt
  rt := hs.rt
theorem ent_cell (z : Nat × Nat) {T : Sl} {h : Hp} (b j : Nat) {cs : List PV} {p : PV} (q : PV) (hb : h.bx[b]? = some cs) (hj : cs[j]? = some p) (hw : Wk p q) (hq : q.isCell = true) : Ent z T h T { h with bx := h.bx.set b (cs.set j q) } := by
  rintro Z R n a w hz ⟨t, hr, f⟩
  exact ⟨R, t, hr, f.d, f.n, f.t, HSim.weak f.h hb hj hw hq, f.b, f.le, f.dn⟩
/-- A new row that is not filled. -/
theorem ent_row (z : Nat × Nat) {T : Sl} {h : Hp} (e : TypeId) : Ent z T h T { h with hw := h.hw ++ [0], rt := h.rt ++ [e] } := by
  rintro Z R n a w hz ⟨t, hr, f⟩
  obtain ⟨g1, g2⟩ := hsim_zero f.h e
  exact ⟨_, t, hr, f.d, f.n, fun i hi => (f.t i hi).mono g1, g2, f.b, f.le.trans g1, fun b o x hx => f.dn b o x hx⟩
theorem row_tok {R : Rel} {v : Value} {tok : Option Nat} {nl : Bool} {z z' r : Nat} (hr : R.hw[r]? = some 0) (hv : VR R v (.sl tok nl (some 0) z [])) : VR R v (.sl (some r) false none z' []) := by
  cases hv with
  | sl _ _ _ _ _ A c blk o f hc hcap hn ha hz hm hv ht =>
    have h0 : c = 0 := hcap 0 rfl
    subst h0
    refine .sl (some r) false none z' [] A 0 blk o f hc (fun _ h => by cases h) (fun h => by cases h) (fun _ => ?_) (fun i e h => by simp at h) (fun i e j p h => by simp at h) (fun i e j p h => by simp at h) (fun r' hr' => ?_)
    · cases nl with
      | false => exact ha rfl
      | true => obtain ⟨h1, h2, h3⟩ := hn rfl; exact .inr ⟨h2, h3⟩
    · cases hr'
      exact ⟨0, hr, by simp, fun _ => .inl ⟨by simp, by simp⟩⟩
/-- A slice without room may be the new row's. -/
theorem ent_sprout (z : Nat × Nat) {T : Sl} {h : Hp} (k r : Nat) {tok : Option Nat} {nl : Bool} {z0 : Nat} (z' : Nat) (hk : tget T k = .sl tok nl (some 0) z0 []) (hr : h.hw[r]? = some 0) : Ent z T h (tput T k (.sl (some r) false none z' [])) h := by
  rintro Z R n a w hz ⟨t, hrep, f⟩
  refine ⟨R, _, hrep.put k _, f.d, f.n, fun i hi => ?_, f.h, f.b, f.le, f.dn⟩
  have h1 := f.t i hi
  show VR R _ (get (Pm.put t k _) i)
  by_cases c : k = i
  · subst c
    rw [get_put_same]
    have h2 : get (⟨n, t, h⟩ : PSt).t k = tget T k := (hrep k).symm
    rw [h2, hk] at h1
    exact row_tok (by rw [f.h.hw]; exact hr) h1
  · rw [get_put_ne _ _ _ _ c]; exact h1
theorem HSim.sprout {B0 : Nat} {R : Rel} {h : Hp} {w : World} (hs : HSim B0 R h w) {b j r : Nat} {cs : List PV} {tok : Option Nat} {nl : Bool} {z0 : Nat} (z' : Nat) (hb : h.bx[b]? = some cs) (hj : cs[j]? = some (.sl tok nl (some 0) z0 [])) (hr : h.hw[r]? = some 0) :
    HSim B0 R { h with bx := h.bx.set b (cs.set j (.sl (some r) false none z' [])) } w where
  hw := hs.hw
  lρ := hs.lρ
  lβ := by simp [hs.lβ]
  mem := hs.mem
  box i blk ds hβ hc := by
    by_cases c : b = i
    · subst c
      have hlt := (List.getElem?_eq_some_iff.1 hb).1
      have : ds = cs.set j (.sl (some r) false none z' []) := by
        simp only [List.getElem?_set_self hlt, Option.some.injEq] at hc
        exact hc.symm
      subst this
      obtain ⟨a1, a2, vs, e, a3, a4, a5⟩ := hs.box b blk cs hβ hb
      refine ⟨a1, a2, vs, e, a3, by simp [a4], fun k v x hk hx => ?_⟩
      by_cases c2 : j = k
      · subst c2
        have hjl := (List.getElem?_eq_some_iff.1 hj).1
        simp only [List.getElem?_set_self hjl, Option.some.injEq] at hx
        subst hx
        exact ⟨row_tok (by rw [hs.hw]; exact hr) (a5 j v _ hk hj).1, rfl⟩
      · rw [List.getElem?_set_ne c2] at hx
        exact a5 k v x hk hx
    · rw [List.getElem?_set_ne c] at hc
      exact hs.box i blk ds hβ hc
  boxne := hs.boxne
  row := hs.row
  rowne := hs.rowne
  boxrow := hs.boxrow
  lty := by simp [hs.lty]
  ty := hs.ty
  lrt := hs.lrt
  rt := hs.rt
theorem ent_sprout_cell (z : Nat × Nat) {T : Sl} {h : Hp} (b j r : Nat) {cs : List PV} {tok : Option Nat} {nl : Bool} {z0 : Nat} (z' : Nat) (hb : h.bx[b]? = some cs) (hj : cs[j]? = some (.sl tok nl (some 0) z0 [])) (hr : h.hw[r]? = some 0) :
    Ent z T h T { h with bx := h.bx.set b (cs.set j (.sl (some r) false none z' [])) } := by
  rintro Z R n a w hz ⟨t, hrep, f⟩
  exact ⟨R, t, hrep, f.d, f.n, f.t, HSim.sprout f.h z' hb hj hr, f.b, f.le, f.dn⟩

theorem row_tok1 {R : Rel} {v : Value} {tok : Option Nat} {z z' r : Nat} (hr : R.hw[r]? = some 0) (hv : VR R v (.sl tok true (some 0) z [])) : VR R v (.sl (some r) true none z' []) := by
  cases hv with
  | sl _ _ _ _ _ A c blk o f hc hcap hn ha hz hm hv ht =>
    have h0 : c = 0 := hcap 0 rfl
    subst h0
    refine .sl (some r) true none z' [] A 0 blk o f hc (fun _ h => by cases h) hn ha (fun i e h => by simp at h) (fun i e j p h => by simp at h) (fun i e j p h => by simp at h) (fun r' hr' => ?_)
    cases hr'
    exact ⟨0, hr, by simp, fun _ => .inl ⟨by simp, by simp⟩⟩
theorem ent_sprout_cell1 (z : Nat × Nat) {T : Sl} {h : Hp} (b j r : Nat) {cs : List PV} {tok : Option Nat} {z0 : Nat} (z' : Nat) (hb : h.bx[b]? = some cs) (hj : cs[j]? = some (.sl tok true (some 0) z0 [])) (hr : h.hw[r]? = some 0) :
    Ent z T h T { h with bx := h.bx.set b (cs.set j (.sl (some r) true none z' [])) } := by
  rintro Z R n a w hz ⟨t, hrep, f⟩
  refine ⟨R, t, hrep, f.d, f.n, f.t, ?_, f.b, f.le, f.dn⟩
  have hs := f.h
  refine ⟨hs.hw, hs.lρ, by simp [hs.lβ], hs.mem, fun i blk ds hβ hc => ?_, hs.boxne, hs.row, hs.rowne, hs.boxrow, by simp [hs.lty], hs.ty, by simp [hs.lrt], hs.rt⟩
  by_cases c : b = i
  · subst c
    have hlt := (List.getElem?_eq_some_iff.1 hb).1
    have : ds = cs.set j (.sl (some r) true none z' []) := by
      simp only [List.getElem?_set_self hlt, Option.some.injEq] at hc
      exact hc.symm
    subst this
    obtain ⟨a1, a2, vs, e, a3, a4, a5⟩ := hs.box b blk cs hβ hb
    refine ⟨a1, a2, vs, e, a3, by simp [a4], fun k v x hk hx => ?_⟩
    by_cases c2 : j = k
    · subst c2
      have hjl := (List.getElem?_eq_some_iff.1 hj).1
      simp only [List.getElem?_set_self hjl, Option.some.injEq] at hx
      subst hx
      exact ⟨row_tok1 (by rw [hs.hw]; exact hr) (a5 j v _ hk hj).1, rfl⟩
    · rw [List.getElem?_set_ne c2] at hx
      exact a5 k v x hk hx
  · rw [List.getElem?_set_ne c] at hc
    exact hs.box i blk ds hβ hc

/-- Code by its place in a function's. -/
def bodyAt (P : Program) (f : FuncId) : Code := match P.funcs[f]? with | some fn => (match fn.body with | some c => c | none => .skip) | none => .skip
def sub (c : Code) (p : List Nat) : Code :=
  List.rec (motive := fun _ => Code → Code) (fun c => c) (fun i _ ih c => ih (match c with | .seq a b => (match i with | 0 => a | _ => b) | .cond _ a b => (match i with | 0 => a | _ => b) | .block _ a => a | .loop a => a | c => c)) p c
end
end

/- What a typed function may do. -/
def idx? {α : Type} (l : List α) (i : Int) : Option α := if 0 ≤ i then l[i.toNat]? else none
def slc? {α : Type} (l : List α) (a b : Int) : Option (List α) := if 0 ≤ a ∧ a ≤ b ∧ b ≤ l.length then some ((l.take b.toNat).drop a.toNat) else none
/-- What may be appended: as long as the bytes are within the bound. -/
def app? {α : Type} (by_ : Nat) (l m : List α) : Option (List α) := if (l.length + m.length) * by_ ≤ lim then some (l ++ m) else none
def cat? (a b : List UInt8) : Option (List UInt8) := if a.length + b.length ≤ 4611686018427387904 then some (a ++ b) else none
def guard? {α : Type} (c : Bool) (x : Option α) : Option α := match c with | true => x | false => none

theorem cond_elim {α : Type} {c : Bool} {A B : Option α} {r : α} {G : Prop} (h : (bif c then A else B) = some r) (ht : c = true → A = some r → G) (hf : c = false → B = some r → G) : G := by
  cases c with
  | true => exact ht rfl h
  | false => exact hf rfl h
theorem bind_elim {α β : Type} {o : Option β} {k : β → Option α} {r : α} {G : Prop} (h : (o >>= k) = some r) (hk : ∀ x, o = some x → k x = some r → G) : G := by
  cases o with
  | none => cases h
  | some x => exact hk x rfl h
theorem guard_elim {α : Type} {c : Bool} {A : Option α} {r : α} {G : Prop} (h : guard? c A = some r) (hk : c = true → A = some r → G) : G := by
  cases c with
  | true => exact hk rfl h
  | false => cases h
theorem not_t {c : Bool} (h : c = true) : (!c) = false := by rw [h]; rfl
theorem not_f {c : Bool} (h : c = false) : (!c) = true := by rw [h]; rfl

theorem ans_idxA {P : Program} {α : Type} {f : α → PV} {t e : TypeId} {tok : Option Nat} {nl : Bool} {cap : Option Nat} {z : Nat} {l : List α} {k : IntKind} {i : Int} {x : α} (hu : P.underlying t = some (.slice e)) (hz : sz? P e = some z) (h : idx? l i = some x) :
    PV.indexAddr P t (.sl tok nl cap z (l.map f)) (.int k i) = some (true, .eptr (f x) 0) := by
  unfold idx? at h
  split at h
  · rename_i h0
    have h1 : (l.map f)[i.toNat]? = some (f x) := by rw [List.getElem?_map, h]; rfl
    simp [PV.indexAddr, hu, hz, h1, h0]
  · cases h
theorem ans_idxS {P : Program} {t : TypeId} {l : List UInt8} {k : IntKind} {i : Int} {x : UInt8} (hu : P.underlying t = some .string) (h : idx? l i = some x) :
    PV.index P t (.str l) (.int k i) = some (true, .int .u8 x.toNat) := by
  unfold idx? at h
  split at h
  · rename_i h0
    simp [PV.index, hu, h, h0]
  · cases h
theorem ans_len {P : Program} {α : Type} {f : α → PV} {h : Hp} {t e : TypeId} {tok : Option Nat} {nl : Bool} {cap : Option Nat} {z : Nat} {l : List α} (hu : P.underlying t = some (.slice e)) :
    pbuiltin P h .len [t] [.sl tok nl cap z (l.map f)] = some (true, .int .i64 l.length, h) := by
  simp [pbuiltin, plen, hu]
theorem slc_map {α : Type} (f : α → PV) (l : List α) (a b : Nat) : ((l.map f).take b).drop a = ((l.take b).drop a).map f := by rw [← List.map_take, ← List.map_drop]
theorem nat_int {x : Int} {k : IntKind} (h : 0 ≤ x) (d : Nat) : PV.nat? (some (.int k x)) d = some (true, x.toNat) := by simp [PV.nat?, h]
theorem ans_slc {P : Program} {α : Type} {f : α → PV} {t e : TypeId} {tok : Option Nat} {nl : Bool} {cap : Option Nat} {z : Nat} {l m : List α} {lo hi : Option PV} {a b : Int} (hu : P.underlying t = some (.slice e)) (hz : sz? P e = some z)
    (hlo : PV.nat? lo 0 = some (decide (0 ≤ a), a.toNat)) (hhi : PV.nat? hi l.length = some (decide (0 ≤ b), b.toNat)) (h : slc? l a b = some m) :
    PV.slice P t (.sl tok nl cap z (l.map f)) lo hi none = some (true, .sl (if a.toNat = 0 then tok else none) nl (cap.map (· - a.toNat)) z (m.map f)) := by
  unfold slc? at h
  split at h
  · rename_i hc
    obtain ⟨h0, h1, h2⟩ := hc
    cases h
    have hb : 0 ≤ b := by omega
    have e1 : a.toNat ≤ b.toNat := by omega
    have e2 : b.toNat ≤ l.length := by omega
    simp only [PV.slice, hu, hlo, hhi, hz, Option.bind_some, true_or, if_true, h0, hb, e1, e2, List.length_map, decide_true, Bool.and_self, slc_map]
  · cases h
theorem ans_slcS {P : Program} {t : TypeId} {l m : List UInt8} {lo hi : Option PV} {a b : Int} (hu : P.underlying t = some .string)
    (hlo : PV.nat? lo 0 = some (decide (0 ≤ a), a.toNat)) (hhi : PV.nat? hi l.length = some (decide (0 ≤ b), b.toNat)) (h : slc? l a b = some m) :
    PV.slice P t (.str l) lo hi none = some (true, .str m) := by
  unfold slc? at h
  split at h
  · rename_i hc
    obtain ⟨h0, h1, h2⟩ := hc
    cases h
    have hb : 0 ≤ b := by omega
    have e1 : a.toNat ≤ b.toNat := by omega
    have e2 : b.toNat ≤ l.length := by omega
    simp only [PV.slice, hu, hlo, hhi, h0, hb, e1, e2, decide_true, Bool.and_self]
  · cases h
theorem nat_none (d : Nat) : PV.nat? none d = some (decide ((0 : Int) ≤ (d : Int)), (d : Int).toNat) := by simp [PV.nat?]
theorem nat_some (k : IntKind) (x : Int) (d : Nat) : PV.nat? (some (.int k x)) d = some (decide (0 ≤ x), x.toNat) := rfl
theorem cat_le {a b m : List UInt8} (h : cat? a b = some m) : decide (a.length + b.length ≤ 4611686018427387904) = true ∧ m = a ++ b := by
  unfold cat? at h
  split at h
  · cases h; exact ⟨decide_eq_true ‹_›, rfl⟩
  · cases h
theorem ans_cat {P : Program} {t : TypeId} {a b m : List UInt8} (h : cat? a b = some m) : pbin P .add t (.str a) (.str b) = some (true, .str m) := by
  obtain ⟨h1, rfl⟩ := cat_le h
  simp only [pbin, strs, h1]
/-- Append to a slice of the call's own. -/
theorem ans_app {P : Program} {α : Type} {f : α → PV} {bx : List (List PV)} {hw : List Nat} {ty rt : List TypeId} {t e : TypeId} {r by_ : Nat} {nl : Bool} {z z' : Nat} {tok' : Option Nat} {nl' : Bool} {cap' : Option Nat} {l m o : List α} {ms : List PV}
    (hu : P.underlying t = some (.slice e)) (hz : sz? P e = some z) (hzz : z' = z ∨ m = []) (hzero : ((pzero P e).map (·.cells.length)) = some (P.cellsOf e)) (hby : P.bytesOf e = by_) (hb0 : 0 < by_)
    (hr : hw[r]? = some (l.length * z)) (hrt : rt[r]? = some e) (hm : ms = m.map f) (h : app? by_ l m = some o) :
    pbuiltin P ⟨bx, hw, ty, rt⟩ .append [t, t] [.sl (some r) nl none z (l.map f), .sl tok' nl' cap' z' ms] = some (true, .sl (some r) (nl && m.isEmpty) none z (o.map f), ⟨bx, hw.set r (o.length * z), ty, rt⟩) := by
  subst hm
  obtain ⟨hz1, hz2⟩ : P.cellsOf e = z ∧ 0 < P.cellsOf e := by
    unfold sz? at hz
    split at hz
    · cases hz
    · cases hz; exact ⟨rfl, by omega⟩
  unfold app? at h
  split at h
  · rename_i hle
    cases h
    subst hby
    subst hz1
    have hzz' : (z' = P.cellsOf e ∨ (m.map f).isEmpty = true) := by
      rcases hzz with h | h
      · exact .inl h
      · subst h; exact .inr rfl
    simp only [pbuiltin, pappend, hu, hzz', and_self, if_true, pappendTo, hzero, hz2, hb0, hr, hrt, List.length_map, hle, decide_true, Bool.and_self, List.map_append, List.length_append, true_and]
    cases m <;> simp
  · cases h

end Tp
end Pm
end Go.Proofs.Ytacccimihgailaa
