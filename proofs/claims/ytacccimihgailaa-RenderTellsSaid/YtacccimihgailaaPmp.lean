/- The weakest precondition of code over abstract states; loops; what a function returns. -/
import Derived.Test.YtacccimihgailaaPmo
import Derived.Deep.LoopGhost
set_option linter.unusedVariables false
set_option linter.unusedSimpArgs false
namespace Go.Proofs.Ytacccimihgailaa
namespace Pm
open Go.RowKit

/- Does a value lean only on the first boxes and rows? -/
mutual
def PV.sunk (nb nr : Nat) : PV → Bool
  | .ptr b _ => decide (b < nb)
  | .bsl b _ _ _ => decide (b < nb)
  | .own b => decide (b < nb)
  | .rp r es => decide (r < nr) && sunkL nb nr es
  | .eptr e _ => e.sunk nb nr
  | .sl none _ _ _ es => sunkL nb nr es
  | .sl (some r) _ _ _ es => decide (r < nr) && sunkL nb nr es
  | .agg cs => sunkL nb nr cs
  | .tup cs => sunkL nb nr cs
  | .any => true
  | .raw _ => true
  | .int _ _ => true
  | .bool _ => true
  | .str _ => true
def sunkL (nb nr : Nat) : List PV → Bool
  | [] => true
  | p :: r => p.sunk nb nr && sunkL nb nr r
end
theorem sunkL_all (nb nr : Nat) : ∀ l : List PV, sunkL nb nr l = l.all (PV.sunk nb nr)
  | [] => rfl
  | p :: r => by rw [sunkL, sunkL_all nb nr r]; rfl
theorem sunkL_mem {nb nr : Nat} {l : List PV} (h : sunkL nb nr l = true) {i : Nat} {p : PV} (hi : l[i]? = some p) : p.sunk nb nr = true := by
  rw [sunkL_all, List.all_eq_true] at h
  exact h p (List.mem_of_getElem? hi)
theorem sunk_cells {nb nr : Nat} {e : PV} (h : e.sunk nb nr = true) {j : Nat} {p : PV} (hj : e.cells[j]? = some p) : p.sunk nb nr = true := by
  cases e
  case agg cs => exact sunkL_mem (l := cs) (by simpa [PV.sunk] using h) hj
  all_goals
    match j with
    | 0 => simp [PV.cells] at hj; subst hj; exact h
    | j + 1 => simp [PV.cells] at hj

def Rel.cut (R : Rel) (nb nr : Nat) : Rel := ⟨R.M, R.β.take nb, R.ρ.take nr, R.hw.take nr⟩

theorem tok_cut {R : Rel} {nb nr : Nat} {r : Nat} {nl : Bool} {blk o n c : Nat} (ht : TokOk R (some r) nl blk o n c) (hlt : r < nr) : TokOk (R.cut nb nr) (some r) nl blk o n c := by
  intro r' hr
  cases hr
  obtain ⟨x, hx, hn, he⟩ := ht r rfl
  refine ⟨x, by show (R.hw.take nr)[r]? = _; rw [List.getElem?_take, if_pos hlt]; exact hx, hn, fun hh => ?_⟩
  rcases he hh with h1 | ⟨h1, h2, h3, sz, h4, h5⟩
  · exact .inl h1
  · exact .inr ⟨h1, h2, h3, sz, by show (R.ρ.take nr)[r]? = _; rw [List.getElem?_take, if_pos hlt]; exact h4, h5⟩
theorem VR.cut {R : Rel} {nb nr : Nat} {v : Value} {p : PV} (h : VR R v p) (hb : p.sunk nb nr = true) : VR (R.cut nb nr) v p := by
  induction h with
  | any v => exact .any v
  | raw v => exact .raw v
  | int k n => exact .int k n
  | bool b => exact .bool b
  | str l => exact .str l
  | ptr b blk off h =>
    refine .ptr b blk off ?_
    show (R.β.take nb)[b]? = _
    rw [List.getElem?_take, if_pos (by simpa [PV.sunk] using hb)]; exact h
  | eptr e blk o off f hm hv ih => exact .eptr e blk o off f hm (fun j p hj => ih j p hj (sunk_cells (by simpa [PV.sunk] using hb) hj))
  | sl tok nl cap z es A c blk o f hc hcap hn ha hz hm hv ht ih =>
    have hbl : sunkL nb nr es = true := by cases tok <;> simp_all [PV.sunk]
    refine .sl tok nl cap z es A c blk o f hc hcap hn ha hz hm (fun i e j p hi hj => ih i e j p hi hj (sunk_cells (sunkL_mem hbl hi) hj)) (fun r hr => ?_)
    subst hr
    have hlt : r < nr := by simp [PV.sunk] at hb; exact hb.1
    exact tok_cut ht hlt r rfl
  | bsl b blk off len cap h =>
    refine .bsl b blk off len cap ?_
    show (R.β.take nb)[b]? = _
    rw [List.getElem?_take, if_pos (by simpa [PV.sunk] using hb)]; exact h
  | agg vs ps hl hv ih => exact .agg vs ps hl (fun i v p hi hj => ih i v p hi hj (sunkL_mem (by simpa [PV.sunk] using hb) hj))
  | tup vs ps hl hv ih => exact .tup vs ps hl (fun i v p hi hj => ih i v p hi hj (sunkL_mem (by simpa [PV.sunk] using hb) hj))
  | rp r es blk f hm hv ht ih =>
    simp only [PV.sunk, Bool.and_eq_true, decide_eq_true_eq] at hb
    exact .rp r es blk f hm (fun i p hi => ih i p hi (sunkL_mem hb.2 hi)) (tok_cut ht hb.1)
  | own0 b => exact .own0 b
  | own1 b blk h =>
    refine .own1 b blk ?_
    show (R.β.take nb)[b]? = _
    rw [List.getElem?_take, if_pos (by simpa [PV.sunk] using hb)]; exact h

theorem take_some {α : Type} {l : List α} {n i : Nat} {x : α} (h : (l.take n)[i]? = some x) : i < n ∧ l[i]? = some x := by
  rw [List.getElem?_take] at h
  split at h
  · exact ⟨‹_›, h⟩
  · cases h

theorem HSim.cut {B0 : Nat} {R : Rel} {h : Hp} {w : World} (hs : HSim B0 R h w) {nb nr : Nat} (hb : (h.bx.take nb).all (sunkL nb nr) = true) : HSim B0 (R.cut nb nr) ⟨h.bx.take nb, h.hw.take nr, h.ty.take nb, h.rt.take nr⟩ w where
  hw := by show R.hw.take nr = h.hw.take nr; rw [hs.hw]
  lρ := by show (R.ρ.take nr).length = (h.hw.take nr).length; simp [hs.lρ]
  lβ := by show (R.β.take nb).length = (h.bx.take nb).length; simp [hs.lβ]
  mem := hs.mem
  box i blk cs hβ hc := by
    obtain ⟨h1, h2⟩ := take_some hβ
    obtain ⟨_, h3⟩ := take_some hc
    obtain ⟨a1, a2, vs, e, a3, a4, a5⟩ := hs.box i blk cs h2 h3
    refine ⟨a1, a2, vs, e, a3, a4, fun j v p hj hp => ⟨(a5 j v p hj hp).1.cut ?_, (a5 j v p hj hp).2⟩⟩
    rw [List.all_eq_true] at hb
    exact sunkL_mem (hb cs (List.mem_of_getElem? hc)) hp
  boxne i j blk hi hj := hs.boxne i j blk (take_some hi).2 (take_some hj).2
  row r blk sz k hr hk h0 := hs.row r blk sz k (take_some hr).2 (take_some hk).2 h0
  rowne r r' blk sz sz' k k' h1 h2 h3 h4 := hs.rowne r r' blk sz sz' k k' (take_some h1).2 (take_some h2).2 (take_some h3).2 (take_some h4).2
  boxrow i r blk sz k h1 h2 h3 := hs.boxrow i r blk sz k (take_some h1).2 (take_some h2).2 (take_some h3).2
  lty := by show (h.ty.take nb).length = (h.bx.take nb).length; simp [hs.lty]
  ty i blk t h1 h2 := hs.ty i blk t (take_some h1).2 (take_some h2).2
  lrt := by show (h.rt.take nr).length = (h.hw.take nr).length; simp [hs.lrt]
  rt r blk sz k t h1 h2 h3 h4 := hs.rt r blk sz k t (take_some h1).2 (take_some h2).2 h3 (take_some h4).2

/-- What is kept at a loop's head: some slots, the first boxes and rows. -/
def keepT : List Bool → List PV → List PV
  | true :: ks, v :: r => v :: keepT ks r
  | false :: ks, _ :: r => .any :: keepT ks r
  | _, _ => []
def PSt.cut (s : PSt) (ks : List Bool) (nb nr : Nat) : PSt := ⟨s.n, keepT ks s.t, ⟨s.h.bx.take nb, s.h.hw.take nr, s.h.ty.take nb, s.h.rt.take nr⟩⟩
def PSt.cutOk (s : PSt) (ks : List Bool) (nb nr : Nat) : Bool := sunkL nb nr (keepT ks s.t) && (s.h.bx.take nb).all (sunkL nb nr)
theorem keepT_get : ∀ (ks : List Bool) (t : List PV) (i : Nat), get (keepT ks t) i = .any ∨ get (keepT ks t) i = get t i
  | [], _, _ => .inl (by cases ‹List PV› <;> rfl)
  | true :: _, [], i => .inl rfl
  | false :: _, [], i => .inl rfl
  | true :: ks, v :: r, 0 => .inr rfl
  | false :: ks, v :: r, 0 => .inl rfl
  | true :: ks, v :: r, i + 1 => keepT_get ks r i
  | false :: ks, v :: r, i + 1 => keepT_get ks r i
theorem get_sunk {nb nr : Nat} : ∀ (t : List PV) (i : Nat), sunkL nb nr t = true → (get t i).sunk nb nr = true
  | [], _, _ => rfl
  | v :: r, 0, h => by simp only [sunkL, Bool.and_eq_true] at h; exact h.1
  | v :: r, i + 1, h => by simp only [sunkL, Bool.and_eq_true] at h; exact get_sunk r i h.2

theorem Rel.Le.cut {R0 R : Rel} (h : R0.Le R) {nb nr : Nat} (hb : R0.β.length ≤ nb) (hr : R0.hw.length ≤ nr) : R0.Le (R.cut nb nr) := by
  refine ⟨h.M, fun i x hx => ?_, fun r k hk => ?_⟩
  · have := (List.getElem?_eq_some_iff.1 hx).1
    show (R.β.take nb)[i]? = _
    rw [List.getElem?_take, if_pos (by omega)]; exact h.β i x hx
  · have := (List.getElem?_eq_some_iff.1 hk).1
    obtain ⟨k', h1, h2, h3⟩ := h.hw r k hk
    refine ⟨k', ?_, h2, fun e => ?_⟩
    · show (R.hw.take nr)[r]? = _
      rw [List.getElem?_take, if_pos (by omega)]; exact h1
    · show (R.ρ.take nr)[r]? = _
      rw [List.getElem?_take, if_pos (by omega)]; exact h3 e

theorem FSim.cut {Z : Bas} {R : Rel} {s : PSt} {a : Act} {w : World} (f : FSim Z R s a w) {ks : List Bool} {nb nr : Nat} (hb : Z.R0.β.length ≤ nb) (hr : Z.R0.hw.length ≤ nr) (h : s.cutOk ks nb nr = true) :
    FSim Z (R.cut nb nr) (s.cut ks nb nr) a w := by
  unfold PSt.cutOk at h
  simp only [Bool.and_eq_true] at h
  refine ⟨f.d, f.n, fun i hi => ?_, f.h.cut h.2, f.b, f.le.cut hb hr, f.dn⟩
  show VR _ _ (get (keepT ks s.t) i)
  have hb := get_sunk _ i h.1
  rcases keepT_get ks s.t i with e | e
  · rw [e]; exact .any _
  · rw [e] at hb ⊢; exact (f.t i hi).cut hb

def pthen (K : PSt → Prop) (Q : Exit → PSt → Prop) : Exit → PSt → Prop
  | .normal, s => K s
  | e, s => Q e s
def pinBlock (id : Nat) (Q : Exit → PSt → Prop) : Exit → PSt → Prop
  | .exit i, s => if i = id then Q .normal s else Q (.exit i) s
  | e, s => Q e s

/-- 'z': how many boxes and rows there were when the function began. -/
def pwp (P : Program) (z : Nat × Nat) : Code → (Exit → PSt → Prop) → PSt → Prop
  | .skip, Q, s => Q .normal s
  | .label _, Q, s => Q .normal s
  | .exit id, Q, s => Q (.exit id) s
  | .ret, Q, s => Q .ret s
  | .region _ ops draw, Q, s => if draw then pdraw P ops (Q .normal) s else pops P ops (Q .normal) ops.toList s
  | .seq x y, Q, s => pwp P z x (pthen (pwp P z y Q) Q) s
  | .cond c x y, Q, s =>
    match s.ev c with
    | .bool true => pwp P z x Q s
    | .bool false => pwp P z y Q s
    | _ => False
  | .block id c, Q, s => pwp P z c (pinBlock id Q) s
  | .loop c, Q, s => ∃ (I : Nat → PSt → Prop), (∃ ks nb nr n, z.1 ≤ nb ∧ z.2 ≤ nr ∧ s.cutOk ks nb nr = true ∧ I n (s.cut ks nb nr)) ∧
      ∀ n s, I n s → pwp P z c (pthen (fun s' => ∃ ks nb nr n', z.1 ≤ nb ∧ z.2 ≤ nr ∧ s'.cutOk ks nb nr = true ∧ n' < n ∧ I n' (s'.cut ks nb nr)) Q) s
  | _, _, _ => False

theorem pwp_sound {P : Program} {Z : Bas} {z : Nat × Nat} (hz : Z.R0.β.length = z.1 ∧ Z.R0.hw.length = z.2) : ∀ (c : Code) {Q : Exit → PSt → Prop} {Q' : Exit → Act → World → Prop} {R : Rel} {s : PSt} {a : Act} {w : World}, FSim Z R s a w → pwp P z c Q s →
    (∀ e R' s' a' w', FSim Z R' s' a' w' → Q e s' → Q' e a' w') → c.wp P Q' a w
  | .skip, Q, Q', R, s, a, w, f, hp, hk => wp_skip (hk _ _ _ _ _ f hp)
  | .label _, Q, Q', R, s, a, w, f, hp, hk => wp_label (hk _ _ _ _ _ f hp)
  | .exit _, Q, Q', R, s, a, w, f, hp, hk => wp_exit (hk _ _ _ _ _ f hp)
  | .ret, Q, Q', R, s, a, w, f, hp, hk => wp_ret (hk _ _ _ _ _ f hp)
  | .region _ ops draw, Q, Q', R, s, a, w, f, hp, hk => by
    unfold pwp at hp
    cases draw with
    | true => exact pdraw_sound f hp (fun R' s' a' w' f' h' => hk _ _ _ _ _ f' h')
    | false => exact wp_region_list (pops_sound _ f hp (fun R' s' a' w' f' h' => hk _ _ _ _ _ f' h'))
  | .seq x y, Q, Q', R, s, a, w, f, hp, hk => by
    unfold pwp at hp
    refine wp_seq (pwp_sound hz x f hp (fun e R' s' a' w' f' h' => ?_))
    cases e with
    | normal => exact pwp_sound hz y f' h' hk
    | _ => exact hk _ _ _ _ _ f' h'
  | .cond c x y, Q, Q', R, s, a, w, f, hp, hk => by
    unfold pwp at hp
    have hv := f.ev c
    split at hp
    · rename_i he
      rw [he] at hv
      refine wp_cond_true ?_ (pwp_sound hz x f hp hk)
      generalize a.eval c = v at hv
      cases hv; rfl
    · rename_i he
      rw [he] at hv
      refine wp_cond_false ?_ (pwp_sound hz y f hp hk)
      generalize a.eval c = v at hv
      cases hv; rfl
    · exact hp.elim
  | .block id c, Q, Q', R, s, a, w, f, hp, hk => by
    unfold pwp at hp
    refine wp_block (pwp_sound hz c f hp (fun e R' s' a' w' f' h' => ?_))
    cases e with
    | exit i =>
      simp only [pinBlock] at h'
      simp only [Exit.inBlock]
      split
      · rw [if_pos ‹_›] at h'; exact hk _ _ _ _ _ f' h'
      · rw [if_neg ‹_›] at h'; exact hk _ _ _ _ _ f' h'
    | _ => exact hk _ _ _ _ _ f' h'
  | .loop c, Q, Q', R, s, a, w, f, hp, hk => by
    unfold pwp at hp
    obtain ⟨I, ⟨ks, nb, nr, n, u1, u2, h1, h2⟩, h3⟩ := hp
    refine wp_loop_ghost (fun n a w => ∃ R s, FSim Z R s a w ∧ I n s) n ⟨_, _, f.cut (by omega) (by omega) h1, h2⟩ ?_
    rintro n a w ⟨R, s, f, hI⟩
    refine pwp_sound hz c f (h3 n s hI) (fun e R' s' a' w' f' h' => ?_)
    cases e with
    | normal =>
      obtain ⟨ks, nb, nr, n', u1, u2, g1, g2, g3⟩ := h'
      exact ⟨n', g2, _, _, f'.cut (by omega) (by omega) g1, g3⟩
    | _ => exact hk _ _ _ _ _ f' h'
  | .rangeFunc .., Q, Q', R, s, a, w, f, hp, hk => by unfold pwp at hp; exact hp.elim
  | .scope _, Q, Q', R, s, a, w, f, hp, hk => by unfold pwp at hp; exact hp.elim
  | .goto _, Q, Q', R, s, a, w, f, hp, hk => by unfold pwp at hp; exact hp.elim
  | .refuse _, Q, Q', R, s, a, w, f, hp, hk => by unfold pwp at hp; exact hp.elim

/-- A function's result. -/
def presult (P : Program) (s : PSt) : ResultVar → Option PV
  | .tmp t => some (if t < s.n then get s.t t else .any)
  | .cell a t => pload P t s.h (if a < s.n then get s.t a else .any)
def presultsL (P : Program) (s : PSt) : List ResultVar → Option (List PV)
  | [] => some []
  | r :: l => (presult P s r).bind fun p => (presultsL P s l).map (p :: ·)
def presults (P : Program) (s : PSt) : List ResultVar → Option PV
  | [r] => presult P s r
  | rs => (presultsL P s rs).map .tup

def getRes (tmps : Array Value) : ResultVar → Sem Value
  | .tmp t => pure (tmps.getD t undef)
  | .cell a t => do loadVar t (← asAddr (tmps.getD a undef))

theorem presult_sound {P : Program} {Z : Bas} {R : Rel} {s : PSt} {a : Act} {w : World} (f : FSim Z R s a w) {r : ResultVar} {p : PV} (h : presult P s r = some p) :
    ∃ v, (getRes a.tmps r).run P w = .ok v w ∧ VR R v p := by
  have hev : ∀ t, VR R (a.tmps.getD t undef) (if t < s.n then get s.t t else .any) := by
    intro t
    split
    · exact f.t t ‹_›
    · exact .any _
  cases r with
  | tmp t =>
    simp only [presult, Option.some.injEq] at h
    subst h
    exact ⟨_, rfl, hev t⟩
  | cell x t =>
    simp only [presult] at h
    have hv := hev x
    obtain ⟨u, h1, h2⟩ := pload_sound f.h hv h
    refine ⟨u, ?_, h2⟩
    have : ∃ ad, a.tmps.getD x undef = .pointer (some ad) := by
      generalize a.tmps.getD x undef = v at hv
      generalize (if x < s.n then get s.t x else PV.any) = q at hv h
      cases hv
      case ptr => exact ⟨_, rfl⟩
      case eptr => exact ⟨_, rfl⟩
      all_goals simp [pload] at h
    obtain ⟨ad, had⟩ := this
    rw [had] at h1
    show (do loadVar t (← asAddr (a.tmps.getD x undef)) : Sem Value).run P w = _
    rw [had]
    exact h1
theorem presultsL_sound {P : Program} {Z : Bas} {R : Rel} {s : PSt} {a : Act} {w : World} (f : FSim Z R s a w) : ∀ {rs : List ResultVar} {ps : List PV}, presultsL P s rs = some ps →
    ∃ vs : List Value, (rs.mapM (getRes a.tmps)).run P w = .ok vs w ∧ vs.length = ps.length ∧ vs.length = rs.length ∧ ∀ (i : Nat) (v : Value) (p : PV), vs[i]? = some v → ps[i]? = some p → VR R v p
  | [], ps, h => by cases h; exact ⟨[], rfl, rfl, rfl, fun i v p hi => by simp at hi⟩
  | r :: rs, ps, h => by
    simp only [presultsL, Option.bind_eq_some_iff, Option.map_eq_some_iff] at h
    obtain ⟨p, h1, q, h2, rfl⟩ := h
    obtain ⟨v, g1, g2⟩ := presult_sound (P := P) f h1
    obtain ⟨vs, k1, k2, k3, k4⟩ := presultsL_sound (P := P) f h2
    refine ⟨v :: vs, ?_, by simp [k2], by simp [k3], fun i x p hi hp => ?_⟩
    · rw [List.mapM_cons]
      simp only [Sem.run_bind, g1, Result.andThen, k1]
      rfl
    · cases i with
      | zero => simp at hi hp; subst hi; subst hp; exact g2
      | succ i => exact k4 i x p (by simpa using hi) (by simpa using hp)

theorem presults_sound {P : Program} {Z : Bas} {R : Rel} {s : PSt} {a : Act} {w : World} (f : FSim Z R s a w) {fn : Func} {p : PV} (h : presults P s fn.results.toList = some p) :
    ∃ v, (results fn a.tmps).run P w = .ok v w ∧ VR R v p := by
  have e : results fn a.tmps = (do
      let vs ← fn.results.mapM (getRes a.tmps)
      pure (if h : vs.size = 1 then vs[0] else .tuple vs)) := by
    unfold results
    congr 1
  have e2 : fn.results.mapM (getRes a.tmps) = (do let l ← fn.results.toList.mapM (getRes a.tmps); pure l.toArray) := by
    rw [Array.mapM_eq_mapM_toList, map_eq_pure_bind]
  rw [e, e2]
  unfold presults at h
  split at h
  · rename_i r hr
    obtain ⟨v, g1, g2⟩ := presult_sound (P := P) f h
    refine ⟨v, ?_, g2⟩
    simp only [hr, List.mapM_cons, List.mapM_nil, Sem.run_bind, g1]
    rfl
  · rename_i hne
    obtain ⟨ps, h1, rfl⟩ := Option.map_eq_some_iff.1 h
    obtain ⟨vs, k1, k2, k3, k4⟩ := presultsL_sound (P := P) f h1
    refine ⟨.tuple vs.toArray, ?_, .tup vs ps k2 k4⟩
    have : ¬ vs.toArray.size = 1 := by
      rw [List.size_toArray, k3]
      intro hl
      obtain ⟨r, hr⟩ := List.length_eq_one_iff.1 hl
      exact hne r hr
    simp only [Sem.run_bind, k1]
    show Result.ok (if h : vs.toArray.size = 1 then vs.toArray[0] else Value.tuple vs.toArray) w = _
    rw [dif_neg this]

def pstart (fn : Func) (args : List PV) (h : Hp) : PSt := ⟨max args.length fn.ntmps, args, h⟩
/-- At its end a function leaves behind what nobody can reach: the boxes and rows that it has made, where neither its result nor the elder boxes lead there. -/
def pgc (nb nr : Nat) (r : PV) (h : Hp) : Hp := if r.sunk nb nr && (h.bx.take nb).all (sunkL nb nr) then ⟨h.bx.take nb, h.hw.take nr, h.ty.take nb, h.rt.take nr⟩ else h
def pend (P : Program) (fn : Func) (r : PV) (h : Hp) : Exit → PSt → Prop
  | .normal, s => presults P s fn.results.toList = some r ∧ s.h = h
  | .ret, s => presults P s fn.results.toList = some r ∧ s.h = h
  | _, _ => False

theorem start_sim {B0 : Nat} {R : Rel} {w : World} {vals : Array Value} {fn : Func} {args : List PV} {h : Hp} (hB : B0 ≤ w.heap.size) (hs : HSim B0 R h w) (hl : vals.size = args.length)
    (hv : ∀ (i : Nat) (v : Value) (p : PV), vals[i]? = some v → args[i]? = some p → VR R v p) :
    FSim ⟨B0, w, R, hB⟩ R (pstart fn args h) { tmps := vals ++ Array.replicate (fn.ntmps - vals.size) undef, defers := [] } w := by
  refine ⟨rfl, ?_, fun i hi => ?_, hs, Below.refl _ _, Rel.Le.refl R, fun b o x hx => .inl hx⟩
  · simp only [Array.size_append, Array.size_replicate, pstart]; omega
  · show VR _ _ (get args i)
    have key : ∀ (l : List PV) (i : Nat), get l i = (l[i]?).getD .any := by
      intro l
      induction l with
      | nil => intro i; simp [get]
      | cons x l ih => intro i; cases i with
        | zero => simp [get]
        | succ i => simp [get, ih]
    rw [key]
    cases ha : args[i]? with
    | none => exact .any _
    | some p =>
      have hlt : i < vals.size := by
        have := (List.getElem?_eq_some_iff.1 ha).1; omega
      refine hv i _ p ?_ ha
      rw [Array.getD_eq_getD_getElem?, Array.getElem?_append_left hlt, Array.getElem?_eq_getElem hlt]; rfl

/-- What a run to a function's end shows. -/
theorem calls_of_run {P : Program} {f : FuncId} {fn : Func} {c : Code} {args : List PV} {h h' : Hp} {r : PV} (hf : P.funcs[f]? = some fn) (hb : fn.body = some c)
    (hp : ∀ (Z : Bas) (R : Rel) (a : Act) (w : World), Z.R0.β.length = h.bx.length ∧ Z.R0.hw.length = h.hw.length → FSim Z R (pstart fn args h) a w → ∀ (Q : Exit → Act → World → Prop), (∀ e R' s' a' w', FSim Z R' s' a' w' → pend P fn r h' e s' → Q e a' w') → c.wp P Q a w)
    {B0 : Nat} {R : Rel} {vals : Array Value} {w : World} (hB : B0 ≤ w.heap.size) (hs : HSim B0 R h w) (hl : vals.size = args.length)
    (hv : ∀ (i : Nat) (v : Value) (p : PV), vals[i]? = some v → args[i]? = some p → VR R v p) :
    Calls P f vals w fun e w' => ∃ v, e = .returned v ∧ Good B0 R w v r h' w' := by
  refine calls_of_wp hf hb ?_
  refine hp ⟨B0, w, R, hB⟩ R _ w ⟨hs.lβ, by show R.hw.length = _; rw [hs.hw]⟩ (start_sim hB hs hl hv) _ (fun e R' s' a' w' f' hq => ?_)
  have fin : presults P s' fn.results.toList = some r ∧ s'.h = h' → a'.defers = [] ∧ ∃ v, (results fn a'.tmps).run P w' = .ok v w' ∧ ∃ u, Ending.returned v = .returned u ∧ Good B0 R w u r h' w' := by
    rintro ⟨h1, rfl⟩
    obtain ⟨v, h2, h3⟩ := presults_sound (P := P) f' h1
    exact ⟨f'.d, v, h2, v, rfl, R', f'.le, h3, f'.h, f'.b, f'.dn⟩
  cases e with
  | normal => exact fin hq
  | ret => exact fin hq
  | _ => exact hq.elim

theorem does_of_run {P : Program} {f : FuncId} {fn : Func} {c : Code} {args : List PV} {h h' : Hp} {r : PV} (hf : P.funcs[f]? = some fn) (hb : fn.body = some c)
    (hp : ∀ (Z : Bas) (R : Rel) (a : Act) (w : World), Z.R0.β.length = h.bx.length ∧ Z.R0.hw.length = h.hw.length → FSim Z R (pstart fn args h) a w → ∀ (Q : Exit → Act → World → Prop), (∀ e R' s' a' w', FSim Z R' s' a' w' → pend P fn r h' e s' → Q e a' w') → c.wp P Q a w) :
    Does P f args h r h' := fun B0 R vals w hB hs hl hv => calls_of_run hf hb hp hB hs hl hv

/-- Of the empty heap: a function that computes. -/
theorem pure_of_does {P : Program} {f : FuncId} {args : List PV} {h' : Hp} {r : PV} (hd : Does P f args ⟨[], [], [], []⟩ r h') : Pure P f args r.erase := by
  intro M vals w hM hl hv
  have hs : HSim w.heap.size (bare M) ⟨[], [], [], []⟩ w := ⟨rfl, rfl, rfl, hM, fun i blk cs hi => by simp [bare] at hi, fun i j blk hi => by simp [bare] at hi, fun r blk sz k hr => by simp [bare] at hr, fun r r' blk sz sz' k k' hr => by simp [bare] at hr, fun i r blk sz k hi => by simp [bare] at hi, rfl, fun i blk t hi => by simp [bare] at hi, rfl, fun r blk sz k t hr => by simp [bare] at hr⟩
  refine (hd w.heap.size (bare M) vals w (Nat.le_refl _) hs hl hv).mono ?_
  rintro e w' ⟨v, rfl, R', g1, g2, g3, g4, g5⟩
  exact ⟨v, R'.M, rfl, g2.erase, g1.M, g3.mem, g5, g4⟩

/-- What a function has made and nobody can reach is forgotten. -/
theorem does_gc {P : Program} {f : FuncId} {args : List PV} {h h' : Hp} {r : PV} (hd : Does P f args h r h') : Does P f args h r (pgc h.bx.length h.hw.length r h') := by
  unfold pgc
  split
  case isFalse => exact hd
  rename_i hc
  simp only [Bool.and_eq_true] at hc
  intro B0 R vals w hB hs hl hv
  refine (hd B0 R vals w hB hs hl hv).mono ?_
  rintro e w' ⟨v, rfl, R', g1, g2, g3, g4, g5⟩
  exact ⟨v, rfl, R'.cut h.bx.length h.hw.length, g1.cut (Nat.le_of_eq hs.lβ) (Nat.le_of_eq (by rw [hs.hw])), g2.cut hc.1, g3.cut hc.2, g4, g5⟩

theorem does_of_pwp {P : Program} {f : FuncId} {fn : Func} {c : Code} {args : List PV} {h h' : Hp} {r : PV} (hf : P.funcs[f]? = some fn) (hb : fn.body = some c) (hp : pwp P (h.bx.length, h.hw.length) c (pend P fn r h') (pstart fn args h)) : Does P f args h r h' :=
  does_of_run hf hb fun Z R a w hz f0 Q hk => pwp_sound hz c f0 hp hk
/-- A function that computes. -/
theorem pure_of_pwp {P : Program} {f : FuncId} {fn : Func} {c : Code} {args : List PV} {r : PV} (hf : P.funcs[f]? = some fn) (hb : fn.body = some c) (hp : pwp P (0, 0) c (fun e s => (e = .normal ∨ e = .ret) ∧ presults P s fn.results.toList = some r) (pstart fn args ⟨[], [], [], []⟩)) : Pure P f args r.erase := by
  intro M vals w hM hl hv
  have hs : HSim w.heap.size (bare M) ⟨[], [], [], []⟩ w := ⟨rfl, rfl, rfl, hM, fun i blk cs hi => by simp [bare] at hi, fun i j blk hi => by simp [bare] at hi, fun r blk sz k hr => by simp [bare] at hr, fun r r' blk sz sz' k k' hr => by simp [bare] at hr, fun i r blk sz k hi => by simp [bare] at hi, rfl, fun i blk t hi => by simp [bare] at hi, rfl, fun r blk sz k t hr => by simp [bare] at hr⟩
  refine calls_of_wp hf hb ?_
  refine pwp_sound (Z := ⟨w.heap.size, w, bare M, Nat.le_refl _⟩) (z := (0, 0)) ⟨rfl, rfl⟩ c (start_sim (Nat.le_refl _) hs hl hv) hp (fun e R' s' a' w' f' hq => ?_)
  obtain ⟨he, h1⟩ := hq
  obtain ⟨v, h2, h3⟩ := presults_sound (P := P) f' h1
  have fin : a'.defers = [] ∧ ∃ v, (results fn a'.tmps).run P w' = .ok v w' ∧ ∃ u M', Ending.returned v = .returned u ∧ VR (bare M') u r.erase ∧ (∀ (b o : Nat) (x : Value), M b o = some x → M' b o = some x) ∧
      (∀ (b o : Nat) (x : Value), M' b o = some x → w'.cell? ⟨b, o, none⟩ = some x ∧ x.oneCell' = true) ∧
      (∀ (b o : Nat) (x : Value), M' b o = some x → M b o = some x ∨ w.heap.size ≤ b) ∧ Below w.heap.size w w' :=
    ⟨f'.d, v, h2, v, R'.M, rfl, h3.erase, f'.le.M, f'.h.mem, f'.dn, f'.b⟩
  rcases he with rfl | rfl
  · exact fin
  · exact fin

end Pm
end Go.Proofs.Ytacccimihgailaa
