/- Segments of code, run with decisions; what is kept of the slots and the heap behind them. -/
import Derived.Test.YtacccimihgailaaPmu
set_option linter.unusedVariables false
set_option linter.unusedSimpArgs false
namespace Go.Proofs.Ytacccimihgailaa
namespace Pm
open Go.RowKit
noncomputable section

/-- Some slots alone. -/
def tkeep (T : Sl) (ks : List Nat) : Sl := List.rec (motive := fun _ => Sl) [] (fun k _ ih => tput ih k (tget T k)) ks
theorem tget_nil (i : Nat) : tget [] i = .any := by
  show fget (lget [] (i / 8)) (i % 8) = .any
  rw [fget_eq]
  show get [] (i % 8) = .any
  exact get_nil _
theorem tkeep_get (T : Sl) : ∀ (ks : List Nat) (i : Nat), tget (tkeep T ks) i = if i ∈ ks then tget T i else .any
  | [], i => by simp [tkeep, tget_nil]
  | k :: ks, i => by
    show tget (tput (tkeep T ks) k (tget T k)) i = _
    by_cases c : k = i
    · subst c
      rw [tget_put_same]; simp
    · rw [tget_put_ne _ _ _ _ c, tkeep_get T ks i]
      have : (i ∈ k :: ks) = (i ∈ ks) := by simp [Ne.symm c]
      simp only [this]
theorem lget_far : ∀ (T : Sl) (i : Nat), T.length ≤ i → lget T i = []
  | [], i, _ => rfl
  | x :: T, 0, h => by simp at h
  | x :: T, i + 1, h => lget_far T i (by simpa using h)
/-- Slots in chunks are some list of slots. -/
theorem rep_ex (T : Sl) : ∃ t : List PV, Rep T t := by
  refine ⟨(List.range (8 * T.length)).map (tget T), fun i => ?_⟩
  have key : ∀ (l : List PV) (i : Nat), get l i = (l[i]?).getD .any := by
    intro l
    induction l with
    | nil => intro i; simp [get]
    | cons x l ih => intro i; cases i with
      | zero => simp [get]
      | succ i => simp [get, ih]
  rw [key]
  rcases Nat.lt_or_ge i (8 * T.length) with c | c
  · simp [c]
  · rw [List.getElem?_eq_none (by simpa using c)]
    show fget (lget T (i / 8)) (i % 8) = .any
    rw [lget_far T (i / 8) (by omega), fget_eq]
    exact get_nil _

def hcut (h : Hp) (nb nr : Nat) : Hp := ⟨h.bx.take nb, h.hw.take nr, h.ty.take nb, h.rt.take nr⟩
def okeep (ks : List Nat) (nb nr : Nat) (e : Exit) : KT (Exit × Sl × Hp) := fun T h ds =>
  match ds with
  | [] => must (ks.all (fun k => (tget T k).sunk nb nr) && (h.bx.take nb).all (sunkL nb nr)) true (some ([], e, tkeep T ks, hcut h nb nr))
  | _ :: _ => none
/-- A segment's run. -/
def oseg (P : Program) (ext : OExt) (n : Nat) (c : Code) (ks : List Nat) (nb nr : Nat) (T : Sl) (h : Hp) (ds : List Bool) : KO (Exit × Sl × Hp) :=
  oC P ext 1000 n c (okeep ks nb nr .normal) (okeep ks nb nr) T h ds

/-- A state in slots. -/
def Sim (Z : Bas) (R : Rel) (n : Nat) (T : Sl) (h : Hp) (a : Act) (w : World) : Prop := ∃ t, Rep T t ∧ FSim Z R ⟨n, t, h⟩ a w

theorem Sim.keep {Z : Bas} {R : Rel} {n : Nat} {T : Sl} {h : Hp} {a : Act} {w : World} (s : Sim Z R n T h a w) {ks : List Nat} {nb nr : Nat} (hb : Z.R0.β.length ≤ nb) (hr : Z.R0.hw.length ≤ nr)
    (hc : (ks.all (fun k => (tget T k).sunk nb nr) && (h.bx.take nb).all (sunkL nb nr)) = true) : Sim Z (R.cut nb nr) n (tkeep T ks) (hcut h nb nr) a w := by
  obtain ⟨t, hrep, f⟩ := s
  simp only [Bool.and_eq_true, List.all_eq_true] at hc
  obtain ⟨t', hrep'⟩ := rep_ex (tkeep T ks)
  refine ⟨t', hrep', f.d, f.n, fun i hi => ?_, f.h.cut (by rw [List.all_eq_true]; exact hc.2), f.b, f.le.cut hb hr, f.dn⟩
  show VR _ _ (get t' i)
  rw [← hrep' i, tkeep_get]
  split
  · rename_i hm
    have h1 := f.t i hi
    have h2 : get (⟨n, t, h⟩ : PSt).t i = tget T i := (hrep i).symm
    rw [h2] at h1
    exact h1.cut (hc.1 i hm)
  · exact .any _

/-- What a segment's run shows. -/
theorem seg_wp {P : Program} {ext : OExt} (hx : OExtOk P ext) {Z : Bas} {R : Rel} {n : Nat} {T T' : Sl} {h h' : Hp} {a : Act} {w : World} {c : Code} {ks : List Nat} {nb nr : Nat} {ds : List Bool} {e : Exit} {Q : Exit → Act → World → Prop}
    (s : Sim Z R n T h a w) (hb : Z.R0.β.length ≤ nb) (hr : Z.R0.hw.length ≤ nr) {cs : List (Bool × Bool)} (ho : oseg P ext n c ks nb nr T h ds = some (cs, e, T', h')) (hall : allB cs)
    (hk : ∀ R' a' w', Sim Z R' n T' h' a' w' → Q e a' w') : c.wp P Q a w := by
  obtain ⟨t, hrep, f⟩ := s
  have fin : ∀ {R1 : Rel} {T1 : Sl} {t1 : List PV} {h1 : Hp} {ds1 : List Bool} {a1 : Act} {w1 : World} {e1 : Exit}, FSim Z R1 ⟨n, t1, h1⟩ a1 w1 → Rep T1 t1 → Out (okeep ks nb nr e1 T1 h1 ds1) (e, T', h') → Q e1 a1 w1 := by
    intro R1 T1 t1 h1 ds1 a1 w1 e1 f1 hr1 ho1
    unfold okeep at ho1
    split at ho1
    · obtain ⟨hc, cs1, h2, _⟩ := out_must ho1
      cases h2
      exact hk _ _ _ (Sim.keep ⟨t1, hr1, f1⟩ hb hr hc)
    · obtain ⟨cs1, h2, _⟩ := ho1
      cases h2
  exact oC_sound hx c f hrep ⟨cs, ho, all_of_allB hall⟩ (fun R1 T1 t1 h1 ds1 a1 w1 f1 hr1 ho1 => fin f1 hr1 ho1) (fun e1 R1 T1 t1 h1 ds1 a1 w1 f1 hr1 ho1 _ => fin f1 hr1 ho1)

/-- A loop: an invariant over slots, with a number. -/
theorem loop_wp {P : Program} {Z : Bas} {n : Nat} {c : Code} {Q : Exit → Act → World → Prop} (I : Nat → Sl → Hp → Prop) {R : Rel} {T : Sl} {h : Hp} {a : Act} {w : World} (m : Nat) (s : Sim Z R n T h a w) (h0 : I m T h)
    (round : ∀ m R T h a w, Sim Z R n T h a w → I m T h → c.wp P (Exit.then (fun a' w' => ∃ m' R' T' h', m' < m ∧ I m' T' h' ∧ Sim Z R' n T' h' a' w') Q) a w) : (Code.loop c).wp P Q a w := by
  refine wp_loop_ghost (fun m a w => ∃ R T h, Sim Z R n T h a w ∧ I m T h) m ⟨R, T, h, s, h0⟩ ?_
  rintro m a w ⟨R, T, h, s, hI⟩
  refine wp_mono (round m R T h a w s hI) (fun e a' w' hq => ?_)
  cases e with
  | normal =>
    obtain ⟨m', R', T', h', g1, g2, g3⟩ := hq
    exact ⟨m', g1, R', T', h', g3, g2⟩
  | _ => exact hq

/-- A function's contract, by a walk over its code. -/
theorem pure_of_sim {P : Program} {f : FuncId} {fn : Func} {c : Code} {args : List PV} {r : PV} {n : Nat} (hf : P.funcs[f]? = some fn) (hb : fn.body = some c) (hl : args.length ≤ 8) (hn : max args.length fn.ntmps = n)
    (hp : ∀ (Z : Bas) (R : Rel) (a : Act) (w : World), Z.R0.β.length = 0 → Z.R0.hw.length = 0 → Sim Z R n [args] noHp a w → ∀ (Q : Exit → Act → World → Prop),
      (∀ R' T' h' a' w', Sim Z R' n T' h' a' w' → gresults P h' (gev n T') fn.results.toList = some r → Q .ret a' w' ∧ Q .normal a' w') → c.wp P Q a w) : Pure P f args r.erase := by
  subst hn
  intro M vals w hM hlen hv
  have hs : HSim w.heap.size (bare M) noHp w := ⟨rfl, rfl, rfl, hM, fun i blk cs hi => by simp [bare] at hi, fun i j blk hi => by simp [bare] at hi, fun r blk sz k hr => by simp [bare] at hr, fun r r' blk sz sz' k k' hr => by simp [bare] at hr, fun i r blk sz k hi => by simp [bare] at hi, rfl, fun i blk t hi => by simp [bare] at hi, rfl, fun r blk sz k t hr => by simp [bare] at hr⟩
  refine calls_of_wp hf hb ?_
  refine hp ⟨w.heap.size, w, bare M, Nat.le_refl _⟩ _ _ _ rfl rfl ⟨args, rep_one hl, start_sim (fn := fn) (Nat.le_refl _) hs hlen hv⟩ _ (fun R' T' h' a' w' s' hres => ?_)
  obtain ⟨t', hrep, f'⟩ := s'
  rw [gev_eq hrep h'] at hres
  have h1 := (gresults_eq P ⟨max args.length fn.ntmps, t', h'⟩ _).symm.trans hres
  obtain ⟨v, h2, h3⟩ := presults_sound (P := P) f' h1
  have fin : a'.defers = [] ∧ ∃ v, (results fn a'.tmps).run P w' = .ok v w' ∧ ∃ u M', Ending.returned v = .returned u ∧ VR (bare M') u r.erase ∧ (∀ (b o : Nat) (x : Value), M b o = some x → M' b o = some x) ∧
      (∀ (b o : Nat) (x : Value), M' b o = some x → w'.cell? ⟨b, o, none⟩ = some x ∧ x.oneCell' = true) ∧
      (∀ (b o : Nat) (x : Value), M' b o = some x → M b o = some x ∨ w.heap.size ≤ b) ∧ Below w.heap.size w w' :=
    ⟨f'.d, v, h2, v, R'.M, rfl, h3.erase, f'.le.M, f'.h.mem, f'.dn, f'.b⟩
  exact ⟨fin, fin⟩

end
end Pm
end Go.Proofs.Ytacccimihgailaa
