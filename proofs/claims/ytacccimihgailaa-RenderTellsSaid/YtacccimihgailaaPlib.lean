/- What the printed functions lean on: encoders, answers, endings of loops. -/
import Derived.Test.YtacccimihgailaaPmx
set_option linter.unusedVariables false
set_option linter.unusedSimpArgs false
namespace Go.Proofs.Ytacccimihgailaa
namespace Pm
namespace Tp
open Go.RowKit

def eL {α : Type} (z : Nat) (f : α → PV) (l : List α) : PV := .sl none false none z (l.map f)
def eB (b : UInt8) : PV := .int .u8 b.toNat
theorem er_int (k : IntKind) (n : Int) : Er (.int k n) := rfl
theorem er_bool (b : Bool) : Er (.bool b) := rfl
theorem er_str (l : List UInt8) : Er (.str l) := rfl
theorem er_raw (v : Value) : Er (.raw v) := rfl
theorem er_any : Er .any := rfl
theorem er_eB (b : UInt8) : Er (eB b) := rfl
theorem byteEls_map (l : List UInt8) : byteEls l = l.map eB := rfl
/-- How many rounds a loop is given: more than there are numbers. -/
def fuel : Nat := 18446744073709551616
theorem fuel_eq : fuel = 18446744073709551616 := rfl
attribute [irreducible] fuel

def sum2? {α β ρ : Type} (o : Option (α ⊕ β)) (A : α → Option ρ) (B : β → Option ρ) : Option ρ :=
  match o with
  | some (.inl x) => A x
  | some (.inr x) => B x
  | none => none
theorem sum2_elim {α β ρ : Type} {o : Option (α ⊕ β)} {A : α → Option ρ} {B : β → Option ρ} {r : ρ} {G : Prop} (h : sum2? o A B = some r) (h1 : ∀ x, o = some (.inl x) → A x = some r → G) (h2 : ∀ x, o = some (.inr x) → B x = some r → G) : G := by
  unfold sum2? at h
  split at h
  · exact h1 _ rfl h
  · exact h2 _ rfl h
  · cases h
def sum3? {α β γ ρ : Type} (o : Option (α ⊕ (β ⊕ γ))) (A : α → Option ρ) (B : β → Option ρ) (C : γ → Option ρ) : Option ρ :=
  match o with
  | some (.inl x) => A x
  | some (.inr (.inl x)) => B x
  | some (.inr (.inr x)) => C x
  | none => none
theorem sum3_elim {α β γ ρ : Type} {o : Option (α ⊕ (β ⊕ γ))} {A : α → Option ρ} {B : β → Option ρ} {C : γ → Option ρ} {r : ρ} {G : Prop} (h : sum3? o A B C = some r) (h1 : ∀ x, o = some (.inl x) → A x = some r → G) (h2 : ∀ x, o = some (.inr (.inl x)) → B x = some r → G)
    (h3 : ∀ x, o = some (.inr (.inr x)) → C x = some r → G) : G := by
  unfold sum3? at h
  split at h
  · exact h1 _ rfl h
  · exact h2 _ rfl h
  · exact h3 _ rfl h
  · cases h

theorem nat_none0 : PV.nat? none 0 = some (decide ((0 : Int) ≤ 0), (0 : Int).toNat) := rfl
theorem ans_ld {P : Program} {h : Hp} {t : TypeId} {b o : Nat} {cs : List PV} {x : PV} (hb : h.bx[b]? = some cs) (ha : agg? P t = some false) (hx : cs[o]? = some x) : pload P t h (.ptr b o) = some x := by
  simp [pload, hb, ppart, ha, hx]
theorem ans_st {P : Program} {h : Hp} {t : TypeId} {b o : Nat} {cs cs' : List PV} {x : PV} (hb : h.bx[b]? = some cs) (hu : (P.underlying t).isSome = true) (hx : x.isCell = true) (h1 : P.cellsOf t = 1) (ho : o < cs.length) (hc : x.cells = [x]) (hcs : splice cs o [x] = cs') :
    pstore P h t (.ptr b o) x = some (true, .raw undef, { h with bx := h.bx.set b cs' }) := by
  subst hcs
  have hf : x.flat = true := by cases x <;> first | exact hx | (simp [PV.isCell] at hx)
  simp only [pstore, hb, hu, hf, hc, h1, List.length_singleton, true_and]
  rw [if_pos (by omega)]
theorem ans_loadIx {P : Program} {α : Type} {f : α → PV} {h : Hp} {t : TypeId} {b base : Nat} {pre post cs : List PV} {l : List α} {i : Int} {x : α} (ha : agg? P t = some false) (hb : h.bx[b]? = some cs) (hcs : cs = pre ++ (l.map f ++ post)) (hp : pre.length = base) (hi : idx? l i = some x) :
    pload P t h (.ptr b (base + i.toNat * 1)) = some (f x) := by
  unfold idx? at hi
  split at hi
  · refine ans_ld hb ha ?_
    subst hcs; subst hp
    have hlt := (List.getElem?_eq_some_iff.1 hi).1
    rw [Nat.mul_one, List.getElem?_append_right (Nat.le_add_right _ _), Nat.add_sub_cancel_left, List.getElem?_append_left (by simpa using hlt), List.getElem?_map, hi]; rfl
  · cases hi
theorem ans_idxAgg {P : Program} {α : Type} {f : α → PV} {t e : TypeId} {n : Nat} {cs : List PV} {l : List α} {k : IntKind} {i : Int} {x : α} (hu : P.underlying t = some (.array n e)) (hz : sz? P e = some 1) (ha : agg? P e = some false) (hcs : cs = l.map f) (hn : l.length = n) (hi : idx? l i = some x) :
    PV.index P t (.agg cs) (.int k i) = some (true, f x) := by
  unfold idx? at hi
  split at hi
  · rename_i h0
    have hlt := (List.getElem?_eq_some_iff.1 hi).1
    subst hcs; subst hn
    have h1 : i < (l.length : Int) := by omega
    have h2 : l[i.toNat] = x := by rw [List.getElem?_eq_getElem hlt] at hi; exact Option.some.inj hi
    simp [PV.index, hu, hz, ppart, ha, hi, h0, h1, h2]
  · cases hi
theorem ans_slcN {P : Program} {α : Type} {f : α → PV} {t e : TypeId} {nl : Bool} {z : Nat} {l m : List α} {lo hi : Option PV} {a b : Int} (hu : P.underlying t = some (.slice e)) (hz : sz? P e = some z)
    (hlo : PV.nat? lo 0 = some (decide (0 ≤ a), a.toNat)) (hhi : PV.nat? hi l.length = some (decide (0 ≤ b), b.toNat)) (h : slc? l a b = some m) :
    PV.slice P t (.sl none nl none z (l.map f)) lo hi none = some (true, .sl none nl none z (m.map f)) := by
  have := ans_slc (f := f) (tok := none) (nl := nl) (cap := none) hu hz hlo hhi h
  simpa using this
theorem bytes_map : ∀ l : List UInt8, bytes? (l.map eB) = some l
  | [] => rfl
  | b :: l => by
    have h1 : ((eB b).byte?) = some b := by simp [eB, PV.byte?]
    simp only [List.map_cons, bytes?, h1, Option.bind_some, bytes_map l, Option.map_some]
theorem ebytes_map : ∀ l : List UInt8, ebytes? (l.map eB) = some l
  | [] => rfl
  | b :: l => by
    have hb : ((b.toNat : Int) < 256) := by have := b.toNat_lt; omega
    simp only [List.map_cons, eB, ebytes?]
    rw [if_pos ⟨by omega, hb⟩]
    rw [ebytes_map l]; simp
theorem ans_bstr {P : Program} {s d e : TypeId} {h : Hp} {tok : Option Nat} {nl : Bool} {cap : Option Nat} {l : List UInt8} (hs : P.underlying s = some (.slice e)) (he : P.underlying e = some (.int .u8)) (hd : P.underlying d = some .string) :
    pconv P s d h (.sl tok nl cap 1 (l.map eB)) = some (true, .str l) := by
  simp [pconv, hs, hd, he, bytes_map]
theorem ans_app0 {P : Program} {α : Type} {f : α → PV} {bx : List (List PV)} {hw : List Nat} {ty rt : List TypeId} {t e : TypeId} {by_ : Nat} {nl : Bool} {z z' z0 : Nat} {tok' : Option Nat} {nl' : Bool} {cap' : Option Nat} {m o : List α}
    (hu : P.underlying t = some (.slice e)) (hz : sz? P e = some z) (hzz : z' = z ∨ m = []) (hzero : ((pzero P e).map (·.cells.length)) = some (P.cellsOf e)) (hby : P.bytesOf e = by_) (hb0 : 0 < by_) (h : app? by_ [] m = some o) :
    pbuiltin P ⟨bx, hw, ty, rt⟩ .append [t, t] [.sl none nl (some 0) z0 [], .sl tok' nl' cap' z' (m.map f)] = some (true, .sl (some hw.length) (nl && m.isEmpty) none z (o.map f), ⟨bx, hw ++ [o.length * z], ty, rt ++ [e]⟩) := by
  obtain ⟨hz1, hz2⟩ : P.cellsOf e = z ∧ 0 < P.cellsOf e := by
    unfold sz? at hz
    split at hz
    · cases hz
    · cases hz; exact ⟨rfl, by omega⟩
  unfold app? at h
  split at h
  · rename_i hle
    cases h
    subst hby
    subst hz1
    have hzz' : (z' = P.cellsOf e ∨ (m.map f).isEmpty = true) := by
      rcases hzz with h | h
      · exact .inl h
      · subst h; exact .inr rfl
    simp only [List.length_nil, Nat.zero_add] at hle
    simp only [pbuiltin, pappend, hu, hzz', and_self, if_true, pappendTo, hzero, hz2, hb0, List.length_map, List.length_nil, Nat.zero_add, hle, decide_true, List.nil_append, List.isEmpty_nil, true_and]
    cases m <;> simp
  · cases h

/-- What a function has made, and nobody leads to, is forgotten. -/
theorem does_cut {P : Program} {f : FuncId} {args : List PV} {h h' : Hp} {r : PV} {nb nr : Nat} (hb : h.bx.length ≤ nb) (hr : h.hw.length ≤ nr) (hd : Does P f args h r h') (hk : Kept nb nr [r] (h'.bx.take nb)) : Does P f args h r (hcut h' nb nr) := by
  intro B0 R vals w hB hs hl hv
  refine (hd B0 R vals w hB hs hl hv).mono ?_
  rintro e w' ⟨v, rfl, R', g1, g2, g3, g4, g5⟩
  refine ⟨v, rfl, R'.cut nb nr, g1.cut ?_ ?_, g2.cut (hk.1 r (by simp)), g3.cut (by rw [List.all_eq_true]; exact hk.2), g4, g5⟩
  · rw [hs.lβ]; exact hb
  · rw [hs.hw]; exact hr
theorem does_cell {P : Program} {f : FuncId} {args : List PV} {h h' : Hp} {r : PV} (hd : Does P f args h r h') {b j : Nat} {cs : List PV} {p : PV} (q : PV) (hb : h'.bx[b]? = some cs) (hj : cs[j]? = some p) (hw : Wk p q) (hq : q.isCell = true) : Does P f args h r { h' with bx := h'.bx.set b (cs.set j q) } := by
  intro B0 R vals w hB hs hl hv
  refine (hd B0 R vals w hB hs hl hv).mono ?_
  rintro e w' ⟨v, rfl, R', g1, g2, g3, g4, g5⟩
  exact ⟨v, rfl, R', g1, g2, HSim.weak g3 hb hj hw hq, g4, g5⟩
theorem HSim.other {B0 : Nat} {R : Rel} {h : Hp} {w : World} (hs : HSim B0 R h w) {b : Nat} {cs cs' : List PV} (hb : h.bx[b]? = some cs) (hl : cs'.length = cs.length)
    (hc : ∀ (vs : Array Value), (∀ (j : Nat) (v : Value) (p : PV), vs[j]? = some v → cs[j]? = some p → VR R v p ∧ p.isCell = true) → vs.size = cs.length → (∃ blk e, R.β[b]? = some blk ∧ w.heap[blk]? = some (.cells vs e (0, 0))) → ∀ (j : Nat) (v : Value) (p : PV), vs[j]? = some v → cs'[j]? = some p → VR R v p ∧ p.isCell = true) :
    HSim B0 R { h with bx := h.bx.set b cs' } w where
  hw := hs.hw
  lρ := hs.lρ
  lβ := by simp [hs.lβ]
  mem := hs.mem
  box i blk ds hβ hcs := by
    by_cases c : b = i
    · subst c
      have hlt := (List.getElem?_eq_some_iff.1 hb).1
      have : ds = cs' := by
        simp only [List.getElem?_set_self hlt, Option.some.injEq] at hcs
        exact hcs.symm
      subst this
      obtain ⟨a1, a2, vs, e, a3, a4, a5⟩ := hs.box b blk cs hβ hb
      exact ⟨a1, a2, vs, e, a3, by rw [a4, hl], hc vs a5 a4 ⟨blk, e, hβ, a3⟩⟩
    · rw [List.getElem?_set_ne c] at hcs
      exact hs.box i blk ds hβ hcs
  boxne := hs.boxne
  row := hs.row
  rowne := hs.rowne
  boxrow := hs.boxrow
  lty := by simp [hs.lty]
  ty := hs.ty
  lrt := hs.lrt
  rt := hs.rt
/-- A cell that is nil, or leads to its own box: the one and the other. -/
theorem does_own {P : Program} {f : FuncId} {args : List PV} {bx : List (List PV)} {hw : List Nat} {ty rt : List TypeId} {h' : Hp} {r : PV} {b : Nat} {cs : List PV} (hb : bx[b]? = some (.own b :: cs))
    (h0 : Does P f args ⟨bx.set b (.raw (.pointer none) :: cs), hw, ty, rt⟩ r h') (h1 : Does P f args ⟨bx.set b (.ptr b 0 :: cs), hw, ty, rt⟩ r h') : Does P f args ⟨bx, hw, ty, rt⟩ r h' := by
  intro B0 R vals w hB hs hl hv
  have hblt : b < bx.length := (List.getElem?_eq_some_iff.1 hb).1
  have hβl : b < R.β.length := by have := hs.lβ; simp only at this; omega
  obtain ⟨_, _, vs, e, hh, hsz, hcell⟩ := hs.box b _ _ (List.getElem?_eq_getElem hβl) hb
  have h0s : 0 < vs.size := by rw [hsz]; simp
  have hv0 := (hcell 0 vs[0] (.own b) (by simp [h0s]) (by simp)).1
  have step : ∀ (q : PV), q.isCell = true → VR R vs[0] q → HSim B0 R ⟨bx.set b (q :: cs), hw, ty, rt⟩ w := by
    intro q hq hvq
    refine HSim.other hs hb (by simp) (fun vs' hc' hsz' hex j v p hj hp => ?_)
    obtain ⟨blk', e', g1, g2⟩ := hex
    rw [List.getElem?_eq_getElem hβl] at g1
    cases g1
    rw [hh] at g2
    cases g2
    cases j with
    | zero =>
      simp only [List.getElem?_cons_zero, Option.some.injEq] at hp
      subst hp
      rw [Array.getElem?_eq_getElem h0s] at hj
      cases hj
      exact ⟨hvq, hq⟩
    | succ j => exact hc' (j + 1) v p hj (by simpa using hp)
  generalize hvz : vs[0] = v0 at hv0 step
  cases hv0 with
  | own0 _ => exact h0 B0 R vals w hB (step _ rfl (.raw _)) hl hv
  | own1 _ blk hβ => exact h1 B0 R vals w hB (step _ rfl (.ptr b blk 0 hβ)) hl hv

/-- A text that was built: as long as there are numbers. -/
def str? (l : List UInt8) : Option (List UInt8) := if l.length ≤ 9223372036854775807 then some l else none
theorem ans_appB {P : Program} {bx : List (List PV)} {hw : List Nat} {ty rt : List TypeId} {t t' e : TypeId} {r : Nat} {l s o : List UInt8} (hu : P.underlying t = some (.slice e)) (hu' : P.underlying t' = some .string) (hz : P.cellsOf e = 1)
    (hzero : ((pzero P e).map (·.cells.length)) = some (P.cellsOf e)) (hby : P.bytesOf e = 1) (hr : hw[r]? = some (l.length * 1)) (hrt : rt[r]? = some e) (h : app? 1 l s = some o) :
    pbuiltin P ⟨bx, hw, ty, rt⟩ .append [t, t'] [.sl (some r) (l.isEmpty) none 1 (l.map eB), .str s] = some (true, .sl (some r) o.isEmpty none 1 (o.map eB), ⟨bx, hw.set r (o.length * 1), ty, rt⟩) := by
  unfold app? at h
  split at h
  · rename_i hle
    cases h
    have hle' : l.length + s.length ≤ lim := by omega
    simp only [Nat.mul_one] at hr
    simp only [pbuiltin, pappend, hu, hu', hz, if_true, pappendTo, hzero, hby, byteEls_map, hr, hrt, List.length_map, hle', decide_true, Bool.and_self, List.map_append, List.length_append, true_and, and_self, Nat.mul_one, Nat.lt_add_one, Nat.zero_lt_one]
    cases l <;> cases s <;> simp
  · cases h
theorem ans_appB0 {P : Program} {bx : List (List PV)} {hw : List Nat} {ty rt : List TypeId} {t t' e : TypeId} {s o : List UInt8} (hu : P.underlying t = some (.slice e)) (hu' : P.underlying t' = some .string) (hz : P.cellsOf e = 1)
    (hzero : ((pzero P e).map (·.cells.length)) = some (P.cellsOf e)) (hby : P.bytesOf e = 1) (h : app? 1 [] s = some o) :
    pbuiltin P ⟨bx, hw, ty, rt⟩ .append [t, t'] [.sl none true (some 0) 0 [], .str s] = some (true, .sl (some hw.length) o.isEmpty none 1 (o.map eB), ⟨bx, hw ++ [o.length * 1], ty, rt ++ [e]⟩) := by
  unfold app? at h
  split at h
  · rename_i hle
    cases h
    have hle' : s.length ≤ lim := by simpa using hle
    simp only [pbuiltin, pappend, hu, hu', hz, if_true, pappendTo, hzero, hby, byteEls_map, List.length_map, List.length_nil, Nat.zero_add, hle', decide_true, Bool.and_self, true_and, and_self, Nat.mul_one, Nat.lt_add_one, Nat.zero_lt_one, List.isEmpty_nil, List.nil_append]
    cases s <;> simp
  · cases h

end Tp
end Pm
end Go.Proofs.Ytacccimihgailaa
