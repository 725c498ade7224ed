/- Arguments, opened: Go's data as typed values. -/
import Derived.Test.YtacccimihgailaaPlib
import Derived.ChangeArms
import Derived.OpenShut
import Derived.ChangeShapes
import Derived.WideShapes
set_option linter.unusedVariables false
set_option linter.unusedSimpArgs false
namespace Go.Proofs.Ytacccimihgailaa
namespace Pm
namespace Tp
open Go.RowKit Go.ChangeShapes Go.WideShapes

def memOf (w : World) : Mem := fun b o => match w.cell? ⟨b, o, none⟩ with | some v => if v.oneCell' = true then some v else none | none => none
theorem memOf_some {w : World} {b o : Nat} {v : Value} (h : memOf w b o = some v) : w.cell? ⟨b, o, none⟩ = some v ∧ v.oneCell' = true := by
  unfold memOf at h
  split at h
  · rename_i x hx
    split at h
    · cases h; exact ⟨hx, ‹_›⟩
    · cases h
  · cases h
theorem memOf_mk {w : World} {b o : Nat} {v : Value} (h : w.cell? ⟨b, o, none⟩ = some v) (h1 : v.oneCell' = true) : memOf w b o = some v := by
  unfold memOf; rw [h]; simp [h1]

/-- Cells that read so. -/
def CR (w : World) (cs : List Value) (ps : List PV) : Prop := cs.length = ps.length ∧ ∀ (i : Nat) (v : Value) (p : PV), cs[i]? = some v → ps[i]? = some p → VR (bare (memOf w)) v p ∧ v.oneCell' = true
theorem cr_nil (w : World) : CR w [] [] := ⟨rfl, fun i v p h => by simp at h⟩
theorem cr_append {w : World} {a b : List Value} {p q : List PV} (h : CR w a p) (k : CR w b q) : CR w (a ++ b) (p ++ q) := by
  refine ⟨by simp [h.1, k.1], fun i v x hv hx => ?_⟩
  rcases Nat.lt_or_ge i a.length with c | c
  · rw [List.getElem?_append_left c] at hv
    rw [List.getElem?_append_left (by rw [← h.1]; exact c)] at hx
    exact h.2 i v x hv hx
  · rw [List.getElem?_append_right c] at hv
    rw [List.getElem?_append_right (by rw [← h.1]; exact c), ← h.1] at hx
    exact k.2 _ v x hv hx
theorem cr_cons {w : World} {cs : List Value} {off n : Nat} {p q : List PV} (h : CR w ((cs.drop off).take n) p) (k : CR w (cs.drop (off + n)) q) : CR w (cs.drop off) (p ++ q) := by
  have := cr_append h k
  rwa [← List.drop_drop, List.take_append_drop] at this
theorem cr_end {w : World} {cs : List Value} {n : Nat} (h : cs.length = n) : CR w (cs.drop n) [] := by
  rw [List.drop_of_length_le (by omega)]; exact cr_nil w
theorem cr_one {w : World} {v : Value} {p : PV} (h : VR (bare (memOf w)) v p) (h1 : v.oneCell' = true) : CR w [v] [p] := ⟨rfl, fun i x q hx hq => by
  cases i with
  | zero => simp at hx hq; subst hx; subst hq; exact ⟨h, h1⟩
  | succ i => simp at hx⟩

/-- A type's values are read as typed ones. -/
def Opn (P : Program) {α : Type} (t : TypeId) (f : α → PV) (V : α → Prop) : Prop :=
  ∀ {H : Type} (enc : TypeId × Value → H) (w : World) (fuel : Nat) (cs : List Value) (x : DataW H × List MemPlace), DataW.trod enc P w 0 (fun _ => true) true fuel t cs = some x → ∃ a, V a ∧ CR w cs (f a).cells
def VI (n : Int) : Prop := -9223372036854775808 ≤ n ∧ n ≤ 9223372036854775807
def VU (n : Int) : Prop := 0 ≤ n ∧ n ≤ 18446744073709551615
def VT {α : Type} (_ : α) : Prop := True
def VS (l : List UInt8) : Prop := l.length ≤ 9223372036854775807
def VL {α : Type} (V : α → Prop) (l : List α) : Prop := l.length ≤ 9223372036854775807 ∧ ∀ a ∈ l, V a
theorem opn_i64 {P : Program} {t : TypeId} (hu : P.underlying t = some (.int .i64)) : Opn P t (PV.int .i64) VI := by
  intro H enc w fuel cs x h
  obtain ⟨n, rfl, _, hw⟩ := DataW.trod_int hu h
  refine ⟨n, ?_, cr_one (.int _ _) rfl⟩
  simp only [Lit.wf, Bool.and_eq_true, decide_eq_true_eq] at hw
  exact hw
theorem opn_u64 {P : Program} {t : TypeId} (hu : P.underlying t = some (.int .u64)) : Opn P t (PV.int .u64) VU := by
  intro H enc w fuel cs x h
  obtain ⟨n, rfl, _, hw⟩ := DataW.trod_int hu h
  refine ⟨n, ?_, cr_one (.int _ _) rfl⟩
  simp only [Lit.wf, Bool.and_eq_true, decide_eq_true_eq] at hw
  exact hw
theorem opn_u8 {P : Program} {t : TypeId} (hu : P.underlying t = some (.int .u8)) : Opn P t eB VT := by
  intro H enc w fuel cs x h
  obtain ⟨n, rfl, _, hw⟩ := DataW.trod_int hu h
  simp only [Lit.wf, Bool.and_eq_true, decide_eq_true_eq] at hw
  have h1 : 0 ≤ n ∧ n ≤ 255 := hw
  have h2 : ((n.toNat.toUInt8).toNat : Int) = n := by
    have : n.toNat % 256 = n.toNat := Nat.mod_eq_of_lt (by omega)
    simp [this]; omega
  refine ⟨n.toNat.toUInt8, trivial, ?_⟩
  have : (eB n.toNat.toUInt8).cells = [.int .u8 n] := by show [PV.int .u8 ((n.toNat.toUInt8).toNat : Int)] = _; rw [h2]
  rw [this]
  exact cr_one (.int _ _) rfl
theorem opn_bool {P : Program} {t : TypeId} (hu : P.underlying t = some .bool) : Opn P t PV.bool VT := by
  intro H enc w fuel cs x h
  obtain ⟨b, rfl, _⟩ := DataW.trod_bool hu h
  exact ⟨b, trivial, cr_one (.bool _) rfl⟩
theorem opn_str {P : Program} {t : TypeId} (hu : P.underlying t = some .string) : Opn P t PV.str VS := by
  intro H enc w fuel cs x h
  obtain ⟨s, rfl, _, hs⟩ := DataW.trod_string hu h
  refine ⟨s.data.toList, ?_, cr_one ?_ rfl⟩
  · unfold maxLen at hs; show s.data.toList.length ≤ _; simpa using hs
  · have := VR.str (R := bare (memOf w)) s.data.toList
    simpa using this
theorem pick_list {α : Type} (Q : Nat → α → Prop) : ∀ n : Nat, (∀ i, i < n → ∃ a, Q i a) → ∃ l : List α, l.length = n ∧ ∀ (i : Nat) (a : α), l[i]? = some a → Q i a
  | 0, _ => ⟨[], rfl, fun i a h => by simp at h⟩
  | n + 1, h => by
    obtain ⟨l, h1, h2⟩ := pick_list Q n (fun i hi => h i (by omega))
    obtain ⟨a, ha⟩ := h n (by omega)
    refine ⟨l ++ [a], by simp [h1], fun i x hx => ?_⟩
    rcases Nat.lt_or_ge i l.length with c | c
    · rw [List.getElem?_append_left c] at hx
      exact h2 i x hx
    · have hi : i = n := by
        have := (List.getElem?_eq_some_iff.1 hx).1
        simp at this; omega
      subst hi
      rw [List.getElem?_append_right c, h1] at hx
      simp at hx; subst hx; exact ha
theorem addr_add {b o i : Nat} : (⟨b, o, none⟩ : Addr).add i = ⟨b, o + i, none⟩ := by unfold Addr.add; split <;> simp_all
theorem opn_slice {P : Program} {α : Type} {t e : TypeId} {z : Nat} {f : α → PV} {V : α → Prop} (hu : P.underlying t = some (.slice e)) (hz : P.cellsOf e = z) (h0 : 0 < z) (he : Opn P e f V) (hl : ∀ a, (f a).cells.length = z) :
    Opn P t (eL z f) (VL V) := by
  intro H enc w fuel cs x h
  rcases DataW.trod_slice hu h with ⟨rfl, _⟩ | ⟨a, len, cap, elems, rest, m, _, rfl, _, hb, hlc, hcm, hlen, hel, hsp, _⟩
  · refine ⟨[], ⟨by simp, fun a h => by simp at h⟩, cr_one ?_ rfl⟩
    exact .sl none false none z [] none 0 0 0 (fun _ _ => undef) (Nat.le_refl _) (fun k h => by cases h) (fun h => by cases h) (fun _ => .inr ⟨rfl, rfl⟩) (fun i e h => by simp at h) (fun i e j p h => by simp at h) (fun i e j p h => by simp at h) (fun r h => by cases h)
  · have hspot : 0 < cap → a.spot = none := by
      intro hc
      have first : ∃ cs' y, w.cells? 0 (a.add (0 * P.cellsOf e)) (P.cellsOf e) = some cs' ∧ DataW.trod enc P w 0 (fun _ => true) true m e cs' = some y := by
        by_cases hl0 : 0 < len
        · have h1 := hel 0 hl0
          rw [List.getElem?_eq_getElem (by omega)] at h1
          obtain ⟨cs', h2, h3⟩ := Option.bind_eq_some_iff.1 h1
          exact ⟨cs', _, h2, h3⟩
        · obtain ⟨r1, r2⟩ := hsp rfl
          have h1 := r2 0 (by omega)
          rw [List.getElem?_eq_getElem (by omega)] at h1
          have e0 : len + 0 = 0 := by omega
          rw [e0] at h1
          obtain ⟨cs', h2, h3⟩ := Option.bind_eq_some_iff.1 h1
          exact ⟨cs', _, h2, h3⟩
      obtain ⟨cs', y, h2, _⟩ := first
      obtain ⟨_, h4, h5⟩ := World.cells?_some h2
      have h6 := h5 0 (by omega)
      rw [List.getElem?_eq_getElem (by omega)] at h6
      have e1 : (a.add (0 * P.cellsOf e)).add 0 = a := by simp [Addr.add]
      rw [e1] at h6
      exact World.cell?_spot h6
    obtain ⟨l, hl1, hl2⟩ := pick_list (fun i x => V x ∧ ∃ cs', w.cells? 0 (a.add (i * P.cellsOf e)) (P.cellsOf e) = some cs' ∧ CR w cs' (f x).cells) len (fun i hi => by
      have h1 := hel i hi
      rw [List.getElem?_eq_getElem (by omega)] at h1
      obtain ⟨cs', h2, h3⟩ := Option.bind_eq_some_iff.1 h1
      obtain ⟨x, hx1, hx2⟩ := he enc w m cs' _ h3
      exact ⟨x, hx1, cs', h2, hx2⟩)
    refine ⟨l, ⟨by rw [hl1]; unfold maxLen at hcm; omega, fun x hx => ?_⟩, cr_one ?_ rfl⟩
    · obtain ⟨i, hi⟩ := List.getElem?_of_mem hx
      exact (hl2 i x hi).1
    · subst hl1
      have hm : ∀ (i : Nat) (x : α) (j : Nat) (p : PV), l[i]? = some x → (f x).cells[j]? = some p → ∃ v, w.cell? ⟨a.block, a.off + i * z + j, none⟩ = some v ∧ VR (bare (memOf w)) v p ∧ v.oneCell' = true := by
        intro i x j p hi hj
        obtain ⟨_, cs', h2, h3⟩ := hl2 i x hi
        obtain ⟨_, h4, h5⟩ := World.cells?_some h2
        have hil := (List.getElem?_eq_some_iff.1 hi).1
        have hjl := (List.getElem?_eq_some_iff.1 hj).1
        rw [hl x] at hjl
        have h6 := h5 j (by omega)
        obtain ⟨v, h7⟩ : ∃ v, cs'[j]? = some v := ⟨_, List.getElem?_eq_getElem (by rw [h4, hz]; exact hjl)⟩
        rw [h7] at h6
        have hs := hspot (by omega)
        have ea : a = ⟨a.block, a.off, none⟩ := by obtain ⟨b, o, s⟩ := a; simp at hs; subst hs; rfl
        rw [ea, addr_add, addr_add, hz] at h6
        exact ⟨_, h6, h3.2 j _ p h7 hj⟩
      have hlen : (l.map f).length = l.length := by simp
      have hfm : ∀ (i : Nat) (p : PV), (l.map f)[i]? = some p → ∃ x, l[i]? = some x ∧ p = f x := by
        intro i p hi
        rw [List.getElem?_map] at hi
        obtain ⟨x, h1, h2⟩ := Option.map_eq_some_iff.1 hi
        exact ⟨x, h1, h2.symm⟩
      show VR _ _ (.sl none false none z (l.map f))
      rw [← hlen]
      refine .sl none false none z (l.map f) (some a) cap a.block a.off (fun i j => (w.cell? ⟨a.block, a.off + i * z + j, none⟩).getD undef) (by simpa using hlc) (fun k h => by cases h) (fun h => by cases h) (fun _ => ?_) (fun i e hi => ?_) (fun i e j p hi hj => ?_) (fun i e j p hi hj => ?_) (fun r h => by cases h)
      · by_cases hc : 0 < cap
        · have hs := hspot hc
          left; obtain ⟨b, o, s⟩ := a; simp at hs; subst hs; rfl
        · right
          have : l.length = 0 := by omega
          exact ⟨by simp [List.eq_nil_of_length_eq_zero this], by omega⟩
      · obtain ⟨x, _, rfl⟩ := hfm i e hi
        exact hl x
      · obtain ⟨x, h1, rfl⟩ := hfm i e hi
        obtain ⟨v, g1, g2, g3⟩ := hm i x j p h1 hj
        show memOf w _ _ = _
        rw [g1]; exact memOf_mk g1 g3
      · obtain ⟨x, h1, rfl⟩ := hfm i e hi
        obtain ⟨v, g1, g2, g3⟩ := hm i x j p h1 hj
        show VR _ ((w.cell? _).getD undef) p
        rw [g1]; exact g2

/-- A struct's or an array's parts. -/
def partsOf (P : Program) (t : TypeId) : Option (List (TypeId × Nat)) :=
  match P.underlying t with
  | some (.struct fs) => some (fs.toList.map fun f => (f.type, f.offset))
  | some (.array n e) => some ((List.range n).map fun i => (e, i * P.cellsOf e))
  | _ => none
theorem trod_parts {P : Program} {t : TypeId} {tys : List (TypeId × Nat)} {H : Type} {enc : TypeId × Value → H} {w : World} {fuel : Nat} {cs : List Value} {x : DataW H × List MemPlace} (hs : partsOf P t = some tys)
    (h : DataW.trod enc P w 0 (fun _ => true) true fuel t cs = some x) : cs.length = P.cellsOf t ∧ ∃ m, ∀ (i : Nat) (ty off : Nat), tys[i]? = some (ty, off) → ∃ y, DataW.trod enc P w 0 (fun _ => true) true m ty ((cs.drop off).take (P.cellsOf ty)) = some y := by
  unfold partsOf at hs
  split at hs
  · rename_i fs hu
    cases hs
    obtain ⟨xs, m, _, _, hl, hn, hf⟩ := DataW.trod_struct hu h
    refine ⟨hl, m, fun i ty off hi => ?_⟩
    rw [List.getElem?_map] at hi
    obtain ⟨g, h1, h2⟩ := Option.map_eq_some_iff.1 hi
    cases h2
    have h3 : fs[i]? = some g := by simpa using h1
    have hlt : i < xs.length := by rw [hn]; exact (Array.getElem?_eq_some_iff.1 h3).1
    have h4 := hf i g h3
    rw [List.getElem?_eq_getElem hlt] at h4
    exact ⟨_, h4⟩
  · rename_i n e hu
    cases hs
    obtain ⟨xs, m, _, _, hl, hn, hf⟩ := DataW.trod_array hu h
    refine ⟨hl, m, fun i ty off hi => ?_⟩
    rw [List.getElem?_map] at hi
    obtain ⟨k, h1, h2⟩ := Option.map_eq_some_iff.1 hi
    cases h2
    obtain ⟨hk, rfl⟩ : i < n ∧ k = i := by
      have hlt := (List.getElem?_eq_some_iff.1 h1).1
      simp at hlt
      rw [List.getElem?_range hlt] at h1
      cases h1; exact ⟨hlt, rfl⟩
    have h4 := hf k hk
    rw [List.getElem?_eq_getElem (by omega)] at h4
    exact ⟨_, h4⟩
  · cases hs
theorem opn_part {P : Program} {α : Type} {t n : Nat} {f : α → PV} {V : α → Prop} (he : Opn P t f V) (hn : P.cellsOf t = n) {H : Type} {enc : TypeId × Value → H} {w : World} {m : Nat} {cs : List Value} {off : Nat}
    (h : ∃ y, DataW.trod enc P w 0 (fun _ => true) true m t ((cs.drop off).take (P.cellsOf t)) = some y) : ∃ a, V a ∧ CR w ((cs.drop off).take n) (f a).cells := by
  obtain ⟨y, h⟩ := h
  rw [hn] at h
  exact he enc w m _ y h

/-- An argument's value. -/
theorem opn_arg1 {P : Program} {α : Type} {t : TypeId} {f : α → PV} {V : α → Prop} (he : Opn P t f V) (hc : ∀ a, (f a).cells = [f a]) {H : Type} {enc : TypeId × Value → H} {W : World} {v : Value} {d : DataW H} {p : List MemPlace} (hv : v.cells = #[v])
    (h : DataW.Trod enc P W 0 (fun _ => true) true t v d p) : ∃ a, V a ∧ VR (bare (memOf W)) v (f a) := by
  obtain ⟨fuel, h⟩ := h
  rw [hv] at h
  obtain ⟨a, h1, h2⟩ := he enc W fuel _ _ h
  rw [hc] at h2
  exact ⟨a, h1, (h2.2 0 v (f a) rfl rfl).1⟩
theorem opn_argA {P : Program} {α : Type} {t : TypeId} {f : α → PV} {V : α → Prop} (he : Opn P t f V) (hc : ∀ a, f a = .agg (f a).cells) {H : Type} {enc : TypeId × Value → H} {W : World} {cs : Array Value} {d : DataW H} {p : List MemPlace}
    (h : DataW.Trod enc P W 0 (fun _ => true) true t (.agg cs) d p) : ∃ a, V a ∧ VR (bare (memOf W)) (.agg cs) (f a) := by
  obtain ⟨fuel, h⟩ := h
  have e : (Value.agg cs).cells.toList = cs.toList := rfl
  rw [e] at h
  obtain ⟨a, h1, h2⟩ := he enc W fuel _ _ h
  refine ⟨a, h1, ?_⟩
  rw [hc a]
  have := VR.agg (R := bare (memOf W)) cs.toList (f a).cells h2.1 (fun i v p hi hj => (h2.2 i v p hi hj).1)
  simpa using this
theorem okWide_any_agg {P : Program} {t : TypeId} {w : World} {r : _} {base : Nat} {v : Value} {tys : List (TypeId × Nat)} (hs : partsOf P t = some tys) (h : Value.okWide P w r base t v) : ∃ cs, v = .agg cs := by
  unfold partsOf at hs
  unfold Value.okWide at h
  split at hs
  · rename_i fs hu; simp only [hu] at h; obtain ⟨cs, rfl, _⟩ := h; exact ⟨cs, rfl⟩
  · rename_i n e hu; simp only [hu] at h; obtain ⟨cs, rfl, _⟩ := h; exact ⟨cs, rfl⟩
  · cases hs
/-- Values that read so, one by one. -/
inductive AVR (R : Rel) : List Value → List PV → Prop
  | nil : AVR R [] []
  | cons {v : Value} {p : PV} {vs : List Value} {ps : List PV} (h : VR R v p) (t : AVR R vs ps) : AVR R (v :: vs) (p :: ps)
theorem AVR.length {R : Rel} {vs : List Value} {ps : List PV} (h : AVR R vs ps) : vs.length = ps.length := by
  induction h with
  | nil => rfl
  | cons _ _ ih => simp [ih]
theorem AVR.get {R : Rel} {vs : List Value} {ps : List PV} (h : AVR R vs ps) : ∀ (i : Nat) (v : Value) (p : PV), vs[i]? = some v → ps[i]? = some p → VR R v p := by
  induction h with
  | nil => intro i v p hi; simp at hi
  | cons h t ih =>
    intro i v p hi hp
    cases i with
    | zero => simp at hi hp; subst hi; subst hp; exact h
    | succ i => exact ih i v p (by simpa using hi) (by simpa using hp)
theorem pure_call {P : Program} {f : FuncId} {ps : List PV} {b : Bool} (h : Pure P f ps (PV.bool b)) {W : World} {vs : List Value} (hv : AVR (bare (memOf W)) vs ps) : Calls P f vs.toArray W fun e W' => e = .returned (.bool b) ∧ Below W.heap.size W W' := by
  refine (h (memOf W) vs.toArray W (fun b o v h => memOf_some h) (by simpa using hv.length) (fun i v p hi hp => hv.get i v p (by simpa using hi) hp)).mono ?_
  rintro e W' ⟨v, M', rfl, hr, _, _, _, hb⟩
  cases hr
  exact ⟨rfl, hb⟩
end Tp
end Pm
end Go.Proofs.Ytacccimihgailaa
