/- Abstract values, what it means that a Go value is one, and that this stays so while memory grows. -/
import Derived.WalkKit
import Derived.Great.BuildSlice
import Derived.Orders
set_option linter.unusedVariables false
set_option linter.unusedSimpArgs false
namespace Go.Proofs.Ytacccimihgailaa
namespace Pm
open Go.RowKit

/-- Abstract values: a slice is the list of its elements; a pointer leads into a box (by number), or to an element of a slice that is only read. -/
inductive PV where
  | any
  | raw (v : Value)
  | int (k : IntKind) (n : Int)
  | bool (b : Bool)
  | str (l : List UInt8)
  | ptr (b off : Nat)
  | eptr (e : PV) (off : Nat)
  | sl (tok : Option Nat) (nl : Bool) (cap : Option Nat) (z : Nat) (es : List PV)
  | bsl (b off len cap : Nat)
  | agg (cs : List PV)
  | tup (vs : List PV)
  /-- where a row of bytes begins -/
  | rp (r : Nat) (es : List PV)
  /-- nil, or where a box begins -/
  | own (b : Nat)

def PV.isCell : PV → Bool
  | .any | .agg _ | .tup _ => false
  | .raw v => v.oneCell'
  | _ => true
def PV.cells : PV → List PV
  | .agg cs => cs
  | p => [p]
/-- Of an aggregate all parts are single cells; else it is one itself. -/
def PV.flat : PV → Bool
  | .agg cs => cs.all PV.isCell
  | p => p.isCell

def lift1 : Value → PV
  | .int k n => .int k n
  | .bool b => .bool b
  | .string s => .str s.data.toList
  | .slice none 0 0 => .sl none true (some 0) 0 []
  | v => .raw v
def lift : Value → PV
  | .agg cs => .agg (cs.toList.map lift1)
  | v => lift1 v

/-- What abstract values lean on: cells that nobody writes any more, where the boxes and the rows lie, how far each row is filled. -/
structure Rel where
  M : Nat → Nat → Option Value
  β : List Nat
  ρ : List (Nat × Nat)
  hw : List Nat

/-- The row that a slice's mark names: it is filled at least as far as the slice goes; if no farther, the slice has no room, or lies at the row's begin, with its room in it. -/
def TokOk (R : Rel) (tok : Option Nat) (nl : Bool) (blk o n c : Nat) : Prop :=
  ∀ r, tok = some r → ∃ h, R.hw[r]? = some h ∧ n ≤ h ∧ (n = h → (n = 0 ∧ c = 0) ∨ (0 < n ∧ nl = false ∧ o = 0 ∧ ∃ sz, R.ρ[r]? = some (blk, sz) ∧ c ≤ sz))

inductive VR (R : Rel) : Value → PV → Prop
  | any (v) : VR R v .any
  | raw (v) : VR R v (.raw v)
  | int (k n) : VR R (.int k n) (.int k n)
  | bool (b) : VR R (.bool b) (.bool b)
  | str (l : List UInt8) : VR R (.string ⟨l.toArray⟩) (.str l)
  | ptr (b blk off) (h : R.β[b]? = some blk) : VR R (.pointer (some ⟨blk, off, none⟩)) (.ptr b off)
  | eptr (e : PV) (blk o off : Nat) (f : Nat → Value)
      (hm : ∀ (j : Nat) (p : PV), e.cells[j]? = some p → R.M blk (o + j) = some (f j)) (hv : ∀ (j : Nat) (p : PV), e.cells[j]? = some p → VR R (f j) p) :
      VR R (.pointer (some ⟨blk, o + off, none⟩)) (.eptr e off)
  | sl (tok : Option Nat) (nl : Bool) (cap : Option Nat) (z : Nat) (es : List PV) (A : Option Addr) (c blk o : Nat) (f : Nat → Nat → Value)
      (hc : es.length ≤ c) (hcap : ∀ k, cap = some k → c = k) (hn : nl = true → A = none ∧ es = [] ∧ c = 0) (ha : nl = false → A = some ⟨blk, o, none⟩ ∨ (es = [] ∧ c = 0))
      (hz : ∀ (i : Nat) (e : PV), es[i]? = some e → e.cells.length = z)
      (hm : ∀ (i : Nat) (e : PV) (j : Nat) (p : PV), es[i]? = some e → e.cells[j]? = some p → R.M blk (o + i * z + j) = some (f i j))
      (hv : ∀ (i : Nat) (e : PV) (j : Nat) (p : PV), es[i]? = some e → e.cells[j]? = some p → VR R (f i j) p)
      (ht : TokOk R tok nl blk o (es.length * z) (c * z)) :
      VR R (.slice A es.length c) (.sl tok nl cap z es)
  | bsl (b blk off len cap) (h : R.β[b]? = some blk) : VR R (.slice (some ⟨blk, off, none⟩) len cap) (.bsl b off len cap)
  | agg (vs : List Value) (ps : List PV) (hl : vs.length = ps.length) (hv : ∀ (i : Nat) (v : Value) (p : PV), vs[i]? = some v → ps[i]? = some p → VR R v p) : VR R (.agg vs.toArray) (.agg ps)
  | tup (vs : List Value) (ps : List PV) (hl : vs.length = ps.length) (hv : ∀ (i : Nat) (v : Value) (p : PV), vs[i]? = some v → ps[i]? = some p → VR R v p) : VR R (.tuple vs.toArray) (.tup ps)
  | rp (r : Nat) (es : List PV) (blk : Nat) (f : Nat → Value) (hm : ∀ (i : Nat) (p : PV), es[i]? = some p → R.M blk i = some (f i)) (hv : ∀ (i : Nat) (p : PV), es[i]? = some p → VR R (f i) p)
      (ht : TokOk R (some r) false blk 0 es.length es.length) : VR R (.pointer (some ⟨blk, 0, none⟩)) (.rp r es)
  | own0 (b : Nat) : VR R (.pointer none) (.own b)
  | own1 (b blk : Nat) (h : R.β[b]? = some blk) : VR R (.pointer (some ⟨blk, 0, none⟩)) (.own b)

/-- Memory has grown: what nobody writes is as it was; boxes stay; a row is where it was, or is filled farther. -/
structure Rel.Le (R R' : Rel) : Prop where
  M : ∀ b o v, R.M b o = some v → R'.M b o = some v
  β : ∀ (i x : Nat), R.β[i]? = some x → R'.β[i]? = some x
  hw : ∀ (r h : Nat), R.hw[r]? = some h → ∃ h', R'.hw[r]? = some h' ∧ h ≤ h' ∧ (h' = h → R'.ρ[r]? = R.ρ[r]?)

theorem Rel.Le.refl (R : Rel) : R.Le R := ⟨fun _ _ _ h => h, fun _ _ h => h, fun _ h hr => ⟨h, hr, Nat.le_refl _, fun _ => rfl⟩⟩
theorem Rel.Le.trans {A B C : Rel} (h : A.Le B) (k : B.Le C) : A.Le C :=
  ⟨fun b o v hm => k.M b o v (h.M b o v hm), fun i x hx => k.β i x (h.β i x hx), fun r x hx => by
    obtain ⟨y, hy, hxy, e⟩ := h.hw r x hx
    obtain ⟨z, hz, hyz, e'⟩ := k.hw r y hy
    exact ⟨z, hz, by omega, fun hh => by rw [e' (by omega), e (by omega)]⟩⟩

theorem TokOk.mono {R R' : Rel} (hle : R.Le R') {tok : Option Nat} {nl : Bool} {blk o n c : Nat} (h : TokOk R tok nl blk o n c) : TokOk R' tok nl blk o n c := by
  intro r hs
  obtain ⟨x, hx, hn, he⟩ := h r hs
  obtain ⟨y, hy, hxy, hρ⟩ := hle.hw r x hx
  exact ⟨y, hy, by omega, fun hh => by
    have : y = x := by omega
    have h2 := he (by omega)
    rw [hρ this]; exact h2⟩

theorem VR.mono {R R' : Rel} (hle : R.Le R') {v : Value} {p : PV} (h : VR R v p) : VR R' v p := by
  induction h with
  | any v => exact .any v
  | raw v => exact .raw v
  | int k n => exact .int k n
  | bool b => exact .bool b
  | str l => exact .str l
  | ptr b blk off h => exact .ptr b blk off (hle.β _ _ h)
  | eptr e blk o off f hm hv ih => exact .eptr e blk o off f (fun j p hj => hle.M _ _ _ (hm j p hj)) ih
  | sl tok nl cap z es A c blk o f hc hcap hn ha hz hm hv ht ih =>
    exact .sl tok nl cap z es A c blk o f hc hcap hn ha hz (fun i e j p hi hj => hle.M _ _ _ (hm i e j p hi hj)) ih (ht.mono hle)
  | bsl b blk off len cap h => exact .bsl b blk off len cap (hle.β _ _ h)
  | agg vs ps hl hv ih => exact .agg vs ps hl ih
  | tup vs ps hl hv ih => exact .tup vs ps hl ih
  | rp r es blk f hm hv ht ih => exact .rp r es blk f (fun i p hi => hle.M _ _ _ (hm i p hi)) ih (ht.mono hle)
  | own0 b => exact .own0 b
  | own1 b blk h => exact .own1 b blk (hle.β _ _ h)

theorem VR.lift1 (R : Rel) (v : Value) : VR R v (lift1 v) := by
  unfold Pm.lift1
  split
  · exact .int _ _
  · exact .bool _
  · rename_i s
    have := VR.str (R := R) s.data.toList
    simpa using this
  · exact .sl none true (some 0) 0 [] none 0 0 0 (fun _ _ => undef) (Nat.le_refl _) (fun k h => by simpa using h) (fun _ => ⟨rfl, rfl, rfl⟩) (fun h => by cases h) (fun i e h => by simp at h) (fun i e j p h => by simp at h) (fun i e j p h => by simp at h) (fun r h => by cases h)
  · exact .raw _
theorem VR.lift (R : Rel) (v : Value) : VR R v (lift v) := by
  unfold Pm.lift
  split
  · rename_i cs
    have := VR.agg (R := R) cs.toList (cs.toList.map Pm.lift1) (by simp) (fun i v p h1 h2 => by
      simp only [List.getElem?_map, h1, Option.map_some, Option.some.injEq] at h2
      subst h2
      exact VR.lift1 R v)
    simpa using this
  · exact VR.lift1 R _

/-- A flat abstract value's cells, one by one. -/
theorem VR.cells {R : Rel} {v : Value} {p : PV} (h : VR R v p) (hf : p.flat = true) :
    v.cells.size = p.cells.length ∧ ∀ (i : Nat) (x : Value) (q : PV), v.cells[i]? = some x → p.cells[i]? = some q → VR R x q ∧ q.isCell = true := by
  have one : ∀ (v : Value) (p : PV), v.cells = #[v] → p.cells = [p] → p.isCell = true → VR R v p →
      v.cells.size = p.cells.length ∧ ∀ (i : Nat) (x : Value) (q : PV), v.cells[i]? = some x → p.cells[i]? = some q → VR R x q ∧ q.isCell = true := by
    intro v p e1 e2 hc hv
    rw [e1, e2]
    refine ⟨by simp, fun i x q hx hq => ?_⟩
    match i with
    | 0 => simp at hx hq; subst hx; subst hq; exact ⟨hv, hc⟩
    | i + 1 => simp at hx
  cases h with
  | any v => simp [PV.flat, PV.isCell] at hf
  | raw v =>
    have h1 : v.oneCell' = true := by simpa [PV.flat, PV.isCell] using hf
    exact one _ _ (by cases v <;> first | rfl | simp [Value.oneCell'] at h1) rfl (by simpa [PV.isCell] using h1) (.raw v)
  | int k n => exact one _ _ rfl rfl rfl (.int k n)
  | bool b => exact one _ _ rfl rfl rfl (.bool b)
  | str l => exact one _ _ rfl rfl rfl (.str l)
  | ptr b blk off h => exact one _ _ rfl rfl rfl (.ptr b blk off h)
  | eptr e blk o off f hm hv => exact one _ _ rfl rfl rfl (.eptr e blk o off f hm hv)
  | sl tok nl cap z es A c blk o f hc hcap hn ha hz hm hv ht => exact one _ _ rfl rfl rfl (.sl tok nl cap z es A c blk o f hc hcap hn ha hz hm hv ht)
  | bsl b blk off len cap h => exact one _ _ rfl rfl rfl (.bsl b blk off len cap h)
  | agg vs ps hl hv =>
    refine ⟨by simpa [Value.cells, PV.cells] using hl, fun i x q hx hq => ?_⟩
    simp only [Value.cells, PV.cells, List.getElem?_toArray] at hx hq
    refine ⟨hv i x q hx hq, ?_⟩
    have : ∀ q ∈ ps, q.isCell = true := by simpa [PV.flat] using hf
    exact this q (List.mem_of_getElem? hq)
  | tup vs ps hl hv => simp [PV.flat, PV.isCell] at hf
  | rp r es blk f hm hv ht => exact one _ _ rfl rfl rfl (.rp r es blk f hm hv ht)
  | own0 b => exact one _ _ rfl rfl rfl (.own0 b)
  | own1 b blk h => exact one _ _ rfl rfl rfl (.own1 b blk h)

theorem VR.oneCell {R : Rel} {v : Value} {p : PV} (h : VR R v p) (hc : p.isCell = true) : v.oneCell' = true := by
  cases h <;> first | rfl | (simp [PV.isCell] at hc; done) | simpa [PV.isCell] using hc

end Pm
end Go.Proofs.Ytacccimihgailaa
