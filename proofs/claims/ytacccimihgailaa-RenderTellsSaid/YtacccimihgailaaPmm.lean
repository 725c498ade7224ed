/- Regions whose order is drawn: one walk in the order of the text stands for all. -/
import Derived.Test.YtacccimihgailaaPml
set_option linter.unusedVariables false
set_option linter.unusedSimpArgs false
namespace Go.Proofs.Ytacccimihgailaa
namespace Pm
open Go.RowKit

/-- What an operation yields that leaves boxes and rows alone. -/
def popq (P : Program) (h : Hp) (o : Oper) (ev : Operand → PV) : Option (Bool × PV) :=
  match o.op with
  | .alloc _ | .box _ _ | .store _ _ _ => none
  | .buildSlice _ _ _ => (popv P h o ev).map fun x => (x.1, match x.2.1 with | .sl _ nl cap z es => .sl none nl cap z es | p => p)
  | .call c =>
    match c.callee with
    | .builtin .append => none
    | _ => (popv P h o ev).map fun x => (x.1, x.2.1)
  | _ => (popv P h o ev).map fun x => (x.1, x.2.1)

def Yields (P : Program) (ops : Array Oper) (s : PSt) (o : Oper) (v : PV) : Prop :=
  match pwant ops s o with
  | some true =>
    match s.callee P o with
    | some (f, args) => callable P f = true ∧ Does P f args s.h v s.h
    | none => popq P s.h o s.ev = some (true, v)
  | some false => v = .raw undef
  | none => False
def popsq (P : Program) (ops : Array Oper) (K : PSt → Prop) : List Oper → PSt → Prop
  | [], s => K s
  | o :: rest, s =>
    match pwant ops s o with
    | some true =>
      match s.callee P o with
      | some (f, args) => callable P f = true ∧ ∃ r, Does P f args s.h r s.h ∧ popsq P ops K rest (s.put o.dst r s.h)
      | none =>
        match popq P s.h o s.ev with
        | some (c, v) => c = true ∧ popsq P ops K rest (s.put o.dst v s.h)
        | none => False
    | some false => popsq P ops K rest (s.put o.dst (.raw undef) s.h)
    | none => False

def ties (e : Edge) : Bool := Region.binds .any e
/-- The operations, as bits, that each one must wait for. -/
def befs : List Oper → List Nat → List Nat
  | [], acc => acc
  | o :: r, acc => befs r (acc ++ [o.after.toList.foldl (fun b e => if ties e then b ||| 2 ^ e.on ||| acc.getD e.on 0 else b) 0])
def looks (ops : Array Oper) (o : Oper) : List Tmp := o.looksAt ops ++ o.dst.toList
def apartOk (ops : Array Oper) (b : List Nat) (i j : Nat) : Bool :=
  match (ops[j]?).bind (·.dst) with
  | none => true
  | some d => !(((ops[i]?).map (looks ops)).getD []).contains d || (if j < i then (b.getD i 0).testBit j else (b.getD j 0).testBit i)
def edgesOk (ops : Array Oper) : Bool := (List.range ops.size).all fun i => ((ops[i]?).map fun o => o.after.toList.all fun e => !ties e || decide (e.on < i)).getD true
def drawOk (ops : Array Oper) (m : Nat) : Bool :=
  let b := befs ops.toList []
  edgesOk ops && decide (m ≤ ops.size) &&
  ((List.range m).all fun i => (List.range m).all fun j => i == j || apartOk ops b i j) &&
  ((List.range ops.size).all fun i => decide (i < m) || (List.range i).all fun j => (b.getD i 0).testBit j)
/-- How many of the operations may come in any order: those behind wait for all ahead of them. -/
def dsplit (ops : Array Oper) : Nat :=
  let b := befs ops.toList []
  (List.range ops.size).foldl (fun m i => if (List.range i).all fun j => (b.getD i 0).testBit j then m else i + 1) 0
def pdraw (P : Program) (ops : Array Oper) (K : PSt → Prop) (s : PSt) : Prop :=
  P.follows .mixedOrders = true ∧ drawOk ops (dsplit ops) = true ∧ popsq P ops (fun s' => pops P ops K (ops.toList.drop (dsplit ops)) s') (ops.toList.take (dsplit ops)) s

section
variable {P : Program} {Z : Bas} {R : Rel} {s : PSt} {a : Act} {w : World}

/-- A new block that is only read from then on. -/
theorem hsim_new {B0 : Nat} {h : Hp} (hs : HSim B0 R h w) {w1 : World} {C : List Value} {vs : Array Value} {e : TypeId}
    (hW : ∀ b, b < w.heap.size → w1.heap[b]? = w.heap[b]?) (hn : w1.heap[w.heap.size]? = some (.cells vs e (0, 0)))
    (hC : ∀ (o : Nat) (v : Value), C[o]? = some v → vs[o]? = some v ∧ v.oneCell' = true) :
    R.Le { R with M := fun b o => if b = w.heap.size then C[o]? else R.M b o } ∧ HSim B0 { R with M := fun b o => if b = w.heap.size then C[o]? else R.M b o } h w1 := by
  have hM : ∀ o, R.M w.heap.size o = none := by
    intro o
    cases hm : R.M w.heap.size o with
    | none => rfl
    | some x => exact absurd (hs.lt hm) (Nat.lt_irrefl _)
  have hle : R.Le { R with M := fun b o => if b = w.heap.size then C[o]? else R.M b o } := by
    refine ⟨fun b o v hm => ?_, fun _ _ hx => hx, fun _ k hk => ⟨k, hk, Nat.le_refl _, fun _ => rfl⟩⟩
    have : b ≠ w.heap.size := by rintro rfl; rw [hM] at hm; cases hm
    simp only [this, if_false]; exact hm
  have k := hs.keep hW
  refine ⟨hle, ⟨hs.hw, hs.lρ, hs.lβ, fun b o v hm => ?_, fun i blk cs hb hc => ?_, hs.boxne, fun r blk sz kk hρ hh h0 => ?_, hs.rowne, hs.boxrow, k.lty, k.ty, k.lrt, k.rt⟩⟩
  · dsimp only at hm
    by_cases hb : b = w.heap.size
    · subst hb
      simp only [if_true] at hm
      obtain ⟨h1, h2⟩ := hC o v hm
      refine ⟨?_, h2⟩
      rw [cell_of_row w1 w.heap.size o vs e (0, 0) hn]; exact h1
    · simp only [hb, if_false] at hm
      exact k.mem b o v hm
  · obtain ⟨a1, a2, vs', e', hh, a3, a4⟩ := k.box i blk cs hb hc
    refine ⟨a1, fun o => ?_, vs', e', hh, a3, fun j v p hj hp => ⟨(a4 j v p hj hp).1.mono hle, (a4 j v p hj hp).2⟩⟩
    have : blk ≠ w.heap.size := Nat.ne_of_lt (hs.boxlt hb)
    simp only [this, if_false]; exact a2 o
  · obtain ⟨a1, a2, a3⟩ := k.row r blk sz kk hρ hh h0
    refine ⟨a1, fun o ho => ?_, a3⟩
    have : blk ≠ w.heap.size := Nat.ne_of_lt (hs.rowlt hρ hh h0)
    simp only [this, if_false]; exact a2 o ho

theorem popv_same {h h' : Hp} {o : Oper} {ev : Operand → PV} {c : Bool} {v : PV} (hp : popv P h o ev = some (c, v, h'))
    (h1 : ∀ t, o.op ≠ .alloc t) (h2 : ∀ t x, o.op ≠ .box t x) (h3 : ∀ t a x, o.op ≠ .store t a x) (h4 : ∀ t n ps, o.op ≠ .buildSlice t n ps) (h5 : ∀ c, o.op = .call c → c.callee ≠ .builtin .append) : h' = h := by
  have cm : ∀ {x : Option (Bool × PV)}, x.map (fun (c, v) => (c, v, h)) = some (c, v, h') → h' = h := by
    intro x hx
    cases x with
    | none => simp at hx
    | some q => obtain ⟨a, b⟩ := q; simp at hx; exact hx.2.2.symm
  have pm : ∀ {x : Option PV}, x.map (fun v => (true, v, h)) = some (c, v, h') → h' = h := by
    intro x hx
    cases x with
    | none => simp at hx
    | some q => simp at hx; exact hx.2.2.symm
  unfold popv at hp
  cases hop : o.op <;> simp only [hop] at hp <;> try (cases hp; done)
  case move => cases hp; rfl
  case assign => cases hp; rfl
  case pick =>
    split at hp
    · split at hp <;> (cases hp; rfl)
    · cases hp
  case alloc => exact absurd hop (h1 _)
  case box => exact absurd hop (h2 _ _)
  case build => exact pm hp
  case buildSlice => exact absurd hop (h4 _ _ _)
  case load => exact pm hp
  case store => exact absurd hop (h3 _ _ _)
  case nilCheck =>
    split at hp
    · cases hp; rfl
    · cases hp; rfl
    · cases hp
  case binOp => exact cm hp
  case unOp => exact cm hp
  case convert => exact cm hp
  case slice => exact cm hp
  case fieldAddr => exact pm hp
  case field => exact pm hp
  case indexAddr => exact cm hp
  case index => exact cm hp
  case extract =>
    split at hp
    · exact pm hp
    · cases hp
  case call c' =>
    split at hp
    · rename_i b e1
      have hb : b ≠ .append := fun e => h5 _ hop (by rw [e1, e])
      unfold pbuiltin at hp
      split at hp
      · exact pm hp
      · exact absurd rfl hb
      · split at hp
        · split at hp
          · cases hp; rfl
          · cases hp
        · cases hp; rfl
        · cases hp
      · split at hp
        · split at hp
          · obtain ⟨l, _, e2⟩ := Option.map_eq_some_iff.1 hp
            simp only [Prod.mk.injEq] at e2
            exact e2.2.2.symm
          · cases hp
        · split at hp
          · cases hp; rfl
          · cases hp
        · cases hp
      · cases hp
    · unfold pnative at hp
      split at hp
      · split at hp
        · cases hp; rfl
        · cases hp
      · cases hp
    · cases hp

theorem popq_sound {B0 : Nat} {h : Hp} (hs : HSim B0 R h w) (hB : B0 ≤ w.heap.size) {ρv : Operand → Value} {ev : Operand → PV} (hev : ∀ x, VR R (ρv x) (ev x)) {o : Oper} {p : PV}
    (hp : popq P h o ev = some (true, p)) : Runs P B0 R w (execOp ρv o) p h := by
  have gen : (popv P h o ev).map (fun x => (x.1, x.2.1)) = some (true, p) → (∀ t, o.op ≠ .alloc t) → (∀ t x, o.op ≠ .box t x) → (∀ t a x, o.op ≠ .store t a x) → (∀ t n ps, o.op ≠ .buildSlice t n ps) → (∀ c, o.op = .call c → c.callee ≠ .builtin .append) →
      Runs P B0 R w (execOp ρv o) p h := by
    intro hx h1 h2 h3 h4 h5
    obtain ⟨⟨c, v, h'⟩, e1, e2⟩ := Option.map_eq_some_iff.1 hx
    simp only [Prod.mk.injEq] at e2
    obtain ⟨rfl, rfl⟩ := e2
    have := popv_same e1 h1 h2 h3 h4 h5
    subst this
    exact popv_sound hs hB hev e1
  unfold popq at hp
  cases hop : o.op <;> simp only [hop] at hp <;> try (cases hp; done)
  case buildSlice t len parts =>
    obtain ⟨⟨c, v, h'⟩, e1, e2⟩ := Option.map_eq_some_iff.1 hp
    simp only [Prod.mk.injEq] at e2
    obtain ⟨rfl, e2⟩ := e2
    unfold popv at e1
    simp only [hop] at e1
    split at e1
    case h_2 => cases e1
    rename_i e hu
    cases hpp : pparts 0 (parts.toList.map fun (i, x) => (i, ev x)) with
    | none => simp [hpp] at e1
    | some es =>
      simp only [hpp, Option.bind_some] at e1
      split at e1
      case isFalse => cases e1
      rename_i hg
      obtain ⟨g1, g2, g3, g4, g5, g6⟩ := hg
      simp only [Option.some.injEq, Prod.mk.injEq, true_and] at e1
      obtain ⟨rfl, rfl⟩ := e1
      subst e2
      obtain ⟨r', f, hrun, hrsz, hes, hat⟩ := buildSlice_core (P := P) (w := w) hev hu hpp g1 g2 g3 g4 g5 g6
      subst g1
      obtain ⟨k1, k2⟩ := hsim_new (w1 := w.alloc (.cells r' e)) hs (C := r'.toList) (vs := r') (e := e) (alloc_old w _) (alloc_new w _)
        (fun q v hq => by
          have hq' : r'[q]? = some v := by simpa using hq
          refine ⟨hq', ?_⟩
          have hql : q < es.length * P.cellsOf e := by rw [← hrsz]; exact (Array.getElem?_eq_some_iff.1 hq').1
          obtain ⟨d1, d2, d3⟩ := div_mod_lt hql
          have hi := List.getElem?_eq_getElem d1
          have hj := List.getElem?_eq_getElem (l := es[q / P.cellsOf e].cells) (i := q % P.cellsOf e) (by rw [(hes _ (List.mem_of_getElem? hi)).2]; exact d2)
          obtain ⟨a1, a2, a3⟩ := hat _ _ _ _ hi hj
          rw [d3, hq'] at a1
          rw [Option.some.inj a1]
          exact a2.oneCell a3)
      refine ⟨.value (.slice (some ⟨w.heap.size, 0, none⟩) es.length es.length), .slice (some ⟨w.heap.size, 0, none⟩) es.length es.length, _, by unfold execOp; simp only [hop, Sem.run_bind, hrun, Result.andThen_ok, Sem.run_pure], .inl rfl, _, k1, ?_, k2, (Below.refl _ _).alloc hB _, fun b o x hx => ?_⟩
      · refine .sl none false (some es.length) (P.cellsOf e) es _ es.length w.heap.size 0 f (Nat.le_refl _) (fun k hk => by cases hk; rfl) (fun hh => by cases hh) (fun _ => .inl rfl)
          (fun i q hi => (hes _ (List.mem_of_getElem? hi)).2) (fun i q j p hi hj => ?_) (fun i q j p hi hj => (hat i j q p hi hj).2.1.mono k1) (fun x hx => by cases hx)
        simp only [Nat.zero_add, if_true]
        have := (hat i j q p hi hj).1
        simpa using this
      · dsimp only at hx
        by_cases hb : b = w.heap.size
        · right; omega
        · left; simpa only [hb, if_false] using hx
  case call c =>
    split at hp
    · cases hp
    · rename_i hne
      exact gen hp (by simp [hop]) (by simp [hop]) (by simp [hop]) (by simp [hop]) (fun c' hc' => by rw [hop] at hc'; cases hc'; exact hne)
  all_goals exact gen hp (by simp [hop]) (by simp [hop]) (by simp [hop]) (by simp [hop]) (by simp [hop])

end
end Pm
end Go.Proofs.Ytacccimihgailaa
