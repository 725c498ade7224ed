/- Conversions and literals. -/
import Derived.Test.YtacccimihgailaaPmi
import Derived.Lib.Builder
set_option linter.unusedVariables false
set_option linter.unusedSimpArgs false
namespace Go.Proofs.Ytacccimihgailaa
namespace Pm
open Go.RowKit
section
variable {P : Program} {B0 : Nat} {R : Rel} {h : Hp} {w : World}

theorem bytes_some : ∀ {ps : List PV} {l : List UInt8}, bytes? ps = some l → ∃ xs : List Int, ps = xs.map (PV.int .u8) ∧ l = xs.map (fun n => n.toNat.toUInt8)
  | [], l, h => by simp [bytes?] at h; subst h; exact ⟨[], rfl, rfl⟩
  | p :: ps, l, h => by
    unfold bytes? at h
    cases hb : p.byte? with
    | none => simp [hb] at h
    | some x =>
      cases hr : bytes? ps with
      | none => simp [hb, hr] at h
      | some r =>
        simp [hb, hr] at h
        obtain ⟨xs, rfl, rfl⟩ := bytes_some hr
        cases p with
        | int k n =>
          cases k <;> simp [PV.byte?] at hb
          exact ⟨n :: xs, rfl, by rw [← h, ← hb]; rfl⟩
        | _ => simp [PV.byte?] at hb

theorem info_of_size {e : TypeId} (h : 0 < P.cellsOf e) : ∃ j, P.info? e = some j ∧ j.size ≠ 0 := by
  unfold Program.cellsOf at h
  cases hi : P.info? e with
  | none => simp [hi] at h
  | some j => exact ⟨j, rfl, by simp [hi] at h; omega⟩
theorem box_shape (hs : HSim B0 R h w) {b blk : Nat} {e : TypeId} (hβ : R.β[b]? = some blk) (ht : h.ty[b]? = some e) (hl : (h.bx[b]?).map List.length = some (P.cellsOf e)) :
    True ∧ w.shape? blk = some (e, P.cellsOf e) := by
  obtain ⟨cs, hc, hl⟩ := Option.map_eq_some_iff.1 hl
  obtain ⟨_, _, vs, e', hh, hsz, _⟩ := hs.box b blk cs hβ hc
  obtain ⟨us, hh'⟩ := hs.ty b blk e hβ ht
  rw [hh] at hh'
  cases hh'
  refine ⟨trivial, ?_⟩
  simp [World.shape?, hh, hsz, hl]
theorem pconv_sound (hs : HSim B0 R h w) {src dst : TypeId} {v : Value} {x p : PV} (hv : VR R v x) (hp : pconv P src dst h x = some (true, p)) :
    ∃ u, (convert src dst v).run P w = .ok u w ∧ VR R u p := by
  unfold pconv at hp
  split at hp
  · rename_i d k k' n hs' hd
    cases hp
    cases hv
    refine ⟨.int k (k.wrap n), ?_, .int _ _⟩
    have e1 : P.intKind dst = k := by simp [Program.intKind, hd]
    have := run_convert_int (P := P) w src dst k' n (by simp [hs']) (by rw [e1]; exact hd)
    rwa [e1] at this
  · rename_i d l hs' hd
    cases hp
    cases hv
    refine ⟨.string ⟨l.toArray⟩, ?_, .str _⟩
    simp [convert, run_underlying hs', run_underlying hd]
  · rename_i e b o len cap hs' hd
    split at hp
    case h_2 => cases hp
    rename_i cs he hc
    cases hb : bytes? ((cs.drop o).take len) with
    | none => simp [hb] at hp
    | some l =>
      simp only [hb, Option.bind_some] at hp
      split at hp
      case isFalse => cases hp
      rename_i hl
      cases hp
      obtain ⟨xs, e1, rfl⟩ := bytes_some hb
      cases hv with
      | bsl _ blk _ _ _ hβ =>
        obtain ⟨_, _, vs, e', hh, hsz, hvs⟩ := hs.box b blk cs hβ hc
        have hxl : xs.length = len := by simpa using hl
        have := run_convert_bytes_arg (P := P) w src e hs' he blk o len cap xs hxl (fun i hi => by
          have h1 : ((cs.drop o).take len)[i]? = some (.int .u8 (xs.getD i 0)) := by
            rw [e1, List.getElem?_map, List.getElem?_eq_getElem (by omega)]; simp [List.getD, List.getElem?_eq_getElem (show i < xs.length by omega)]
          rw [List.getElem?_take, if_pos hi, List.getElem?_drop] at h1
          have hlt := (List.getElem?_eq_some_iff.1 h1).1
          have h2 : vs[o + i]? = some vs[o + i] := Array.getElem?_eq_getElem (by omega)
          have h3 := (hvs _ _ _ h2 h1).1
          rw [cell_of_row w blk (o + i) vs e' (0, 0) hh, h2]
          cases hx : vs[o + i]'(by omega) <;> rw [hx] at h3 <;> cases h3
          rfl) dst hd
        exact ⟨_, this, .str _⟩
  · rename_i e tok nl cap z es hs' hd
    split at hp
    case h_2 => cases hp
    rename_i he
    split at hp
    case isFalse => cases hp
    rename_i hz
    cases hb : bytes? es with
    | none => simp [hb] at hp
    | some l =>
      simp only [hb, Option.map_some, Option.some.injEq, Prod.mk.injEq, true_and] at hp
      subst hp
      obtain ⟨xs, rfl, rfl⟩ := bytes_some hb
      cases hv with
      | sl _ _ _ _ _ A c blk o f hc hcap hn ha hz' hm hvs ht =>
        cases nl with
        | true =>
          obtain ⟨rfl, e2, rfl⟩ := hn rfl
          have : xs = [] := by simpa using e2
          subst this
          exact ⟨_, run_convert_bytes_nil w src e hs' he _ _ dst hd, .str []⟩
        | false =>
          rcases ha rfl with hA1 | ⟨e2, rfl⟩
          case inr =>
            have : xs = [] := by simpa using e2
            subst this
            refine ⟨.string ByteArray.empty, ?_, .str []⟩
            show (convert src dst (.slice A 0 0)).run P w = _
            rw [run_convert_bytes_string w src dst e _ 0 0 hs' he hd]
            cases A <;> simp [Conv.bytesToString, loadCells]
            all_goals rfl
          obtain rfl := hA1
          refine ⟨_, run_convert_bytes_arg (P := P) w src e hs' he blk o _ c xs (by simp) (fun i hi => ?_) dst hd, .str _⟩
          simp only [List.length_map] at hi
          have h1 : (xs.map (PV.int .u8))[i]? = some (.int .u8 (xs.getD i 0)) := by
            rw [List.getElem?_map, List.getElem?_eq_getElem hi]; simp [List.getD, List.getElem?_eq_getElem hi]
          have hz1 : z = 1 := by have := hz' _ _ h1; simpa [PV.cells] using this.symm
          subst hz1
          have h2 := hm i _ 0 (.int .u8 (xs.getD i 0)) h1 (by simp [PV.cells])
          have h3 := hvs i _ 0 (.int .u8 (xs.getD i 0)) h1 (by simp [PV.cells])
          have h4 := (hs.mem _ _ _ h2).1
          simp only [Nat.mul_one, Nat.add_zero] at h4
          rw [h4]
          cases hx : f i 0 <;> rw [hx] at h3 <;> cases h3
          rfl
  · rename_i e b hs' hd
    split at hp
    case isFalse => cases hp
    rename_i hg
    obtain ⟨g1, g2, g3⟩ := hg
    cases hp
    cases hv with
    | ptr _ blk _ hβ =>
    obtain ⟨n, hsh⟩ := box_shape hs hβ g1 g3
    obtain ⟨j, hj, hj0⟩ := info_of_size g2
    exact ⟨_, Lib.run_to_unsafe (P := P) w ⟨blk, 0, none⟩ hs' hd hj hj0 hsh g2, .ptr _ _ _ hβ⟩
  · rename_i e b hs' hd
    split at hp
    case isFalse => cases hp
    rename_i hg
    obtain ⟨g1, g3, g4, g5⟩ := hg
    cases hp
    cases hv with
    | ptr _ blk _ hβ =>
    obtain ⟨n, hsh⟩ := box_shape hs hβ g1 g3
    obtain ⟨j, hj⟩ := Option.isSome_iff_exists.1 g5
    exact ⟨_, Lib.run_from_unsafe (P := P) w ⟨blk, 0, none⟩ hs' hd hj hsh g4, .ptr _ _ _ hβ⟩
  · cases hp

theorem splice_get {cs new : List PV} {o j : Nat} (ho : o + new.length ≤ cs.length) : (splice cs o new)[j]? = if o ≤ j ∧ j < o + new.length then new[j - o]? else cs[j]? := by
  unfold splice
  by_cases c1 : j < o
  · rw [List.append_assoc, List.getElem?_append_left (by simp; omega), List.getElem?_take, if_pos c1, if_neg (by omega)]
  · by_cases c2 : j < o + new.length
    · rw [List.append_assoc, List.getElem?_append_right (by simp; omega), List.getElem?_append_left (by simp; omega), if_pos ⟨by omega, c2⟩]
      simp only [List.length_take]
      rw [Nat.min_eq_left (by omega)]
    · rw [List.getElem?_append_right (by simp; omega), List.getElem?_drop, if_neg (by omega)]
      simp only [List.length_append, List.length_take]
      rw [Nat.min_eq_left (by omega)]
      congr 1; omega

/-- Parts go in on both sides. -/
theorem fill_sound (place : Nat → Option (Nat × Nat)) : ∀ (parts : List (Nat × PV)) (vparts : List (Nat × Value)) (cs cs' : List PV) (vs : Array Value),
    vparts.length = parts.length → (∀ (k : Nat) (x : Nat × Value) (y : Nat × PV), vparts[k]? = some x → parts[k]? = some y → x.1 = y.1 ∧ VR R x.2 y.2) →
    vs.size = cs.length → (∀ (j : Nat) (v : Value) (p : PV), vs[j]? = some v → cs[j]? = some p → VR R v p) → pfill place cs parts = some cs' →
    ∃ vs', Instr.fill place vs vparts = some vs' ∧ vs'.size = cs'.length ∧ ∀ (j : Nat) (v : Value) (p : PV), vs'[j]? = some v → cs'[j]? = some p → VR R v p
  | [], vparts, cs, cs', vs, hl, _, hsz, hv, hp => by
    have : vparts = [] := List.eq_nil_of_length_eq_zero (by simpa using hl)
    subst this
    simp only [pfill, Option.some.injEq] at hp
    subst hp
    exact ⟨vs, rfl, hsz, hv⟩
  | (i, p) :: parts, vparts, cs, cs', vs, hl, hvp, hsz, hv, hp => by
    obtain ⟨⟨i', v⟩, vr, rfl⟩ : ∃ x r, vparts = x :: r := by
      cases vparts with
      | nil => simp at hl
      | cons x r => exact ⟨x, r, rfl⟩
    obtain ⟨e1, hv1⟩ := hvp 0 _ _ rfl rfl
    simp only at e1 hv1
    subst e1
    unfold pfill at hp
    split at hp
    case h_1 => cases hp
    rename_i off size hpl
    split at hp
    case isFalse => cases hp
    rename_i hg
    obtain ⟨hf, hcl, hle⟩ := hg
    obtain ⟨c1, c2⟩ := hv1.cells hf
    obtain ⟨g1, g2⟩ := Go.Great.foldl_set off v.cells.toList 0 vs
    obtain ⟨vs', h1, h2, h3⟩ := fill_sound place parts vr (splice cs off p.cells) cs' ((v.cells.toList.zipIdx 0).foldl (fun cs (x : Value × Nat) => cs.setIfInBounds (off + x.2) x.1) vs)
      (by simpa using hl) (fun k x y hx hy => hvp (k + 1) x y (by simpa using hx) (by simpa using hy)) (by rw [g1, splice_length (by omega)]; exact hsz) (fun j u q hj hq => by
        rw [g2 j] at hj
        rw [splice_get (by omega)] at hq
        by_cases hin : off ≤ j ∧ j < off + p.cells.length
        · rw [if_pos (by simp; omega)] at hj
          rw [if_pos hin] at hq
          exact (c2 (j - off) u q (by simpa using hj) hq).1
        · rw [if_neg (by simp; omega)] at hj
          rw [if_neg hin] at hq
          exact hv j u q hj hq) hp
    refine ⟨vs', ?_, h2, h3⟩
    rw [← h1]
    conv => lhs; unfold Instr.fill
    simp only [hpl]
    rw [if_neg (by simp; omega)]
    congr 1
    rw [← Array.foldl_toList]
    simp

theorem pbuild_sound {t : TypeId} {parts : Array (Nat × Operand)} {ρv : Operand → Value} {ev : Operand → PV} (hev : ∀ x, VR R (ρv x) (ev x)) {p : PV}
    (hp : pbuild P t (parts.toList.map fun (i, x) => (i, ev x)) = some p) : ∃ u, (Instr.build t (parts.map fun (i, x) => (i, ρv x))).run P w = .ok u w ∧ VR R u p := by
  unfold pbuild at hp
  split at hp
  case h_2 => cases hp
  rename_i place z hpl hz
  split at hp
  case isFalse => cases hp
  rename_i hzf
  obtain ⟨cs', hcs, rfl⟩ := Option.map_eq_some_iff.1 hp
  unfold pzero at hz
  obtain ⟨zv, hzv, rfl⟩ := Option.map_eq_some_iff.1 hz
  obtain ⟨it, hit, hzv⟩ := Option.bind_eq_some_iff.1 hzv
  obtain ⟨c1, c2⟩ := (VR.lift R zv).cells hzf
  obtain ⟨vs', h1, h2, h3⟩ := fill_sound (R := R) place _ ((parts.map fun (i, x) => (i, ρv x)).toList) _ cs' zv.cells (by simp) (fun k x y hx hy => by
    simp only [Array.toList_map, List.getElem?_map] at hx hy
    cases hk : parts.toList[k]? with
    | none => simp [hk] at hx
    | some q =>
      simp [hk] at hx hy
      subst hx; subst hy
      exact ⟨rfl, hev _⟩) c1 (fun j v p a b => (c2 j v p a b).1) hcs
  have hb : P.built t (parts.map fun (i, x) => (i, ρv x)).toList = some vs' := by
    unfold pplaces at hpl
    split at hpl
    · rename_i fields hu
      split at hpl
      case isFalse => cases hpl
      rename_i hall
      cases hpl
      have hm : ∀ fs : List Field, fs.all (fun f => (P.info? f.type).isSome) = true → fs.mapM (fun f => (P.info? f.type).map fun i => (f.offset, i.size)) = some (fs.map fun f => (f.offset, P.cellsOf f.type)) := by
        intro fs
        induction fs with
        | nil => intro _; rfl
        | cons f fs ih =>
          intro ha
          simp only [List.all_cons, Bool.and_eq_true] at ha
          obtain ⟨i, hi⟩ := Option.isSome_iff_exists.1 ha.1
          rw [List.mapM_cons, ih ha.2]
          simp [hi, Program.cellsOf]
      simp only [Program.built, hit, hu, hzv, hm _ hall]
      rw [← h1]
      congr 1
      funext i
      simp
    · rename_i n e hu
      split at hpl
      case isFalse => cases hpl
      rename_i hie
      cases hpl
      obtain ⟨ie, hie⟩ := Option.isSome_iff_exists.1 hie
      simp only [Program.built, hit, hu, hzv, hie]
      rw [← h1]
      congr 1
      funext i
      simp [Program.cellsOf, hie]
    · cases hpl
  refine ⟨.agg vs', run_build (P := P) w t _ vs' hb, ?_⟩
  have := VR.agg (R := R) vs'.toList cs' (by simpa using h2) (fun j v p a b => h3 j v p (by simpa using a) b)
  simpa using this

theorem pparts_spec : ∀ {i : Nat} {parts : List (Nat × PV)} {es : List PV}, pparts i parts = some es → parts = (es.zipIdx i).map fun x => (x.2, x.1)
  | i, [], es, h => by simp [pparts] at h; subst h; rfl
  | i, (j, p) :: r, es, h => by
    unfold pparts at h
    split at h
    · rename_i hj
      subst hj
      obtain ⟨es', h', rfl⟩ := Option.map_eq_some_iff.1 h
      rw [pparts_spec h']
      rfl
    · cases h

theorem buildSlice_core {t e : TypeId} {len : Nat} {parts : Array (Nat × Operand)} {ρv : Operand → Value} {ev : Operand → PV} (hev : ∀ x, VR R (ρv x) (ev x)) {es : List PV}
    (hu : P.underlying t = some (.slice e)) (hp : pparts 0 (parts.toList.map fun (i, x) => (i, ev x)) = some es) (hl : es.length = len) (hl1 : len ≤ 65536) (hc0 : 0 < P.cellsOf e) (hc1 : P.cellsOf e ≤ 256)
    (hz : (pzero P e).isSome = true) (hall : es.all (fun p => p.flat && p.cells.length == P.cellsOf e) = true) :
    ∃ (r' : Array Value) (f : Nat → Nat → Value), (Instr.buildSlice t len (parts.map fun (i, x) => (i, ρv x))).run P w = .ok (.slice (some ⟨w.heap.size, 0, none⟩) len len) (w.alloc (.cells r' e)) ∧
      r'.size = len * P.cellsOf e ∧ (∀ p ∈ es, p.flat = true ∧ p.cells.length = P.cellsOf e) ∧
      ∀ (i j : Nat) (q : PV) (p : PV), es[i]? = some q → q.cells[j]? = some p → r'[i * P.cellsOf e + j]? = some (f i j) ∧ VR R (f i j) p ∧ p.isCell = true := by
  subst hl
  have hspec := pparts_spec hp
  have hes : ∀ p ∈ es, p.flat = true ∧ p.cells.length = P.cellsOf e := by
    intro p hp
    have := List.all_eq_true.1 hall p hp
    simpa using this
  -- the values
  obtain ⟨vals, hvals⟩ : ∃ vals : List Value, vals = parts.toList.map fun x => ρv x.2 := ⟨_, rfl⟩
  have hlen : parts.toList.length = es.length := by
    have := congrArg List.length hspec
    simpa using this
  have hvl : vals.length = es.length := by rw [hvals, List.length_map, hlen]
  have hget : ∀ (k : Nat) (v : Value) (p : PV), vals[k]? = some v → es[k]? = some p → VR R v p := by
    intro k v p h1 h2
    rw [hvals, List.getElem?_map] at h1
    cases hk : parts.toList[k]? with
    | none => simp [hk] at h1
    | some q =>
      simp [hk] at h1
      subst h1
      have h3 := congrArg (fun l => l[k]?) hspec
      simp only [List.getElem?_map, hk, Option.map_some, List.getElem?_zipIdx, h2, Option.some.injEq, Prod.mk.injEq] at h3
      rw [← h3.2]; exact hev _
  have hvp : (parts.map fun (i, x) => (i, ρv x)).toList = (vals.zipIdx 0).map fun x => (x.2, x.1) := by
    apply List.ext_getElem?
    intro k
    simp only [Array.toList_map, List.getElem?_map, List.getElem?_zipIdx, hvals]
    cases hk : parts.toList[k]? with
    | none => simp
    | some q =>
      have hlt := (List.getElem?_eq_some_iff.1 hk).1
      have h3 := congrArg (fun l => l[k]?) hspec
      simp only [List.getElem?_map, hk, Option.map_some, List.getElem?_zipIdx, List.getElem?_eq_getElem (show k < es.length by omega), Option.some.injEq, Prod.mk.injEq] at h3
      simp [h3.1]
  have hsz : ∀ v ∈ vals, v.cells.size = P.cellsOf e := by
    intro v hv
    obtain ⟨k, hk⟩ := List.mem_iff_getElem?.1 hv
    have hlt := (List.getElem?_eq_some_iff.1 hk).1
    have h2 := List.getElem?_eq_getElem (l := es) (i := k) (by omega)
    obtain ⟨f1, f2⟩ := hes _ (List.mem_of_getElem? h2)
    rw [((hget k v _ hk h2).cells f1).1]; exact f2
  obtain ⟨zq, hzq⟩ := Option.isSome_iff_exists.1 hz
  unfold pzero at hzq
  obtain ⟨zv, hzv, _⟩ := Option.map_eq_some_iff.1 hzq
  obtain ⟨ie, hie, hzv⟩ := Option.bind_eq_some_iff.1 hzv
  have hies : ie.size = P.cellsOf e := by simp [Program.cellsOf, hie]
  have hpow : (2 : Nat) ^ 24 = 16777216 := by decide
  have hsmall : ¬ es.length * ie.size > 2 ^ 24 := by
    rw [hies, hpow]
    have : es.length * P.cellsOf e ≤ 65536 * 256 := Nat.mul_le_mul hl1 hc1
    omega
  obtain ⟨cells0, hcells0, hc0s⟩ : ∃ c0 : Array Value, c0.size = es.length * P.cellsOf e ∧ ∃ r, (Instr.buildSlice t es.length (parts.map fun (i, x) => (i, ρv x))).run P w = .ok (.slice (some ⟨w.heap.size, 0, none⟩) es.length es.length) (w.alloc (.cells r e)) ∧
      Instr.fill (fun i => some (i * P.cellsOf e, P.cellsOf e)) c0 ((vals.zipIdx 0).map fun x => (x.2, x.1)) = some r := by
    obtain ⟨r0, hr0, _⟩ := Go.Great.fill_dense hc0 vals 0 ((Array.range (es.length * P.cellsOf e)).map ((if es.length * P.cellsOf e = 0 then #[] else zv.cells)[· % (if es.length * P.cellsOf e = 0 then #[] else zv.cells).size]!)) hsz (by simp [hvl])
    refine ⟨_, by simp, r0, ?_, hr0⟩
    by_cases h0 : es.length * P.cellsOf e = 0
    · simp only [h0, if_true] at hr0
      rw [← hvp] at hr0
      simp only [Instr.buildSlice, Sem.run_bind, run_underlying hu, Result.andThen_ok, sizeOf_run hie, h0, if_true, Sem.run_pure, Sem.run_ite]
      rw [if_neg (by rw [hpow]; omega)]
      simp only [Sem.run_bind, Sem.run_pure, Result.andThen_ok, hr0, newRow, run_newObj]
      rfl
    · simp only [h0, if_false] at hr0
      rw [← hvp] at hr0
      exact Go.run_buildSlice (P := P) w t e es.length _ r0 ie zv hu hie hzv hsmall (by rw [hies]; exact h0) (by rw [hies]; exact hr0)
  obtain ⟨r, hrun, hfill⟩ := hc0s
  obtain ⟨r', hr', hrs, hrk⟩ := Go.Great.fill_dense hc0 vals 0 cells0 hsz (by rw [hcells0, hvl, Nat.zero_add]; exact Nat.le_refl _)
  have hrr : r' = r := by rw [hfill] at hr'; exact (Option.some.inj hr').symm
  subst hrr
  have hrsz : r'.size = es.length * P.cellsOf e := by rw [hrs, hcells0]
  have hat : ∀ (i j : Nat) (q : PV) (p : PV), es[i]? = some q → q.cells[j]? = some p → r'[i * P.cellsOf e + j]? = some ((vals.getD i undef).cells.getD j undef) ∧ VR R ((vals.getD i undef).cells.getD j undef) p ∧ p.isCell = true := by
    intro i j q p hi hj
    have hlt := (List.getElem?_eq_some_iff.1 hi).1
    have hjl := (List.getElem?_eq_some_iff.1 hj).1
    obtain ⟨f1, f2⟩ := hes _ (List.mem_of_getElem? hi)
    rw [f2] at hjl
    have hv := List.getElem?_eq_getElem (l := vals) (i := i) (by omega)
    obtain ⟨d1, d2⟩ := (hget i _ q hv hi).cells f1
    have hvg : vals.getD i undef = vals[i] := by simp [List.getD, hv]
    rw [hvg]
    have hcj : vals[i].cells[j]? = some (vals[i].cells.getD j undef) := by
      simp [Array.getD, show j < vals[i].cells.size by omega]
    have hq : i * P.cellsOf e + j < es.length * P.cellsOf e := by
      calc i * P.cellsOf e + j < i * P.cellsOf e + P.cellsOf e := by omega
        _ = (i + 1) * P.cellsOf e := by rw [Nat.add_mul]; omega
        _ ≤ es.length * P.cellsOf e := Nat.mul_le_mul_right _ hlt
    refine ⟨?_, d2 j _ p hcj hj⟩
    rw [hrk, if_pos ⟨by simp, by rw [hvl, Nat.zero_add]; exact hq⟩]
    have e1 : (i * P.cellsOf e + j) / P.cellsOf e - 0 = i := by rw [Nat.sub_zero, Nat.mul_comm, Nat.mul_add_div (by omega), Nat.div_eq_of_lt hjl, Nat.add_zero]
    have e2 : (i * P.cellsOf e + j) % P.cellsOf e = j := by rw [Nat.mul_comm, Nat.mul_add_mod, Nat.mod_eq_of_lt hjl]
    rw [e1, e2, hv]
    exact hcj
  exact ⟨r', fun i j => (vals.getD i undef).cells.getD j undef, hrun, hrsz, hes, hat⟩

theorem buildSlice_sound (hs : HSim B0 R h w) (hB : B0 ≤ w.heap.size) {t e : TypeId} {len : Nat} {parts : Array (Nat × Operand)} {ρv : Operand → Value} {ev : Operand → PV} (hev : ∀ x, VR R (ρv x) (ev x)) {es : List PV}
    (hu : P.underlying t = some (.slice e)) (hp : pparts 0 (parts.toList.map fun (i, x) => (i, ev x)) = some es) (hl : es.length = len) (hl1 : len ≤ 65536) (hc0 : 0 < P.cellsOf e) (hc1 : P.cellsOf e ≤ 256)
    (hz : (pzero P e).isSome = true) (hall : es.all (fun p => p.flat && p.cells.length == P.cellsOf e) = true) :
    ∃ v w', (Instr.buildSlice t len (parts.map fun (i, x) => (i, ρv x))).run P w = .ok v w' ∧
      Good B0 R w v (.sl (some h.hw.length) false (some len) (P.cellsOf e) es) { h with hw := h.hw ++ [len * P.cellsOf e], rt := h.rt ++ [e] } w' := by
  obtain ⟨r', f, hrun, hrsz, hes, hat⟩ := buildSlice_core (P := P) (w := w) hev hu hp hl hl1 hc0 hc1 hz hall
  subst hl
  have hRh : R.hw = h.hw := hs.hw
  obtain ⟨g1, g2⟩ := hsim_row (w1 := w.alloc (.cells r' e)) hs hB (C := r'.toList) (vs := r') (e := e) (alloc_old w _) (alloc_new w _)
    (fun q v hq => by
      have hq' : r'[q]? = some v := by simpa using hq
      refine ⟨hq', ?_⟩
      have hql : q < es.length * P.cellsOf e := by rw [← hrsz]; exact (Array.getElem?_eq_some_iff.1 hq').1
      obtain ⟨d1, d2, d3⟩ := div_mod_lt hql
      have hi := List.getElem?_eq_getElem d1
      have hj := List.getElem?_eq_getElem (l := es[q / P.cellsOf e].cells) (i := q % P.cellsOf e) (by rw [(hes _ (List.mem_of_getElem? hi)).2]; exact d2)
      obtain ⟨a1, a2, a3⟩ := hat _ _ _ _ hi hj
      rw [d3, hq'] at a1
      rw [Option.some.inj a1]
      exact a2.oneCell a3) (by simp) (r := h.hw.length) (ρ' := R.ρ ++ [(w.heap.size, r'.size)]) (hw' := h.hw ++ [es.length * P.cellsOf e]) (by simp [hs.lρ])
    (fun x hx => by
      constructor
      · rcases Nat.lt_or_ge x R.ρ.length with q | q
        · exact List.getElem?_append_left q
        · rw [List.getElem?_eq_none (by simp [hs.lρ] at q ⊢; omega), List.getElem?_eq_none q]
      · rw [hRh]
        rcases Nat.lt_or_ge x h.hw.length with q | q
        · exact List.getElem?_append_left q
        · rw [List.getElem?_eq_none (by simp; omega), List.getElem?_eq_none q])
    (by rw [← hs.lρ]; simp) (by simp [hrsz]) (fun k2 hk2 => by rw [hRh, List.getElem?_eq_none (by omega)] at hk2; cases hk2)
    (rt' := h.rt ++ [e]) (by simp [hs.lrt]) (fun r' hr' => by
      rcases Nat.lt_or_ge r' h.rt.length with q | q
      · exact List.getElem?_append_left q
      · rw [List.getElem?_eq_none (by have := hs.lrt; simp; omega), List.getElem?_eq_none q]) (by rw [← hs.lrt]; simp)
  refine ⟨_, _, hrun, _, g1, ?_, g2, (Below.refl _ _).alloc hB _, fun b o x hx => ?_⟩
  · refine .sl (some h.hw.length) false (some es.length) (P.cellsOf e) es _ es.length w.heap.size 0 f (Nat.le_refl _) (fun k hk => by cases hk; rfl) (fun hh => by cases hh) (fun _ => .inl rfl)
      (fun i q hi => (hes _ (List.mem_of_getElem? hi)).2) (fun i q j p hi hj => ?_) (fun i q j p hi hj => (hat i j q p hi hj).2.1.mono g1) (fun x hx => ?_)
    · simp only [Nat.zero_add, if_true]
      have := (hat i j q p hi hj).1
      simpa using this
    · cases hx
      refine ⟨es.length * P.cellsOf e, by simp, Nat.le_refl _, fun _ => ?_⟩
      rcases Nat.eq_zero_or_pos (es.length * P.cellsOf e) with h0 | h0
      · exact .inl ⟨h0, h0⟩
      · exact .inr ⟨h0, rfl, rfl, r'.size, by simp [← hs.lρ], by rw [hrsz]; exact Nat.le_refl _⟩
  · dsimp only at hx
    by_cases hb : b = w.heap.size
    · right; omega
    · left; simpa only [hb, if_false] using hx

end
end Pm
end Go.Proofs.Ytacccimihgailaa
