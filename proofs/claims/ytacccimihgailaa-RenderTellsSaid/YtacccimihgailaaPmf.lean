/- append, as a whole. -/
import Derived.Test.YtacccimihgailaaPme
import Derived.Lib.UnsafeStr
set_option linter.unusedVariables false
set_option linter.unusedSimpArgs false
namespace Go.Proofs.Ytacccimihgailaa
namespace Pm
open Go.RowKit
section
variable {P : Program} {B0 : Nat} {R : Rel} {h : Hp} {w : World}

theorem drew_alloc_old (w : World) (o : Obj) : ∀ b, b < w.heap.size → (w.drew.alloc o).heap[b]? = w.heap[b]? := fun b hb => alloc_old w.drew o b hb
theorem drew_alloc_new (w : World) (o : Obj) : (w.drew.alloc o).heap[w.heap.size]? = some o := alloc_new w.drew o
theorem drew_alloc_below (w : World) (o : Obj) (hB : B0 ≤ w.heap.size) : Below B0 w (w.drew.alloc o) :=
  ((Below.refl B0 w).drew).alloc hB o

theorem head_oneCell (hs : HSim B0 R h w) {es : List PV} {blk o z : Nat} {f : Nat → Nat → Value} (hz : ∀ (i : Nat) (e : PV), es[i]? = some e → e.cells.length = z)
    (hm : ∀ (i : Nat) (e : PV) (j : Nat) (p : PV), es[i]? = some e → e.cells[j]? = some p → R.M blk (o + i * z + j) = some (f i j)) : ∀ v ∈ flatCells f es.length z, v.oneCell' = true := by
  intro v hv
  obtain ⟨q, hq⟩ := List.mem_iff_getElem?.1 hv
  exact (hs.mem _ _ _ (sl_cells hz hm q v hq)).2

/-- Something is appended, and a new block is made. -/
theorem append_grows (hs : HSim B0 R h w) (hB : B0 ≤ w.heap.size) {t t' ty e : TypeId} {i : TypeInfo} {zv : Value} (ht : P.underlying t = some (.slice e)) (hi : P.info? e = some i) (hzv : i.zero = some zv)
    {A : Option Addr} {n c z : Nat} (olds : List Value) (holds : olds.length = n * z) (hA : 0 < n → ∃ b : Addr, A = some b ∧ ∀ j v, olds[j]? = some v → w.cell? (b.add j) = some v) (hAn : A = none → n = 0 ∧ c = 0) (ho1 : ∀ v ∈ olds, v.oneCell' = true)
    (hsz : i.size = z) (hzc : zv.cells.size = z) (hz0 : 0 < z) {x : Value} {m : Nat} {news : List Value} (hx : Src P w e t' x i.size m news) (hm0 : 0 < m)
    (hg : c < n + m) (hby : (n + m) * P.bytesOf e ≤ lim) (hb0 : 0 < P.bytesOf e)
    {r : Nat} {ρ' : Nat → List (Nat × Nat)} {hw' : List Nat} (hl1 : ∀ s, (ρ' s).length = hw'.length) (hl2 : ∀ s (r' : Nat), r' ≠ r → (ρ' s)[r']? = R.ρ[r']? ∧ hw'[r']? = R.hw[r']?)
    (hr1 : ∀ s, (ρ' s)[r]? = some (w.heap.size, s)) (hr2 : hw'[r]? = some ((n + m) * z)) (hlt : ∀ k, R.hw[r]? = some k → k < (n + m) * z)
    {rt' : List TypeId} (hl3 : rt'.length = hw'.length) (hl4 : ∀ (r' : Nat), r' ≠ r → rt'[r']? = h.rt[r']?) (hr3 : rt'[r]? = some e) :
    ∃ w' c' R', (Builtin.append_ #[t, t'] ty #[.slice A n c, x]).run P w = .ok (.slice (some ⟨w.heap.size, 0, none⟩) (n + m) c') w' ∧
      R.Le R' ∧ HSim B0 R' { h with hw := hw', rt := rt' } w' ∧ Below B0 w w' ∧ n + m ≤ c' ∧ R'.hw = hw' ∧ (∃ sz, R'.ρ[r]? = some (w.heap.size, sz) ∧ c' * z ≤ sz) ∧
      (∀ q v, (olds ++ news)[q]? = some v → R'.M w.heap.size q = some v) ∧ (∀ (b o : Nat) (x : Value), R'.M b o = some x → R.M b o = some x ∨ B0 ≤ b) := by
  have hl : news.length = m * z := by rw [hx.n, hsz]
  have hn1 := hx.one
  have hbe : P.bytesOf e = i.bytes := by simp [Program.bytesOf, hi]
  rw [hbe] at hby hb0
  have hmle : n + m ≤ 70368744177664 := Nat.le_trans (Nat.le_mul_of_pos_right _ hb0) hby
  have hcap : Builtin.nextslicecap (n + m) c * i.bytes ≤ 281474976710656 := by
    have := nextslicecap_le hg
    calc Builtin.nextslicecap (n + m) c * i.bytes ≤ 2 * (n + m) * i.bytes := Nat.mul_le_mul_right _ this
      _ = 2 * ((n + m) * i.bytes) := by rw [Nat.mul_assoc]
      _ ≤ 281474976710656 := by unfold lim at hby; omega
  have hrun : (Builtin.append_ #[t, t'] ty #[.slice A n c, x]).run P w = .ok (.slice (some ⟨w.heap.size, 0, none⟩) (n + m) (grownCap w (n + m) c e))
      (w.drew.alloc (.cells (olds.toArray ++ news.toArray ++ Builtin.zeroCells zv.cells (grownCap w (n + m) c e - (n + m))) e)) := by
    refine append_new t t' ty e i zv ht hi hzv A n c olds (by rw [holds, hsz]) (fun b hA' j v hj => ?_) (fun hA' => ?_) hx hg (by omega) hcap
    · rcases Nat.eq_zero_or_pos n with rfl | hn
      · have : olds = [] := List.eq_nil_of_length_eq_zero (by simpa using holds)
        subst this; cases hj
      · obtain ⟨b', e1, e2⟩ := hA hn
        rw [hA'] at e1
        cases e1; exact e2 j v hj
    · obtain ⟨rfl, rfl⟩ := hAn hA'
      exact List.eq_nil_of_length_eq_zero (by omega)
  generalize hgc : grownCap w (n + m) c e = c' at hrun
  have hc' : n + m ≤ c' := hgc ▸ grownCap_ge w (n + m) c e
  generalize hvs : olds.toArray ++ news.toArray ++ Builtin.zeroCells zv.cells (c' - (n + m)) = vs at hrun
  have hsize : (olds ++ news).length = (n + m) * z := by rw [List.length_append, holds, hl, Nat.add_mul]
  have hpre : ∀ (o : Nat) (v : Value), (olds ++ news)[o]? = some v → vs[o]? = some v := by
    intro o v ho
    have hlt := (List.getElem?_eq_some_iff.1 ho).1
    rw [← hvs, Array.getElem?_append_left (xs := olds.toArray ++ news.toArray) (by simpa using hlt)]
    simpa [List.append_toArray] using ho
  have hle : (olds ++ news).length ≤ vs.size := by rw [← hvs]; simp
  have hvsz : vs.size = c' * z := by
    rw [← hvs]; simp only [Array.size_append, List.size_toArray, size_zeroCells, holds, hl, hzc, Nat.sub_mul, Nat.add_mul]
    have : (n + m) * z ≤ c' * z := Nat.mul_le_mul_right _ hc'
    rw [Nat.add_mul] at this
    omega
  obtain ⟨g1, g2⟩ := hsim_row (w1 := w.drew.alloc (.cells vs e)) hs hB (C := olds ++ news) (vs := vs) (e := e) (drew_alloc_old w _) (drew_alloc_new w _)
    (fun o v ho => ⟨hpre o v ho, by
      rcases List.mem_append.1 (List.mem_of_getElem? ho) with h1 | h1
      · exact ho1 v h1
      · exact hn1 v h1⟩) hle (r := r) (ρ' := ρ' vs.size) (hw' := hw') (hl1 _) (hl2 _) (hr1 _) (by rw [hsize]; exact hr2) (by rw [hsize]; exact hlt) hl3 hl4 hr3
  refine ⟨_, c', _, hrun, g1, g2, drew_alloc_below w _ hB, hc', rfl, ⟨vs.size, hr1 _, ?_⟩, fun q v hq => by simpa using hq, fun b o x hx => ?_⟩
  · rw [hvsz]; exact Nat.le_refl _
  · dsimp only at hx
    by_cases hb : b = w.heap.size
    · right; omega
    · left; simpa only [hb, if_false] using hx

theorem set_same {l : List Nat} {r x : Nat} (h : l[r]? = some x) : l.set r x = l := by
  apply List.ext_getElem?
  intro j
  by_cases c : j = r
  · subst c; rw [List.getElem?_set_self (List.getElem?_eq_some_iff.1 h).1, h]
  · rw [List.getElem?_set_ne (fun e => c e.symm)]
theorem snoc_get {α : Type} {l : List α} {y : α} {i : Nat} {x : α} (h : (l ++ [y])[i]? = some x) : l[i]? = some x ∨ (i = l.length ∧ x = y) := by
  rcases Nat.lt_or_ge i l.length with hlt | hge
  · rw [List.getElem?_append_left hlt] at h; exact .inl h
  · rw [List.getElem?_append_right hge] at h
    have : i - l.length = 0 := by
      rcases Nat.eq_zero_or_pos (i - l.length) with h0 | h0
      · exact h0
      · rw [List.getElem?_eq_none (by simp; omega)] at h; cases h
    rw [this] at h
    simp at h
    exact .inr ⟨by omega, h.symm⟩
theorem snoc_old {α : Type} {l : List α} {y : α} {i : Nat} {x : α} (h : l[i]? = some x) : (l ++ [y])[i]? = some x := by
  rw [List.getElem?_append_left (List.getElem?_eq_some_iff.1 h).1]; exact h
/-- A row without cells. -/
theorem hsim_zero (hs : HSim B0 R h w) (e : TypeId) : R.Le { R with ρ := R.ρ ++ [(0, 0)], hw := R.hw ++ [0] } ∧ HSim B0 { R with ρ := R.ρ ++ [(0, 0)], hw := R.hw ++ [0] } { h with hw := h.hw ++ [0], rt := h.rt ++ [e] } w := by
  have hlen : R.ρ.length = R.hw.length := by rw [hs.lρ, hs.hw]
  have hle : R.Le { R with ρ := R.ρ ++ [(0, 0)], hw := R.hw ++ [0] } := ⟨fun _ _ _ hx => hx, fun _ _ hx => hx, fun r k hr => ⟨k, snoc_old hr, Nat.le_refl _, fun _ => by
    have hlt := (List.getElem?_eq_some_iff.1 hr).1
    show (R.ρ ++ [(0, 0)])[r]? = R.ρ[r]?
    rw [List.getElem?_append_left (by omega)]⟩⟩
  refine ⟨hle, ⟨by simp [hs.hw], by simp [hs.lρ], hs.lβ, hs.mem, fun i blk cs hb hc => ?_, hs.boxne, fun r blk sz k hr hk h0 => ?_, fun r r' blk sz sz' k k' h1 h2 h3 h4 h5 h6 => ?_, fun i r blk sz k h1 h2 h3 => ?_, hs.lty, hs.ty, by simp [hs.lrt], fun r blk sz k t hr hk h0 ht => ?_⟩⟩
  · obtain ⟨a1, a2, vs1, e1, hh, a3, a4⟩ := hs.box i blk cs hb hc
    exact ⟨a1, a2, vs1, e1, hh, a3, fun j v p hj hp => ⟨(a4 j v p hj hp).1.mono hle, (a4 j v p hj hp).2⟩⟩
  · rcases snoc_get hk with hk | ⟨_, rfl⟩
    · rcases snoc_get hr with hr | ⟨e1, _⟩
      · exact hs.row r blk sz k hr hk h0
      · have := (List.getElem?_eq_some_iff.1 hk).1
        omega
    · omega
  · rcases snoc_get h3 with h3 | ⟨_, rfl⟩
    · rcases snoc_get h4 with h4 | ⟨_, rfl⟩
      · rcases snoc_get h1 with h1 | ⟨e1, _⟩
        · rcases snoc_get h2 with h2 | ⟨e2, _⟩
          · exact hs.rowne r r' blk sz sz' k k' h1 h2 h3 h4 h5 h6
          · have := (List.getElem?_eq_some_iff.1 h4).1
            omega
        · have := (List.getElem?_eq_some_iff.1 h3).1
          omega
      · omega
    · omega
  · rcases snoc_get h3 with h3 | ⟨_, rfl⟩
    · rcases snoc_get h2 with h2 | ⟨e1, _⟩
      · exact hs.boxrow i r blk sz k h1 h2 h3
      · have := (List.getElem?_eq_some_iff.1 h3).1
        omega
    · rfl
  · rcases snoc_get hk with hk | ⟨_, rfl⟩
    · rcases snoc_get hr with hr | ⟨e1, _⟩
      · rcases snoc_get ht with ht | ⟨e2, _⟩
        · exact hs.rt r blk sz k t hr hk h0 ht
        · have := (List.getElem?_eq_some_iff.1 hk).1
          rw [hs.hw, ← hs.lrt] at this
          omega
      · have := (List.getElem?_eq_some_iff.1 hk).1
        omega
    · omega

theorem join_read {R' : Rel} (hle : R.Le R') {es es' : List PV} {z c1 blk1 : Nat} {f f' : Nat → Nat → Value} {tok : Option Nat}
    (hz : ∀ (i : Nat) (e : PV), es[i]? = some e → e.cells.length = z) (hv : ∀ (i : Nat) (e : PV) (j : Nat) (p : PV), es[i]? = some e → e.cells[j]? = some p → VR R (f i j) p)
    (hz' : ∀ (i : Nat) (e : PV), es'[i]? = some e → e.cells.length = z) (hv' : ∀ (i : Nat) (e : PV) (j : Nat) (p : PV), es'[i]? = some e → e.cells[j]? = some p → VR R (f' i j) p)
    (hCm : ∀ q v, (flatCells f es.length z ++ flatCells f' es'.length z)[q]? = some v → R'.M blk1 q = some v) (hc1 : es.length + es'.length ≤ c1)
    (ht : TokOk R' tok false blk1 0 ((es ++ es').length * z) (c1 * z)) :
    VR R' (.slice (some ⟨blk1, 0, none⟩) (es.length + es'.length) c1) (.sl tok false none z (es ++ es')) := by
  have := sl_read (R' := R') (es := es ++ es') (blk := blk1) (z := z) (c := c1) (f := fun i j => if i < es.length then f i j else f' (i - es.length) j) (C := flatCells f es.length z ++ flatCells f' es'.length z) (tok := tok)
    (by simpa using hc1) (fun i e he => by
      rcases Nat.lt_or_ge i es.length with hlt | hge
      · rw [List.getElem?_append_left hlt] at he; exact hz i e he
      · rw [List.getElem?_append_right hge] at he; exact hz' _ e he) hCm (fun i e j p he hp => by
      have hj := (List.getElem?_eq_some_iff.1 hp).1
      rcases Nat.lt_or_ge i es.length with hlt | hge
      · rw [List.getElem?_append_left hlt] at he
        rw [hz i e he] at hj
        simp only [hlt, if_true]
        refine ⟨?_, (hv i e j p he hp).mono hle⟩
        have := flatCells_at f hlt hj
        rw [List.getElem?_append_left (List.getElem?_eq_some_iff.1 this).1]; exact this
      · rw [List.getElem?_append_right hge] at he
        have hil := (List.getElem?_eq_some_iff.1 he).1
        rw [hz' _ e he] at hj
        have hn : ¬ (i < es.length) := by omega
        simp only [hn, if_false]
        refine ⟨?_, (hv' _ e j p he hp).mono hle⟩
        have h1 := flatCells_at f' hil hj
        have h2 : es.length * z + ((i - es.length) * z + j) = i * z + j := by
          have : es.length * z + (i - es.length) * z = i * z := by rw [← Nat.add_mul]; congr 1; omega
          omega
        rw [List.getElem?_append_right (by rw [flatCells_length]; omega), flatCells_length, show i * z + j - es.length * z = (i - es.length) * z + j by omega]
        exact h1) ht
  simpa using this

theorem pappendTo_sound (hs : HSim B0 R h w) (hB : B0 ≤ w.heap.size) {t t' ty e : TypeId} (ht : P.underlying t = some (.slice e)) {vs vx : Value} {s p : PV} {es' : List PV} {f' : Nat → Nat → Value} {h' : Hp} (h1 : VR R vs s)
    (hsrc : Src P w e t' vx (P.cellsOf e) es'.length (flatCells f' es'.length (P.cellsOf e)))
    (hzz' : ∀ (i : Nat) (q : PV), es'[i]? = some q → q.cells.length = P.cellsOf e) (hv' : ∀ (i : Nat) (q : PV) (j : Nat) (p : PV), es'[i]? = some q → q.cells[j]? = some p → VR R (f' i j) p)
    (hp : pappendTo P e h s es' = some (true, p, h')) :
    ∃ v w', (Builtin.append_ #[t, t'] ty #[vs, vx]).run P w = .ok v w' ∧ Good B0 R w v p h' w' := by
  unfold pappendTo at hp
  split at hp
  case h_2 => cases hp
  rename_i tok nl cap z es
  split at hp
  case isFalse => cases hp
  rename_i hg
  obtain ⟨hpz, hc0, hb0⟩ := hg
  obtain ⟨i, zv, hi, hzv, hzc⟩ := zero_of_pzero hpz
  have hsz : i.size = P.cellsOf e := by simp [Program.cellsOf, hi]
  have hsrc : Src P w e t' vx i.size es'.length (flatCells f' es'.length (P.cellsOf e)) := by rw [hsz]; exact hsrc
  cases h1 with
  | sl _ _ _ _ _ A c blk o f hc hcap hn ha hz hm hv htk =>
  by_cases hm0 : es' = []
  · -- nothing is appended
    subst hm0
    have hrun := append_none (P := P) (w := w) t t' ty e i ht hi A es.length c hc (x := vx) (by simpa [flatCells] using hsrc)
    refine ⟨_, w, hrun, ?_⟩
    simp only [List.length_nil, Nat.add_zero, List.isEmpty_nil, Bool.and_true, List.append_nil] at hp
    split at hp
    · rename_i r
      split at hp
      · rename_i k hk
        split at hp
        · rename_i hzz
          obtain ⟨hzz, hrt⟩ := hzz
          simp only [Option.some.injEq, Prod.mk.injEq, Bool.and_eq_true, decide_eq_true_eq] at hp
          obtain ⟨⟨e1, _⟩, rfl, rfl⟩ := hp
          have : h.hw.set r (es.length * z) = h.hw := by
            rw [← e1]
            exact set_same hk
          rw [this]
          exact good_same hs (.sl _ nl none z es A c blk o f hc (fun _ h => by cases h) hn ha hz hm hv htk)
        · cases hp
      · cases hp
    · split at hp
      · rename_i hce
        simp only [Option.some.injEq, Prod.mk.injEq, decide_eq_true_eq] at hp
        obtain ⟨_, rfl, rfl⟩ := hp
        obtain ⟨hcap0, hes⟩ := hce
        have hes : es = [] := by simpa using hes
        subst hes
        have hc0' : c = 0 := hcap 0 hcap0
        subst hc0'
        obtain ⟨g1, g2⟩ := hsim_zero hs e
        simp only [List.length_nil, Nat.zero_mul]
        have e0 : h.hw.length = R.hw.length := by rw [hs.hw]
        refine ⟨_, g1, ?_, g2, Below.refl _ _, fun _ _ _ hx => .inl hx⟩
        refine .sl _ nl none _ [] A 0 blk o f (Nat.le_refl _) (fun _ h => by cases h) hn ha (fun i e h => by simp at h) (fun i e j p h => by simp at h) (fun i e j p h => by simp at h) (fun r hr => ?_)
        cases hr
        exact ⟨0, by simp [e0], by simp, fun _ => .inl ⟨by simp, by simp⟩⟩
      · cases hp
  · -- something is appended
    have hmp : 0 < es'.length := Nat.pos_of_ne_zero (fun h => hm0 (List.eq_nil_of_length_eq_zero h))
    have hemp : es'.isEmpty = false := by simpa using hm0
    simp only [hemp, Bool.and_false] at hp
    have hRh : R.hw = h.hw := hs.hw
    have hρl : R.ρ.length = R.hw.length := by rw [hs.lρ, hs.hw]
    split at hp
    · -- a row of the call's own, or none yet
      rename_i r
      split at hp
      case h_2 => cases hp
      rename_i k hk
      split at hp
      case isFalse => cases hp
      rename_i hzz
      obtain ⟨hzz, hrt⟩ := hzz
      subst hzz
      simp only [Option.some.injEq, Prod.mk.injEq, Bool.and_eq_true, decide_eq_true_eq] at hp
      obtain ⟨⟨e1, hby⟩, rfl, rfl⟩ := hp
      subst e1
      obtain ⟨k', hk', hkle, hlive⟩ := htk r rfl
      have hkk : k' = es.length * P.cellsOf e := by
        rw [hRh, hk] at hk'; exact (Option.some.inj hk').symm
      subst hkk
      have hrl : r < R.hw.length := (List.getElem?_eq_some_iff.1 hk').1
      have hlt : es.length * P.cellsOf e < (es.length + es'.length) * P.cellsOf e := Nat.mul_lt_mul_of_pos_right (by omega) hc0
      -- the new block
      have grow : c < es.length + es'.length → (A = none → es.length = 0 ∧ c = 0) → (0 < es.length → A = some ⟨blk, o, none⟩) →
          ∃ v w', (Builtin.append_ #[t, t'] ty #[.slice A es.length c, vx]).run P w = .ok v w' ∧
            Good B0 R w v (.sl (some r) false none (P.cellsOf e) (es ++ es')) { h with hw := h.hw.set r ((es.length + es'.length) * P.cellsOf e) } w' := by
        intro hg hA0 hA1
        obtain ⟨w', c1, R', g1, g2, g3, g4, g5, g6, ⟨sz, g7, g8⟩, g9, g10⟩ := append_grows (P := P) (ty := ty) hs hB ht hi hzv (A := A) (n := es.length) (c := c) (z := P.cellsOf e) (flatCells f es.length (P.cellsOf e)) (flatCells_length _ _ _)
          (fun hn => ⟨_, hA1 hn, fun j v hj => by rw [add_off]; exact (hs.mem _ _ _ (sl_cells hz hm j v hj)).1⟩) hA0 (head_oneCell hs hz hm) hsz hzc hc0 hsrc hmp hg hby hb0
          (r := r) (ρ' := fun s => R.ρ.set r (w.heap.size, s)) (hw' := h.hw.set r ((es.length + es'.length) * P.cellsOf e)) (fun s => by simp [hs.lρ]) (fun s r' hr' => ⟨List.getElem?_set_ne (fun e => hr' e.symm), by rw [List.getElem?_set_ne (fun e => hr' e.symm), hRh]⟩)
          (fun s => List.getElem?_set_self (by omega)) (List.getElem?_set_self (by rw [← hRh]; exact hrl)) (fun k2 hk2 => by rw [hk'] at hk2; cases hk2; exact hlt)
          (rt' := h.rt) (by simp [hs.lrt]) (fun _ _ => rfl) hrt
        refine ⟨_, w', g1, R', g2, ?_, g3, g4, g10⟩
        refine join_read g2 hz hv hzz' hv' g9 g5 (fun r2 hr2 => ?_)
        cases hr2
        have hl2 : (es ++ es').length * P.cellsOf e = (es.length + es'.length) * P.cellsOf e := by simp
        refine ⟨_, by rw [g6]; exact List.getElem?_set_self (by rw [← hRh]; exact hrl), by rw [hl2]; exact Nat.le_refl _, fun _ => .inr ⟨by rw [hl2]; omega, rfl, rfl, sz, g7, g8⟩⟩
      rcases hlive rfl with ⟨n0, c0⟩ | ⟨n0, hnl, ho, sz, hρ, hcs⟩
      · have hes0 : es.length = 0 := (Nat.mul_eq_zero.1 n0).resolve_right (by omega)
        have hcz : c = 0 := (Nat.mul_eq_zero.1 c0).resolve_right (by omega)
        exact grow (by omega) (fun _ => ⟨hes0, hcz⟩) (fun hh => by omega)
      · obtain rfl := (ha hnl).resolve_right (by rintro ⟨h0, _⟩; subst h0; simp at n0)
        subst ho
        rcases Nat.lt_or_ge c (es.length + es'.length) with hg | hroom
        · exact grow hg (fun hh => by cases hh) (fun _ => rfl)
        · -- room
          obtain ⟨b1, b2, vs0, e0, fz0, hh0, hsz0, hk0, hfz0⟩ := hs.row r blk sz _ hρ hk' n0
          have hfit : es.length * P.cellsOf e + es'.length * P.cellsOf e ≤ sz := by
            rw [← Nat.add_mul]
            exact Nat.le_trans (Nat.mul_le_mul_right _ hroom) hcs
          have hrun := append_room (P := P) (w := w) t t' ty e e0 i ht hi blk es.length c vs0 fz0 hh0 (by rw [hsz]; exact hfz0) hsrc hroom (by rw [flatCells_length, hsz]; omega)
          have hlC : (flatCells f' es'.length (P.cellsOf e)).length = es'.length * P.cellsOf e := flatCells_length _ _ _
          rw [hsz] at hrun
          obtain ⟨g1, g2⟩ := hsim_push (w1 := w.setRow blk (vs0.toList.take (es.length * P.cellsOf e) ++ flatCells f' es'.length (P.cellsOf e) ++ vs0.toList.drop (es.length * P.cellsOf e + (flatCells f' es'.length (P.cellsOf e)).length)).toArray)
            hs hρ hk' n0 (C := flatCells f' es'.length (P.cellsOf e)) (by rw [hlC]; exact Nat.mul_pos hmp hc0) (by rw [hlC]; exact hfit) (fun b hb => setRow_far w _ hb) hh0 hfz0 (setRow_at hh0 _) (by simp [hlC]; omega)
            (fun q hq => by
              rw [List.getElem?_toArray, List.append_assoc, List.getElem?_append_left (by simp; omega), List.getElem?_take, if_pos hq]; simp)
            (fun j v hj => by
              have hjl := (List.getElem?_eq_some_iff.1 hj).1
              rw [List.getElem?_toArray, List.append_assoc, List.getElem?_append_right (by simp; omega), List.getElem?_append_left (by simp; omega)]
              simp only [List.length_take]
              rw [Nat.min_eq_left (by simp; omega), show es.length * P.cellsOf e + j - es.length * P.cellsOf e = j by omega]
              exact hj) hsrc.one
          rw [hlC, ← Nat.add_mul] at g1 g2 hrun
          refine ⟨_, _, hrun, _, g1, ?_, g2, ?_, fun b o x hx => ?_⟩
          · refine join_read g1 hz hv hzz' hv' (fun q v hq => ?_) hroom (fun r2 hr2 => ?_)
            · dsimp only
              rcases Nat.lt_or_ge q (es.length * P.cellsOf e) with hql | hqg
              · rw [List.getElem?_append_left (by rw [flatCells_length]; exact hql)] at hq
                have hm2 := sl_cells hz hm q v hq
                rw [Nat.zero_add] at hm2
                simp only [show ¬ (es.length * P.cellsOf e ≤ q) by omega, and_false, if_false]; exact hm2
              · rw [List.getElem?_append_right (by rw [flatCells_length]; exact hqg), flatCells_length] at hq
                simp only [hqg, and_self, if_true]; exact hq
            · cases hr2
              have hl2 : (es ++ es').length * P.cellsOf e = (es.length + es'.length) * P.cellsOf e := by simp
              refine ⟨_, by rw [hRh]; exact List.getElem?_set_self (by rw [← hRh]; exact hrl), by rw [hl2]; exact Nat.le_refl _, fun _ => .inr ⟨by rw [hl2]; omega, rfl, rfl, sz, hρ, hcs⟩⟩
          · exact ⟨rfl, rfl, rfl, Nat.le_of_eq (setRow_size _ _ _).symm, fun k hk => setRow_far w _ (by omega)⟩
          · dsimp only at hx
            by_cases hb : b = blk ∧ es.length * P.cellsOf e ≤ o
            · right; omega
            · left; simpa only [hb, if_false] using hx
    · split at hp
      case isFalse => cases hp
      rename_i hce
      simp only [Option.some.injEq, Prod.mk.injEq, decide_eq_true_eq] at hp
      obtain ⟨hby, rfl, rfl⟩ := hp
      obtain ⟨hcap0, hes⟩ := hce
      have hes : es = [] := by simpa using hes
      subst hes
      have hc0' : c = 0 := hcap 0 hcap0
      subst hc0'
      obtain ⟨w', c1, R', g1, g2, g3, g4, g5, g6, ⟨sz, g7, g8⟩, g9, g10⟩ := append_grows (P := P) (ty := ty) hs hB ht hi hzv (A := A) (n := 0) (c := 0) (z := P.cellsOf e) [] (by simp)
        (fun hn => by omega) (fun _ => ⟨rfl, rfl⟩) (fun v hv => by cases hv) hsz hzc hc0 hsrc hmp (by omega) (by simpa using hby) hb0
        (r := h.hw.length) (ρ' := fun s => R.ρ ++ [(w.heap.size, s)]) (hw' := h.hw ++ [(0 + es'.length) * P.cellsOf e]) (fun s => by simp [hs.lρ])
        (fun s r' hr' => by
          constructor
          · rcases Nat.lt_or_ge r' R.ρ.length with q | q
            · exact List.getElem?_append_left q
            · rw [List.getElem?_eq_none (by simp [hs.lρ] at q ⊢; omega), List.getElem?_eq_none q]
          · rw [hRh]
            rcases Nat.lt_or_ge r' h.hw.length with q | q
            · exact List.getElem?_append_left q
            · rw [List.getElem?_eq_none (by simp; omega), List.getElem?_eq_none q])
        (fun s => by rw [← hs.lρ]; simp) (by simp) (fun k2 hk2 => by rw [hRh] at hk2; rw [List.getElem?_eq_none (by omega)] at hk2; cases hk2)
        (rt' := h.rt ++ [e]) (by simp [hs.lrt]) (fun r' hr' => by
          rcases Nat.lt_or_ge r' h.rt.length with q | q
          · exact List.getElem?_append_left q
          · rw [List.getElem?_eq_none (by have := hs.lrt; simp; omega), List.getElem?_eq_none q]) (by rw [← hs.lrt]; simp)
      simp only [Nat.zero_add] at g1 g3 g5 g6
      simp only [List.length_nil, Nat.zero_add]
      refine ⟨_, w', g1, R', g2, ?_, g3, g4, g10⟩
      have := join_read (tok := some h.hw.length) (c1 := c1) (blk1 := w.heap.size) (es := []) (z := P.cellsOf e) (f := fun _ _ => undef) (f' := f') (es' := es') g2 (fun i e h => by simp at h) (fun i e j p h => by simp at h) hzz' hv' (fun q v hq => g9 q v (by simpa [flatCells] using hq)) (by simpa using g5) (fun r2 hr2 => by
        cases hr2
        refine ⟨es'.length * P.cellsOf e, by rw [g6]; simp, by simp, fun _ => .inr ⟨by simpa using Nat.mul_pos hmp hc0, rfl, rfl, sz, g7, g8⟩⟩)
      simpa using this

theorem byte_cells (l : List UInt8) : flatCells (fun i _ => .int .u8 (l.getD i 0).toNat) (byteEls l).length 1 = Lib.strCells ⟨l.toArray⟩ := by
  simp only [flatCells, byteEls, List.length_map, Nat.mul_one, Lib.strCells_eq, Lib.byteCells]
  apply List.ext_getElem?
  intro j
  simp only [List.getElem?_map, List.getElem?_range, Nat.div_one]
  rcases Nat.lt_or_ge j l.length with c | c
  · simp [c, List.getD, List.getElem?_range c]
  · rw [List.getElem?_eq_none (by simpa using c), List.getElem?_eq_none (by simpa using c)]; rfl

theorem pappend_sound (hs : HSim B0 R h w) (hB : B0 ≤ w.heap.size) {t t' ty : TypeId} {vs vx : Value} {s x p : PV} {h' : Hp} (h1 : VR R vs s) (h2 : VR R vx x) (hp : pappend P t t' h s x = some (true, p, h')) :
    ∃ v w', (Builtin.append_ #[t, t'] ty #[vs, vx]).run P w = .ok v w' ∧ Good B0 R w v p h' w' := by
  unfold pappend at hp
  split at hp
  · rename_i e e' tok' nl' cap' z' es' ht ht'
    split at hp
    case isFalse => cases hp
    rename_i hg
    obtain ⟨htt, hz'⟩ := hg
    subst htt
    cases h2 with
    | sl _ _ _ _ _ A' c' blk' o' f' hc' hcap' hn' ha' hzz' hm' hv' htk' =>
    by_cases hm0 : es' = []
    · subst hm0
      exact pappendTo_sound (f' := f') hs hB ht h1 (by simpa [flatCells] using src_slice0 ht A' c') (fun i q h => by simp at h) (fun i q j p h => by simp at h) hp
    · have hze : z' = P.cellsOf e := hz'.resolve_right (by simpa using hm0)
      subst hze
      have hnl' : nl' = false := by
        cases nl' with
        | false => rfl
        | true => exact absurd (hn' rfl).2.1 hm0
      obtain rfl := (ha' hnl').resolve_right (by rintro ⟨h0, _⟩; exact hm0 h0)
      exact pappendTo_sound hs hB ht h1 (src_slice ht ⟨blk', o', none⟩ es'.length c' _ (flatCells_length _ _ _) (fun j v hj => by
        rw [add_off]; exact (hs.mem _ _ _ (sl_cells hzz' hm' j v hj)).1) (head_oneCell hs hzz' hm')) hzz' hv' hp
  · rename_i e l ht ht'
    split at hp
    case isFalse => cases hp
    rename_i hc
    cases h2
    have hl : (byteEls l).length = (⟨l.toArray⟩ : ByteArray).size := by simp [byteEls, ByteArray.size]
    refine pappendTo_sound (f' := fun i _ => .int .u8 (l.getD i 0).toNat) hs hB ht h1 ?_ (fun i q hq => ?_) (fun i q j p hq hj => ?_) hp
    · rw [hc, byte_cells, hl]; exact src_string ht' _
    · simp only [byteEls, List.getElem?_map] at hq
      obtain ⟨b, _, rfl⟩ := Option.map_eq_some_iff.1 hq
      rw [hc]; rfl
    · simp only [byteEls, List.getElem?_map] at hq
      obtain ⟨b, hb, rfl⟩ := Option.map_eq_some_iff.1 hq
      cases j with
      | zero =>
        simp [PV.cells] at hj
        subst hj
        have : l.getD i 0 = b := by simp [List.getD, hb]
        rw [this]; exact .int _ _
      | succ j => simp [PV.cells] at hj
  · cases hp

end
end Pm
end Go.Proofs.Ytacccimihgailaa
