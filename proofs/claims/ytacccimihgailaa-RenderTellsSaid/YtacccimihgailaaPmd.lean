/- Each operation of Go's does to values and memory what its abstract twin does. First: loads, stores, parts, places. -/
import Derived.Test.YtacccimihgailaaPmc
set_option linter.unusedVariables false
set_option linter.unusedSimpArgs false
namespace Go.Proofs.Ytacccimihgailaa
namespace Pm
open Go.RowKit
section
variable {P : Program} {B0 : Nat} {R : Rel} {h : Hp} {w : World}

theorem info_of_underlying {t : TypeId} {d : TypeDesc} (hu : P.underlying t = some d) : ∃ i, P.info? t = some i := by
  cases hi : P.info? t with
  | none => simp [Program.underlying, hi] at hu
  | some i => exact ⟨i, rfl⟩
theorem sizeOf_run {t : TypeId} {i : TypeInfo} (hi : P.info? t = some i) : (sizeOf t).run P w = .ok (P.cellsOf t) w := by
  simp [sizeOf, typeInfo, hi, Program.cellsOf]
theorem sizeOf_run' {t : TypeId} {d : TypeDesc} (hu : P.underlying t = some d) : (sizeOf t).run P w = .ok (P.cellsOf t) w := by
  obtain ⟨i, hi⟩ := info_of_underlying hu
  exact sizeOf_run hi
theorem isAgg_run {t : TypeId} {b : Bool} (ha : agg? P t = some b) : (isAgg t).run P w = .ok b w := by
  unfold agg? at ha
  split at ha
  · rename_i heq; cases ha; simp [isAgg, run_underlying heq]
  · rename_i heq; cases ha; simp [isAgg, run_underlying heq]
  · rename_i d n1 n2 heq
    cases ha
    simp only [isAgg, Sem.run_bind, run_underlying heq, Result.andThen_ok]
    cases d <;> first | rfl | exact absurd rfl (n1 _) | exact absurd rfl (n2 _ _)
  · cases ha
theorem agg_underlying {t : TypeId} {b : Bool} (ha : agg? P t = some b) : ∃ d, P.underlying t = some d := by
  unfold agg? at ha
  split at ha <;> first | exact ⟨_, ‹_›⟩ | cases ha

/-- A part of known cells is loaded. -/
theorem load_part {t : TypeId} {cs : List PV} {off blk o : Nat} {f : Nat → Value} {p : PV} (hp : ppart P t cs off = some p)
    (hc : ∀ (j : Nat) (q : PV), cs[j]? = some q → w.cell? ⟨blk, o + j, none⟩ = some (f j) ∧ VR R (f j) q) :
    ∃ u, (loadVar t ⟨blk, o + off, none⟩).run P w = .ok u w ∧ VR R u p := by
  unfold ppart at hp
  split at hp
  · rename_i ha
    split at hp
    · rename_i hle
      cases hp
      obtain ⟨d, hu⟩ := agg_underlying ha
      have hl := run_loadCells_list (P := P) w ⟨blk, o + off, none⟩ ((List.range (P.cellsOf t)).map fun j => f (off + j)) (fun j v hj => by
        rw [List.getElem?_map] at hj
        have hlt : j < P.cellsOf t := by
          rcases Nat.lt_or_ge j (P.cellsOf t) with h | h
          · exact h
          · rw [List.getElem?_eq_none (by simpa using h)] at hj; cases hj
        rw [List.getElem?_range hlt] at hj
        simp at hj
        subst hj
        have hq := List.getElem?_eq_getElem (l := cs) (i := off + j) (by omega)
        have := (hc (off + j) _ hq).1
        have e : (⟨blk, o + off, none⟩ : Addr).add j = ⟨blk, o + (off + j), none⟩ := by unfold Addr.add; split <;> simp_all; omega
        rw [e]; exact this)
      simp only [List.length_map, List.length_range] at hl
      refine ⟨.agg ((List.range (P.cellsOf t)).map fun j => f (off + j)).toArray, ?_, .agg _ _ (by simp; omega) (fun i v p h1 h2 => ?_)⟩
      · simp only [loadVar, Sem.run_bind, isAgg_run ha, Result.andThen_ok, if_true, sizeOf_run' hu, hl, Sem.run_pure]
      · rw [List.getElem?_map] at h1
        have hlt : i < P.cellsOf t := by
          rcases Nat.lt_or_ge i (P.cellsOf t) with h | h
          · exact h
          · rw [List.getElem?_eq_none (by simpa using h)] at h1; cases h1
        rw [List.getElem?_range hlt] at h1
        simp at h1
        subst h1
        rw [List.getElem?_take, if_pos hlt, List.getElem?_drop] at h2
        exact (hc (off + i) p h2).2
    · cases hp
  · rename_i ha
    obtain ⟨h1, h2⟩ := hc off p hp
    exact ⟨f off, by simp [loadVar, isAgg_run ha, h1], h2⟩
  · cases hp

theorem pload_sound (hs : HSim B0 R h w) {t : TypeId} {v : Value} {a p : PV} (hv : VR R v a) (hp : pload P t h a = some p) :
    ∃ u, (Instr.loadAt t v).run P w = .ok u w ∧ VR R u p := by
  unfold pload at hp
  split at hp
  · rename_i b o
    cases hv with
    | ptr b blk off hb =>
      cases hc : h.bx[b]? with
      | none => simp [hc] at hp
      | some cs =>
        simp only [hc, Option.bind_some] at hp
        obtain ⟨_, _, vs, e, hh, hsz, hvs⟩ := hs.box b blk cs hb hc
        obtain ⟨u, hu, hu2⟩ := load_part (w := w) (R := R) (blk := blk) (o := 0) (f := fun j => vs.getD j undef) hp (fun j q hj => by
          have hlt := (List.getElem?_eq_some_iff.1 hj).1
          have hj' : vs[j]? = some (vs.getD j undef) := by simp [Array.getD, show j < vs.size by omega]
          refine ⟨?_, (hvs j _ q hj' hj).1⟩
          rw [cell_of_row w blk (0 + j) vs e (0, 0) hh]; simpa using hj')
        refine ⟨u, ?_, hu2⟩
        simp only [Nat.zero_add] at hu
        simp [Instr.loadAt, Instr.sureAddr, hu]
  · rename_i e o
    cases hv with
    | eptr e blk o' off f hm hvs =>
      split at hp
      · obtain ⟨u, hu, hu2⟩ := load_part (w := w) (R := R) (blk := blk) (o := o') (f := f) hp (fun j q hj => ⟨(hs.mem _ _ _ (hm j q hj)).1, hvs j q hj⟩)
        exact ⟨u, by simp [Instr.loadAt, Instr.sureAddr, hu], hu2⟩
      · cases hp
  · cases hp

theorem setRow_far (w : World) {g k : Nat} (cs : Array Value) (hk : k ≠ g) : (w.setRow g cs).heap[k]? = w.heap[k]? := by
  show (w.heap.modify g _)[k]? = _
  rw [Array.getElem?_modify]; simp [Ne.symm hk]
theorem setRow_at {w : World} {g : Nat} {vs : Array Value} {e : TypeId} {fr : Nat × Nat} (hh : w.heap[g]? = some (.cells vs e fr)) (cs : Array Value) : (w.setRow g cs).heap[g]? = some (.cells cs e fr) := by
  show (w.heap.modify g _)[g]? = _
  rw [Array.getElem?_modify]; simp [hh]
theorem setRow_size (w : World) (g : Nat) (cs : Array Value) : (w.setRow g cs).heap.size = w.heap.size := by
  show (w.heap.modify g _).size = _
  simp
theorem splice_length {cs new : List PV} {o : Nat} (h : o + new.length ≤ cs.length) : (splice cs o new).length = cs.length := by
  simp [splice]; omega

/-- Cells of an aggregate replaced: the values' side. -/
theorem splice_rel {vs : List Value} {cs : List PV} {us : List Value} {new : List PV} {o : Nat} (hl : vs.length = cs.length) (hn : us.length = new.length) (ho : o + new.length ≤ cs.length)
    {K : Value → PV → Prop} (hv : ∀ (j : Nat) (v : Value) (p : PV), vs[j]? = some v → cs[j]? = some p → K v p) (hu : ∀ (j : Nat) (v : Value) (p : PV), us[j]? = some v → new[j]? = some p → K v p) :
    ∀ (j : Nat) (v : Value) (p : PV), (vs.take o ++ us ++ vs.drop (o + us.length))[j]? = some v → (splice cs o new)[j]? = some p → K v p := by
  intro j v p h1 h2
  unfold splice at h2
  by_cases c1 : j < o
  · rw [List.append_assoc, List.getElem?_append_left (by simp; omega), List.getElem?_take, if_pos c1] at h1 h2
    exact hv j v p h1 h2
  · by_cases c2 : j < o + new.length
    · rw [List.append_assoc, List.getElem?_append_right (by simp; omega), List.getElem?_append_left (by simp; omega)] at h1 h2
      simp only [List.length_take] at h1 h2
      rw [Nat.min_eq_left (by omega)] at h1 h2
      exact hu (j - o) v p h1 h2
    · rw [List.getElem?_append_right (by simp; omega), List.getElem?_drop] at h1 h2
      simp only [List.length_append, List.length_take] at h1 h2
      rw [Nat.min_eq_left (by omega)] at h1 h2
      rw [show o + us.length + (j - (o + us.length)) = j by omega] at h1
      rw [show o + new.length + (j - (o + new.length)) = j by omega] at h2
      exact hv j v p h1 h2

theorem cells_toList (v : Value) : v.cells.toList.length = v.cells.size := by simp

theorem good_store (hs : HSim B0 R h w) {t : TypeId} {d : TypeDesc} {v u : Value} {b o : Nat} {cs : List PV} {x : PV} (hu : P.underlying t = some d) (hv : VR R v (.ptr b o)) (hc : h.bx[b]? = some cs) (hx : VR R u x)
    (hf : x.flat = true) (hl : x.cells.length = P.cellsOf t) (ho : o + P.cellsOf t ≤ cs.length) :
    ∃ w', (Instr.storeAt t v u).run P w = .ok () w' ∧ Good B0 R w undef (.raw undef) { h with bx := h.bx.set b (splice cs o x.cells) } w' := by
  cases hv with
  | ptr b blk off hb =>
    obtain ⟨hB, hM, vs, e, hh, hsz, hvs⟩ := hs.box b blk cs hb hc
    obtain ⟨c1, c2⟩ := hx.cells hf
    have h1 : ∀ y ∈ u.cells.toList, y.oneCell' = true := by
      intro y hy
      obtain ⟨j, hj, rfl⟩ := List.mem_iff_getElem.1 hy
      have hj' : u.cells[j]? = some u.cells.toList[j] := by simp at hj; simp [hj]
      have hq := List.getElem?_eq_getElem (l := x.cells) (i := j) (by simp at hj; omega)
      obtain ⟨r1, r2⟩ := c2 j _ _ hj' hq
      exact r1.oneCell r2
    have hst := run_storeCells_at P blk o e u.cells.toList 0 vs w hh (by simp; omega) h1
    simp only [Nat.add_zero] at hst
    refine ⟨w.setRow blk (vs.toList.take o ++ u.cells.toList ++ vs.toList.drop (o + u.cells.toList.length)).toArray, ?_, R, Rel.Le.refl R, .raw _, ?_, ?_, fun _ _ _ hx => .inl hx⟩
    · simp only [Instr.storeAt, Instr.sureAddr, Sem.run_bind, Sem.run_pure, Result.andThen_ok, storeVar, sizeOf_run' hu, Sem.run_ite]
      rw [if_neg (by rw [c1, hl]; simp)]
      simp only [Sem.run_bind, Sem.run_pure, Result.andThen_ok, hst]
    · refine hsim_store hs (blk := blk) hb hc (e := e) (vs' := (vs.toList.take o ++ u.cells.toList ++ vs.toList.drop (o + u.cells.toList.length)).toArray) ?_ hh ?_ ?_ ?_
      · intro k hk; exact setRow_far w _ hk
      · exact setRow_at hh _
      · rw [splice_length (by omega)]; simp; omega
      · intro j y p h1 h2
        simp only [List.getElem?_toArray] at h1
        refine splice_rel (vs := vs.toList) (cs := cs) (us := u.cells.toList) (new := x.cells) (K := fun v p => VR R v p ∧ p.isCell = true) (by simpa using hsz) (by simpa using c1) (by omega) ?_ ?_ j y p h1 h2
        · intro j v p a1 a2; exact hvs j v p (by simpa using a1) a2
        · intro j v p a1 a2; exact c2 j v p (by simpa using a1) a2
    · exact ⟨rfl, rfl, rfl, Nat.le_of_eq (setRow_size _ _ _).symm, fun k hk => setRow_far w _ (by omega)⟩

end
end Pm
end Go.Proofs.Ytacccimihgailaa
