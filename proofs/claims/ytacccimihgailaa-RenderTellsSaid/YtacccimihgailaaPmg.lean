/- The other operations. -/
import Derived.Test.YtacccimihgailaaPmf
import Derived.Great.FillDense
import Derived.Laws.BytesArg
set_option linter.unusedVariables false
set_option linter.unusedSimpArgs false
namespace Go.Proofs.Ytacccimihgailaa
namespace Pm
open Go.RowKit
section
variable {P : Program} {B0 : Nat} {R : Rel} {h : Hp} {w : World}

theorem info_of_cells {t : TypeId} (h0 : P.cellsOf t ≠ 0) : ∃ i, P.info? t = some i := by
  cases hi : P.info? t with
  | none => simp [Program.cellsOf, hi] at h0
  | some i => exact ⟨i, rfl⟩

theorem fieldAddr_sound {s : TypeId} {k : Nat} {v : Value} {x p : PV} (hv : VR R v x) (hp : x.fieldAddr P s k = some p) :
    ∃ u, (Instr.fieldAt s v k).run P w = .ok u w ∧ VR R u p := by
  unfold PV.fieldAddr at hp
  split at hp
  case h_2 => cases hp
  rename_i fs hu
  split at hp
  case h_2 => cases hp
  rename_i f hf
  split at hp
  case isTrue => cases hp
  rename_i hc
  obtain ⟨i, hi⟩ := info_of_cells hc
  have hsz := sizeOf_run (P := P) (w := w) hi
  split at hp
  · rename_i b off
    cases hp
    cases hv with
    | ptr _ blk _ hb =>
      exact ⟨.pointer (some ⟨blk, off + f.offset, none⟩), by simp [Instr.fieldAt, run_underlying hu, hf, Instr.sureAddr, fieldPlace, hsz, hc, add_off], .ptr b blk _ hb⟩
  · rename_i e off
    cases hp
    cases hv with
    | eptr _ blk o _ g hm hvs =>
      refine ⟨.pointer (some ⟨blk, o + off + f.offset, none⟩), by simp [Instr.fieldAt, run_underlying hu, hf, Instr.sureAddr, fieldPlace, hsz, hc, add_off], ?_⟩
      rw [Nat.add_assoc]; exact .eptr e blk o _ g hm hvs
  · cases hp

/-- A part of a value's cells. -/
theorem part_sound {t : TypeId} {vs : List Value} {cs : List PV} {off : Nat} {p : PV} (hl : vs.length = cs.length) (hv : ∀ (j : Nat) (v : Value) (q : PV), vs[j]? = some v → cs[j]? = some q → VR R v q)
    (hp : ppart P t cs off = some p) : ∃ u, (part t vs.toArray off).run P w = .ok u w ∧ VR R u p := by
  unfold ppart at hp
  split at hp
  · rename_i ha
    split at hp
    · rename_i hle
      cases hp
      obtain ⟨d, hu⟩ := agg_underlying ha
      refine ⟨.agg ((vs.drop off).take (P.cellsOf t)).toArray, ?_, .agg _ _ (by simp; omega) (fun j v q h1 h2 => ?_)⟩
      · simp only [part, Sem.run_bind, isAgg_run ha, Result.andThen_ok, if_true, sizeOf_run' hu, Sem.run_pure]
        congr 2
        apply Array.ext'
        simp [List.drop_take]
      · rw [List.getElem?_take] at h1 h2
        split at h1
        · rename_i hj
          rw [if_pos hj] at h2
          rw [List.getElem?_drop] at h1 h2
          exact hv _ _ _ h1 h2
        · cases h1
    · cases hp
  · rename_i ha
    have hlt := (List.getElem?_eq_some_iff.1 hp).1
    have hg := List.getElem?_eq_getElem (l := vs) (i := off) (by omega)
    exact ⟨vs[off], by simp [part, isAgg_run ha, hg], hv off _ _ hg hp⟩
  · cases hp

theorem field_sound {s : TypeId} {k : Nat} {v : Value} {x p : PV} (hv : VR R v x) (hp : x.field P s k = some p) :
    ∃ u, (Instr.field s v k).run P w = .ok u w ∧ VR R u p := by
  unfold PV.field at hp
  split at hp
  case h_2 => cases hp
  rename_i fs cs hu
  split at hp
  case h_2 => cases hp
  rename_i f hf
  cases hv with
  | agg vs ps hl hvs =>
    obtain ⟨u, h1, h2⟩ := part_sound (P := P) (w := w) hl hvs hp
    exact ⟨u, by simp [Instr.field, run_underlying hu, hf, asAgg, h1], h2⟩

theorem indexAddr_sound {t : TypeId} {v vi : Value} {x i p : PV} (hv : VR R v x) (hi : VR R vi i) (hp : PV.indexAddr P t x i = some (true, p)) :
    ∃ u, (Instr.indexAt t v vi).run P w = .ok u w ∧ VR R u p := by
  unfold PV.indexAddr at hp
  split at hp
  case h_2 => cases hp
  rename_i k n
  cases hi with
  | int =>
  split at hp
  · rename_i len e b o hu
    unfold sz? at hp
    split at hp
    · cases hp
    rename_i hc
    simp only [Option.map_some, Option.some.injEq, Prod.mk.injEq, decide_eq_true_eq] at hp
    obtain ⟨⟨h1, h2⟩, rfl⟩ := hp
    obtain ⟨ie, hie⟩ := info_of_cells hc
    cases hv with
    | ptr _ blk _ hb =>
      exact ⟨.pointer (some ⟨blk, o + n.toNat * P.cellsOf e, none⟩), by simp [Instr.indexAt, run_underlying hu, Instr.sureAddr, asIntOf, h1, h2, sizeOf_run hie, add_off], .ptr b blk _ hb⟩
  · rename_i len e q o hu
    unfold sz? at hp
    split at hp
    · cases hp
    rename_i hc
    simp only [Option.map_some, Option.some.injEq, Prod.mk.injEq, decide_eq_true_eq] at hp
    obtain ⟨⟨h1, h2⟩, rfl⟩ := hp
    obtain ⟨ie, hie⟩ := info_of_cells hc
    cases hv with
    | eptr _ blk oo _ g hm hvs =>
      refine ⟨.pointer (some ⟨blk, oo + o + n.toNat * P.cellsOf e, none⟩), by simp [Instr.indexAt, run_underlying hu, Instr.sureAddr, asIntOf, h1, h2, sizeOf_run hie, add_off], ?_⟩
      rw [Nat.add_assoc]; exact .eptr q blk oo _ g hm hvs
  · rename_i e tok nl cap z es hu
    split at hp
    case h_2 => cases hp
    rename_i q hq
    unfold sz? at hp
    split at hp
    · cases hp
    rename_i hc
    simp only [Option.bind_some] at hp
    split at hp
    case isFalse => cases hp
    rename_i hz
    subst hz
    simp only [Option.some.injEq, Prod.mk.injEq, decide_eq_true_eq] at hp
    obtain ⟨h1, rfl⟩ := hp
    obtain ⟨ie, hie⟩ := info_of_cells hc
    have hlt := (List.getElem?_eq_some_iff.1 hq).1
    cases hv with
    | sl _ _ _ _ _ A c blk o g hcc hcap hn ha hz hm hvs ht =>
      have hnl : nl = false := by
        cases nl with
        | false => rfl
        | true => obtain ⟨_, e2, _⟩ := hn rfl; subst e2; simp at hlt
      obtain rfl := (ha hnl).resolve_right (by rintro ⟨h0, _⟩; subst h0; simp at hlt)
      refine ⟨.pointer (some ⟨blk, o + n.toNat * P.cellsOf e + 0, none⟩), ?_, .eptr q blk _ 0 (g n.toNat) (fun j p hj => hm _ _ _ _ hq hj) (fun j p hj => hvs _ _ _ _ hq hj)⟩
      have h2 : n < (es.length : Int) := by omega
      simp [Instr.indexAt, run_underlying hu, asIntOf, h1, h2, sizeOf_run hie, add_off]
  · rename_i e b o len cap hu
    unfold sz? at hp
    split at hp
    · cases hp
    rename_i hc
    simp only [Option.map_some, Option.some.injEq, Prod.mk.injEq, decide_eq_true_eq] at hp
    obtain ⟨⟨h1, h2⟩, rfl⟩ := hp
    obtain ⟨ie, hie⟩ := info_of_cells hc
    cases hv with
    | bsl _ blk _ _ _ hb =>
      exact ⟨.pointer (some ⟨blk, o + n.toNat * P.cellsOf e, none⟩), by simp [Instr.indexAt, run_underlying hu, asIntOf, h1, h2, sizeOf_run hie, add_off], .ptr b blk _ hb⟩
  · cases hp

theorem index_sound {t : TypeId} {v vi : Value} {x i p : PV} (hv : VR R v x) (hi : VR R vi i) (hp : PV.index P t x i = some (true, p)) :
    ∃ u, (Instr.index t v vi).run P w = .ok u w ∧ VR R u p := by
  unfold PV.index at hp
  split at hp
  case h_2 => cases hp
  rename_i k n
  cases hi with
  | int =>
  split at hp
  · rename_i len e cs hu
    unfold sz? at hp
    split at hp
    · cases hp
    rename_i hc
    simp only [Option.bind_some, Option.map_eq_some_iff, Prod.mk.injEq, decide_eq_true_eq] at hp
    obtain ⟨q, hq, ⟨h1, h2⟩, rfl⟩ := hp
    obtain ⟨ie, hie⟩ := info_of_cells hc
    cases hv with
    | agg vs _ hl hvs =>
      obtain ⟨u, g1, g2⟩ := part_sound (P := P) (w := w) hl hvs hq
      exact ⟨u, by simp [Instr.index, run_underlying hu, asIntOf, h1, h2, sizeOf_run hie, g1], g2⟩
  · rename_i l hu
    split at hp
    case h_2 => cases hp
    rename_i b hb
    simp only [Option.some.injEq, Prod.mk.injEq, decide_eq_true_eq] at hp
    obtain ⟨h1, rfl⟩ := hp
    cases hv with
    | str =>
      have hlt := (List.getElem?_eq_some_iff.1 hb).1
      have hb' : (⟨l.toArray⟩ : ByteArray)[n.toNat]? = some b := by
        have h3 : n.toNat < (⟨l.toArray⟩ : ByteArray).size := by simpa [ByteArray.size] using hlt
        have h4 : (⟨l.toArray⟩ : ByteArray)[n.toNat]? = some ((⟨l.toArray⟩ : ByteArray)[n.toNat]'h3) := getElem?_pos (⟨l.toArray⟩ : ByteArray) n.toNat h3
        rw [h4]
        have := (List.getElem?_eq_some_iff.1 hb).2
        simp only [Option.some.injEq]
        rw [← this]; rfl
      refine ⟨.int .u8 b.toNat, ?_, .int _ _⟩
      simp only [Instr.index, Sem.run_bind, asIntOf, Sem.run_pure, Result.andThen_ok, run_underlying hu, h1, if_true, hb']
  · cases hp

theorem plen_sound {t ty : TypeId} {v : Value} {x p : PV} (hv : VR R v x) (hp : plen P t x = some p) :
    ∃ u, (Builtin.len_ #[t] ty #[v]).run P w = .ok u w ∧ VR R u p := by
  unfold plen at hp
  split at hp
  · rename_i l hu
    cases hp
    cases hv with
    | str => exact ⟨.int .i64 l.length, by simp only [Builtin.len_, List.getElem?_toArray, List.getElem?_cons_zero, Sem.run_bind, run_underlying hu, Result.andThen_ok, Sem.run_pure, goInt]; rfl, .int _ _⟩
  · rename_i e tok nl cap z es hu
    cases hp
    cases hv with
    | sl => exact ⟨.int .i64 es.length, by simp [Builtin.len_, run_underlying hu, goInt], .int _ _⟩
  · rename_i e b o len cap hu
    cases hp
    cases hv with
    | bsl => exact ⟨.int .i64 len, by simp [Builtin.len_, run_underlying hu, goInt], .int _ _⟩
  · rename_i n e hu
    cases hp
    exact ⟨.int .i64 n, by simp [Builtin.len_, run_underlying hu, goInt], .int _ _⟩
  · rename_i a hu
    split at hp
    · rename_i n e hu2
      cases hp
      exact ⟨.int .i64 n, by simp [Builtin.len_, run_underlying hu, run_underlying hu2, goInt], .int _ _⟩
    · cases hp
  · cases hp

end
end Pm
end Go.Proofs.Ytacccimihgailaa
