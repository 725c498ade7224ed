/- strings.Join: the shelf's contract, as a contract on abstract values. -/
import Derived.Test.YtacccimihgailaaPmt
import Derived.Test.YtacccimihgailaaShelf
set_option linter.unusedVariables false
set_option linter.unusedSimpArgs false
namespace Go.Proofs.Ytacccimihgailaa
namespace Pm
open Go.RowKit

theorem vr_str {R : Rel} {v : Value} {l : List UInt8} (h : VR R v (.str l)) : v = .string ⟨l.toArray⟩ := by cases h; rfl

theorem join_pure {xs : List (List UInt8)} {sep : List UInt8} {nl : Bool} {cap : Option Nat} (hN : xs.length ≤ 140737488355328) (hlen : (Lib.join xs sep).length ≤ 140737488355328) :
    Pure Try.prog 46 [.sl none nl cap 1 (xs.map .str), .str sep] (.str (Lib.join xs sep)) := by
  intro M vals w hM hl hv
  obtain ⟨v0, v1, rfl⟩ : ∃ v0 v1, vals = #[v0, v1] := by
    match vals, hl with
    | ⟨[v0, v1]⟩, _ => exact ⟨v0, v1, rfl⟩
  have h0 := hv 0 v0 _ rfl rfl
  have h1 := hv 1 v1 _ rfl rfl
  rw [vr_str h1]
  have key : ∀ w', Below w.heap.size w w' → ∀ s : List UInt8, s = Lib.join xs sep → ∃ v M', Ending.returned (.string ⟨s.toArray⟩) = .returned v ∧ VR (bare M') v (.str (Lib.join xs sep)) ∧ (∀ (b o : Nat) (x : Value), M b o = some x → M' b o = some x) ∧
      (∀ (b o : Nat) (x : Value), M' b o = some x → w'.cell? ⟨b, o, none⟩ = some x ∧ x.oneCell' = true) ∧ (∀ (b o : Nat) (x : Value), M' b o = some x → M b o = some x ∨ w.heap.size ≤ b) ∧ Below w.heap.size w w' := by
    rintro w' hb s rfl
    refine ⟨_, M, rfl, .str _, fun _ _ _ h => h, fun b o x hx => ?_, fun _ _ _ h => .inl h, hb⟩
    obtain ⟨c1, c2⟩ := hM b o x hx
    refine ⟨?_, c2⟩
    rw [World.cell?_of_block (w := w) (w' := w') (hb.block b (World.block_lt_of_cell? w ⟨b, o, none⟩ c1))]; exact c1
  cases h0 with
  | sl _ _ _ _ _ A c blk o f hc hcap hn ha hz hm hvv ht =>
  by_cases hx : xs = []
  · subst hx
    refine (Try.strings_Join_none A c ⟨sep.toArray⟩ w).mono ?_
    rintro e w' ⟨rfl, rfl⟩
    exact key w' (Below.refl _ _) [] rfl
  · have hnl : nl = false := by
      cases nl with
      | false => rfl
      | true =>
        have := (hn rfl).2.1
        simp at this
        exact absurd this hx
    obtain rfl := (ha hnl).resolve_right (by rintro ⟨h0, _⟩; simp at h0; exact hx h0)
    have hcell : ∀ (j : Nat) (l : List UInt8), xs[j]? = some l → w.cell? ⟨blk, o + j, none⟩ = some (.string ⟨l.toArray⟩) := by
      intro j l hj
      have hj' : (xs.map PV.str)[j]? = some (.str l) := by simp [hj]
      have h2 := (hM _ _ _ (hm j _ 0 (.str l) hj' rfl)).1
      rw [vr_str (hvv j _ 0 (.str l) hj' rfl)] at h2
      simpa using h2
    have hlx : (xs.map (fun l => (⟨l.toArray⟩ : ByteArray))).length = (xs.map PV.str).length := by simp
    have hjn : (xs.map (fun l => (⟨l.toArray⟩ : ByteArray))).map (fun b => b.data.toList) = xs := by simp [Function.comp_def]
    have := Try.strings_Join blk o c (xs.map (fun l => (⟨l.toArray⟩ : ByteArray))) ⟨sep.toArray⟩ w (fun j x hj => by
      simp only [List.getElem?_map] at hj
      obtain ⟨l, h2, rfl⟩ := Option.map_eq_some_iff.1 hj
      exact hcell j l h2) (by
        obtain ⟨l, hl0⟩ : ∃ l, xs[0]? = some l := by
          cases xs with
          | nil => exact absurd rfl hx
          | cons a t => exact ⟨a, rfl⟩
        exact World.block_lt_of_cell? w ⟨blk, o + 0, none⟩ (hcell 0 l hl0)) (by simpa using hN) (by simpa using hc) (by rw [hjn]; exact hlen)
    rw [hlx] at this
    refine this.mono ?_
    rintro e w' ⟨rfl, hb⟩
    exact key w' hb _ (by rw [hjn])

/-- Texts out of abstract values. -/
def strs? : List PV → Option (List (List UInt8))
  | [] => some []
  | .str l :: r => (strs? r).map (l :: ·)
  | _ => none
theorem strs_some : ∀ {ps : List PV} {xs : List (List UInt8)}, strs? ps = some xs → ps = xs.map .str
  | [], xs, h => by cases h; rfl
  | p :: ps, xs, h => by
    cases p
    case str l =>
      unfold strs? at h
      obtain ⟨r, h1, rfl⟩ := Option.map_eq_some_iff.1 h
      rw [strs_some h1]; rfl
    all_goals (unfold strs? at h; cases h)
/-- strings.Join of known texts. -/
def joinExt : Ext := fun f args =>
  match Nat.beq f 46, args with
  | true, [.sl none nl cap 1 es, .str sep] =>
    match strs? es with
    | some xs => if xs.length ≤ 140737488355328 ∧ (Lib.join xs sep).length ≤ 140737488355328 then some (.str (Lib.join xs sep)) else none
    | none => none
  | _, _ => none
theorem joinExt_ok : ExtOk Try.prog joinExt := by
  intro f args r h
  unfold joinExt at h
  split at h
  · rename_i nl cap es sep hf
    have hf : f = 46 := Nat.eq_of_beq_eq_true hf
    subst hf
    split at h
    · rename_i xs hx
      rw [strs_some hx]
      split at h
      · rename_i hb
        cases h
        exact join_pure hb.1 hb.2
      · cases h
    · cases h
  · cases h

end Pm
end Go.Proofs.Ytacccimihgailaa
