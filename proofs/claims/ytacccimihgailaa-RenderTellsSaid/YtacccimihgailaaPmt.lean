/- Tables of known calls. -/
import Derived.Test.YtacccimihgailaaPms
set_option linter.unusedVariables false
set_option linter.unusedSimpArgs false
namespace Go.Proofs.Ytacccimihgailaa
namespace Pm
open Go.RowKit

mutual
def PV.same : PV → PV → Bool
  | .any, .any => true
  | .int k n, .int k' n' => decide (k = k') && decide (n = n')
  | .bool a, .bool b => a == b
  | .str a, .str b => decide (a = b)
  | .sl t nl c z es, .sl t' nl' c' z' es' => decide (t = t') && decide (nl = nl') && decide (c = c') && Nat.beq z z' && sameL es es'
  | .agg a, .agg b => sameL a b
  | .tup a, .tup b => sameL a b
  | _, _ => false
def sameL : List PV → List PV → Bool
  | [], [] => true
  | p :: r, q :: s => p.same q && sameL r s
  | _, _ => false
end
theorem same_eq (p : PV) : ∀ q, p.same q = true → p = q := by
  refine PV.rec (motive_1 := fun p => ∀ q, p.same q = true → p = q) (motive_2 := fun l => ∀ m, sameL l m = true → l = m) ?_ ?_ ?_ ?_ ?_ ?_ ?_ ?_ ?_ ?_ ?_ ?_ ?_ ?_ ?_ p
  · intro q h; cases q <;> simp [PV.same] at h <;> rfl
  · intro v q h; cases q <;> simp [PV.same] at h
  · intro k n q h; cases q <;> simp [PV.same] at h
    obtain ⟨rfl, rfl⟩ := h; rfl
  · intro b q h; cases q <;> simp [PV.same] at h
    subst h; rfl
  · intro l q h; cases q <;> simp [PV.same] at h
    subst h; rfl
  · intro b o q h; cases q <;> simp [PV.same] at h
  · intro e o ih q h; cases q <;> simp [PV.same] at h
  · intro tok nl cap z es ih q h
    cases q <;> simp [PV.same] at h
    obtain ⟨⟨⟨⟨rfl, rfl⟩, rfl⟩, hz⟩, hl⟩ := h
    subst hz
    rw [ih _ hl]
  · intro b o l c q h; cases q <;> simp [PV.same] at h
  · intro cs ih q h; cases q <;> simp [PV.same] at h
    rw [ih _ h]
  · intro cs ih q h; cases q <;> simp [PV.same] at h
    rw [ih _ h]
  · intro r es ih q h; cases q <;> simp [PV.same] at h
  · intro b q h; cases q <;> simp [PV.same] at h
  · intro m h; cases m <;> simp [sameL] at h <;> rfl
  · intro p r ih1 ih2 m h
    cases m with
    | nil => simp [sameL] at h
    | cons q s =>
      simp only [sameL, Bool.and_eq_true] at h
      rw [ih1 _ h.1, ih2 _ h.2]
theorem sameL_eq : ∀ (l m : List PV), sameL l m = true → l = m
  | [], [], _ => rfl
  | [], _ :: _, h => by simp [sameL] at h
  | _ :: _, [], h => by simp [sameL] at h
  | p :: r, q :: s, h => by
    simp only [sameL, Bool.and_eq_true] at h
    rw [same_eq p q h.1, sameL_eq r s h.2]

/-- One more known call. -/
def known (f : FuncId) (args : List PV) (r : PV) (base : Ext) : Ext := fun g xs =>
  match Nat.beq f g && sameL args xs with
  | true => some r
  | false => base g xs
theorem known_ok {P : Program} {f : FuncId} {args : List PV} {r : PV} {base : Ext} (h : Pure P f args r) (hb : ExtOk P base) : ExtOk P (known f args r base) := by
  intro g xs r' hr
  unfold known at hr
  split at hr
  · rename_i hc
    simp only [Bool.and_eq_true] at hc
    have e1 := Nat.eq_of_beq_eq_true hc.1
    have e2 := sameL_eq _ _ hc.2
    cases hr
    subst e1; subst e2
    exact h
  · exact hb _ _ _ hr

/-- A closed run, its value as typed. -/
theorem pure_closed {P : Program} {ext : Ext} (hx : ExtOk P ext) (N d : Nat) {f : FuncId} {args : List PV} {r : PV}
    (hr : (match gF P ext N d f args noHp with | some (v, _) => PV.same v.erase r | none => false) = true) : Pure P f args r := by
  split at hr
  · rename_i v h' he
    have := pure_of_grun hx N d he
    rw [same_eq _ _ hr] at this
    exact this
  · cases hr

end Pm
end Go.Proofs.Ytacccimihgailaa
