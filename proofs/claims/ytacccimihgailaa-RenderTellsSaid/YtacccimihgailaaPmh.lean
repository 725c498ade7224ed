/- Slicing, arithmetic, comparison, conversion. -/
import Derived.Test.YtacccimihgailaaPmg
set_option linter.unusedVariables false
set_option linter.unusedSimpArgs false
namespace Go.Proofs.Ytacccimihgailaa
namespace Pm
open Go.RowKit
section
variable {P : Program} {B0 : Nat} {R : Rel} {h : Hp} {w : World}

theorem sz_some {e : TypeId} {z : Nat} (h : sz? P e = some z) : z = P.cellsOf e ∧ P.cellsOf e ≠ 0 := by
  unfold sz? at h
  split at h
  · cases h
  · rename_i hc; exact ⟨(Option.some.inj h).symm, hc⟩
/-- Options of values and of abstract values, alike. -/
def OVR (R : Rel) : Option Value → Option PV → Prop
  | none, none => True
  | some v, some p => VR R v p
  | _, _ => False

theorem nat_some {v : Value} {p : PV} {d a : Nat} (hv : VR R v p) (hn : PV.nat? (some p) d = some (true, a)) : ∃ k i, v = .int k i ∧ 0 ≤ i ∧ i.toNat = a := by
  cases p with
  | int k i =>
    simp only [PV.nat?, Option.some.injEq, Prod.mk.injEq, decide_eq_true_eq] at hn
    cases hv with
    | int => exact ⟨k, i, rfl, hn.1, hn.2⟩
  | _ => simp [PV.nat?] at hn

theorem bounds_none {isS : Bool} {len cap a b : Nat} {vlo vhi : Option Value} {lo hi : Option PV} (hl : OVR R vlo lo) (hh : OVR R vhi hi)
    (h1 : PV.nat? lo 0 = some (true, a)) (h2 : PV.nat? hi len = some (true, b)) (hab : a ≤ b) (hbc : b ≤ cap) :
    (Instr.sliceBounds isS len cap vlo vhi none).run P w = .ok (a, b, cap) w := by
  cases hi with
  | none =>
    cases vhi with
    | some _ => cases hh
    | none =>
      simp only [PV.nat?, Option.some.injEq, Prod.mk.injEq, true_and] at h2
      subst h2
      cases lo with
      | none =>
        cases vlo with
        | some _ => cases hl
        | none =>
          simp only [PV.nat?, Option.some.injEq, Prod.mk.injEq, true_and] at h1
          subst h1
          simp [Instr.sliceBounds]
      | some p =>
        cases vlo with
        | none => cases hl
        | some v =>
          obtain ⟨k, i, rfl, q1, rfl⟩ := nat_some hl h1
          have q2 : i ≤ (len : Int) := by omega
          simp [Instr.sliceBounds, Instr.sliceBound, asIntOf, q1, q2]
  | some p =>
    cases vhi with
    | none => cases hh
    | some v =>
      obtain ⟨k, i, rfl, q1, rfl⟩ := nat_some hh h2
      have q2 : i ≤ (cap : Int) := by omega
      cases lo with
      | none =>
        cases vlo with
        | some _ => cases hl
        | none =>
          simp only [PV.nat?, Option.some.injEq, Prod.mk.injEq, true_and] at h1
          subst h1
          simp [Instr.sliceBounds, Instr.sliceBound, asIntOf, q1, q2]
      | some p' =>
        cases vlo with
        | none => cases hl
        | some v' =>
          obtain ⟨k', i', rfl, q3, rfl⟩ := nat_some hl h1
          have q4 : i' ≤ max i 0 := by omega
          simp [Instr.sliceBounds, Instr.sliceBound, asIntOf, q1, q2, q3, q4]

theorem bounds_max {len cap a b m : Nat} {vlo vhi : Option Value} {vm : Value} {lo hi : Option PV} {mx : PV} (hl : OVR R vlo lo) (hh : OVR R vhi hi) (hm : VR R vm mx)
    (h1 : PV.nat? lo 0 = some (true, a)) (h2 : PV.nat? hi 0 = some (true, b)) (hs : hi.isSome = true) (h3 : PV.nat? (some mx) 0 = some (true, m)) (hab : a ≤ b) (hbm : b ≤ m) (hmc : m ≤ cap) :
    (Instr.sliceBounds true len cap vlo vhi (some vm)).run P w = .ok (a, b, m) w := by
  obtain ⟨km, im, rfl, q5, rfl⟩ := nat_some hm h3
  have q6 : im ≤ (cap : Int) := by omega
  cases hi with
  | none => cases hs
  | some p =>
    cases vhi with
    | none => cases hh
    | some v =>
      obtain ⟨k, i, rfl, q1, rfl⟩ := nat_some hh h2
      have q2 : i ≤ (im.toNat : Int) := by omega
      have q2' : i ≤ im := by omega
      cases lo with
      | none =>
        cases vlo with
        | some _ => cases hl
        | none =>
          simp only [PV.nat?, Option.some.injEq, Prod.mk.injEq, true_and] at h1
          subst h1
          have q7 : i ≤ max im 0 := by omega
          simp [Instr.sliceBounds, Instr.sliceBound, asIntOf, q1, q2, q2', q5, q6, q7]
      | some p' =>
        cases vlo with
        | none => cases hl
        | some v' =>
          obtain ⟨k', i', rfl, q3, rfl⟩ := nat_some hl h1
          have q4 : i' ≤ max i 0 := by omega
          have q7 : i ≤ max im 0 := by omega
          simp [Instr.sliceBounds, Instr.sliceBound, asIntOf, q1, q2, q2', q3, q4, q5, q6, q7]

/-- A piece of a slice that is read. -/
theorem sl_piece {tok : Option Nat} {nl : Bool} {cap cap' : Option Nat} {z : Nat} {es : List PV} {A : Option Addr} {n c a b m : Nat} {v : Value} (hv : VR R v (.sl tok nl cap z es)) (he : v = .slice A n c)
    (hab : a ≤ b) (hbl : b ≤ es.length) (hbm : b ≤ m) (hmc : m ≤ c) (hcap : ∀ k, cap' = some k → m - a = k) (hzz : ∀ sz, sz = z ∨ es = [] → True)
    (sz : Nat) (hsz : sz = z ∨ es = []) (tok' : Option Nat) (htok : tok' = none ∨ (tok' = tok ∧ a = 0 ∧ m = c)) :
    VR R (.slice (if m = a then A else A.map (·.add (a * sz))) (b - a) (m - a)) (.sl tok' nl cap' z ((es.take b).drop a)) := by
  subst he
  cases hv with
  | sl _ _ _ _ _ _ _ blk o f hc hcp hn ha hz hm hvs ht =>
    have hlen : ((es.take b).drop a).length = b - a := by simp; omega
    have key : ∀ (i : Nat) (e : PV), ((es.take b).drop a)[i]? = some e → es[a + i]? = some e := by
      intro i e hi
      rw [List.getElem?_drop, List.getElem?_take] at hi
      split at hi
      · exact hi
      · cases hi
    rw [← hlen]
    by_cases hma : m = a
    · have hba : b = a := by omega
      have hnil : (es.take b).drop a = [] := List.eq_nil_of_length_eq_zero (by rw [hlen]; omega)
      rw [if_pos hma, hnil]
      refine .sl tok' nl cap' z [] A (m - a) blk o (fun _ _ => undef) (by simp) (fun k hk => hcap k hk) (fun hh => ⟨(hn hh).1, rfl, by omega⟩) (fun hh => (ha hh).imp_right (fun hq => ⟨rfl, by have := hq.2; omega⟩)) (fun i e h => by simp at h) (fun i e j p h => by simp at h) (fun i e j p h => by simp at h) (fun r hr => ?_)
      rcases htok with rfl | ⟨rfl, h0, hmc'⟩
      · cases hr
      · obtain ⟨x, g1, g2, g3⟩ := ht r hr
        refine ⟨x, g1, by simp, fun hx => .inl ⟨by simp, ?_⟩⟩
        rw [show m - a = 0 by omega, Nat.zero_mul]
    · rw [if_neg hma]
      have hA : A.map (·.add (a * sz)) = A.map (·.add (a * sz)) := rfl
      refine .sl tok' nl cap' z _ _ (m - a) blk (o + a * sz) (fun i j => f (a + i) j) (by rw [hlen]; omega) (fun k hk => hcap k hk) (fun hh => ?_) (fun hh => ?_) (fun i e hi => hz _ _ (key i e hi)) (fun i e j p hi hj => ?_) (fun i e j p hi hj => hvs _ _ _ _ (key i e hi) hj) (fun r hr => ?_)
      · obtain ⟨e1, e2, e3⟩ := hn hh
        subst e1; subst e2
        exact ⟨rfl, by simp, by omega⟩
      · rcases ha hh with hA1 | ⟨_, hc0⟩
        · rw [hA1]; exact .inl (by simp [add_off])
        · omega
      · have h1 := hm _ _ _ _ (key i e hi) hj
        have hs : sz = z := by
          rcases hsz with h | h
          · exact h
          · subst h; simp at hi
        subst hs
        rw [show o + a * sz + i * sz + j = o + (a + i) * sz + j by rw [Nat.add_mul]; omega]
        exact h1
      · rcases htok with rfl | ⟨rfl, h0, hmc'⟩
        · cases hr
        · subst h0
          obtain ⟨x, g1, g2, g3⟩ := ht r hr
          rw [hlen]
          have hle : (b - 0) * z ≤ es.length * z := Nat.mul_le_mul_right _ (by omega)
          refine ⟨x, g1, by omega, fun hx => ?_⟩
          have hx2 : es.length * z = x := by omega
          rcases g3 hx2 with ⟨q1, q2⟩ | ⟨q1, q2, q3, sz2, q4, q5⟩
          · left
            refine ⟨by omega, ?_⟩
            rw [hmc']; simpa using q2
          · right
            refine ⟨by omega, q2, by simpa using q3, sz2, q4, ?_⟩
            rw [hmc']; simpa using q5

theorem slice_sound {t : TypeId} {v : Value} {x p : PV} {vlo vhi vmx : Option Value} {lo hi mx : Option PV} (hv : VR R v x) (hl : OVR R vlo lo) (hh : OVR R vhi hi) (hmx : OVR R vmx mx)
    (hp : PV.slice P t x lo hi mx = some (true, p)) : ∃ u, (Instr.sliceAt t v vlo vhi vmx).run P w = .ok u w ∧ VR R u p := by
  unfold PV.slice at hp
  split at hp
  · rename_i mx'
    cases vmx with
    | none => cases hmx
    | some vm =>
      split at hp
      case h_2 => cases hp
      rename_i e tok nl cap z es c1 a c2 b c3 m hu h1 h2 h3
      unfold sz? at hp
      split at hp
      · cases hp
      rename_i hc
      simp only [Option.bind_some] at hp
      split at hp
      case isFalse => cases hp
      rename_i hz
      split at hp
      case isFalse => cases hp
      rename_i his
      simp only [Option.some.injEq, Prod.mk.injEq, Bool.and_eq_true, decide_eq_true_eq] at hp
      obtain ⟨⟨⟨⟨⟨⟨rfl, rfl⟩, rfl⟩, hab⟩, hbm⟩, hml⟩, rfl⟩ := hp
      obtain ⟨ie, hie⟩ := info_of_cells hc
      have hv0 := hv
      cases hv with
      | sl _ _ _ _ _ A c blk o f hcc hcap hn ha hz' hm hvs ht =>
        have hb := bounds_max (P := P) (w := w) (len := es.length) (cap := c) hl hh hmx h1 h2 his h3 hab hbm (by omega)
        refine ⟨_, ?_, sl_piece (cap' := some (m - a)) hv0 rfl hab (by omega) hbm (by omega) (fun k hk => by cases hk; rfl) (fun _ _ => trivial) (P.cellsOf e) (by rcases hz with h | h; exact .inl h.symm; exact .inr (by simpa using h)) none (.inl rfl)⟩
        simp only [Instr.sliceAt, Sem.run_bind, run_underlying hu, Result.andThen_ok, Instr.slice, hb, sizeOf_run hie, Sem.run_pure]
  · cases vmx with
    | some _ => cases hmx
    | none =>
      split at hp
      · rename_i l hu
        split at hp
        case h_2 => cases hp
        rename_i c1 a c2 b h1 h2
        simp only [Option.some.injEq, Prod.mk.injEq, Bool.and_eq_true, decide_eq_true_eq] at hp
        obtain ⟨⟨⟨⟨rfl, rfl⟩, hab⟩, hbl⟩, rfl⟩ := hp
        cases hv with
        | str =>
          have hb := bounds_none (P := P) (w := w) (isS := false) (len := l.length) (cap := l.length) hl hh h1 h2 hab hbl
          refine ⟨.string ⟨((l.take b).drop a).toArray⟩, ?_, .str _⟩
          have hs : (⟨l.toArray⟩ : ByteArray).size = l.length := by simp [ByteArray.size]
          simp only [Instr.sliceAt, Sem.run_bind, run_underlying hu, Result.andThen_ok, Instr.slice, Option.isSome_none, Bool.false_eq_true, if_false, Sem.run_pure, hs, hb]
          congr 2
          apply ByteArray.ext
          simp [ByteArray.data_extract, List.extract_toArray, List.drop_take]
      · rename_i e tok nl cap z es hu
        split at hp
        case h_2 => cases hp
        rename_i c1 a c2 b h1 h2
        unfold sz? at hp
        split at hp
        · cases hp
        rename_i hc
        simp only [Option.bind_some] at hp
        split at hp
        case isFalse => cases hp
        rename_i hz
        simp only [Option.some.injEq, Prod.mk.injEq, Bool.and_eq_true, decide_eq_true_eq] at hp
        obtain ⟨⟨⟨⟨rfl, rfl⟩, hab⟩, hbl⟩, rfl⟩ := hp
        obtain ⟨ie, hie⟩ := info_of_cells hc
        have hv0 := hv
        cases hv with
        | sl _ _ _ _ _ A c blk o f hcc hcap hn ha hz' hm hvs ht =>
          have hb := bounds_none (P := P) (w := w) (isS := true) (len := es.length) (cap := c) hl hh h1 h2 hab (by omega)
          refine ⟨_, ?_, sl_piece (cap' := cap.map (· - a)) hv0 rfl hab hbl (m := c) (by omega) (Nat.le_refl _) (fun k hk => by
            cases cap with
            | none => cases hk
            | some k0 => have := hcap k0 rfl; simp at hk; omega) (fun _ _ => trivial) (P.cellsOf e) (by rcases hz with h | h; exact .inl h.symm; exact .inr (by simpa using h)) (if a = 0 then tok else none) (by
              by_cases h0 : a = 0
              · rw [if_pos h0]; exact .inr ⟨rfl, h0, rfl⟩
              · rw [if_neg h0]; exact .inl rfl)⟩
          simp only [Instr.sliceAt, Sem.run_bind, run_underlying hu, Result.andThen_ok, Instr.slice, hb, sizeOf_run hie, Sem.run_pure]
      · rename_i e b o len cap hu
        split at hp
        case h_2 => cases hp
        rename_i c1 x c2 y h1 h2
        cases hs : sz? P e with
        | none => simp [hs] at hp
        | some z0 =>
        obtain ⟨rfl, hc⟩ := sz_some hs
        simp only [hs, Option.map_some, Option.some.injEq, Prod.mk.injEq, Bool.and_eq_true, decide_eq_true_eq] at hp
        obtain ⟨⟨⟨⟨rfl, rfl⟩, hab⟩, hbl⟩, rfl⟩ := hp
        obtain ⟨ie, hie⟩ := info_of_cells hc
        cases hv with
        | bsl _ blk _ _ _ hb' =>
          have hb := bounds_none (P := P) (w := w) (isS := true) (len := len) (cap := cap) hl hh h1 h2 hab hbl
          refine ⟨.slice (some ⟨blk, if cap = x then o else o + x * P.cellsOf e, none⟩) (y - x) (cap - x), ?_, .bsl _ _ _ _ _ hb'⟩
          simp only [Instr.sliceAt, Sem.run_bind, run_underlying hu, Result.andThen_ok, Instr.slice, hb, sizeOf_run hie, Sem.run_pure]
          split <;> simp [add_off]
      · rename_i n e b o hu
        split at hp
        case h_2 => cases hp
        rename_i c1 x c2 y h1 h2
        cases hs : sz? P e with
        | none => simp [hs] at hp
        | some z0 =>
        obtain ⟨rfl, hc⟩ := sz_some hs
        simp only [hs, Option.map_some, Option.some.injEq, Prod.mk.injEq, Bool.and_eq_true, decide_eq_true_eq] at hp
        obtain ⟨⟨⟨⟨rfl, rfl⟩, hab⟩, hbl⟩, rfl⟩ := hp
        obtain ⟨ie, hie⟩ := info_of_cells hc
        cases hv with
        | ptr _ blk _ hb' =>
          have hb := bounds_none (P := P) (w := w) (isS := false) (len := n) (cap := n) hl hh h1 h2 hab hbl
          refine ⟨.slice (some ⟨blk, if n = x then o else o + x * P.cellsOf e, none⟩) (y - x) (n - x), ?_, .bsl _ _ _ _ _ hb'⟩
          simp only [Instr.sliceAt, Sem.run_bind, run_underlying hu, Result.andThen_ok, Instr.sureAddr, hb, sizeOf_run hie, Sem.run_pure]
          split <;> simp [add_off]
      · cases hp

end
end Pm
end Go.Proofs.Ytacccimihgailaa
