/- append, and slice literals. -/
import Derived.Test.YtacccimihgailaaPmd
import Derived.Lib.FrozenHead
import Derived.Lib.AppendStr
set_option linter.unusedVariables false
set_option linter.unusedSimpArgs false
namespace Go.Proofs.Ytacccimihgailaa
namespace Pm
open Go.RowKit
section
variable {P : Program} {B0 : Nat} {R : Rel} {h : Hp} {w : World}

/-- A row is filled farther, in its own block. -/
theorem hsim_push (hs : HSim B0 R h w) {w1 : World} {r blk sz k : Nat} {C : List Value} {vs vs' : Array Value} {e : TypeId} {fz : Nat × Nat}
    (hr : R.ρ[r]? = some (blk, sz)) (hk : R.hw[r]? = some k) (h0 : 0 < k) (hC0 : 0 < C.length) (hfit : k + C.length ≤ sz)
    (hW : ∀ b, b ≠ blk → w1.heap[b]? = w.heap[b]?) (hv : w.heap[blk]? = some (.cells vs e fz)) (hfz : fz.2 ≤ k) (hn : w1.heap[blk]? = some (.cells vs' e fz)) (hsz : vs'.size = sz)
    (hold : ∀ o, o < k → vs'[o]? = vs[o]?) (hnew : ∀ (j : Nat) (v : Value), C[j]? = some v → vs'[k + j]? = some v) (h1 : ∀ v ∈ C, v.oneCell' = true) :
    R.Le { M := fun b o => if b = blk ∧ k ≤ o then C[o - k]? else R.M b o, β := R.β, ρ := R.ρ, hw := R.hw.set r (k + C.length) } ∧
    HSim B0 { M := fun b o => if b = blk ∧ k ≤ o then C[o - k]? else R.M b o, β := R.β, ρ := R.ρ, hw := R.hw.set r (k + C.length) } { h with hw := h.hw.set r (k + C.length) } w1 := by
  obtain ⟨hB, hMn, vs0, e0, fz0, hh0, hsz0, hk0⟩ := hs.row r blk sz k hr hk h0
  have hrl : r < R.hw.length := (List.getElem?_eq_some_iff.1 hk).1
  have hle : R.Le { M := fun b o => if b = blk ∧ k ≤ o then C[o - k]? else R.M b o, β := R.β, ρ := R.ρ, hw := R.hw.set r (k + C.length) } := by
    refine ⟨fun b o v hm => ?_, fun _ _ hx => hx, fun r' x hx => ?_⟩
    · have : ¬ (b = blk ∧ k ≤ o) := by
        rintro ⟨rfl, ho⟩
        rw [hMn o ho] at hm; cases hm
      simp only [this, if_false]; exact hm
    · by_cases c : r' = r
      · subst c
        rw [hk] at hx
        obtain rfl := Option.some.inj hx
        exact ⟨_, List.getElem?_set_self hrl, by omega, fun hh => by omega⟩
      · exact ⟨x, by show (R.hw.set r _)[r']? = _; rw [List.getElem?_set_ne (fun e => c e.symm)]; exact hx, Nat.le_refl _, fun _ => rfl⟩
  have hwget : ∀ (r' x : Nat), (R.hw.set r (k + C.length))[r']? = some x → (r' = r ∧ x = k + C.length) ∨ (r' ≠ r ∧ R.hw[r']? = some x) := by
    intro r' x hx
    by_cases c : r' = r
    · subst c
      rw [List.getElem?_set_self hrl] at hx
      exact .inl ⟨rfl, (Option.some.inj hx).symm⟩
    · rw [List.getElem?_set_ne (fun e => c e.symm)] at hx
      exact .inr ⟨c, hx⟩
  refine ⟨hle, ⟨by simp [hs.hw], by simp [hs.lρ], hs.lβ, fun b o v hm => ?_, fun i b' cs hb hc => ?_, hs.boxne, fun r' b' s' x hρ hx hx0 => ?_, fun r1 r2 b' s1 s2 k1 k2 a1 a2 a3 a4 a5 a6 => ?_, fun i r' b' s' x a1 a2 a3 => ?_, hs.lty, fun i b' t hb ht => ?_, by simp [hs.lrt], fun r' b' s' x t hρ hx hx0 ht => ?_⟩⟩
  · dsimp only at hm
    by_cases c : b = blk ∧ k ≤ o
    · simp only [c, and_self, if_true] at hm
      obtain ⟨rfl, ho⟩ := c
      refine ⟨?_, h1 v (List.mem_of_getElem? hm)⟩
      rw [cell_of_row w1 b o vs' e fz hn]
      have := hnew (o - k) v hm
      rwa [show k + (o - k) = o by omega] at this
    · simp only [c, if_false] at hm
      obtain ⟨m1, m2⟩ := hs.mem b o v hm
      refine ⟨?_, m2⟩
      by_cases cb : b = blk
      · subst cb
        have ho : o < k := by
          rcases Nat.lt_or_ge o k with x | x
          · exact x
          · exact absurd ⟨rfl, x⟩ c
        rw [cell_of_row w1 b o vs' e fz hn, hold o ho]
        rwa [cell_of_row w b o vs e fz hv] at m1
      · rw [World.cell?_of_block (w := w) (w' := w1) (hW b cb)]; exact m1
  · obtain ⟨a1, a2, vs1, e1, hh, a3, a4⟩ := hs.box i b' cs hb hc
    have hne : b' ≠ blk := by
      rintro rfl
      have := hs.boxrow i r b' sz k hb hr hk
      omega
    refine ⟨a1, fun o => ?_, vs1, e1, (hW b' hne).trans hh, a3, fun j v p hj hp => ⟨(a4 j v p hj hp).1.mono hle, (a4 j v p hj hp).2⟩⟩
    simp only [hne, false_and, if_false]; exact a2 o
  · rcases hwget r' x hx with ⟨rfl, rfl⟩ | ⟨c, hx'⟩
    · dsimp only at hρ
      rw [hr] at hρ
      obtain ⟨rfl, rfl⟩ := Prod.mk.inj (Option.some.inj hρ)
      refine ⟨hB, fun o ho => ?_, vs', e, fz, hn, hsz, hfit, by omega⟩
      simp only [true_and, show k ≤ o by omega, if_true]
      exact List.getElem?_eq_none (by omega)
    · obtain ⟨b1, b2, vs1, e1, fz1, hh, b3, b4⟩ := hs.row r' b' s' x hρ hx' hx0
      have hne : b' ≠ blk := by
        rintro rfl
        exact c (hs.rowne r' r b' s' sz x k hρ hr hx' hk hx0 h0)
      refine ⟨b1, fun o ho => ?_, vs1, e1, fz1, (hW b' hne).trans hh, b3, b4⟩
      simp only [hne, false_and, if_false]; exact b2 o ho
  · have q1 : ∃ y, R.hw[r1]? = some y ∧ 0 < y := by
      rcases hwget r1 k1 a3 with ⟨rfl, rfl⟩ | ⟨c, hx'⟩
      · exact ⟨k, hk, h0⟩
      · exact ⟨k1, hx', a5⟩
    have q2 : ∃ y, R.hw[r2]? = some y ∧ 0 < y := by
      rcases hwget r2 k2 a4 with ⟨rfl, rfl⟩ | ⟨c, hx'⟩
      · exact ⟨k, hk, h0⟩
      · exact ⟨k2, hx', a6⟩
    obtain ⟨y1, z1, z2⟩ := q1
    obtain ⟨y2, z3, z4⟩ := q2
    exact hs.rowne r1 r2 b' s1 s2 y1 y2 a1 a2 z1 z3 z2 z4
  · rcases hwget r' x a3 with ⟨rfl, rfl⟩ | ⟨c, hx'⟩
    · have := hs.boxrow i r' b' s' k a1 a2 hk
      omega
    · exact hs.boxrow i r' b' s' x a1 a2 hx'
  · obtain ⟨us, hh⟩ := hs.ty i b' t hb ht
    have hne : b' ≠ blk := by
      rintro rfl
      have := hs.boxrow i r b' sz k hb hr hk
      omega
    exact ⟨us, (hW b' hne).trans hh⟩
  · rcases hwget r' x hx with ⟨rfl, rfl⟩ | ⟨c, hx'⟩
    · dsimp only at hρ
      rw [hr] at hρ
      obtain ⟨rfl, rfl⟩ := Prod.mk.inj (Option.some.inj hρ)
      obtain ⟨us, fz', hh⟩ := hs.rt r' blk sz k t hr hk h0 ht
      rw [hv] at hh
      cases hh
      exact ⟨_, _, hn⟩
    · obtain ⟨us, fz', hh⟩ := hs.rt r' b' s' x t hρ hx' hx0 ht
      have hne : b' ≠ blk := by
        rintro rfl
        exact c (hs.rowne r' r b' s' sz x k hρ hr hx' hk hx0 h0)
      exact ⟨us, fz', (hW b' hne).trans hh⟩

/-- What is appended: a slice or a string, of so many elements, of such cells. -/
structure Src (P : Program) (w : World) (e t' : TypeId) (x : Value) (size m : Nat) (news : List Value) : Prop where
  ty : P.underlying t' = some (.slice e) ∨ P.underlying t' = some .string
  len : ∀ w1, (Builtin.lenOf x).run P w1 = .ok m w1
  run : ∀ w1, (∀ a, w1.cell? a = w.cell? a) → (Builtin.firstCells size m x).run P w1 = .ok news.toArray w1
  n : news.length = m * size
  one : ∀ v ∈ news, v.oneCell' = true

theorem src_slice {e t : TypeId} (ht : P.underlying t = some (.slice e)) {size : Nat} (a : Addr) (m c : Nat) (news : List Value) (hl : news.length = m * size) (hnews : ∀ j u, news[j]? = some u → w.cell? (a.add j) = some u) (h1 : ∀ u ∈ news, u.oneCell' = true) :
    Src P w e t (.slice (some a) m c) size m news :=
  ⟨.inl ht, fun w1 => by simp [Builtin.lenOf], fun w1 hw => run_firstCells_some (P := P) w1 size m a m c news hl (fun j u hj => (hw _).trans (hnews j u hj)), hl, h1⟩
theorem src_slice0 {e t : TypeId} (ht : P.underlying t = some (.slice e)) {size : Nat} (A : Option Addr) (c : Nat) : Src P w e t (.slice A 0 c) size 0 [] :=
  ⟨.inl ht, fun w1 => by simp [Builtin.lenOf], fun w1 hw => by cases A <;> simp [Builtin.firstCells, loadCells, loadCellsFrom], by simp, fun v hv => by cases hv⟩
theorem src_string {e t : TypeId} (ht : P.underlying t = some .string) (s : ByteArray) : Src P w e t (.string s) 1 s.size (Lib.strCells s) :=
  ⟨.inr ht, fun w1 => by simp [Builtin.lenOf], fun w1 _ => Lib.run_firstCells_string (P := P) w1 1 s, by simp [Lib.strCells_length], Lib.strCells_oneCell s⟩

/-- append where there is room, whatever type the block was made for. -/
theorem append_room (t t' ty e e' : TypeId) (i : TypeInfo) (ht : P.underlying t = some (.slice e)) (hi : P.info? e = some i)
    (g sLen sCap : Nat) (cur : Array Value) (fz : Nat × Nat) (hg : w.heap[g]? = some (.cells cur e' fz)) (hfz : fz.2 ≤ sLen * i.size)
    {x : Value} {m : Nat} {news : List Value} (hx : Src P w e t' x i.size m news)
    (hroom : sLen + m ≤ sCap) (hfit : sLen * i.size + news.length ≤ cur.size) :
    (Builtin.append_ #[t, t'] ty #[.slice (some ⟨g, 0, none⟩) sLen sCap, x]).run P w =
      .ok (.slice (some ⟨g, 0, none⟩) (sLen + m) sCap) (w.setRow g (cur.toList.take (sLen * i.size) ++ news ++ cur.toList.drop (sLen * i.size + news.length)).toArray) := by
  have hf := hx.run w (fun _ => rfl)
  have hlen := hx.len w
  have hst := Go.run_storeCells_atF P g (sLen * i.size) e' fz news 0 cur w hg (by simpa using hfz) (by simpa using hfit) hx.one
  simp only [Nat.add_zero] at hst
  rcases hx.ty with h | h
  · simp [Builtin.append_, run_underlying ht, run_underlying h, sizeOf, typeInfo, hi, hlen, hroom, hf, Addr.add_lit, hst]
  · simp [Builtin.append_, run_underlying ht, run_underlying h, sizeOf, typeInfo, hi, hlen, hroom, hf, Addr.add_lit, hst]

theorem append_none (t t' ty e : TypeId) (i : TypeInfo) (ht : P.underlying t = some (.slice e)) (hi : P.info? e = some i) (A : Option Addr) (n c : Nat) (hc : n ≤ c) {x : Value} (hx : Src P w e t' x i.size 0 []) :
    (Builtin.append_ #[t, t'] ty #[.slice A n c, x]).run P w = .ok (.slice A n c) w := by
  have hf := hx.run w (fun _ => rfl)
  have hlen := hx.len w
  rcases hx.ty with h | h
  · cases A <;> simp [Builtin.append_, run_underlying ht, run_underlying h, sizeOf, typeInfo, hi, hlen, hc, hf, storeCells]
  · cases A <;> simp [Builtin.append_, run_underlying ht, run_underlying h, sizeOf, typeInfo, hi, hlen, hc, hf, storeCells]

theorem append_new (t t' ty e : TypeId) (i : TypeInfo) (z : Value) (ht : P.underlying t = some (.slice e)) (hi : P.info? e = some i) (hz : i.zero = some z)
    (B : Option Addr) (sLen sCap : Nat) (olds : List Value) (hlo : olds.length = sLen * i.size) (hB : ∀ b, B = some b → ∀ j v, olds[j]? = some v → w.cell? (b.add j) = some v) (hBn : B = none → olds = [])
    {x : Value} {m : Nat} {news : List Value} (hx : Src P w e t' x i.size m news)
    (hg : sCap < sLen + m) (h63 : ((sLen + m : Nat) : Int) ≤ 9223372036854775807) (hfit : Builtin.nextslicecap (sLen + m) sCap * i.bytes ≤ 281474976710656) :
    (Builtin.append_ #[t, t'] ty #[.slice B sLen sCap, x]).run P w =
      .ok (.slice (some ⟨w.heap.size, 0, none⟩) (sLen + m) (grownCap w (sLen + m) sCap e))
        (w.drew.alloc (.cells (olds.toArray ++ news.toArray ++ Builtin.zeroCells z.cells (grownCap w (sLen + m) sCap e - (sLen + m))) e)) := by
  have hn : ¬ (sLen + m ≤ sCap) := by omega
  have h63' : ¬ (9223372036854775807 < ((sLen : Int) + (m : Int))) := by omega
  have h48' : ¬ (281474976710656 < Builtin.nextslicecap (sLen + m) sCap * i.bytes) := by omega
  have hf := hx.run w.drew (fun _ => by simp)
  have hlen := hx.len w
  have hfo : (Builtin.firstCells i.size sLen (.slice B sLen sCap)).run P w.drew = .ok olds.toArray w.drew := by
    cases B with
    | none =>
      have := hBn rfl
      subst this
      simp [Builtin.firstCells]
    | some b => exact run_firstCells_some (P := P) w.drew i.size sLen b sLen sCap olds hlo (by simpa using hB b rfl)
  rcases hx.ty with h | h
  · simp [Builtin.append_, run_underlying ht, run_underlying h, sizeOf, typeInfo, zeroValue, hi, hz, hlen, hn, h63', h48', Question.forced, hf, hfo, newRow, grownCap]
    congr 2
    apply Array.ext'
    simp [List.append_assoc]
  · simp [Builtin.append_, run_underlying ht, run_underlying h, sizeOf, typeInfo, zeroValue, hi, hz, hlen, hn, h63', h48', Question.forced, hf, hfo, newRow, grownCap]
    congr 2
    apply Array.ext'
    simp [List.append_assoc]

/-- The elements' cells, one behind the other. -/
def flatCells (f : Nat → Nat → Value) (n z : Nat) : List Value := (List.range (n * z)).map fun q => f (q / z) (q % z)
theorem flatCells_length (f : Nat → Nat → Value) (n z : Nat) : (flatCells f n z).length = n * z := by simp [flatCells]
theorem flatCells_get {f : Nat → Nat → Value} {n z q : Nat} {v : Value} (h : (flatCells f n z)[q]? = some v) : q < n * z ∧ v = f (q / z) (q % z) := by
  have hl := (List.getElem?_eq_some_iff.1 h).1
  rw [flatCells_length] at hl
  refine ⟨hl, ?_⟩
  unfold flatCells at h
  rw [List.getElem?_map, List.getElem?_range hl] at h
  simpa using h.symm
theorem flatCells_at (f : Nat → Nat → Value) {n z i j : Nat} (hi : i < n) (hj : j < z) : (flatCells f n z)[i * z + j]? = some (f i j) := by
  have hlt : i * z + j < n * z := by
    calc i * z + j < i * z + z := by omega
      _ = (i + 1) * z := by rw [Nat.add_mul]; omega
      _ ≤ n * z := Nat.mul_le_mul_right _ hi
  unfold flatCells
  rw [List.getElem?_map, List.getElem?_range hlt]
  have e1 : (i * z + j) / z = i := by rw [Nat.mul_comm, Nat.mul_add_div (by omega), Nat.div_eq_of_lt hj, Nat.add_zero]
  have e2 : (i * z + j) % z = j := by rw [Nat.mul_comm, Nat.mul_add_mod, Nat.mod_eq_of_lt hj]
  simp [e1, e2]

theorem div_mod_lt {q n z : Nat} (h : q < n * z) : q / z < n ∧ q % z < z ∧ q / z * z + q % z = q := by
  have hz : 0 < z := by
    rcases Nat.eq_zero_or_pos z with rfl | h'
    · simp at h
    · exact h'
  exact ⟨Nat.div_lt_of_lt_mul (by rw [Nat.mul_comm]; exact h), Nat.mod_lt _ hz, by rw [Nat.mul_comm]; exact Nat.div_add_mod q z⟩

/-- What is known of a slice's cells. -/
theorem sl_cells {es : List PV} {blk o z : Nat} {f : Nat → Nat → Value} (hz : ∀ (i : Nat) (e : PV), es[i]? = some e → e.cells.length = z)
    (hm : ∀ (i : Nat) (e : PV) (j : Nat) (p : PV), es[i]? = some e → e.cells[j]? = some p → R.M blk (o + i * z + j) = some (f i j)) :
    ∀ (q : Nat) (v : Value), (flatCells f es.length z)[q]? = some v → R.M blk (o + q) = some v := by
  intro q v hq
  obtain ⟨hl, rfl⟩ := flatCells_get hq
  obtain ⟨h1, h2, h3⟩ := div_mod_lt hl
  have he := List.getElem?_eq_getElem h1
  have hp := List.getElem?_eq_getElem (l := es[q / z].cells) (i := q % z) (by rw [hz _ _ he]; exact h2)
  have := hm _ _ _ _ he hp
  rwa [Nat.add_assoc, h3] at this

theorem lift_cells (v : Value) : (lift v).cells.length = v.cells.size := by
  unfold lift
  split
  · simp [PV.cells, Value.cells]
  · rename_i h
    have h1 : v.cells = #[v] := by cases v <;> first | rfl | exact absurd rfl (h _)
    have h2 : (lift1 v).cells.length = 1 := by unfold lift1; split <;> rfl
    rw [h1, h2]; rfl
theorem zero_of_pzero {e : TypeId} {n : Nat} (hz : (pzero P e).map (·.cells.length) = some n) : ∃ i z, P.info? e = some i ∧ i.zero = some z ∧ z.cells.size = n := by
  unfold pzero at hz
  cases hi : P.info? e with
  | none => simp [hi] at hz
  | some i =>
    cases h0 : i.zero with
    | none => simp [hi, h0] at hz
    | some z =>
      simp only [hi, Option.bind_some, h0, Option.map_some, Option.some.injEq] at hz
      exact ⟨i, z, rfl, h0, by rw [← lift_cells]; exact hz⟩

theorem add_off (b o j : Nat) : (⟨b, o, none⟩ : Addr).add j = ⟨b, o + j, none⟩ := by unfold Addr.add; split <;> simp_all

/-- The new value's reading, where all cells lie in a block at its begin. -/
theorem sl_read {R' : Rel} {es : List PV} {blk z c : Nat} {f : Nat → Nat → Value} {C : List Value} {tok : Option Nat} (hc : es.length ≤ c)
    (hz : ∀ (i : Nat) (e : PV), es[i]? = some e → e.cells.length = z) (hCm : ∀ (q : Nat) (v : Value), C[q]? = some v → R'.M blk q = some v)
    (hf : ∀ (i : Nat) (e : PV) (j : Nat) (p : PV), es[i]? = some e → e.cells[j]? = some p → C[i * z + j]? = some (f i j) ∧ VR R' (f i j) p)
    (ht : TokOk R' tok false blk 0 (es.length * z) (c * z)) : VR R' (.slice (some ⟨blk, 0, none⟩) es.length c) (.sl tok false none z es) :=
  .sl tok false none z es _ c blk 0 f hc (fun _ h => by cases h) (fun h => by cases h) (fun _ => .inl rfl) hz
    (fun i e j p hi hj => by have := hCm _ _ (hf i e j p hi hj).1; rwa [Nat.zero_add]) (fun i e j p hi hj => (hf i e j p hi hj).2) ht

end
end Pm
end Go.Proofs.Ytacccimihgailaa
