/- The heap of abstract values and Go's heap: how they hang together, and what new blocks and stores do to that. -/
import Derived.Test.YtacccimihgailaaPmb
set_option linter.unusedVariables false
set_option linter.unusedSimpArgs false
namespace Go.Proofs.Ytacccimihgailaa
namespace Pm
open Go.RowKit

structure HSim (B0 : Nat) (R : Rel) (h : Hp) (w : World) : Prop where
  hw : R.hw = h.hw
  lρ : R.ρ.length = h.hw.length
  lβ : R.β.length = h.bx.length
  mem : ∀ (b o : Nat) (v : Value), R.M b o = some v → w.cell? ⟨b, o, none⟩ = some v ∧ v.oneCell' = true
  box : ∀ (i blk : Nat) (cs : List PV), R.β[i]? = some blk → h.bx[i]? = some cs → B0 ≤ blk ∧ (∀ o, R.M blk o = none) ∧
    ∃ vs e, w.heap[blk]? = some (.cells vs e (0, 0)) ∧ vs.size = cs.length ∧ ∀ (j : Nat) (v : Value) (p : PV), vs[j]? = some v → cs[j]? = some p → VR R v p ∧ p.isCell = true
  boxne : ∀ (i j blk : Nat), R.β[i]? = some blk → R.β[j]? = some blk → i = j
  row : ∀ (r blk sz k : Nat), R.ρ[r]? = some (blk, sz) → R.hw[r]? = some k → 0 < k → B0 ≤ blk ∧ (∀ o, k ≤ o → R.M blk o = none) ∧
    ∃ vs e fz, w.heap[blk]? = some (.cells vs e fz) ∧ vs.size = sz ∧ k ≤ sz ∧ fz.2 ≤ k
  rowne : ∀ (r r' blk sz sz' k k' : Nat), R.ρ[r]? = some (blk, sz) → R.ρ[r']? = some (blk, sz') → R.hw[r]? = some k → R.hw[r']? = some k' → 0 < k → 0 < k' → r = r'
  boxrow : ∀ (i r blk sz k : Nat), R.β[i]? = some blk → R.ρ[r]? = some (blk, sz) → R.hw[r]? = some k → k = 0
  lty : h.ty.length = h.bx.length
  ty : ∀ (i blk : Nat) (t : TypeId), R.β[i]? = some blk → h.ty[i]? = some t → ∃ vs, w.heap[blk]? = some (.cells vs t (0, 0))
  lrt : h.rt.length = h.hw.length
  rt : ∀ (r blk sz k : Nat) (t : TypeId), R.ρ[r]? = some (blk, sz) → R.hw[r]? = some k → 0 < k → h.rt[r]? = some t → ∃ vs fz, w.heap[blk]? = some (.cells vs t fz)

def Good (B0 : Nat) (R : Rel) (w : World) (v : Value) (p : PV) (h' : Hp) (w' : World) : Prop :=
  ∃ R', R.Le R' ∧ VR R' v p ∧ HSim B0 R' h' w' ∧ Below B0 w w' ∧ ∀ (b o : Nat) (x : Value), R'.M b o = some x → R.M b o = some x ∨ B0 ≤ b

theorem good_same {B0 : Nat} {R : Rel} {h : Hp} {w : World} (hs : HSim B0 R h w) {v : Value} {p : PV} (hv : VR R v p) : Good B0 R w v p h w :=
  ⟨R, Rel.Le.refl R, hv, hs, Below.refl _ _, fun _ _ _ hx => .inl hx⟩

theorem HSim.lt {B0 : Nat} {R : Rel} {h : Hp} {w : World} (hs : HSim B0 R h w) {b o : Nat} {v : Value} (hm : R.M b o = some v) : b < w.heap.size :=
  World.block_lt_of_cell? w ⟨b, o, none⟩ (hs.mem b o v hm).1
theorem blk_lt' {w : World} {b : Nat} {o : Obj} (h : w.heap[b]? = some o) : b < w.heap.size := (Array.getElem?_eq_some_iff.1 h).1
theorem HSim.boxlt {B0 : Nat} {R : Rel} {h : Hp} {w : World} (hs : HSim B0 R h w) {i blk : Nat} (hb : R.β[i]? = some blk) : blk < w.heap.size := by
  have hi : i < h.bx.length := by
    have := (List.getElem?_eq_some_iff.1 hb).1
    rw [hs.lβ] at this; exact this
  obtain ⟨_, _, vs, e, hh, _⟩ := hs.box i blk h.bx[i] hb (List.getElem?_eq_getElem hi)
  exact blk_lt' hh
theorem HSim.rowlt {B0 : Nat} {R : Rel} {h : Hp} {w : World} (hs : HSim B0 R h w) {r blk sz k : Nat} (hb : R.ρ[r]? = some (blk, sz)) (hk : R.hw[r]? = some k) (h0 : 0 < k) : blk < w.heap.size := by
  obtain ⟨_, _, vs, e, fz, hh, _⟩ := hs.row r blk sz k hb hk h0
  exact blk_lt' hh

/-- Whatever keeps the blocks that matter keeps it all. -/
theorem HSim.keep {B0 : Nat} {R : Rel} {h : Hp} {w w1 : World} (hs : HSim B0 R h w) (hW : ∀ b, b < w.heap.size → w1.heap[b]? = w.heap[b]?) : HSim B0 R h w1 where
  hw := hs.hw
  lρ := hs.lρ
  lβ := hs.lβ
  mem b o v hm := by
    have h1 := hs.mem b o v hm
    refine ⟨?_, h1.2⟩
    rw [World.cell?_of_block (w := w) (w' := w1) (hW b (hs.lt hm))]; exact h1.1
  box i blk cs hb hc := by
    obtain ⟨h1, h2, vs, e, hh, h3⟩ := hs.box i blk cs hb hc
    exact ⟨h1, h2, vs, e, (hW blk (blk_lt' hh)).trans hh, h3⟩
  boxne := hs.boxne
  row r blk sz k hb hk h0 := by
    obtain ⟨h1, h2, vs, e, fz, hh, h3⟩ := hs.row r blk sz k hb hk h0
    exact ⟨h1, h2, vs, e, fz, (hW blk (blk_lt' hh)).trans hh, h3⟩
  rowne := hs.rowne
  boxrow := hs.boxrow
  lty := hs.lty
  ty i blk t hb ht := by
    obtain ⟨vs, hh⟩ := hs.ty i blk t hb ht
    exact ⟨vs, (hW blk (blk_lt' hh)).trans hh⟩
  lrt := hs.lrt
  rt r blk sz k t hb hk h0 ht := by
    obtain ⟨vs, fz, hh⟩ := hs.rt r blk sz k t hb hk h0 ht
    exact ⟨vs, fz, (hW blk (blk_lt' hh)).trans hh⟩

theorem alloc_old (w : World) (o : Obj) : ∀ b, b < w.heap.size → (w.alloc o).heap[b]? = w.heap[b]? := fun b h => Below.heap_alloc w o b h
theorem alloc_new (w : World) (o : Obj) : (w.alloc o).heap[w.heap.size]? = some o := by
  show (w.heap.push o)[w.heap.size]? = some o
  simp

/-- A new box. -/
theorem good_box {B0 : Nat} {R : Rel} {h : Hp} {w : World} (hs : HSim B0 R h w) (hB : B0 ≤ w.heap.size) {v : Value} {q : PV} (hv : VR R v q) (hf : q.flat = true) (t : TypeId) :
    Good B0 R w (.pointer (some ⟨w.heap.size, 0, none⟩)) (.ptr h.bx.length 0) { h with bx := h.bx ++ [q.cells], ty := h.ty ++ [t] } (w.alloc (.cells v.cells t)) := by
  have hle : R.Le { R with β := R.β ++ [w.heap.size] } :=
    ⟨fun _ _ _ h => h, fun i x hx => by
      have := (List.getElem?_eq_some_iff.1 hx).1
      show (R.β ++ [w.heap.size])[i]? = some x
      rw [List.getElem?_append_left this]; exact hx, fun _ k hr => ⟨k, hr, Nat.le_refl _, fun _ => rfl⟩⟩
  have hnew : ∀ (i blk : Nat), (R.β ++ [w.heap.size])[i]? = some blk → R.β[i]? = some blk ∨ (i = R.β.length ∧ blk = w.heap.size) := by
    intro i blk hb
    rcases Nat.lt_or_ge i R.β.length with hlt | hge
    · rw [List.getElem?_append_left hlt] at hb; exact .inl hb
    · rw [List.getElem?_append_right hge] at hb
      have : i - R.β.length = 0 := by
        rcases Nat.eq_zero_or_pos (i - R.β.length) with h0 | h0
        · exact h0
        · rw [List.getElem?_eq_none (by simp; omega)] at hb; cases hb
      rw [this] at hb
      simp at hb
      exact .inr ⟨by omega, hb.symm⟩
  have k := hs.keep (w1 := w.alloc (.cells v.cells t)) (alloc_old w _)
  refine ⟨{ R with β := R.β ++ [w.heap.size] }, hle, ?_, ?_, (Below.refl _ _).alloc hB _, fun _ _ _ hx => .inl hx⟩
  · refine .ptr _ _ _ ?_
    show (R.β ++ [w.heap.size])[h.bx.length]? = some w.heap.size
    rw [← hs.lβ]; simp
  · constructor
    · exact hs.hw
    · exact hs.lρ
    · simp [hs.lβ]
    · exact k.mem
    · intro i blk cs hb hc
      rcases hnew i blk hb with h1 | ⟨rfl, rfl⟩
      · have hi : i < h.bx.length := by
          have := (List.getElem?_eq_some_iff.1 h1).1
          rw [hs.lβ] at this; exact this
        have hc' : h.bx[i]? = some cs := by
          have : (h.bx ++ [q.cells])[i]? = some cs := hc
          rwa [List.getElem?_append_left hi] at this
        obtain ⟨a1, a2, vs, e, hh, a3, a4⟩ := k.box i blk cs h1 hc'
        exact ⟨a1, a2, vs, e, hh, a3, fun j v p hj hp => ⟨(a4 j v p hj hp).1.mono hle, (a4 j v p hj hp).2⟩⟩
      · have hc' : cs = q.cells := by
          have : (h.bx ++ [q.cells])[R.β.length]? = some cs := hc
          rw [hs.lβ] at this
          simpa using this.symm
        subst hc'
        obtain ⟨c1, c2⟩ := hv.cells hf
        refine ⟨hB, fun o => ?_, v.cells, t, alloc_new w _, c1, fun j v p hj hp => ⟨(c2 j v p hj hp).1.mono hle, (c2 j v p hj hp).2⟩⟩
        cases hm : R.M w.heap.size o with
        | none => rfl
        | some x => exact absurd (hs.lt hm) (Nat.lt_irrefl _)
    · intro i j blk hi hj
      rcases hnew i blk hi with h1 | ⟨rfl, rfl⟩
      · rcases hnew j blk hj with h2 | ⟨rfl, rfl⟩
        · exact hs.boxne i j blk h1 h2
        · exact absurd (hs.boxlt h1) (Nat.lt_irrefl _)
      · rcases hnew j w.heap.size hj with h2 | ⟨rfl, _⟩
        · exact absurd (hs.boxlt h2) (Nat.lt_irrefl _)
        · rfl
    · exact k.row
    · exact hs.rowne
    · intro i r blk sz kk hi hr hk
      rcases hnew i blk hi with h1 | ⟨rfl, rfl⟩
      · exact hs.boxrow i r blk sz kk h1 hr hk
      · rcases Nat.eq_zero_or_pos kk with h0 | h0
        · exact h0
        · exact absurd (hs.rowlt hr hk h0) (Nat.lt_irrefl _)
    · simp [hs.lty]
    · intro i blk t' hb ht
      rcases hnew i blk hb with h1 | ⟨rfl, rfl⟩
      · have hi : i < h.ty.length := by
          have := (List.getElem?_eq_some_iff.1 h1).1
          rw [hs.lβ, ← hs.lty] at this; exact this
        have ht' : h.ty[i]? = some t' := by
          have : (h.ty ++ [t])[i]? = some t' := ht
          rwa [List.getElem?_append_left hi] at this
        exact k.ty i blk t' h1 ht'
      · have ht' : t' = t := by
          have : (h.ty ++ [t])[R.β.length]? = some t' := ht
          rw [hs.lβ, ← hs.lty] at this
          simpa using this.symm
        subst ht'
        exact ⟨v.cells, alloc_new w _⟩
    · exact hs.lrt
    · exact k.rt

/-- A store into a box. -/
theorem hsim_store {B0 : Nat} {R : Rel} {h : Hp} {w w1 : World} (hs : HSim B0 R h w) {b blk : Nat} {cs cs' : List PV} (hb : R.β[b]? = some blk) (hc : h.bx[b]? = some cs)
    {vs vs' : Array Value} {e : TypeId} (hW : ∀ k, k ≠ blk → w1.heap[k]? = w.heap[k]?) (ho : w.heap[blk]? = some (.cells vs e (0, 0))) (hn : w1.heap[blk]? = some (.cells vs' e (0, 0))) (hl : vs'.size = cs'.length)
    (hv : ∀ (j : Nat) (v : Value) (p : PV), vs'[j]? = some v → cs'[j]? = some p → VR R v p ∧ p.isCell = true) : HSim B0 R { h with bx := h.bx.set b cs' } w1 where
  hw := hs.hw
  lρ := hs.lρ
  lβ := by simp [hs.lβ]
  mem b' o v hm := by
    have h1 := hs.mem b' o v hm
    refine ⟨?_, h1.2⟩
    have hne : b' ≠ blk := by
      rintro rfl
      have := (hs.box b b' cs hb hc).2.1 o
      rw [this] at hm; cases hm
    rw [World.cell?_of_block (w := w) (w' := w1) (hW b' hne)]; exact h1.1
  box i blk' cs'' hb' hc' := by
    by_cases hi : i = b
    · subst hi
      have e1 : blk' = blk := by rw [hb] at hb'; exact (Option.some.inj hb').symm
      subst e1
      have hlt := (List.getElem?_eq_some_iff.1 hc).1
      have e2 : cs'' = cs' := by
        have : (h.bx.set i cs')[i]? = some cs'' := hc'
        rw [List.getElem?_set_self hlt] at this
        exact (Option.some.inj this).symm
      subst e2
      obtain ⟨a1, a2, _⟩ := hs.box i blk' cs hb hc
      exact ⟨a1, a2, vs', e, hn, hl, hv⟩
    · have hc2 : h.bx[i]? = some cs'' := by
        have : (h.bx.set b cs')[i]? = some cs'' := hc'
        rwa [List.getElem?_set_ne (fun e => hi e.symm)] at this
      obtain ⟨a1, a2, vs, e, hh, a3⟩ := hs.box i blk' cs'' hb' hc2
      exact ⟨a1, a2, vs, e, (hW blk' (fun e => hi (hs.boxne i b blk' hb' (e ▸ hb)))).trans hh, a3⟩
  boxne := hs.boxne
  row r blk' sz k hr hk h0 := by
    obtain ⟨a1, a2, vs, e, fz, hh, a3⟩ := hs.row r blk' sz k hr hk h0
    refine ⟨a1, a2, vs, e, fz, (hW blk' ?_).trans hh, a3⟩
    rintro rfl
    have := hs.boxrow b r blk' sz k hb hr hk
    omega
  rowne := hs.rowne
  boxrow := hs.boxrow
  lty := by simp [hs.lty]
  ty i blk' t hb' ht := by
    obtain ⟨us, hh⟩ := hs.ty i blk' t hb' ht
    by_cases hi : blk' = blk
    · subst hi
      rw [ho] at hh
      cases hh
      exact ⟨_, hn⟩
    · exact ⟨us, (hW blk' hi).trans hh⟩
  lrt := hs.lrt
  rt r blk' sz k t hr hk h0 ht := by
    obtain ⟨us, fz, hh⟩ := hs.rt r blk' sz k t hr hk h0 ht
    refine ⟨us, fz, (hW blk' ?_).trans hh⟩
    rintro rfl
    have := hs.boxrow b r blk' sz k hb hr hk
    omega

/-- A new block that holds a row from its begin on. -/
theorem hsim_row {B0 : Nat} {R : Rel} {h : Hp} {w w1 : World} (hs : HSim B0 R h w) (hB : B0 ≤ w.heap.size) {C : List Value} {vs : Array Value} {e : TypeId}
    (hW : ∀ b, b < w.heap.size → w1.heap[b]? = w.heap[b]?) (hn : w1.heap[w.heap.size]? = some (.cells vs e (0, 0)))
    (hC : ∀ (o : Nat) (v : Value), C[o]? = some v → vs[o]? = some v ∧ v.oneCell' = true) (hk : C.length ≤ vs.size)
    {r : Nat} {ρ' : List (Nat × Nat)} {hw' : List Nat} (hl1 : ρ'.length = hw'.length) (hl2 : ∀ (r' : Nat), r' ≠ r → ρ'[r']? = R.ρ[r']? ∧ hw'[r']? = R.hw[r']?)
    (hr1 : ρ'[r]? = some (w.heap.size, vs.size)) (hr2 : hw'[r]? = some C.length) (hlt : ∀ k, R.hw[r]? = some k → k < C.length)
    {rt' : List TypeId} (hl3 : rt'.length = hw'.length) (hl4 : ∀ (r' : Nat), r' ≠ r → rt'[r']? = h.rt[r']?) (hr3 : rt'[r]? = some e) :
    R.Le { M := fun b o => if b = w.heap.size then C[o]? else R.M b o, β := R.β, ρ := ρ', hw := hw' } ∧
    HSim B0 { M := fun b o => if b = w.heap.size then C[o]? else R.M b o, β := R.β, ρ := ρ', hw := hw' } { h with hw := hw', rt := rt' } w1 := by
  have hM : ∀ o, R.M w.heap.size o = none := by
    intro o
    cases hm : R.M w.heap.size o with
    | none => rfl
    | some x => exact absurd (hs.lt hm) (Nat.lt_irrefl _)
  have hle : R.Le { M := fun b o => if b = w.heap.size then C[o]? else R.M b o, β := R.β, ρ := ρ', hw := hw' } := by
    refine ⟨fun b o v hm => ?_, fun _ _ hx => hx, fun r' k hr => ?_⟩
    · have : b ≠ w.heap.size := by rintro rfl; rw [hM] at hm; cases hm
      simp only [this, if_false]; exact hm
    · by_cases hrr : r' = r
      · subst hrr
        have := hlt k hr
        exact ⟨C.length, hr2, by omega, fun he => by omega⟩
      · obtain ⟨e1, e2⟩ := hl2 r' hrr
        exact ⟨k, e2.trans hr, Nat.le_refl _, fun _ => e1⟩
  have k := hs.keep hW
  refine ⟨hle, ⟨rfl, hl1, hs.lβ, fun b o v hm => ?_, fun i blk cs hb hc => ?_, hs.boxne, fun r' blk sz kk hρ hh h0 => ?_, fun r1 r2 blk sz sz' k1 k2 h1 h2 h3 h4 h5 h6 => ?_, fun i r' blk sz kk h1 h2 h3 => ?_, ?_, ?_, hl3, fun r' blk sz kk t hρ hh h0 ht => ?_⟩⟩
  · dsimp only at hm
    by_cases hb : b = w.heap.size
    · subst hb
      simp only [if_true] at hm
      obtain ⟨h1, h2⟩ := hC o v hm
      refine ⟨?_, h2⟩
      rw [cell_of_row w1 w.heap.size o vs e (0, 0) hn]; exact h1
    · simp only [hb, if_false] at hm
      exact k.mem b o v hm
  · obtain ⟨a1, a2, vs', e', hh, a3, a4⟩ := k.box i blk cs hb hc
    refine ⟨a1, fun o => ?_, vs', e', hh, a3, fun j v p hj hp => ⟨(a4 j v p hj hp).1.mono hle, (a4 j v p hj hp).2⟩⟩
    have : blk ≠ w.heap.size := Nat.ne_of_lt (hs.boxlt hb)
    simp only [this, if_false]; exact a2 o
  · by_cases hrr : r' = r
    · subst hrr
      rw [hr1] at hρ
      rw [hr2] at hh
      obtain ⟨rfl, rfl⟩ := Prod.mk.inj (Option.some.inj hρ)
      obtain rfl := Option.some.inj hh
      refine ⟨hB, fun o ho => ?_, vs, e, (0, 0), hn, rfl, hk, Nat.zero_le _⟩
      simp only [if_true]
      exact List.getElem?_eq_none ho
    · obtain ⟨e1, e2⟩ := hl2 r' hrr
      rw [e1] at hρ
      rw [e2] at hh
      obtain ⟨a1, a2, a3⟩ := k.row r' blk sz kk hρ hh h0
      refine ⟨a1, fun o ho => ?_, a3⟩
      have : blk ≠ w.heap.size := Nat.ne_of_lt (hs.rowlt hρ hh h0)
      simp only [this, if_false]; exact a2 o ho
  · dsimp only at h1 h2 h3 h4
    by_cases c1 : r1 = r
    · by_cases c2 : r2 = r
      · rw [c1, c2]
      · obtain ⟨e1, e2⟩ := hl2 r2 c2
        rw [e1] at h2
        rw [e2] at h4
        rw [c1, hr1] at h1
        obtain ⟨rfl, _⟩ := Prod.mk.inj (Option.some.inj h1)
        exact absurd (hs.rowlt h2 h4 h6) (Nat.lt_irrefl _)
    · obtain ⟨e1, e2⟩ := hl2 r1 c1
      rw [e1] at h1
      rw [e2] at h3
      by_cases c2 : r2 = r
      · rw [c2, hr1] at h2
        obtain ⟨rfl, _⟩ := Prod.mk.inj (Option.some.inj h2)
        exact absurd (hs.rowlt h1 h3 h5) (Nat.lt_irrefl _)
      · obtain ⟨e3, e4⟩ := hl2 r2 c2
        rw [e3] at h2
        rw [e4] at h4
        exact hs.rowne r1 r2 blk sz sz' k1 k2 h1 h2 h3 h4 h5 h6
  · dsimp only at h1 h2 h3
    by_cases c1 : r' = r
    · rw [c1, hr1] at h2
      obtain ⟨rfl, _⟩ := Prod.mk.inj (Option.some.inj h2)
      exact absurd (hs.boxlt h1) (Nat.lt_irrefl _)
    · obtain ⟨e1, e2⟩ := hl2 r' c1
      rw [e1] at h2
      rw [e2] at h3
      exact hs.boxrow i r' blk sz kk h1 h2 h3
  · exact hs.lty
  · exact k.ty
  · by_cases hrr : r' = r
    · subst hrr
      rw [hr1] at hρ
      obtain ⟨rfl, rfl⟩ := Prod.mk.inj (Option.some.inj hρ)
      have ht : rt'[r']? = some t := ht
      rw [hr3] at ht
      cases ht
      exact ⟨vs, (0, 0), hn⟩
    · obtain ⟨e1, e2⟩ := hl2 r' hrr
      have ht : rt'[r']? = some t := ht
      rw [hl4 r' hrr] at ht
      rw [e1] at hρ
      rw [e2] at hh
      exact k.rt r' blk sz kk t hρ hh h0 ht

end Pm
end Go.Proofs.Ytacccimihgailaa
