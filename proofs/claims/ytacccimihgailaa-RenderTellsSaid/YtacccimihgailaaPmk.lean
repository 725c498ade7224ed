/- Every operation, as a whole. -/
import Derived.Test.YtacccimihgailaaPmj
import Derived.Laws.Externs
import Derived.Lib.UnsafeStr
import Derived.Lib.Builder
set_option linter.unusedVariables false
set_option linter.unusedSimpArgs false
namespace Go.Proofs.Ytacccimihgailaa
namespace Pm
open Go.RowKit
section
variable {P : Program} {B0 : Nat} {R : Rel} {h : Hp} {w : World}

def Runs (P : Program) (B0 : Nat) (R : Rel) (w : World) (m : Sem Next) (p : PV) (h' : Hp) : Prop :=
  ∃ nx v w', m.run P w = .ok nx w' ∧ (nx = .value v ∨ (nx = .skip ∧ v = undef)) ∧ Good B0 R w v p h' w'

theorem runs_same (hs : HSim B0 R h w) {m : Sem Value} {p : PV} (hm : ∃ u, m.run P w = .ok u w ∧ VR R u p) : Runs P B0 R w (do pure (.value (← m))) p h := by
  obtain ⟨u, h1, h2⟩ := hm
  exact ⟨.value u, u, w, by simp [h1], .inl rfl, good_same hs h2⟩
theorem runs_good {m : Sem Value} {p : PV} {h' : Hp} (hm : ∃ u w', m.run P w = .ok u w' ∧ Good B0 R w u p h' w') : Runs P B0 R w (do pure (.value (← m))) p h' := by
  obtain ⟨u, w', h1, h2⟩ := hm
  exact ⟨.value u, u, w', by simp [h1], .inl rfl, h2⟩

theorem omap {ρv : Operand → Value} {ev : Operand → PV} (hev : ∀ x, VR R (ρv x) (ev x)) (o : Option Operand) : OVR R (o.map ρv) (o.map ev) := by
  cases o with
  | none => trivial
  | some x => exact hev x

theorem pure_map {h' : Hp} {x : Option PV} {c : Bool} {p : PV} (hp : x.map (fun v => (true, v, h)) = some (c, p, h')) : x = some p ∧ h' = h := by
  cases x with
  | none => simp at hp
  | some q => simp at hp; exact ⟨by rw [hp.2.1], hp.2.2.symm⟩
theorem cond_map {h' : Hp} {x : Option (Bool × PV)} {p : PV} (hp : x.map (fun (c, v) => (c, v, h)) = some (true, p, h')) : x = some (true, p) ∧ h' = h := by
  cases x with
  | none => simp at hp
  | some q => obtain ⟨a, b⟩ := q; simp at hp; exact ⟨by rw [hp.1, hp.2.1], hp.2.2.symm⟩

theorem one_val {vals : List Value} {x : PV} (hl : vals.length = [x].length) (hv : ∀ (i : Nat) (v : Value) (p : PV), vals[i]? = some v → [x][i]? = some p → VR R v p) : ∃ v, vals = [v] ∧ VR R v x := by
  match vals, hl with
  | [v], _ => exact ⟨v, rfl, hv 0 v x rfl rfl⟩
theorem two_vals {vals : List Value} {x y : PV} (hl : vals.length = [x, y].length) (hv : ∀ (i : Nat) (v : Value) (p : PV), vals[i]? = some v → [x, y][i]? = some p → VR R v p) : ∃ v u, vals = [v, u] ∧ VR R v x ∧ VR R u y := by
  match vals, hl with
  | [v, u], _ => exact ⟨v, u, rfl, hv 0 v x rfl rfl, hv 1 u y rfl rfl⟩

/-- Bytes that a string shares: the row is as it was for us. -/
theorem hsim_freeze (hs : HSim B0 R h w) {r blk sz n : Nat} (hr : R.ρ[r]? = some (blk, sz)) (hk : R.hw[r]? = some n) (h0 : 0 < n) : HSim B0 R h (w.freeze ⟨blk, 0, none⟩ n) ∧ Below B0 w (w.freeze ⟨blk, 0, none⟩ n) := by
  obtain ⟨hB, hMn, vs, e, fz, hh, hsz, hkz, hfz⟩ := hs.row r blk sz n hr hk h0
  have hfar : ∀ b, b ≠ blk → (w.freeze ⟨blk, 0, none⟩ n).heap[b]? = w.heap[b]? := by
    intro b hb
    unfold World.freeze
    rw [if_neg (by omega)]
    show (w.heap.modify blk _)[b]? = _
    rw [Array.getElem?_modify]; simp [Ne.symm hb]
  have hnear : ∃ fz', (w.freeze ⟨blk, 0, none⟩ n).heap[blk]? = some (.cells vs e fz') ∧ fz'.2 ≤ n := by
    obtain ⟨lo, hi⟩ := fz
    unfold World.freeze
    rw [if_neg (by omega)]
    refine ⟨if lo == hi then (0, 0 + n) else (min lo 0, max hi (0 + n)), ?_, ?_⟩
    · show (w.heap.modify blk _)[blk]? = _
      rw [Array.getElem?_modify]; simp [hh]
    · dsimp only at hfz
      split
      · simp
      · simp; omega
  have hsize : (w.freeze ⟨blk, 0, none⟩ n).heap.size = w.heap.size := by
    unfold World.freeze
    rw [if_neg (by omega)]
    show (w.heap.modify _ _).size = _
    simp
  obtain ⟨fz', hn, hfz'⟩ := hnear
  refine ⟨⟨hs.hw, hs.lρ, hs.lβ, fun b o v hm => ?_, fun i b' cs hb hc => ?_, hs.boxne, fun r' b' s' x hρ hx hx0 => ?_, hs.rowne, hs.boxrow, hs.lty, fun i b' t hb ht => ?_, hs.lrt, fun r' b' s' x t hρ hx hx0 ht => ?_⟩, ⟨?_, ?_, ?_, Nat.le_of_eq hsize.symm, fun k hk => hfar k (by omega)⟩⟩
  · obtain ⟨m1, m2⟩ := hs.mem b o v hm
    refine ⟨?_, m2⟩
    by_cases cb : b = blk
    · subst cb
      rw [cell_of_row _ b o vs e fz' hn]
      rwa [cell_of_row w b o vs e fz hh] at m1
    · rw [World.cell?_of_block (w := w) (w' := w.freeze ⟨blk, 0, none⟩ n) (hfar b cb)]; exact m1
  · obtain ⟨a1, a2, vs1, e1, hh1, a3⟩ := hs.box i b' cs hb hc
    have hne : b' ≠ blk := by
      rintro rfl
      have := hs.boxrow i r b' sz n hb hr hk
      omega
    exact ⟨a1, a2, vs1, e1, (hfar b' hne).trans hh1, a3⟩
  · obtain ⟨b1, b2, vs1, e1, fz1, hh1, b3, b4, b5⟩ := hs.row r' b' s' x hρ hx hx0
    by_cases cb : b' = blk
    · subst cb
      have hrr : r' = r := hs.rowne r' r b' s' sz x n hρ hr hx hk hx0 h0
      subst hrr
      rw [hh] at hh1
      cases hh1
      rw [hk] at hx
      cases hx
      exact ⟨b1, b2, vs, e, fz', hn, b3, b4, hfz'⟩
    · exact ⟨b1, b2, vs1, e1, fz1, (hfar b' cb).trans hh1, b3, b4, b5⟩
  · obtain ⟨us, hh1⟩ := hs.ty i b' t hb ht
    have hne : b' ≠ blk := by
      rintro rfl
      have := hs.boxrow i r b' sz n hb hr hk
      omega
    exact ⟨us, (hfar b' hne).trans hh1⟩
  · obtain ⟨us, fz1, hh1⟩ := hs.rt r' b' s' x t hρ hx hx0 ht
    by_cases cb : b' = blk
    · subst cb
      rw [hh] at hh1
      cases hh1
      exact ⟨_, _, hn⟩
    · exact ⟨us, fz1, (hfar b' cb).trans hh1⟩
  all_goals (unfold World.freeze; rw [if_neg (by omega)])

theorem ebytes_some : ∀ {ps : List PV} {l : List UInt8}, ebytes? ps = some l → ps = byteEls l
  | [], l, h => by cases h; rfl
  | p :: ps, l, h => by
    cases p
    case int k n =>
      cases k
      case u8 =>
        unfold ebytes? at h
        split at h
        case isFalse => cases h
        rename_i hn
        obtain ⟨r, h1, rfl⟩ := Option.map_eq_some_iff.1 h
        rw [ebytes_some h1]
        have : ((n.toNat.toUInt8).toNat : Int) = n := by
          have : n.toNat < 256 := by omega
          simp [Nat.toUInt8, UInt8.toNat_ofNat, Nat.mod_eq_of_lt this]; omega
        simp [byteEls]; omega
      all_goals (unfold ebytes? at h; cases h)
    all_goals (unfold ebytes? at h; cases h)

theorem pbuiltin_sound (hs : HSim B0 R h w) (hB : B0 ≤ w.heap.size) {b : Builtin} {ts : List TypeId} {ty : TypeId} {vals : List Value} {xs : List PV} {p : PV} {h' : Hp} (hl : vals.length = xs.length)
    (hv : ∀ (i : Nat) (v : Value) (p : PV), vals[i]? = some v → xs[i]? = some p → VR R v p) (hp : pbuiltin P h b ts xs = some (true, p, h')) :
    ∃ u w', (∀ consts, (builtin b ts.toArray ty consts vals.toArray).run P w = .ok (.value u) w') ∧ Good B0 R w u p h' w' := by
  unfold pbuiltin at hp
  split at hp
  · rename_i t x
    obtain ⟨v, rfl, hvx⟩ := one_val hl hv
    obtain ⟨h1, rfl⟩ := pure_map hp
    obtain ⟨u, g1, g2⟩ := plen_sound (P := P) (w := w) (ty := ty) hvx h1
    exact ⟨u, w, fun _ => by simp [builtin, g1], good_same hs g2⟩
  · rename_i t t' s x
    obtain ⟨v, v', rfl, hvs, hvx⟩ := two_vals hl hv
    obtain ⟨u, w', g1, g2⟩ := pappend_sound (P := P) (ty := ty) hs hB hvs hvx hp
    exact ⟨u, w', fun _ => by simp [builtin, g1], g2⟩
  · rename_i t x
    obtain ⟨v, rfl, hvx⟩ := one_val hl hv
    split at hp
    · rename_i r cap es
      split at hp
      case isFalse => cases hp
      rename_i hg
      obtain ⟨hk, hne, hall⟩ := hg
      cases hp
      have h0 : 0 < es.length := by
        cases es with
        | nil => simp at hne
        | cons a l => simp
      cases hvx with
      | sl _ _ _ _ _ A c blk o f hc hcap hn ha hz hm hvv htk =>
      obtain rfl := (ha rfl).resolve_right (by rintro ⟨h9, _⟩; subst h9; simp at hne)
      obtain ⟨x, hx, hnx, hlive⟩ := htk r rfl
      rw [hs.hw, hk] at hx
      cases hx
      rcases hlive (by simp) with ⟨n0, _⟩ | ⟨_, _, rfl, sz, hρ, hcs⟩
      · simp at n0; omega
      · have hcz : ∀ (i : Nat) (q : PV), es[i]? = some q → q.cells = [q] := by
          intro i q hi
          rw [List.all_eq_true] at hall
          have := hall q (List.mem_of_getElem? hi)
          cases q <;> first | rfl | simp [PV.isCell] at this
        refine ⟨.pointer (some ⟨blk, 0, none⟩), w, fun _ => ?_, good_same hs (.rp r es blk (fun i => f i 0) (fun i q hi => ?_) (fun i q hi => ?_) (fun r2 hr2 => ?_))⟩
        · simp [builtin, Lib.run_unsafeSliceData_row (P := P) w _ ty ⟨blk, 0, none⟩ es.length c (by omega)]
        · have := hm i q 0 q hi (by rw [hcz i q hi]; rfl)
          simpa using this
        · exact hvv i q 0 q hi (by rw [hcz i q hi]; rfl)
        · cases hr2
          refine ⟨es.length, by rw [hs.hw]; exact hk, Nat.le_refl _, fun _ => .inr ⟨h0, rfl, rfl, sz, hρ, by omega⟩⟩
    · rename_i tok cap z es
      cases hp
      cases hvx with
      | sl _ _ _ _ _ A c blk o f hc hcap hn ha hz hm hvv htk =>
      obtain ⟨rfl, rfl, rfl⟩ := hn rfl
      exact ⟨.pointer none, w, fun _ => by simp [builtin, Lib.run_unsafeSliceData_nil], good_same hs (.raw _)⟩
    · cases hp
  · rename_i pt it x n
    obtain ⟨v, v', rfl, hvx, hvn⟩ := two_vals hl hv
    split at hp
    · rename_i e r es m hpt
      split at hp
      case isFalse => cases hp
      rename_i hg
      obtain ⟨rfl, hk, hrt, hc1, hne⟩ := hg
      cases hb : ebytes? es with
      | none => simp [hb] at hp
      | some l =>
        simp only [hb, Option.map_some, Option.some.injEq, Prod.mk.injEq, decide_eq_true_eq] at hp
        obtain ⟨h63, rfl, rfl⟩ := hp
        obtain rfl := ebytes_some hb
        have hll : (byteEls l).length = l.length := by simp [byteEls]
        rw [hll] at h63 hk hvn
        have h0 : 0 < l.length := by
          cases l with
          | nil => simp [byteEls] at hne
          | cons a l => simp
        cases hvn
        cases hvx with
        | rp _ _ blk f hm hvv htk =>
        obtain ⟨x, hx, hnx, hlive⟩ := htk r rfl
        rw [hs.hw, hk] at hx
        cases hx
        rw [hll] at hlive
        rcases hlive rfl with ⟨n0, _⟩ | ⟨_, _, _, sz, hρ, hcs⟩
        · omega
        · have hk' : R.hw[r]? = some l.length := by rw [hs.hw]; exact hk
          obtain ⟨us, fz, hh⟩ := hs.rt r blk sz _ e hρ hk' h0 hrt
          obtain ⟨_, _, vs1, e1, fz1, hh1, hsz1, _⟩ := hs.row r blk sz _ hρ hk' h0
          rw [hh] at hh1
          cases hh1
          obtain ⟨g1, g2⟩ := hsim_freeze hs hρ hk' h0
          have hsh : w.shape? blk = some (e, sz) := by simp [World.shape?, hh, hsz1]
          have hrun := Lib.run_unsafeString_row (P := P) w pt it ty e hpt hc1 blk sz hsh l (by intro hl; subst hl; simp at h0) hcs h63 (fun j x hj => by
            have hj' : (byteEls l)[j]? = some (.int .u8 x.toNat) := by simp [byteEls, hj]
            have h1 := (hs.mem _ _ _ (hm j _ hj')).1
            have h2 := hvv j _ hj'
            rw [add_off, Nat.zero_add, h1]
            generalize f j = y at h2
            cases h2; rfl)
          refine ⟨.string ⟨l.toArray⟩, _, fun _ => ?_, R, Rel.Le.refl R, .str l, g1, g2, fun _ _ _ hx => .inl hx⟩
          simp [builtin, hrun]
    · rename_i m hpt
      split at hp
      case isFalse => cases hp
      rename_i hm
      subst hm
      cases hp
      cases hvx
      cases hvn
      refine ⟨.string .empty, w, fun _ => by simp [builtin, Lib.run_unsafeString_none], good_same hs ?_⟩
      exact .str []
    · cases hp
  · cases hp

theorem noEscape_find {fn : Func} (hn : fn.name = "internal/abi.NoEscape") : Extern.find fn = some Extern.AbiNoEscape.same := by
  unfold Extern.find
  simp only [hn]
  rfl
theorem noEscape_run {f : FuncId} (h : noEscape P f = true) (v : Value) : (callFunc f #[v]).run P w = .ok (.value v) w := by
  unfold noEscape at h
  split at h
  case h_2 => cases h
  rename_i fn hf
  simp only [Bool.and_eq_true, beq_iff_eq, Option.isNone_iff_eq_none] at h
  obtain ⟨⟨h1, h2⟩, h3⟩ := h
  rw [run_callFunc_extern hf (by rw [h2]; decide) (by rw [h1]; rfl) h3 (noEscape_find h2)]
  rfl

theorem popv_sound (hs : HSim B0 R h w) (hB : B0 ≤ w.heap.size) {ρv : Operand → Value} {ev : Operand → PV} (hev : ∀ x, VR R (ρv x) (ev x)) {o : Oper} {p : PV} {h' : Hp}
    (hp : popv P h o ev = some (true, p, h')) : Runs P B0 R w (execOp ρv o) p h' := by
  unfold popv at hp
  unfold execOp
  cases hop : o.op <;> simp only [hop] at hp ⊢ <;> try (cases hp; done)
  case move x => cases hp; exact ⟨_, _, w, rfl, .inl rfl, good_same hs (hev x)⟩
  case assign x => cases hp; exact ⟨_, _, w, rfl, .inl rfl, good_same hs (hev x)⟩
  case pick c a b =>
    have hc := hev c
    split at hp
    · rename_i cb hcb
      rw [hcb] at hc
      generalize ρv c = vc at hc
      cases hc
      cases cb
      · simp only [Bool.false_eq_true, if_false, Option.some.injEq, Prod.mk.injEq, true_and] at hp
        obtain ⟨rfl, rfl⟩ := hp
        exact ⟨_, _, w, by simp [asBool], .inl rfl, good_same hs (hev b)⟩
      · simp only [if_true, Option.some.injEq, Prod.mk.injEq, true_and] at hp
        obtain ⟨rfl, rfl⟩ := hp
        exact ⟨_, _, w, by simp [asBool], .inl rfl, good_same hs (hev a)⟩
    · cases hp
  case alloc t =>
    cases hz : pzero P t with
    | none => simp [hz] at hp
    | some z =>
      simp only [hz, Option.bind_some] at hp
      split at hp
      case isFalse => cases hp
      rename_i hf
      simp only [Option.some.injEq, Prod.mk.injEq, true_and] at hp
      obtain ⟨rfl, rfl⟩ := hp
      unfold pzero at hz
      obtain ⟨zv, hzv, rfl⟩ := Option.map_eq_some_iff.1 hz
      obtain ⟨it, hit, hzv⟩ := Option.bind_eq_some_iff.1 hzv
      refine runs_good ⟨_, _, ?_, good_box hs hB (VR.lift R zv) hf t⟩
      simp [Instr.alloc, zeroValue, typeInfo, hit, hzv, newVar, newRow]

  case box t x =>
    split at hp
    case isFalse => cases hp
    rename_i hf
    simp only [Option.some.injEq, Prod.mk.injEq, true_and] at hp
    obtain ⟨rfl, rfl⟩ := hp
    refine runs_good ⟨_, _, ?_, good_box hs hB (hev x) hf t⟩
    simp [Instr.box, newVar, newRow]

  case build t parts =>
    obtain ⟨h1, rfl⟩ := pure_map hp
    exact runs_same hs (pbuild_sound hev h1)
  case buildSlice t len parts =>
    split at hp
    case h_2 => cases hp
    rename_i e hu
    cases hpp : pparts 0 (parts.toList.map fun (i, x) => (i, ev x)) with
    | none => simp [hpp] at hp
    | some es =>
      simp only [hpp, Option.bind_some] at hp
      split at hp
      case isFalse => cases hp
      rename_i hg
      obtain ⟨g1, g2, g3, g4, g5, g6⟩ := hg
      simp only [Option.some.injEq, Prod.mk.injEq, true_and] at hp
      obtain ⟨rfl, rfl⟩ := hp
      exact runs_good (buildSlice_sound hs hB hev hu hpp g1 g2 g3 g4 g5 g6)
  case load t a =>
    obtain ⟨h1, rfl⟩ := pure_map hp
    exact runs_same hs (pload_sound hs (hev a) h1)
  case store t a x =>
    split at hp
    case h_2 => cases hp
    rename_i b o' hb
    split at hp
    case h_2 => cases hp
    rename_i cs hc
    split at hp
    case isFalse => cases hp
    rename_i hg
    obtain ⟨g1, g2, g3, g4⟩ := hg
    simp only [Option.some.injEq, Prod.mk.injEq, true_and] at hp
    obtain ⟨rfl, rfl⟩ := hp
    obtain ⟨d, hu⟩ := Option.isSome_iff_exists.1 g1
    have ha := hev a
    rw [hb] at ha
    obtain ⟨w', r1, r2⟩ := good_store (P := P) hs hu ha hc (hev x) g2 g3 g4
    exact ⟨.skip, undef, w', by simp [r1], .inr ⟨rfl, rfl⟩, r2⟩
  case nilCheck x =>
    have hx := hev x
    split at hp
    · rename_i b o' hb
      simp only [Option.some.injEq, Prod.mk.injEq, true_and] at hp
      obtain ⟨rfl, rfl⟩ := hp
      rw [hb] at hx
      generalize ρv x = vx at hx ⊢
      cases hx with
      | ptr _ blk _ h1 => exact ⟨_, _, w, rfl, .inl rfl, good_same hs (.ptr _ blk _ h1)⟩
    · rename_i e o' hb
      simp only [Option.some.injEq, Prod.mk.injEq, true_and] at hp
      obtain ⟨rfl, rfl⟩ := hp
      rw [hb] at hx
      generalize ρv x = vx at hx ⊢
      cases hx with
      | eptr _ blk oo _ f h1 h2 => exact ⟨_, _, w, rfl, .inl rfl, good_same hs (.eptr _ blk oo _ f h1 h2)⟩
    · cases hp
  case binOp op t x y yt =>
    obtain ⟨h1, rfl⟩ := cond_map hp
    exact runs_same hs (pbin_sound (hev x) (hev y) h1)
  case unOp op t x =>
    obtain ⟨h1, rfl⟩ := cond_map hp
    exact runs_same hs (pun_sound (hev x) h1)
  case convert src dst x =>
    obtain ⟨h1, rfl⟩ := cond_map hp
    exact runs_same hs (pconv_sound hs (hev x) h1)
  case slice t x lo hi mx =>
    obtain ⟨h1, rfl⟩ := cond_map hp
    exact runs_same hs (slice_sound (hev x) (omap hev lo) (omap hev hi) (omap hev mx) h1)
  case fieldAddr s x k =>
    obtain ⟨h1, rfl⟩ := pure_map hp
    exact runs_same hs (fieldAddr_sound (hev x) h1)
  case field s x k =>
    obtain ⟨h1, rfl⟩ := pure_map hp
    exact runs_same hs (field_sound (hev x) h1)
  case indexAddr t x i =>
    obtain ⟨h1, rfl⟩ := cond_map hp
    exact runs_same hs (indexAddr_sound (hev x) (hev i) h1)
  case index t x i =>
    obtain ⟨h1, rfl⟩ := cond_map hp
    exact runs_same hs (index_sound (hev x) (hev i) h1)
  case extract x i =>
    have hx := hev x
    split at hp
    case h_2 => cases hp
    rename_i ps hb
    obtain ⟨h1, rfl⟩ := pure_map hp
    rw [hb] at hx
    generalize ρv x = vx at hx ⊢
    cases hx with
    | tup vs _ hl hvs =>
      have hlt := (List.getElem?_eq_some_iff.1 h1).1
      have hg := List.getElem?_eq_getElem (l := vs) (i := i) (by omega)
      exact runs_same hs ⟨vs[i], by simp [Instr.extract, hg], hvs i _ _ hg h1⟩
  case call c =>
    split at hp
    · rename_i b e1
      obtain ⟨u, w', g1, g2⟩ := pbuiltin_sound (P := P) (ty := o.type) hs hB (vals := c.args.toList.map ρv) (by simp) (fun i v p hi hj => by
        rw [List.getElem?_map] at hi hj
        cases hx : c.args.toList[i]? with
        | none => simp [hx] at hi
        | some x =>
          simp [hx] at hi hj
          subst hi; subst hj
          exact hev x) hp
      refine ⟨.value u, u, w', ?_, .inl rfl, g2⟩
      have ea : (c.args.toList.map ρv).toArray = c.args.map ρv := by rw [← Array.toList_map, Array.toArray_toList]
      have et : c.argTypes.toList.toArray = c.argTypes := Array.toArray_toList
      rw [ea, et] at g1
      simp [resolve, e1, invoke, g1]
    · rename_i f e1
      unfold pnative at hp
      split at hp
      case h_2 => cases hp
      rename_i g first captured x hf hxs
      split at hp
      case isFalse => cases hp
      rename_i hg
      obtain ⟨h1, h2, h3⟩ := hg
      cases hp
      simp only [List.isEmpty_iff, Array.toList_eq_nil_iff] at h1 h2
      subst h1; subst h2
      have hvf := hev f
      rw [hf] at hvf
      have hex : ρv f = .func (.func g) #[] #[] := by
        generalize ρv f = v at hvf
        cases hvf; rfl
      have hargs : ∃ y, c.args = #[y] ∧ ev y = p := by
        cases hc : c.args.toList with
        | nil => simp [hc] at hxs
        | cons y l =>
          cases l with
          | nil =>
            simp [hc] at hxs
            exact ⟨y, by rw [← Array.toArray_toList (xs := c.args), hc], hxs⟩
          | cons z l => simp [hc] at hxs
      obtain ⟨y, hy, hyp⟩ := hargs
      have hvy := hev y
      rw [hyp] at hvy
      refine ⟨.value (ρv y), ρv y, w, ?_, .inl rfl, good_same hs hvy⟩
      simp [resolve, e1, hex, Deferred.ofValue, invoke, hy, noEscape_run h3]
    · cases hp

end
end Pm
end Go.Proofs.Ytacccimihgailaa
