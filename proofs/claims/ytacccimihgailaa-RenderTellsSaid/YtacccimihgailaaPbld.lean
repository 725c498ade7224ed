/- strings.Builder, by contracts: a box that holds what was written. -/
import Derived.Test.YtacccimihgailaaPlib
import Derived.Test.YtacccimihgailaaProg
set_option linter.unusedVariables false
set_option linter.unusedSimpArgs false
set_option maxRecDepth 1000000
namespace Go.Proofs.Ytacccimihgailaa
namespace Pm
namespace Tp
open Go.RowKit

section
variable {bx : List (List PV)} {hw : List Nat} {ty rt : List TypeId} {b : Nat} {cs : List PV}
theorem bT_ptr : Try.prog.underlying 67 = some (.pointer 70) := by kernel_rfl
theorem bT_uns : Try.prog.underlying 111 = some .unsafePointer := by kernel_rfl
theorem bT_sl : Try.prog.underlying 68 = some (.slice 5) := by kernel_rfl
theorem bT_str : Try.prog.underlying 9 = some .string := by kernel_rfl
theorem bT_bp : Try.prog.underlying 94 = some (.pointer 5) := by kernel_rfl
theorem bT_c : Try.prog.cellsOf 70 = 2 := by kernel_rfl
theorem bT_ca : agg? Try.prog 67 = some false := by kernel_rfl
theorem bT_cb : agg? Try.prog 68 = some false := by kernel_rfl
theorem bT_c1 : Try.prog.cellsOf 67 = 1 := by kernel_rfl
theorem bT_c2 : Try.prog.cellsOf 68 = 1 := by kernel_rfl
theorem bT_c3 : Try.prog.cellsOf 5 = 1 := by kernel_rfl
theorem bT_b3 : Try.prog.bytesOf 5 = 1 := by kernel_rfl
theorem bT_z3 : ((pzero Try.prog 5).map (·.cells.length)) = some (Try.prog.cellsOf 5) := by kernel_rfl
theorem bT_u1 : (Try.prog.underlying 67).isSome = true := by kernel_rfl
theorem bT_u2 : (Try.prog.underlying 68).isSome = true := by kernel_rfl
theorem bT_lies : liesAt Try.prog Try.prog.depth 70 1 0 70 1 = true := by kernel_rfl
theorem bT_info : (Try.prog.info? 70).isSome = true := by kernel_rfl

theorem cc_conv1 (hb : bx[b]? = some cs) (hl : cs.length = 2) (hty : ty[b]? = some 70) : pconv Try.prog 67 111 ⟨bx, hw, ty, rt⟩ (.ptr b 0) = some (true, .ptr b 0) := by
  simp [pconv, bT_ptr, bT_uns, hty, hb, hl, bT_c]
theorem cc_conv2 (hb : bx[b]? = some cs) (hl : cs.length = 2) (hty : ty[b]? = some 70) : pconv Try.prog 111 67 ⟨bx, hw, ty, rt⟩ (.ptr b 0) = some (true, .ptr b 0) := by
  simp [pconv, bT_ptr, bT_uns, hty, hb, hl, bT_c, bT_lies, bT_info]
theorem cc_nil (hb : bx[b]? = some (.raw (.pointer none) :: cs)) (hl : cs.length = 1) (hty : ty[b]? = some 70) :
    Does Try.prog 54 [.ptr b 0] ⟨bx, hw, ty, rt⟩ (.tup []) ⟨bx.set b (.ptr b 0 :: cs), hw, ty, rt⟩ := by
  have h2 : (PV.raw (.pointer none) :: cs).length = 2 := by simp [hl]
  exact does_run (P := Try.prog) (ds := [.v 6 (.raw (.pointer none)), .b true, .v 10 (.ptr b 0), .v 12 (.ptr b 0), .h 0 (.raw undef) ⟨bx.set b (.ptr b 0 :: cs), hw, ty, rt⟩])
    (C := pload Try.prog 67 ⟨bx, hw, ty, rt⟩ (.ptr b 0) = some (.raw (.pointer none)) ∧ true = true ∧ pconv Try.prog 67 111 ⟨bx, hw, ty, rt⟩ (.ptr b 0) = some (true, .ptr b 0) ∧ true = true ∧
      pconv Try.prog 111 67 ⟨bx, hw, ty, rt⟩ (.ptr b 0) = some (true, .ptr b 0) ∧ pstore Try.prog ⟨bx, hw, ty, rt⟩ 67 (.ptr b 0) (.ptr b 0) = some (true, .raw undef, ⟨bx.set b (.ptr b 0 :: cs), hw, ty, rt⟩) ∧ True)
    (by show _ = _; kernel_rfl) ⟨ans_ld hb bT_ca rfl, rfl, cc_conv1 hb h2 hty, rfl, cc_conv2 hb h2 hty, ans_st hb bT_u1 rfl bT_c1 (by simp) rfl rfl, trivial⟩
theorem cc_ptr (hb : bx[b]? = some (.ptr b 0 :: cs)) :
    Does Try.prog 54 [.ptr b 0] ⟨bx, hw, ty, rt⟩ (.tup []) ⟨bx, hw, ty, rt⟩ := by
  have e1 : pbin Try.prog .neq 67 (.ptr b 0) (.ptr b 0) = some (true, .bool false) := by simp [pbin, bT_ptr, bT_info]
  exact does_run (P := Try.prog) (ds := [.v 6 (.ptr b 0), .b false, .v 18 (.ptr b 0), .v 20 (.bool false), .b false])
    (C := pload Try.prog 67 ⟨bx, hw, ty, rt⟩ (.ptr b 0) = some (.ptr b 0) ∧ false = false ∧ pload Try.prog 67 ⟨bx, hw, ty, rt⟩ (.ptr b 0) = some (.ptr b 0) ∧
      pbin Try.prog .neq 67 (.ptr b 0) (.ptr b 0) = some (true, .bool false) ∧ false = false ∧ True)
    (by show _ = _; kernel_rfl) ⟨ans_ld hb bT_ca rfl, rfl, ans_ld hb bT_ca rfl, e1, rfl, trivial⟩
theorem set_same {α : Type} {l : List α} {i : Nat} {x : α} (h : l[i]? = some x) : l.set i x = l := by
  apply List.ext_getElem?
  intro j
  by_cases c : i = j
  · subst c
    have hlt := (List.getElem?_eq_some_iff.1 h).1
    rw [List.getElem?_set_self hlt, h]
  · rw [List.getElem?_set_ne c]
theorem set_set {α : Type} (l : List α) (i : Nat) (x y : α) : (l.set i x).set i y = l.set i y := List.set_set ..
theorem cc_own (hb : bx[b]? = some (.own b :: cs)) (hl : cs.length = 1) (hty : ty[b]? = some 70) :
    Does Try.prog 54 [.ptr b 0] ⟨bx, hw, ty, rt⟩ (.tup []) ⟨bx, hw, ty, rt⟩ := by
  have hlt := (List.getElem?_eq_some_iff.1 hb).1
  refine does_own hb ?_ ?_
  · have h1 := cc_nil (bx := bx.set b (.raw (.pointer none) :: cs)) (hw := hw) (ty := ty) (rt := rt) (b := b) (cs := cs) (List.getElem?_set_self hlt) hl hty
    have h2 := does_cell h1 (b := b) (j := 0) (cs := .ptr b 0 :: cs) (p := .ptr b 0) (.own b) (by simp [hlt]) rfl (wk_own1 b) rfl
    simpa [set_set, set_same hb] using h2
  · have h1 := cc_ptr (bx := bx.set b (.ptr b 0 :: cs)) (hw := hw) (ty := ty) (rt := rt) (b := b) (cs := cs) (List.getElem?_set_self hlt)
    have h2 := does_cell h1 (b := b) (j := 0) (cs := .ptr b 0 :: cs) (p := .ptr b 0) (.own b) (by simp [hlt]) rfl (wk_own1 b) rfl
    simpa [set_set, set_same hb] using h2
theorem cc_nil1 (hb : bx[b]? = some (.raw (.pointer none) :: cs)) (hl : cs.length = 1) (hty : ty[b]? = some 70) :
    Does Try.prog 54 [.ptr b 0] ⟨bx, hw, ty, rt⟩ (.tup []) ⟨bx.set b (.own b :: cs), hw, ty, rt⟩ := by
  have hlt := (List.getElem?_eq_some_iff.1 hb).1
  have h2 := does_cell (cc_nil (hw := hw) (rt := rt) hb hl hty) (b := b) (j := 0) (cs := .ptr b 0 :: cs) (p := .ptr b 0) (.own b) (by simp [hlt]) rfl (wk_own1 b) rfl
  simpa [set_set] using h2

theorem ws_any {buf buf' : PV} {bx1 : List (List PV)} {hw' rt' : List Nat} {s : List UInt8} (hlt : b < bx1.length) (hcc : Does Try.prog 54 [.ptr b 0] ⟨bx, hw, ty, rt⟩ (.tup []) ⟨bx1, hw, ty, rt⟩) (hb1 : bx1[b]? = some [.own b, buf])
    (ha : pbuiltin Try.prog ⟨bx1, hw, ty, rt⟩ .append [68, 9] [buf, .str s] = some (true, buf', ⟨bx1, hw', ty, rt'⟩)) (hc : buf'.isCell = true) (hcs : buf'.cells = [buf']) :
    Does Try.prog 37 [.ptr b 0, .str s] ⟨bx, hw, ty, rt⟩ (.tup [.int .i64 (s.length : Int), .raw .nilIface]) ⟨bx1.set b [.own b, buf'], hw', ty, rt'⟩ := by
  exact does_run (P := Try.prog) (ds := [.h 8 (.tup []) ⟨bx1, hw, ty, rt⟩, .v 13 buf, .h 15 buf' ⟨bx1, hw', ty, rt'⟩, .h 0 (.raw undef) ⟨bx1.set b [.own b, buf'], hw', ty, rt'⟩])
    (C := Does Try.prog 54 [.ptr b 0] ⟨bx, hw, ty, rt⟩ (.tup []) ⟨bx1, hw, ty, rt⟩ ∧ pload Try.prog 68 ⟨bx1, hw, ty, rt⟩ (.ptr b 1) = some buf ∧
      pbuiltin Try.prog ⟨bx1, hw, ty, rt⟩ .append [68, 9] [buf, .str s] = some (true, buf', ⟨bx1, hw', ty, rt'⟩) ∧
      pstore Try.prog ⟨bx1, hw', ty, rt'⟩ 68 (.ptr b 1) buf' = some (true, .raw undef, ⟨bx1.set b [.own b, buf'], hw', ty, rt'⟩) ∧ true = true ∧ True)
    (by show _ = _; kernel_rfl) ⟨hcc, ans_ld hb1 bT_cb rfl, ha, ans_st hb1 bT_u2 hc bT_c2 (by simp) hcs rfl, rfl, trivial⟩
/-- A new builder's first text. -/
theorem ws0 {s o : List UInt8} (hb : bx[b]? = some [.raw (.pointer none), .sl none true (some 0) 0 []]) (hty : ty[b]? = some 70) (h : app? 1 [] s = some o) :
    Does Try.prog 37 [.ptr b 0, .str s] ⟨bx, hw, ty, rt⟩ (.tup [.int .i64 (s.length : Int), .raw .nilIface]) ⟨bx.set b [.own b, .sl (some hw.length) o.isEmpty none 1 (o.map eB)], hw ++ [o.length * 1], ty, rt ++ [5]⟩ := by
  have hlt := (List.getElem?_eq_some_iff.1 hb).1
  have := ws_any (b := b) (s := s) (by simpa using hlt) (cc_nil1 (hw := hw) (rt := rt) hb rfl hty) (List.getElem?_set_self hlt) (ans_appB0 bT_sl bT_str bT_c3 bT_z3 bT_b3 h) rfl rfl
  simpa [set_set] using this
/-- One more. -/
theorem ws1 {s l o : List UInt8} {r : Nat} (hb : bx[b]? = some [.own b, .sl (some r) l.isEmpty none 1 (l.map eB)]) (hty : ty[b]? = some 70) (hr : hw[r]? = some (l.length * 1)) (hrt : rt[r]? = some 5) (h : app? 1 l s = some o) :
    Does Try.prog 37 [.ptr b 0, .str s] ⟨bx, hw, ty, rt⟩ (.tup [.int .i64 (s.length : Int), .raw .nilIface]) ⟨bx.set b [.own b, .sl (some r) o.isEmpty none 1 (o.map eB)], hw.set r (o.length * 1), ty, rt⟩ := by
  have hlt := (List.getElem?_eq_some_iff.1 hb).1
  exact ws_any (b := b) (s := s) hlt (cc_own (hw := hw) (rt := rt) hb rfl hty) hb (ans_appB bT_sl bT_str bT_c3 bT_z3 bT_b3 hr hrt h) rfl rfl
/-- What a builder that nobody wrote holds. -/
theorem bs0 {v : PV} (hb : bx[b]? = some [v, .sl none true (some 0) 0 []]) : Does Try.prog 38 [.ptr b 0] ⟨bx, hw, ty, rt⟩ (.str []) ⟨bx, hw, ty, rt⟩ := by
  have hl : pload Try.prog 68 ⟨bx, hw, ty, rt⟩ (.ptr b 1) = some (.sl none true (some 0) 0 []) := ans_ld hb bT_cb rfl
  exact does_run (P := Try.prog) (ds := [.v 7 (.sl none true (some 0) 0 []), .v 12 (.sl none true (some 0) 0 [])])
    (C := pload Try.prog 68 ⟨bx, hw, ty, rt⟩ (.ptr b 1) = some (.sl none true (some 0) 0 []) ∧ true = true ∧ pload Try.prog 68 ⟨bx, hw, ty, rt⟩ (.ptr b 1) = some (.sl none true (some 0) 0 []) ∧ true = true ∧ true = true ∧ True)
    (by show _ = _; kernel_rfl) ⟨hl, rfl, hl, rfl, rfl, trivial⟩
theorem bs1 {l o : List UInt8} {r : Nat} {v : PV} (hb : bx[b]? = some [v, .sl (some r) l.isEmpty none 1 (l.map eB)]) (hr : hw[r]? = some (l.length * 1)) (hrt : rt[r]? = some 5) (h : str? l = some o) :
    Does Try.prog 38 [.ptr b 0] ⟨bx, hw, ty, rt⟩ (.str o) ⟨bx, hw, ty, rt⟩ := by
  have hle : l.length ≤ 9223372036854775807 ∧ o = l := by
    unfold str? at h
    split at h
    · cases h; exact ⟨‹_›, rfl⟩
    · cases h
  obtain ⟨hle, rfl⟩ := hle
  cases o with
  | nil =>
    have hl : pload Try.prog 68 ⟨bx, hw, ty, rt⟩ (.ptr b 1) = some (.sl (some r) true none 1 []) := ans_ld hb bT_cb rfl
    exact does_run (P := Try.prog) (ds := [.v 7 (.sl (some r) true none 1 []), .v 12 (.sl (some r) true none 1 [])])
      (C := pload Try.prog 68 ⟨bx, hw, ty, rt⟩ (.ptr b 1) = some (.sl (some r) true none 1 []) ∧ true = true ∧ pload Try.prog 68 ⟨bx, hw, ty, rt⟩ (.ptr b 1) = some (.sl (some r) true none 1 []) ∧ true = true ∧ true = true ∧ True)
      (by show _ = _; kernel_rfl) ⟨hl, rfl, hl, rfl, rfl, trivial⟩
  | cons a l =>
    have hl : pload Try.prog 68 ⟨bx, hw, ty, rt⟩ (.ptr b 1) = some (.sl (some r) false none 1 ((a :: l).map eB)) := ans_ld hb bT_cb rfl
    have hr' : hw[r]? = some ((a :: l).map eB).length := by rw [hr]; simp
    have hall : ((a :: l).map eB).all PV.isCell = true := by simp [eB, PV.isCell]
    have e1 : pbuiltin Try.prog ⟨bx, hw, ty, rt⟩ .unsafeSliceData [68] [.sl (some r) false none 1 ((a :: l).map eB)] = some (true, .rp r ((a :: l).map eB), ⟨bx, hw, ty, rt⟩) := by
      simp only [pbuiltin, hr', hall]
      simp
    have e2 : pbuiltin Try.prog ⟨bx, hw, ty, rt⟩ .len [68] [.sl (some r) false none 1 ((a :: l).map eB)] = some (true, .int .i64 ((a :: l).length : Int), ⟨bx, hw, ty, rt⟩) := ans_len bT_sl
    have e3 : pbuiltin Try.prog ⟨bx, hw, ty, rt⟩ .unsafeString [94, 3] [.rp r ((a :: l).map eB), .int .i64 ((a :: l).length : Int)] = some (true, .str (a :: l), ⟨bx, hw, ty, rt⟩) := by
      have hle' : (a :: l).length ≤ 9223372036854775807 := hle
      simp only [pbuiltin, bT_bp, hr', hrt, bT_c3, ebytes_map, List.length_map, Option.map_some, hle', decide_true]
      simp
    exact does_run (P := Try.prog) (ds := [.v 7 (.sl (some r) false none 1 ((a :: l).map eB)), .v 8 (.rp r ((a :: l).map eB)), .v 12 (.sl (some r) false none 1 ((a :: l).map eB)), .v 13 (.int .i64 ((a :: l).length : Int)), .v 14 (.str (a :: l))])
      (C := pload Try.prog 68 ⟨bx, hw, ty, rt⟩ (.ptr b 1) = some (.sl (some r) false none 1 ((a :: l).map eB)) ∧
        pbuiltin Try.prog ⟨bx, hw, ty, rt⟩ .unsafeSliceData [68] [.sl (some r) false none 1 ((a :: l).map eB)] = some (true, .rp r ((a :: l).map eB), ⟨bx, hw, ty, rt⟩) ∧
        pload Try.prog 68 ⟨bx, hw, ty, rt⟩ (.ptr b 1) = some (.sl (some r) false none 1 ((a :: l).map eB)) ∧
        pbuiltin Try.prog ⟨bx, hw, ty, rt⟩ .len [68] [.sl (some r) false none 1 ((a :: l).map eB)] = some (true, .int .i64 ((a :: l).length : Int), ⟨bx, hw, ty, rt⟩) ∧
        pbuiltin Try.prog ⟨bx, hw, ty, rt⟩ .unsafeString [94, 3] [.rp r ((a :: l).map eB), .int .i64 ((a :: l).length : Int)] = some (true, .str (a :: l), ⟨bx, hw, ty, rt⟩) ∧ True)
      (by show _ = _; kernel_rfl) ⟨hl, e1, hl, e2, e3, trivial⟩
end
end Tp
end Pm
end Go.Proofs.Ytacccimihgailaa
