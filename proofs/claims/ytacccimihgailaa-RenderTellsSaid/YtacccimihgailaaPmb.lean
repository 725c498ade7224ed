/- What one operation does to abstract values; the weakest precondition of a function's code over abstract states. -/
import Derived.Test.YtacccimihgailaaPma
set_option linter.unusedVariables false
set_option linter.unusedSimpArgs false
namespace Go.Proofs.Ytacccimihgailaa
namespace Pm
open Go.RowKit

def get : List PV → Nat → PV
  | [], _ => .any
  | x :: _, 0 => x
  | _ :: l, i + 1 => get l i
def put : List PV → Nat → PV → List PV
  | [], 0, v => [v]
  | [], i + 1, v => .any :: put [] i v
  | _ :: l, 0, v => v :: l
  | x :: l, i + 1, v => x :: put l i v
theorem get_put_same : ∀ (l : List PV) (i : Nat) (v : PV), get (put l i v) i = v
  | [], 0, _ => rfl
  | [], i + 1, v => get_put_same [] i v
  | _ :: _, 0, _ => rfl
  | _ :: l, i + 1, v => get_put_same l i v
theorem get_nil (i : Nat) : get [] i = .any := rfl
theorem get_put_ne : ∀ (l : List PV) (i j : Nat) (v : PV), i ≠ j → get (put l i v) j = get l j
  | [], 0, 0, _, h => absurd rfl h
  | [], 0, j + 1, v, _ => rfl
  | [], i + 1, 0, v, _ => rfl
  | [], i + 1, j + 1, v, h => by
    have := get_put_ne [] i j v (by omega)
    show get (put [] i v) j = .any
    rw [this]
    cases j <;> rfl
  | _ :: _, 0, 0, _, h => absurd rfl h
  | _ :: _, 0, _ + 1, _, _ => rfl
  | _ :: _, _ + 1, 0, _, _ => rfl
  | _ :: l, i + 1, j + 1, v, h => get_put_ne l i j v (by omega)

/-- The heap: boxes' cells; how far each row is filled. -/
structure Hp where
  bx : List (List PV)
  hw : List Nat
  /-- what type each box was made for -/
  ty : List TypeId
  /-- what type each row's elements are of -/
  rt : List TypeId
structure PSt where
  n : Nat
  t : List PV
  h : Hp

def PSt.ev (s : PSt) : Operand → PV
  | .tmp t => if t < s.n then get s.t t else .any
  | .const v => lift v
  | .global g => .raw (.pointer (some ⟨g, 0, none⟩))
  | .func f => .raw (.func (.func f) #[] #[])

/-- What comes of an operation: a condition, a value, the heap. -/
abbrev Res := Option (Bool × PV × Hp)

def ints (k : IntKind) (a b : Int) : BinOp → Option (Bool × PV)
  | .add => some (true, .int k (k.wrap (a + b)))
  | .sub => some (true, .int k (k.wrap (a - b)))
  | .mul => some (true, .int k (k.wrap (a * b)))
  | .quo => some (decide (b ≠ 0), .int k (k.wrap (a.tdiv b)))
  | .rem => some (decide (b ≠ 0), .int k (a.tmod b))
  | .and => some (true, .int k (k.wrap (BitVec.ofInt k.bits a &&& BitVec.ofInt k.bits b).toNat))
  | .or => some (true, .int k (k.wrap (BitVec.ofInt k.bits a ||| BitVec.ofInt k.bits b).toNat))
  | .xor => some (true, .int k (k.wrap (BitVec.ofInt k.bits a ^^^ BitVec.ofInt k.bits b).toNat))
  | .andNot => some (true, .int k (k.wrap (BitVec.ofInt k.bits a &&& ~~~(BitVec.ofInt k.bits b)).toNat))
  | .eql => some (true, .bool (a == b))
  | .neq => some (true, .bool (a != b))
  | .lss => some (true, .bool (decide (a < b)))
  | .leq => some (true, .bool (decide (a ≤ b)))
  | .gtr => some (true, .bool (decide (a > b)))
  | .geq => some (true, .bool (decide (a ≥ b)))
  | _ => none
def strs (a b : List UInt8) : BinOp → Option (Bool × PV)
  | .add => some (decide (a.length + b.length ≤ 4611686018427387904), .str (a ++ b))
  | .eql => some (true, .bool (a == b))
  | .neq => some (true, .bool (!(a == b)))
  | .lss => some (true, .bool (Op.bytesLess a b))
  | .leq => some (true, .bool (Op.bytesLess a b || a == b))
  | .gtr => some (true, .bool (!(Op.bytesLess a b || a == b)))
  | .geq => some (true, .bool (!Op.bytesLess a b))
  | _ => none

def agg? (P : Program) (t : TypeId) : Option Bool :=
  match P.underlying t with
  | some (.struct _) | some (.array _ _) => some true
  | some _ => some false
  | none => none
/-- A part of an aggregate's cells. -/
def ppart (P : Program) (t : TypeId) (cs : List PV) (off : Nat) : Option PV :=
  match agg? P t with
  | some true => if off + P.cellsOf t ≤ cs.length then some (.agg ((cs.drop off).take (P.cellsOf t))) else none
  | some false => cs[off]?
  | none => none

def peqFields (P : Program) (eq : TypeId → PV → PV → Option Bool) (xs ys : List PV) : List Field → Option Bool
  | [] => some true
  | f :: r =>
    if f.name ≠ "_" then
      match ppart P f.type xs f.offset, ppart P f.type ys f.offset with
      | some x, some y =>
        match eq f.type x y, peqFields P eq xs ys r with
        | some a, some b => some (a && b)
        | _, _ => none
      | _, _ => none
    else peqFields P eq xs ys r
def peq (P : Program) : Nat → TypeId → PV → PV → Option Bool
  | 0, _, _, _ => none
  | d + 1, t, x, y =>
    match P.underlying t, x, y with
    | some .bool, .bool a, .bool b => some (a == b)
    | some (.int _), .int k a, .int k' b => if k = k' then some (a == b) else none
    | some .string, .str a, .str b => some (a == b)
    | some (.struct fs), .agg xs, .agg ys => if P.stoodInHeld t = true then none else peqFields P (peq P d) xs ys fs.toList
    | _, _, _ => none

def pbin (P : Program) (op : BinOp) (t : TypeId) (x y : PV) : Option (Bool × PV) :=
  match x, y with
  | .int k a, .int k' b =>
    match op with
    | .shl => some (decide (0 ≤ b), .int k (k.wrap (a * 2 ^ (min b.toNat k.bits))))
    | .shr => some (decide (0 ≤ b), .int k (a.fdiv (2 ^ (min b.toNat k.bits))))
    | op => if k = k' then ints k a b op else none
  | .str a, .str b => strs a b op
  | .bool a, .bool b =>
    match P.underlying t, op with
    | some .bool, .eql => some (true, .bool (a == b))
    | some .bool, .neq => some (true, .bool (!(a == b)))
    | _, _ => none
  | .agg xs, .agg ys =>
    if P.eqGuardType P.depth t then none else
    match op, peq P 12 t (.agg xs) (.agg ys) with
    | .eql, some b => some (true, .bool b)
    | .neq, some b => some (true, .bool (!b))
    | _, _ => none
  | .ptr _ _, .raw (.pointer none) =>
    match P.underlying t, op with
    | some (.pointer _), .eql => some (true, .bool false)
    | some (.pointer _), .neq => some (true, .bool true)
    | _, _ => none
  | .raw (.pointer none), .raw (.pointer none) =>
    match P.underlying t, op with
    | some (.pointer _), .eql => some (true, .bool true)
    | some (.pointer _), .neq => some (true, .bool false)
    | _, _ => none
  | .ptr b o, .ptr b' o' =>
    match P.underlying t, op with
    | some (.pointer e), .eql => if b = b' ∧ o = o' ∧ (P.info? e).isSome = true then some (true, .bool true) else none
    | some (.pointer e), .neq => if b = b' ∧ o = o' ∧ (P.info? e).isSome = true then some (true, .bool false) else none
    | _, _ => none
  | .sl _ nl _ _ es, .sl _ nl' _ _ es' =>
    match P.underlying t, op with
    | some (.slice _), .eql => some ((nl || nl') && (nl || !es.isEmpty) && (nl' || !es'.isEmpty), .bool (nl && nl'))
    | some (.slice _), .neq => some ((nl || nl') && (nl || !es.isEmpty) && (nl' || !es'.isEmpty), .bool (!(nl && nl')))
    | _, _ => none
  | _, _ => none

def pun (op : UnOp) (x : PV) : Option (Bool × PV) :=
  match op, x with
  | .not, .bool b => some (true, .bool !b)
  | .neg, .int k n => some (true, .int k (k.wrap (0 - n)))
  | _, _ => none

def pload (P : Program) (t : TypeId) (h : Hp) : PV → Option PV
  | .ptr b o => (h.bx[b]?).bind fun cs => ppart P t cs o
  | .eptr e o => if e.flat then ppart P t e.cells o else none
  | _ => none

def PV.byte? : PV → Option UInt8
  | .int .u8 n => some n.toNat.toUInt8
  | _ => none
def bytes? : List PV → Option (List UInt8)
  | [] => some []
  | p :: r => p.byte?.bind fun x => (bytes? r).map (x :: ·)
/-- Bytes indeed. -/
def ebytes? : List PV → Option (List UInt8)
  | [] => some []
  | .int .u8 n :: r => if 0 ≤ n ∧ n < 256 then (ebytes? r).map (n.toNat.toUInt8 :: ·) else none
  | _ => none
def pconv (P : Program) (src dst : TypeId) (h : Hp) (x : PV) : Option (Bool × PV) :=
  match P.underlying src, P.underlying dst, x with
  | some _, some (.int k), .int _ n => some (true, .int k (k.wrap n))
  | some _, some .string, .str l => some (true, .str l)
  | some (.slice e), some .string, .bsl b o len _ =>
    match P.underlying e, h.bx[b]? with
    | some (.int .u8), some cs =>
      (bytes? ((cs.drop o).take len)).bind fun l => if l.length = len then some (true, .str l) else none
    | _, _ => none
  | some (.slice e), some .string, .sl _ _ _ z es =>
    match P.underlying e with
    | some (.int .u8) => if z = 1 || es.isEmpty then (bytes? es).map fun l => (true, .str l) else none
    | _ => none
  | some (.pointer e), some .unsafePointer, .ptr b 0 => if h.ty[b]? = some e ∧ 0 < P.cellsOf e ∧ ((h.bx[b]?).map List.length) = some (P.cellsOf e) then some (true, .ptr b 0) else none
  | some .unsafePointer, some (.pointer e), .ptr b 0 =>
    if h.ty[b]? = some e ∧ ((h.bx[b]?).map List.length) = some (P.cellsOf e) ∧ liesAt P P.depth e (P.cellsOf e / P.cellsOf e) 0 e 1 = true ∧ (P.info? e).isSome = true then some (true, .ptr b 0) else none
  | _, _, _ => none

def splice (cs : List PV) (off : Nat) (new : List PV) : List PV := cs.take off ++ new ++ cs.drop (off + new.length)
def pfill (place : Nat → Option (Nat × Nat)) (cs : List PV) : List (Nat × PV) → Option (List PV)
  | [] => some cs
  | (i, p) :: r =>
    match place i with
    | none => none
    | some (off, size) => if p.flat = true ∧ p.cells.length = size ∧ off + size ≤ cs.length then pfill place (splice cs off p.cells) r else none

def pplaces (P : Program) (t : TypeId) : Option (Nat → Option (Nat × Nat)) :=
  match P.underlying t with
  | some (.struct fields) => if fields.toList.all (fun f => (P.info? f.type).isSome) then some fun i => (fields[i]?).map fun f => (f.offset, P.cellsOf f.type) else none
  | some (.array _ e) => if (P.info? e).isSome then some fun i => some (i * P.cellsOf e, P.cellsOf e) else none
  | _ => none
def pzero (P : Program) (t : TypeId) : Option PV := ((P.info? t).bind (·.zero)).map lift
def pbuild (P : Program) (t : TypeId) (parts : List (Nat × PV)) : Option PV :=
  match pplaces P t, pzero P t with
  | some place, some z => if z.flat then (pfill place z.cells parts).map .agg else none
  | _, _ => none

/-- A slice literal whose parts are given one behind the other. -/
def pparts : Nat → List (Nat × PV) → Option (List PV)
  | _, [] => some []
  | i, (j, p) :: r => if i = j then (pparts (i + 1) r).map (p :: ·) else none

def PV.fieldAddr (P : Program) (s : TypeId) (k : Nat) (p : PV) : Option PV :=
  match P.underlying s with
  | some (.struct fs) =>
    match fs[k]? with
    | some f => if P.cellsOf f.type = 0 then none else
      match p with
      | .ptr b o => some (.ptr b (o + f.offset))
      | .eptr e o => some (.eptr e (o + f.offset))
      | _ => none
    | none => none
  | _ => none
def PV.field (P : Program) (s : TypeId) (k : Nat) (p : PV) : Option PV :=
  match P.underlying s, p with
  | some (.struct fs), .agg cs =>
    match fs[k]? with
    | some f => ppart P f.type cs f.offset
    | none => none
  | _, _ => none
def sz? (P : Program) (e : TypeId) : Option Nat := if P.cellsOf e = 0 then none else some (P.cellsOf e)
def PV.indexAddr (P : Program) (t : TypeId) (x i : PV) : Option (Bool × PV) :=
  match i with
  | .int _ i =>
    match P.underlying t, x with
    | some (.array len e), .ptr b o => (sz? P e).map fun z => (decide (0 ≤ i ∧ i < len), .ptr b (o + i.toNat * z))
    | some (.array len e), .eptr q o => (sz? P e).map fun z => (decide (0 ≤ i ∧ i < len), .eptr q (o + i.toNat * z))
    | some (.slice e), .sl _ _ _ z es =>
      match es[i.toNat]? with
      | some q => (sz? P e).bind fun z' => if z = z' then some (decide (0 ≤ i), .eptr q 0) else none
      | none => none
    | some (.slice e), .bsl b o len _ => (sz? P e).map fun z => (decide (0 ≤ i ∧ i < len), .ptr b (o + i.toNat * z))
    | _, _ => none
  | _ => none
def PV.index (P : Program) (t : TypeId) (x i : PV) : Option (Bool × PV) :=
  match i with
  | .int _ i =>
    match P.underlying t, x with
    | some (.array len e), .agg cs => (sz? P e).bind fun z => (ppart P e cs (i.toNat * z)).map fun p => (decide (0 ≤ i ∧ i < len), p)
    | some .string, .str l =>
      match l[i.toNat]? with
      | some b => some (decide (0 ≤ i), .int .u8 b.toNat)
      | none => none
    | _, _ => none
  | _ => none
def PV.nat? : Option PV → Nat → Option (Bool × Nat)
  | none, d => some (true, d)
  | some (.int _ i), _ => some (decide (0 ≤ i), i.toNat)
  | _, _ => none
def PV.slice (P : Program) (t : TypeId) (x : PV) (lo hi mx : Option PV) : Option (Bool × PV) :=
  match mx with
  | some mx =>
    match P.underlying t, x, PV.nat? lo 0, PV.nat? hi 0, PV.nat? (some mx) 0 with
    | some (.slice e), .sl _ nl _ z es, some (c1, a), some (c2, b), some (c3, m) =>
      (sz? P e).bind fun z' => if z = z' ∨ es.isEmpty = true then (if hi.isSome then some (c1 && c2 && c3 && decide (a ≤ b) && decide (b ≤ m) && decide (m ≤ es.length), .sl none nl (some (m - a)) z ((es.take b).drop a)) else none) else none
    | _, _, _, _, _ => none
  | none =>
    match P.underlying t, x with
    | some .string, .str l =>
      match PV.nat? lo 0, PV.nat? hi l.length with
      | some (c1, a), some (c2, b) => some (c1 && c2 && decide (a ≤ b) && decide (b ≤ l.length), .str ((l.take b).drop a))
      | _, _ => none
    | some (.slice e), .sl tok nl cap z es =>
      match PV.nat? lo 0, PV.nat? hi es.length with
      | some (c1, a), some (c2, b) =>
        (sz? P e).bind fun z' => if z = z' ∨ es.isEmpty = true then some (c1 && c2 && decide (a ≤ b) && decide (b ≤ es.length), .sl (if a = 0 then tok else none) nl (cap.map (· - a)) z ((es.take b).drop a)) else none
      | _, _ => none
    | some (.slice e), .bsl b o len cap =>
      match PV.nat? lo 0, PV.nat? hi len with
      | some (c1, x), some (c2, y) => (sz? P e).map fun z => (c1 && c2 && decide (x ≤ y) && decide (y ≤ cap), .bsl b (if cap = x then o else o + x * z) (y - x) (cap - x))
      | _, _ => none
    | some (.array n e), .ptr b o =>
      match PV.nat? lo 0, PV.nat? hi n with
      | some (c1, x), some (c2, y) => (sz? P e).map fun z => (c1 && c2 && decide (x ≤ y) && decide (y ≤ n), .bsl b (if n = x then o else o + x * z) (y - x) (n - x))
      | _, _ => none
    | _, _ => none

/-- The bound on a slice's bytes within which it may grow. -/
def lim : Nat := 70368744177664
def plen (P : Program) (t : TypeId) (x : PV) : Option PV :=
  match P.underlying t, x with
  | some .string, .str l => some (.int .i64 l.length)
  | some (.slice _), .sl _ _ _ _ es => some (.int .i64 es.length)
  | some (.slice _), .bsl _ _ len _ => some (.int .i64 len)
  | some (.array n _), _ => some (.int .i64 n)
  | some (.pointer a), _ =>
    match P.underlying a with
    | some (.array n _) => some (.int .i64 n)
    | _ => none
  | _, _ => none
/-- The bytes of a string, as elements. -/
def byteEls (l : List UInt8) : List PV := l.map fun b => .int .u8 b.toNat
def pappendTo (P : Program) (e : TypeId) (h : Hp) (s : PV) (es' : List PV) : Res :=
  match s with
  | .sl tok nl cap z es =>
    if ((pzero P e).map (·.cells.length)) = some (P.cellsOf e) ∧ 0 < P.cellsOf e ∧ 0 < P.bytesOf e then
      let n := es.length + es'.length
      match tok with
      | some r =>
        match h.hw[r]? with
        | some k =>
          if z = P.cellsOf e ∧ h.rt[r]? = some e then
            some (decide (k = es.length * z) && decide (n * P.bytesOf e ≤ lim), .sl (some r) (nl && es'.isEmpty) none z (es ++ es'), { h with hw := h.hw.set r (n * z) })
          else none
        | none => none
      | none =>
        if cap = some 0 ∧ es.isEmpty = true then
          some (decide (n * P.bytesOf e ≤ lim), .sl (some h.hw.length) (nl && es'.isEmpty) none (P.cellsOf e) es', { h with hw := h.hw ++ [n * P.cellsOf e], rt := h.rt ++ [e] })
        else none
    else none
  | _ => none
def pappend (P : Program) (t t' : TypeId) (h : Hp) (s x : PV) : Res :=
  match P.underlying t, P.underlying t', x with
  | some (.slice e), some (.slice _), .sl _ _ _ z' es' => if t = t' ∧ (z' = P.cellsOf e ∨ es'.isEmpty = true) then pappendTo P e h s es' else none
  | some (.slice e), some .string, .str l => if P.cellsOf e = 1 then pappendTo P e h s (byteEls l) else none
  | _, _, _ => none

def pbuiltin (P : Program) (h : Hp) (b : Builtin) (ts : List TypeId) (xs : List PV) : Res :=
  match b, ts, xs with
  | .len, [t], [x] => (plen P t x).map fun v => (true, v, h)
  | .append, [t, t'], [s, x] => pappend P t t' h s x
  | .unsafeSliceData, [_], [x] =>
    match x with
    | .sl (some r) false _ 1 es => if h.hw[r]? = some es.length ∧ es.isEmpty = false ∧ es.all PV.isCell = true then some (true, .rp r es, h) else none
    | .sl _ true _ _ _ => some (true, .raw (.pointer none), h)
    | _ => none
  | .unsafeString, [pt, _], [x, n] =>
    match P.underlying pt, x, n with
    | some (.pointer e), .rp r es, .int .i64 m =>
      if m = es.length ∧ h.hw[r]? = some es.length ∧ h.rt[r]? = some e ∧ P.cellsOf e = 1 ∧ es.isEmpty = false then
        (ebytes? es).map fun l => (decide (es.length ≤ 9223372036854775807), .str l, h)
      else none
    | _, .raw (.pointer none), .int .i64 m => if m = 0 then some (true, .str [], h) else none
    | _, _, _ => none
  | _, _, _ => none
/-- A function without a body that we know: internal/abi.NoEscape. -/
def noEscape (P : Program) (f : FuncId) : Bool :=
  match P.funcs[f]? with
  | some fn => fn.body.isNone && fn.name == "internal/abi.NoEscape" && (Extern.findNext fn).isNone
  | none => false
def pnative (P : Program) (h : Hp) (f : PV) (xs : List PV) : Res :=
  match f, xs with
  | .raw (.func (.func g) first captured), [x] => if first.toList.isEmpty = true ∧ captured.toList.isEmpty = true ∧ noEscape P g = true then some (true, x, h) else none
  | _, _ => none

def popv (P : Program) (h : Hp) (o : Oper) (ev : Operand → PV) : Res :=
  let pure (x : Option PV) : Res := x.map fun v => (true, v, h)
  let cond (x : Option (Bool × PV)) : Res := x.map fun (c, v) => (c, v, h)
  match o.op with
  | .move x | .assign x => some (true, ev x, h)
  | .pick c a b =>
    match ev c with
    | .bool c => if c then some (true, ev a, h) else some (true, ev b, h)
    | _ => none
  | .alloc t => (pzero P t).bind fun z => if z.flat then some (true, .ptr h.bx.length 0, { h with bx := h.bx ++ [z.cells], ty := h.ty ++ [t] }) else none
  | .box t x => if (ev x).flat then some (true, .ptr h.bx.length 0, { h with bx := h.bx ++ [(ev x).cells], ty := h.ty ++ [t] }) else none
  | .build t parts => pure (pbuild P t (parts.toList.map fun (i, x) => (i, ev x)))
  | .buildSlice t len parts =>
    match P.underlying t with
    | some (.slice e) =>
      (pparts 0 (parts.toList.map fun (i, x) => (i, ev x))).bind fun es =>
        if es.length = len ∧ len ≤ 65536 ∧ 0 < P.cellsOf e ∧ P.cellsOf e ≤ 256 ∧ (pzero P e).isSome = true ∧ es.all (fun p => p.flat && p.cells.length == P.cellsOf e) = true then
          some (true, .sl (some h.hw.length) false (some len) (P.cellsOf e) es, { h with hw := h.hw ++ [len * P.cellsOf e], rt := h.rt ++ [e] })
        else none
    | _ => none
  | .load t a => pure (pload P t h (ev a))
  | .store t a x =>
    match ev a with
    | .ptr b o =>
      match h.bx[b]? with
      | some cs =>
        if (P.underlying t).isSome = true ∧ (ev x).flat = true ∧ (ev x).cells.length = P.cellsOf t ∧ o + P.cellsOf t ≤ cs.length then
          some (true, .raw undef, { h with bx := h.bx.set b (splice cs o (ev x).cells) })
        else none
      | none => none
    | _ => none
  | .nilCheck x =>
    match ev x with
    | .ptr b o => some (true, .ptr b o, h)
    | .eptr e o => some (true, .eptr e o, h)
    | _ => none
  | .binOp op t x y _ => cond (pbin P op t (ev x) (ev y))
  | .unOp op _ x => cond (pun op (ev x))
  | .convert src dst x => cond (pconv P src dst h (ev x))
  | .slice t x lo hi mx => cond (PV.slice P t (ev x) (lo.map ev) (hi.map ev) (mx.map ev))
  | .fieldAddr s x k => pure ((ev x).fieldAddr P s k)
  | .field s x k => pure ((ev x).field P s k)
  | .indexAddr t x i => cond (PV.indexAddr P t (ev x) (ev i))
  | .index t x i => cond (PV.index P t (ev x) (ev i))
  | .extract x i =>
    match ev x with
    | .tup vs => pure vs[i]?
    | _ => none
  | .call c =>
    match c.callee with
    | .builtin b => pbuiltin P h b c.argTypes.toList (c.args.toList.map ev)
    | .value f => pnative P h (ev f) (c.args.toList.map ev)
    | _ => none
  | _ => none

end Pm
end Go.Proofs.Ytacccimihgailaa
