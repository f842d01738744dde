/-
  The operations on ideal memory, as a function.
-/
import Derived.Test.YtdnnojblneccdaaE1
namespace Go.Proofs.Ytdnnojblneccdaa
set_option linter.unusedSimpArgs false
set_option linter.unusedVariables false
open Go

def intOp (op : BinOp) (k : IntKind) (a b : Int) : Option Value :=
  match op with
  | .add => some (.int k (k.wrap (a + b)))
  | .sub => some (.int k (k.wrap (a - b)))
  | .mul => some (.int k (k.wrap (a * b)))
  | .quo => if b = 0 then none else some (.int k (k.wrap (a.tdiv b)))
  | .rem => if b = 0 then none else some (.int k (a.tmod b))
  | .and => some (.int k (k.wrap (BitVec.ofInt k.bits a &&& BitVec.ofInt k.bits b).toNat))
  | .or => some (.int k (k.wrap (BitVec.ofInt k.bits a ||| BitVec.ofInt k.bits b).toNat))
  | .xor => some (.int k (k.wrap (BitVec.ofInt k.bits a ^^^ BitVec.ofInt k.bits b).toNat))
  | .andNot => some (.int k (k.wrap (BitVec.ofInt k.bits a &&& ~~~(BitVec.ofInt k.bits b)).toNat))
  | .eql => some (.bool (a == b))
  | .neq => some (.bool (a != b))
  | .lss => some (.bool (decide (a < b)))
  | .leq => some (.bool (decide (a ≤ b)))
  | .gtr => some (.bool (decide (b < a)))
  | .geq => some (.bool (decide (b ≤ a)))
  | .shl | .shr => none

def strOp (op : BinOp) (x y : ByteArray) : Option Value :=
  match op with
  | .add => if ((x.size + y.size : Nat) : Int) > IntKind.i64.max then none else some (.string (x ++ y))
  | .eql => some (.bool (x.toList == y.toList))
  | .neq => some (.bool !(x.toList == y.toList))
  | .lss => some (.bool (Op.bytesLess x.toList y.toList))
  | .leq => some (.bool (Op.bytesLess x.toList y.toList || x.toList == y.toList))
  | .gtr => some (.bool !(Op.bytesLess x.toList y.toList || x.toList == y.toList))
  | .geq => some (.bool !(Op.bytesLess x.toList y.toList))
  | _ => none

/-- two cells, held against each other as the type tells -/
def cellEq : TK → Value → Value → Option Bool
  | .bool, .bool a, .bool b => some (a == b)
  | .int _, .int k a, .int k' b => if k = k' then some (a == b) else none
  | .str, .string a, .string b => some (a == b)
  | _, _, _ => none
def cellsEq : List TK → List Value → List Value → Option Bool
  | [], [], [] => some true
  | k :: ks, x :: xs, y :: ys => (cellEq k x y).bind fun a => (cellsEq ks xs ys).map (a && ·)
  | _, _, _ => none

/-- the kinds of a type's cells, where its values may be held against each other: else none -/
abbrev Kinds := TypeId → Option (List TK)

def eqOp (D : Ty) (K : Kinds) (t : TypeId) (x y : Value) : Option Bool :=
  match x, y with
  | .agg a, .agg b => (K t).bind fun ks => cellsEq ks a.toList b.toList
  | .bool a, .bool b => (D t).bind fun d => if d.k = .bool then some (a == b) else none
  | .pointer none, .pointer b => (D t).bind fun d => match d.k with | .ptr _ => some b.isNone | _ => none
  | .pointer a, .pointer none => (D t).bind fun d => match d.k with | .ptr _ => some a.isNone | _ => none
  | .slice none _ _, .slice b _ _ => (D t).bind fun d => match d.k with | .slice _ => some b.isNone | _ => none
  | .slice a _ _, .slice none _ _ => (D t).bind fun d => match d.k with | .slice _ => some a.isNone | _ => none
  | .map none, .map b => (D t).bind fun d => match d.k with | .map _ _ => some b.isNone | _ => none
  | .map a, .map none => (D t).bind fun d => match d.k with | .map _ _ => some a.isNone | _ => none
  | _, _ => none

def binOp' (D : Ty) (K : Kinds) (op : BinOp) (t : TypeId) (x y : Value) : Option Value :=
  match x, y with
  | .int k a, .int k' b =>
    match op with
    | .shl => if b < 0 then none else some (.int k (k.wrap (a * 2 ^ (min b.toNat k.bits))))
    | .shr => if b < 0 then none else some (.int k (a.fdiv (2 ^ (min b.toNat k.bits))))
    | op => if k = k' then intOp op k a b else none
  | .string a, .string b => strOp op a b
  | x, y =>
    match op with
    | .eql => (eqOp D K t x y).map .bool
    | .neq => (eqOp D K t x y).map fun b => .bool !b
    | _ => none

def unOp' (op : UnOp) (x : Value) : Option Value :=
  match op, x with
  | .neg, .int k n => some (.int k (k.wrap (0 - n)))
  | .xor, .int k n => some (.int k (k.wrap (BitVec.ofInt k.bits (if k.signed then -1 else k.max) ^^^ BitVec.ofInt k.bits n).toNat))
  | .not, .bool b => some (.bool !b)
  | _, _ => none

/-- a place further on -/
def goOn (a : Addr) (k : Nat) : Addr := if k = 0 then a else { a with off := a.off + k }

def bnd : Option Value → Nat → Option Nat := fun v d => match v with | none => some d | some (.int _ i) => if 0 ≤ i then some i.toNat else none | _ => none
/-- x[lo:hi:mx] of a row (of an array: its length as len and cap, not open) -/
def sliceIt (a : Addr) (len cap sz : Nat) (lo hi mx : Option Value) : Option Value :=
  match bnd lo 0, bnd hi len, bnd mx cap with
  | some l, some h, some m =>
    if l ≤ h ∧ h ≤ m ∧ m ≤ cap ∧ (hi.isSome || mx.isNone) = true then
      match a.spot, mx with
      | none, _ => some (.slice (some (if m = l then a else goOn a (l * sz))) (h - l) (m - l))
      | some s, none => if (l < cap ∨ l = 0) ∧ s = sz then some (.slice (some (goOn a (l * sz))) (h - l) (cap - l)) else none
      | some s, some _ => if s = sz then some (.slice (some (if m = l then { a with spot := none } else { goOn a (l * sz) with spot := none })) (h - l) (m - l)) else none
    else none
  | _, _, _ => none

/-- the cells of a slice (or of a string, as bytes) -/
def srcCells (H : IHeap) (sz : Nat) : Value → Option (List Value)
  | .slice none _ _ => some []
  | .slice (some a) len _ =>
    match H a.block with
    | some (.cells c _) => if a.off + len * sz ≤ c.length then some ((c.drop a.off).take (len * sz)) else none
    | _ => none
  | .string s => if sz = 1 then some (s.data.toList.map fun b => .int .u8 b.toNat) else none
  | _ => none
def srcLen : Value → Option Nat
  | .slice _ len _ => some len
  | .string s => some s.size
  | _ => none

/-- what an append may come to: 2^47 bytes -/
def most : Nat := 2 ^ 47

/-- parts put into cells -/
def fillIn (place : Nat → Option (Nat × Nat)) (cells : List Value) : List (Nat × Value) → Option (List Value)
  | [] => some cells
  | (i, v) :: rest =>
    match place i, cellsOf v with
    | some (off, size), some vs => if vs.length = size ∧ off + size ≤ cells.length then fillIn place (wrCells cells off vs) rest else none
    | _, _ => none

def sizeD (D : Ty) (t : TypeId) : Option Nat := (D t).map (·.size)

section
variable (D : Ty) (K : Kinds) (e : Operand → Value) (H : IHeap) (n : Nat)

def val (v : Value) : Option Eff := some ⟨v, [], n⟩
def new (c : List Value) (v : Value) : Option Eff := some ⟨v, [(n, some (.cells c false))], n + 1⟩

def doLoad (t : TypeId) : Value → Option Eff
  | .pointer (some ⟨id, off, none⟩) => (D t).bind fun d => match H id with
    | some (.cells c _) => (rdVar d c off).bind fun v => val n v
    | _ => none
  | _ => none

def doStore (t : TypeId) (x : Value) : Value → Option Eff
  | .pointer (some ⟨id, off, none⟩) => (D t).bind fun d => match H id with
    | some (.cells c false) => (cellsOf x).bind fun vs =>
      if vs.length = d.size ∧ off + d.size ≤ c.length ∧ vs.all known = true then some ⟨.tuple #[], [(id, some (.cells (wrCells c off vs) false))], n⟩ else none
    | _ => none
  | _ => none

/-- what is appended: how many, and their cells (a number: so many zero values) -/
def srcArg (t2 : TypeId) (de : TD) (x : Value) : Option (Nat × List Value) :=
  (D t2).bind fun d2 =>
    match d2.k, x with
    | .int _, .int .i64 l => if 0 ≤ l ∧ l ≤ most ∧ l * de.bytes ≤ (2 : Int) ^ 48 then some (l.toNat, (List.replicate l.toNat de.zero).flatten) else none
    | .int _, _ => none
    | _, x => (srcLen x).bind fun k => (srcCells H de.size x).map fun xs => (k, xs)

/-- not of open capacity -/
def closed : Option Addr → Bool
  | some ⟨_, _, some _⟩ => false
  | _ => true

def doAppend (t t2 : TypeId) (s x : Value) : Option Eff :=
  match s, D t with
  | .slice base len cap, some d =>
    match d.k with
    | .slice el => (D el).bind fun de => (srcArg D H t2 de x).bind fun p =>
      if len + p.1 ≤ cap ∧ closed base = true then
        match base with
        | none => val n (.slice none (len + p.1) cap)
        | some a =>
          if p.2 = [] then val n (.slice (some a) (len + p.1) cap) else
          match H a.block with
          | some (.cells c false) => if a.off + len * de.size + p.2.length ≤ c.length ∧ p.2.all known = true then
              some ⟨.slice (some a) (len + p.1) cap, [(a.block, some (.cells (splice c (a.off + len * de.size) p.2) false))], n⟩ else none
          | _ => none
      else if (len + p.1) * de.bytes ≤ most ∧ 1 ≤ de.bytes then
        match base with
        | none => new n p.2 (.slice (some ⟨n, 0, some de.size⟩) (len + p.1) (len + p.1))
        | some ⟨_, _, none⟩ => (srcCells H de.size s).bind fun ys => new n (ys ++ p.2) (.slice (some ⟨n, 0, some de.size⟩) (len + p.1) (len + p.1))
        | some ⟨id, off, some sz⟩ =>
          match H id with
          | some (.cells c false) =>
            if len * de.size ≤ c.length ∧ p.2.all known = true ∧ sz = de.size ∧ off = 0 then
              some ⟨.slice (some ⟨n, 0, some sz⟩) (len + p.1) (len + p.1), [(id, none), (n, some (.cells (c.take (len * de.size) ++ p.2) false))], n + 1⟩ else none
          | _ => none
      else none
    | _ => none
  | _, _ => none

def doCopy (t : TypeId) (s x : Value) : Option Eff :=
  match s, D t with
  | .slice base len _, some d =>
    match d.k with
    | .slice el =>
      match D el, srcLen x with
      | some de, some k =>
        (srcCells H de.size x).bind fun xs =>
          match base with
          | none => val n (.int .i64 0)
          | some a => match H a.block with
            | some (.cells c false) =>
              if a.off + len * de.size ≤ c.length ∧ xs.all known = true then
                some ⟨.int .i64 (min k len : Nat), [(a.block, some (.cells (splice c a.off (xs.take (min k len * de.size))) false))], n⟩ else none
            | _ => none
      | _, _ => none
    | _ => none
  | _, _ => none

def doBuiltin (b : Builtin) (ts : Array TypeId) (xs : List Value) : Option Eff :=
  match b, xs with
  | .len, [x] => (ts[0]?.bind D).bind fun d => match d.k, x with
    | .str, .string s => val n (.int .i64 s.size)
    | .slice _, .slice _ k _ => val n (.int .i64 k)
    | .arr k _, _ => val n (.int .i64 k)
    | .map _ _, .map none => val n (.int .i64 0)
    | .map _ _, .map (some id) => (match H id with | some (.map es) => val n (.int .i64 es.length) | _ => none)
    | _, _ => none
  | .cap, [x] => (ts[0]?.bind D).bind fun d => match d.k, x with
    | .slice _, .slice (some ⟨_, _, none⟩) _ k => val n (.int .i64 k)
    | .slice _, .slice none _ k => val n (.int .i64 k)
    | _, _ => none
  | .min, [.int k a, .int _ b] => val n (.int k (if b < a then b else a))
  | .max, [.int k a, .int _ b] => val n (.int k (if b > a then b else a))
  | .append, [s, x] => (ts[0]?).bind fun t => (ts[1]?).bind fun t2 => doAppend D H n t t2 s x
  | .copy, [s, x] => (ts[0]?).bind fun t => doCopy D H n t s x
  | _, _ => none

def doMake (t : TypeId) (len cap : Value) : Option Eff :=
  match len, cap, D t with
  | .int .i64 l, .int .i64 c, some d =>
    match d.k with
    | .slice el => (D el).bind fun de =>
      if 0 ≤ l ∧ l ≤ c ∧ c ≤ most ∧ de.bytes * c ≤ (2 : Int) ^ 48 then
        new n ((List.replicate c.toNat de.zero).flatten) (.slice (some ⟨n, 0, none⟩) l.toNat c.toNat) else none
    | _ => none
  | _, _, _ => none

def doConvert (src dst : TypeId) (x : Value) : Option Eff :=
  match D src, D dst with
  | some s, some d =>
    match d.k, x with
    | .int k, .int _ a => val n (.int k (k.wrap a))
    | .str, .string b => val n (.string b)
    | .slice el, .string b => (D el).bind fun de => if de.k = .int .u8 then
        (if b.size ≤ most then new n (b.data.toList.map fun c => .int .u8 c.toNat) (.slice (some ⟨n, 0, some 1⟩) b.size b.size) else none) else none
    | .str, .slice _ _ _ => (match s.k with
      | .slice el => (D el).bind fun de => if de.k = .int .u8 then (srcCells H 1 x).bind fun xs =>
          if xs.all (fun v => match v with | .int .u8 _ => true | _ => false) then
            val n (.string ⟨(xs.map fun v => match v with | .int _ i => UInt8.ofNat i.toNat | _ => 0).toArray⟩) else none else none
      | _ => none)
    | _, _ => none
  | _, _ => none

def doField (t : TypeId) (f : Nat) : Option (Nat × Nat) := (D t).bind fun d => match d.k with | .struct fs => fs[f]? | _ => none

def iop (op : Op) : Option Eff :=
  match op with
  | .move x | .assign x => val n (e x)
  | .pick c a b => match e c with | .bool c => val n (if c then e a else e b) | _ => none
  | .alloc t => (D t).bind fun d => new n d.zero (.pointer (some ⟨n, 0, none⟩))
  | .box _ x => (cellsOf (e x)).bind fun cs => new n cs (.pointer (some ⟨n, 0, none⟩))
  | .build t parts => (D t).bind fun d =>
    match d.k with
    | .struct fs => (fillIn (fun i => fs[i]?.bind fun f => (D f.2).map fun df => (f.1, df.size)) d.zero (parts.toList.map fun p => (p.1, e p.2))).bind fun cs => val n (.agg cs.toArray)
    | .arr _ el => (D el).bind fun de => (fillIn (fun i => some (i * de.size, de.size)) d.zero (parts.toList.map fun p => (p.1, e p.2))).bind fun cs => val n (.agg cs.toArray)
    | _ => none
  | .buildSlice t len parts => (D t).bind fun d =>
    match d.k with
    | .slice el => (D el).bind fun de => if len * de.size ≤ 2 ^ 24 then
        (fillIn (fun i => some (i * de.size, de.size)) ((List.replicate len de.zero).flatten) (parts.toList.map fun p => (p.1, e p.2))).bind fun cs =>
          new n cs (.slice (some ⟨n, 0, none⟩) len len) else none
    | _ => none
  | .load t a => doLoad D H n t (e a)
  | .store t a x => doStore D H n t (e x) (e a)
  | .nilCheck x => match e x with
    | .pointer (some ⟨id, off, none⟩) => val n (.pointer (some ⟨id, off, none⟩))
    | .func (.func f) a b => val n (.func (.func f) a b)
    | _ => none
  | .binOp op t x y _ => (binOp' D K op t (e x) (e y)).bind fun v => val n v
  | .unOp op _ x => (unOp' op (e x)).bind fun v => val n v
  | .convert s d x => doConvert D H n s d (e x)
  | .sliceToArrayPointer t x => (D t).bind fun d => match d.k, e x with
    | .arr k _, .slice (some a) len _ => if k ≤ len then val n (.pointer (some { a with spot := none })) else none
    | _, _ => none
  | .makeFunc fn first captured => val n (.func fn (first.map e) (captured.map e))
  | .makeSlice t l c => doMake D n t (e l) (e c)
  | .slice t x lo hi mx => (D t).bind fun d => match d.k, e x with
    | .arr k el, .pointer (some ⟨id, off, none⟩) => (D el).bind fun de => (sliceIt ⟨id, off, none⟩ k k de.size (lo.map e) (hi.map e) (mx.map e)).bind fun v => val n v
    | .slice el, .slice (some a) len cap => (D el).bind fun de => (sliceIt a len cap de.size (lo.map e) (hi.map e) (mx.map e)).bind fun v => val n v
    | .slice el, .slice none _ _ => (D el).bind fun de => (sliceIt ⟨0, 0, none⟩ 0 0 de.size (lo.map e) (hi.map e) (mx.map e)).bind fun _ => val n (.slice none 0 0)
    | _, _ => none
  | .fieldAddr t x f => match e x, doField D t f with
    | .pointer (some ⟨id, off, none⟩), some (o, ft) => (D ft).bind fun df => if df.size = 0 then none else val n (.pointer (some ⟨id, off + o, none⟩))
    | _, _ => none
  | .field t x f => match e x, doField D t f with
    | .agg cs, some (o, ft) => (D ft).bind fun df => (rdVar df cs.toList o).bind fun v => val n v
    | _, _ => none
  | .indexAddr t x i => (D t).bind fun d => match d.k, e x, e i with
    | .arr k el, .pointer (some ⟨id, off, none⟩), .int _ i => (D el).bind fun de => if 0 ≤ i ∧ i < k then val n (.pointer (some ⟨id, off + i.toNat * de.size, none⟩)) else none
    | .slice el, .slice (some ⟨id, off, _⟩) len _, .int _ i => (D el).bind fun de => if 0 ≤ i ∧ i < len then val n (.pointer (some ⟨id, off + i.toNat * de.size, none⟩)) else none
    | _, _, _ => none
  | .index t x i => (D t).bind fun d => match d.k, e x, e i with
    | .arr k el, .agg cs, .int _ i => (D el).bind fun de => if 0 ≤ i ∧ i < k then (rdVar de cs.toList (i.toNat * de.size)).bind fun v => val n v else none
    | .str, .string s, .int _ i => if 0 ≤ i then (s.data[i.toNat]?).bind fun b => val n (.int .u8 b.toNat) else none
    | _, _, _ => none
  | .extract x i => match e x with | .tuple vs => (vs[i]?).bind fun v => if vs.isEmpty then none else val n v | _ => none
  | .call c => match c.callee with
    | .builtin b => doBuiltin D H n b c.argTypes (c.args.toList.map e)
    | _ => none
  | _ => none
end
end Go.Proofs.Ytdnnojblneccdaa
