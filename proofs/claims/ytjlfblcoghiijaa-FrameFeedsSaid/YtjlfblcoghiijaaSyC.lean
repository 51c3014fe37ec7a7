/-
  What each operation does to a canonical frame and its boxes.
-/
import Derived.Test.YtjlfblcoghiijaaSyB
namespace Go.Sy
set_option linter.all false
open Go.RowKit (Below)

abbrev Fr := Nat → CV
def upd (fr : Fr) (d : Option Tmp) (c : CV) : Fr := match d with | some d => fun i => if i = d then c else fr i | none => fr

@[simp] theorem ofV_string (l : List UInt8) : ofV (.string ⟨l.toArray⟩) = .str l := by simp [ofV]
@[simp] theorem ofV_bool (b : Bool) : ofV (.bool b) = .bool b := by simp [ofV]
@[simp] theorem ofV_int (k : IntKind) (n : Int) : ofV (.int k n) = .int k n := by simp [ofV]
@[simp] theorem ofV_nilS : ofV (.slice none 0 0) = .nilS := by simp [ofV]
@[simp] theorem ofV_nilP : ofV (.pointer none) = .nilP := by simp [ofV]
@[simp] theorem ofV_tuple (l : List Value) : ofV (.tuple l.toArray) = .tup (ofVL l) := by simp [ofV]

def opv (fr : Fr) : Operand → CV
  | .tmp t => fr t
  | .const v => ofV v
  | .global g => .raw (.pointer (some ⟨g, 0, none⟩))
  | .func f => .fn (.func f) [] []

/-- An operation over values that bear no reference. -/
def evPure (P : Program) (o : Oper) (fr : Fr) : Option CV :=
  if o.op.operands.all fun x => (toV (opv fr x)).isSome then
    match pureRun P (execOp (fun x => (toV (opv fr x)).getD undef) o) with
    | some (.value v) => some (ofV v)
    | _ => none
  else none

def splice (cells : List CV) (off : Nat) (vs : List CV) : List CV := cells.take off ++ vs ++ cells.drop (off + vs.length)

def aggT (P : Program) (t : TypeId) : Bool := match P.underlying t with | some (.struct _) | some (.array _ _) => true | _ => false
def szOf (P : Program) (t : TypeId) : Option Nat := (P.info? t).map (·.size)

/-- A value of type t out of cells. -/
def partC (P : Program) (t : TypeId) (cs : List CV) (off : Nat) : Option CV :=
  if (P.underlying t).isNone then none else
  if aggT P t then (szOf P t).map fun n => .agg ((cs.drop off).take n) else cs[off]?

/-- The cells of a value that is stored. -/
def cellsC : CV → Option (List CV)
  | .agg cs => some cs
  | .tup _ => none
  | .raw v => if v.oneCell' then some [.raw v] else none
  | c => some [c]

def loadC (P : Program) (t : TypeId) (cs : List CV) : Option CV :=
  if (P.underlying t).isNone then none else
  if aggT P t then (szOf P t).bind fun n => if n ≤ cs.length then some (.agg (cs.take n)) else none else cs.head?

def elemT (P : Program) (t : TypeId) : Option TypeId := match P.underlying t with | some (.slice e) => some e | _ => none

def fillC (place : Nat → Option (Nat × Nat)) (cells : List CV) : List (Nat × CV) → Option (List CV)
  | [] => some cells
  | (i, c) :: rest =>
    match place i, cellsC c with
    | some (off, size), some vs => if vs.length ≠ size ∨ off + vs.length > cells.length then none else fillC place (splice cells off vs) rest
    | _, _ => none

def binInt (op : BinOp) (k : IntKind) (a b : Int) : Option CV :=
  match op with
  | .add => some (.int k (k.wrap (a + b)))
  | .sub => some (.int k (k.wrap (a - b)))
  | .mul => some (.int k (k.wrap (a * b)))
  | .quo => if b = 0 then none else some (.int k (k.wrap (a.tdiv b)))
  | .rem => if b = 0 then none else some (.int k (a.tmod b))
  | .and | .or | .xor | .andNot => some (.int k (bits op k a b))
  | .eql => some (.bool (a == b))
  | .neq => some (.bool (a != b))
  | .lss => some (.bool (decide (a < b)))
  | .leq => some (.bool (decide (a ≤ b)))
  | .gtr => some (.bool (decide (b < a)))
  | .geq => some (.bool (decide (b ≤ a)))
  | _ => none

def shiftC (op : BinOp) (k : IntKind) (a b : Int) : Option CV :=
  if b < 0 then none else
  match op with
  | .shl => some (.int k (k.wrap (a * 2 ^ (min b.toNat k.bits))))
  | .shr => some (.int k (a.fdiv (2 ^ (min b.toNat k.bits))))
  | _ => none

def strC (op : BinOp) (a b : List UInt8) : Option CV :=
  match op with
  | .add => if a.length + b.length ≤ 2147483647 then some (.str (a ++ b)) else none
  | .eql => some (.bool (a == b))
  | .neq => some (.bool (!(a == b)))
  | .lss => some (.bool (Op.bytesLess a b))
  | .leq => some (.bool (Op.bytesLess a b || a == b))
  | .gtr => some (.bool (!(Op.bytesLess a b || a == b)))
  | .geq => some (.bool (!Op.bytesLess a b))
  | _ => none

/-- The binary operations that are written out; 'none': evPure is asked. -/
def binC (P : Program) (op : BinOp) (t : TypeId) (x y : CV) : Option (Option CV) :=
  match x, y with
  | .int k a, .int k' b =>
    match op with
    | .shl | .shr => some (shiftC op k a b)
    | _ => if k = k' then some (binInt op k a b) else some none
  | .str a, .str b => some (strC op a b)
  | .bool a, .bool b =>
    match P.underlying t with
    | some .bool => match op with | .eql => some (some (.bool (a == b))) | .neq => some (some (.bool (!(a == b)))) | _ => some none
    | _ => some none
  | .ptr .., .nilP | .iptr .., .nilP =>
    match P.underlying t with
    | some (.pointer _) => match op with | .eql => some (some (.bool false)) | .neq => some (some (.bool true)) | _ => some none
    | _ => some none
  | .lst n _ _, .nilS | .view _ _ n _ _, .nilS | .cview _ _ n _ _, .nilS =>
    match P.underlying t with
    | some (.slice _) => if n = 0 then none else match op with | .eql => some (some (.bool false)) | .neq => some (some (.bool true)) | _ => some none
    | _ => some none
  | .fn .., .nilF =>
    match P.underlying t with
    | some (.func ..) => match op with | .eql => some (some (.bool false)) | .neq => some (some (.bool true)) | _ => some none
    | _ => some none
  | _, _ => none

/-- Are two values of type t equal? (types of bools, integers, strings, and of arrays and structs of such) -/
def eqV (P : Program) : Nat → TypeId → CV → CV → Option Bool
  | 0, _, _, _ => none
  | d + 1, t, x, y =>
    match P.underlying t, x, y with
    | some .bool, .bool a, .bool b => some (a == b)
    | some (.int _), .int k a, .int k' b => if k = k' then some (a == b) else none
    | some .string, .str a, .str b => some (a == b)
    | some (.array n e), .agg xs, .agg ys => (szOf P e).bind fun sz => (List.range n).foldr (fun i acc => acc.bind fun r => (partC P e xs (i * sz)).bind fun p => (partC P e ys (i * sz)).bind fun q => (eqV P d e p q).map (· && r)) (some true)
    | some (.struct fs), .agg xs, .agg ys => if P.stoodInHeld t then none else fs.toList.foldr (fun f acc => if f.name = "_" then none else acc.bind fun r => (partC P f.type xs f.offset).bind fun p => (partC P f.type ys f.offset).bind fun q => (eqV P d f.type p q).map (· && r)) (some true)
    | _, _, _ => none

def aggEq (P : Program) (op : BinOp) (t : TypeId) (x y : CV) : Option CV :=
  match op, x, y with
  | .eql, .agg _, .agg _ => if P.eqGuardType P.depth t then none else (eqV P 20 t x y).map .bool
  | .neq, .agg _, .agg _ => if P.eqGuardType P.depth t then none else (eqV P 20 t x y).map fun b => .bool (!b)
  | _, _, _ => none

def unC (op : UnOp) (x : CV) : Option (Option CV) :=
  match op, x with
  | .not, .bool b => some (some (.bool (!b)))
  | .neg, .int k n => some (some (.int k (k.wrap (0 - n))))
  | .xor, .int k n => some (some (.int k (bits .xor k (if k.signed then -1 else k.max) n)))
  | _, _ => none

/-- 's[lo:hi:max]': the three bounds over a length that may be read. -/
def boundC (x : CV) (y : Nat) : Option Nat := match x with | .int _ i => if 0 ≤ i ∧ i ≤ y then some i.toNat else none | _ => none
def boundsC (n : Nat) (lo hi mx : Option CV) : Option (Nat × Nat × Option Nat) :=
  (match mx with | some m => (boundC m n).map some | none => some none).bind fun m =>
  (match hi with | some h => boundC h (m.getD n) | none => if mx.isSome then none else some n).bind fun h =>
  (match lo with | some l => boundC l h | none => some 0).bind fun l => some (l, h, m)

/-- 's[lo:hi]' where the capacity is known. -/
def boundsK (n cap : Nat) (lo hi : Option CV) : Option (Nat × Nat) :=
  (match hi with | some h => boundC h cap | none => some n).bind fun h =>
  (match lo with | some l => boundC l h | none => some 0).map fun l => (l, h)

def fullC (m : Option Nat) (full : Bool) (h n : Nat) : Bool := match m with | some m => decide (m = h) | none => full && decide (h = n)

def byteC (b : UInt8) : CV := .int .u8 (b.toNat : Int)

/-- The bytes that cells hold, for a string. -/
def bytesC : List CV → Option (List UInt8)
  | [] => some []
  | .int .u8 n :: l => (bytesC l).map (UInt8.ofNat n.toNat :: ·)
  | _ :: _ => none

/-- The cells of a slice that is read: its length and its cells. -/
def readC (B : List Box) (esz : Nat) : CV → Option (Nat × List CV)
  | .nilS => some (0, [])
  | .lst n cs _ => if n * esz ≤ cs.length then some (n, cs.take (n * esz)) else none
  | .view b off n sz _ => match B[b]? with | some box => if sz = esz then some (n, (box.cells.drop off).take (n * esz)) else none | none => none
  | .cview b off n _ sz => match B[b]? with | some box => if sz = esz then some (n, (box.cells.drop off).take (n * esz)) else none | none => none
  | _ => none

/-- The same, strings let in. -/
def srcC (B : List Box) (esz : Nat) : CV → Option (Nat × List CV)
  | .str s => if esz = 1 then some (s.length, s.map byteC) else none
  | c => readC B esz c

def zerosOf (P : Program) (t : TypeId) : Option (List CV) := ((P.info? t).bind (·.zero)).bind fun z => cellsC (ofV z)

def repC (zs : List CV) : Nat → List CV
  | 0 => []
  | n + 1 => zs ++ repC zs n

/-- m elements, their cells 'news', behind a slice. -/
def appendM (P : Program) (e : TypeId) (esz : Nat) (B : List Box) (s : CV) (m : Nat) (news : List CV) : Option (CV × List Box) :=
  if m = 0 then (match s with | .nilS | .lst .. | .view .. | .cview .. => some (s, B) | _ => none) else
  match s with
  | .nilS => if m * P.bytesOf e ≤ 140737488355328 ∧ m ≤ 140737488355328 then some (.view B.length 0 m esz false, B ++ [{ cells := news }]) else none
  | .lst n cs true => if (n + m) * P.bytesOf e ≤ 140737488355328 ∧ n + m ≤ 140737488355328 ∧ cs.length = n * esz then some (.view B.length 0 (n + m) esz false, B ++ [{ cells := cs ++ news }]) else none
  | .view b off n sz full => match B[b]? with
    | none => none
    | some box =>
      if sz = esz ∧ (n + m) * P.bytesOf e ≤ 140737488355328 ∧ n + m ≤ 140737488355328 then
        if full then some (.view B.length 0 (n + m) esz false, B ++ [{ cells := (box.cells.drop off).take (n * esz) ++ news }])
        else if off + n * esz = box.cells.length then some (.view b off (n + m) esz false, B.set b { cells := box.cells ++ news, multi := true }) else none
      else none
  | .cview b off n cap sz => match B[b]? with
    | none => none
    | some box =>
      if sz = esz ∧ (n + m) * P.bytesOf e ≤ 140737488355328 ∧ n + m ≤ 140737488355328 ∧ box.multi = false ∧ off + cap * esz ≤ box.cells.length then
        if n + m ≤ cap then some (.cview b off (n + m) cap esz, B.set b { cells := splice box.cells (off + n * esz) news })
        else some (.view B.length 0 (n + m) esz false, B ++ [{ cells := (box.cells.drop off).take (n * esz) ++ news }])
      else none
  | _ => none
def appendC (P : Program) (ts : TypeId) (B : List Box) (s x : CV) : Option (CV × List Box) :=
  (elemT P ts).bind fun e => (szOf P e).bind fun esz => (srcC B esz x).bind fun (m, news) =>
  match (P.info? e).bind (·.zero) with
  | none => none
  | some z => if z.cells.size ≠ esz ∨ esz = 0 then none else appendM P e esz B s m news

/-- An append of m zero values. -/
def appendZ (P : Program) (ts : TypeId) (B : List Box) (s : CV) (m : Nat) : Option (CV × List Box) :=
  (elemT P ts).bind fun e => (szOf P e).bind fun esz => (zerosOf P e).bind fun zs =>
  if zs.length ≠ esz ∨ esz = 0 then none else appendM P e esz B s m (repC zs m)

/-- Cells are written into a slice of the call's own. -/
def writeC (B : List Box) (d : CV) (n : Nat) (vs : List CV) : Option (List Box) :=
  if n = 0 then (match d with | .nilS | .lst .. | .view .. | .cview .. => some B | _ => none) else
  match d with
  | .cview b off _ _ _ => match B[b]? with
    | some box => if box.multi = false ∧ off + vs.length ≤ box.cells.length then some (B.set b { cells := splice box.cells off vs }) else none
    | none => none
  | .view b off _ _ _ => match B[b]? with
    | some box => if box.multi = false ∧ off + vs.length ≤ box.cells.length then some (B.set b { cells := splice box.cells off vs }) else none
    | none => none
  | _ => none

def builtinC (P : Program) (o : Oper) (fr : Fr) (B : List Box) (b : Builtin) (ts : List TypeId) (args : List CV) : Option (CV × List Box) :=
  match b, ts, args with
  | .len, [t], [x] =>
    match x with
    | .nilS => if (elemT P t).isSome then some (.int .i64 0, B) else none
    | .lst n _ _ => if (elemT P t).isSome then some (.int .i64 n, B) else none
    | .view _ _ n _ _ => if (elemT P t).isSome then some (.int .i64 n, B) else none
    | .cview _ _ n _ _ => if (elemT P t).isSome then some (.int .i64 n, B) else none
    | .str s => match P.underlying t with | some .string => some (.int .i64 s.length, B) | _ => none
    | _ => match P.underlying t with | some (.array n _) => some (.int .i64 n, B) | _ => none
  | .cap, [t], [x] => match x with
    | .cview _ _ _ c _ => if (elemT P t).isSome then some (.int .i64 c, B) else none
    | _ => (evPure P o fr).map (·, B)
  | .append, [t, tx], [s, x] => match P.underlying tx with | some (.int _) => (match x with | .int _ k => if 0 ≤ k then appendZ P t B s k.toNat else none | _ => none) | some (.slice _) => (match x with | .str _ => none | _ => appendC P t B s x) | some .string => appendC P t B s x | _ => none
  | .copy, [t, _], [d, x] =>
    (elemT P t).bind fun e => (szOf P e).bind fun esz => (srcC B esz x).bind fun (m, news) => (match d with | .nilS => some 0 | .lst n _ _ => some n | .view _ _ n _ _ => some n | .cview _ _ n _ _ => some n | _ => none).bind fun dn =>
    (writeC B d (min m dn) (news.take (min m dn * esz))).map fun B' => (.int .i64 (min m dn : Nat), B')
  | .clear, [t], [d] =>
    (elemT P t).bind fun e => (zerosOf P e).bind fun zs => (szOf P e).bind fun esz => if zs.length ≠ esz then none else (match d with | .nilS => some 0 | .lst n _ _ => some n | .view _ _ n _ _ => some n | .cview _ _ n _ _ => some n | _ => none).bind fun dn =>
    (writeC B d dn (repC zs dn)).map fun B' => (.tup [], B')
  | .min, [_, _], [.int k a, .int _ b] => some (.int k (min a b), B)
  | .max, [_, _], [.int k a, .int _ b] => some (.int k (max a b), B)
  | _, _, _ => (evPure P o fr).map (·, B)

/-- ONE OPERATION that calls no function. -/
def ev (P : Program) (o : Oper) (fr : Fr) (B : List Box) : Option (CV × List Box) :=
  match o.op with
  | .move x | .assign x => some (opv fr x, B)
  | .pick c a b => match opv fr c with | .bool t => some (if t then opv fr a else opv fr b, B) | _ => none
  | .binOp op t x y _ => match binC P op t (opv fr x) (opv fr y) with | some r => r.map (·, B) | none => match aggEq P op t (opv fr x) (opv fr y) with | some c => some (c, B) | none => (evPure P o fr).map (·, B)
  | .unOp op _ x => match unC op (opv fr x) with | some r => r.map (·, B) | none => (evPure P o fr).map (·, B)
  | .convert src dst x =>
    match opv fr x, P.underlying src, P.underlying dst with
    | .int _ n, some _, some (.int k) => some (.int k (k.wrap n), B)
    | .str s, some _, some .string => some (.str s, B)
    | .str s, some _, some (.slice e) => match P.underlying e with | some (.int .u8) => some (.view B.length 0 s.length 1 false, B ++ [{ cells := s.map byteC }]) | _ => none
    | c, some (.slice e), some .string => match P.underlying e with | some (.int .u8) => (readC B 1 c).bind fun (_, cs) => (bytesC cs).map fun l => (.str l, B) | _ => none
    | _, _, _ => (evPure P o fr).map (·, B)
  | .extract x i => match opv fr x with | .tup cs => cs[i]?.map (·, B) | _ => none
  | .field t x i => match opv fr x, P.underlying t with | .agg cs, some (.struct fs) => (fs[i]?).bind fun f => (partC P f.type cs f.offset).map (·, B) | _, _ => none
  | .index t x i =>
    match opv fr x, opv fr i, P.underlying t with
    | .str s, .int _ i, some .string => if 0 ≤ i then (s[i.toNat]?).map fun b => (byteC b, B) else none
    | .agg cs, .int _ i, some (.array n e) => if 0 ≤ i ∧ i < n then (szOf P e).bind fun esz => (partC P e cs (i.toNat * esz)).map (·, B) else none
    | _, _, _ => none
  | .build t parts =>
    (zerosOf P t).bind fun zs =>
    match P.underlying t with
    | some (.struct fs) => if fs.toList.all (fun f => (szOf P f.type).isSome) = false then none else (fillC (fun i => (fs[i]?).bind fun f => (szOf P f.type).map (f.offset, ·)) zs (parts.toList.map fun p => (p.1, opv fr p.2))).map fun cs => (.agg cs, B)
    | some (.array _ e) => (szOf P e).bind fun esz => (fillC (fun i => some (i * esz, esz)) zs (parts.toList.map fun p => (p.1, opv fr p.2))).map fun cs => (.agg cs, B)
    | _ => none
  | .buildSlice t n parts =>
    (elemT P t).bind fun e => (szOf P e).bind fun esz => if n * esz > 65536 ∨ esz = 0 then none else (zerosOf P e).bind fun zs => if zs.length ≠ esz then none else
    (fillC (fun i => some (i * esz, esz)) (repC zs n) (parts.toList.map fun p => (p.1, opv fr p.2))).map fun cs => (.lst n cs true, B)
  | .makeInterface t x => match P.underlying t with | some (.interface _) | none => none | _ => some (.iface t (opv fr x), B)
  | .makeFunc f first caps => some (.fn f (first.toList.map (opv fr)) (caps.toList.map (opv fr)), B)
  | .nilCheck x => match opv fr x with | .ptr b off => some (.ptr b off, B) | .iptr cs => some (.iptr cs, B) | .fn (.func f) a b => some (.fn (.func f) a b, B) | _ => none
  | .alloc t => (zerosOf P t).map fun zs => (.ptr B.length 0, B ++ [{ cells := zs }])
  | .box _ x => (cellsC (opv fr x)).map fun cs => (.ptr B.length 0, B ++ [{ cells := cs }])
  | .load t x =>
    match opv fr x with
    | .ptr b off => match B[b]? with | some box => if box.multi then none else (loadC P t (box.cells.drop off)).map (·, B) | none => none
    | .iptr cs => (loadC P t cs).map (·, B)
    | _ => none
  | .store t x y =>
    match opv fr x with
    | .ptr b off => match B[b]?, cellsC (opv fr y) with
      | some box, some vs => if box.multi = false ∧ szOf P t = some vs.length ∧ off + vs.length ≤ box.cells.length then some (.tup [], B.set b { cells := splice box.cells off vs }) else none
      | _, _ => none
    | _ => none
  | .fieldAddr t x i =>
    match P.underlying t with
    | some (.struct fs) => (fs[i]?).bind fun f => match szOf P f.type with
      | some (_ + 1) => match opv fr x with | .ptr b off => some (.ptr b (off + f.offset), B) | .iptr cs => some (.iptr (cs.drop f.offset), B) | _ => none
      | _ => none
    | _ => none
  | .indexAddr t x i =>
    match opv fr i, P.underlying t with
    | .int _ i, some (.array n e) => if 0 ≤ i ∧ i < n then (szOf P e).bind fun esz => match opv fr x with | .ptr b off => some (.ptr b (off + i.toNat * esz), B) | .iptr cs => some (.iptr (cs.drop (i.toNat * esz)), B) | _ => none else none
    | .int _ i, some (.slice e) => (szOf P e).bind fun esz =>
      match opv fr x with
      | .lst n cs _ => if 0 ≤ i ∧ i < n then some (.iptr (cs.drop (i.toNat * esz)), B) else none
      | .cview b off n _ sz => if 0 ≤ i ∧ i < n ∧ sz = esz then (match B[b]? with | some box => if box.multi then some (.iptr ((box.cells.drop (off + i.toNat * esz)).take esz), B) else some (.ptr b (off + i.toNat * esz), B) | none => none) else none
      | .view b off n sz _ => if 0 ≤ i ∧ i < n ∧ sz = esz then (match B[b]? with | some box => if box.multi then some (.iptr ((box.cells.drop (off + i.toNat * esz)).take esz), B) else some (.ptr b (off + i.toNat * esz), B) | none => none) else none
      | _ => none
    | _, _ => none
  | .slice t x lo hi mx =>
    match P.underlying t with
    | some .string => match opv fr x, mx with | .str s, none => (boundsC s.length (lo.map (opv fr)) (hi.map (opv fr)) none).map fun (l, h, _) => (.str ((s.drop l).take (h - l)), B) | _, _ => none
    | some (.array n e) => (szOf P e).bind fun esz => (boundsC n (lo.map (opv fr)) (hi.map (opv fr)) (mx.map (opv fr))).bind fun (l, h, m) =>
      match opv fr x with
      | .ptr b off => match B[b]? with | some box => if box.multi = false ∧ off + n * esz ≤ box.cells.length then some (.view b (off + l * esz) (h - l) esz (decide (m.getD n = h)), B) else none | none => none
      | .iptr cs => some (.lst (h - l) ((cs.drop (l * esz)).take ((h - l) * esz)) (decide (m.getD n = h)), B)
      | _ => none
    | some (.slice e) => (szOf P e).bind fun esz =>
      match opv fr x with
      | .nilS => (boundsC 0 (lo.map (opv fr)) (hi.map (opv fr)) (mx.map (opv fr))).map fun _ => (.nilS, B)
      | .lst n cs full => (boundsC n (lo.map (opv fr)) (hi.map (opv fr)) (mx.map (opv fr))).map fun (l, h, m) => (.lst (h - l) ((cs.drop (l * esz)).take ((h - l) * esz)) (fullC m full h n), B)
      | .cview b off n cap sz => if sz = esz ∧ mx.isNone then (boundsK n cap (lo.map (opv fr)) (hi.map (opv fr))).map fun (l, h) => (.cview b (off + l * sz) (h - l) (cap - l) sz, B) else if sz = esz then (boundsC n (lo.map (opv fr)) (hi.map (opv fr)) (mx.map (opv fr))).map fun (l, h, m) => (.cview b (off + l * esz) (h - l) (m.getD cap - l) esz, B) else none
      | .view b off n sz full => if sz = esz then (boundsC n (lo.map (opv fr)) (hi.map (opv fr)) (mx.map (opv fr))).map fun (l, h, m) => (.view b (off + l * esz) (h - l) esz (fullC m full h n), B) else none
      | _ => none
    | _ => none
  | .sliceToArrayPointer t x =>
    match P.underlying t with
    | some (.array n e) => (szOf P e).bind fun esz => if n = 0 then none else match opv fr x with
      | .lst m cs _ => if n ≤ m then some (.iptr cs, B) else none
      | .view b off m sz _ => if n ≤ m ∧ sz = esz then (match B[b]? with | some box => if box.multi then some (.iptr ((box.cells.drop off).take (m * esz)), B) else some (.ptr b off, B) | none => none) else none
      | _ => none
    | _ => none
  | .makeSlice t l c =>
    (elemT P t).bind fun e => (szOf P e).bind fun esz => (zerosOf P e).bind fun zs => if zs.length ≠ esz then none else
    match opv fr l, opv fr c with
    | .int _ l, .int _ c => if 0 ≤ l ∧ l ≤ c ∧ c ≤ 1099511627776 ∧ P.bytesOf e * c ≤ 140737488355328 then some (.view B.length 0 l.toNat esz (decide (l = c)), B ++ [{ cells := repC zs l.toNat }]) else none
    | _, _ => none
  | .call { callee := .builtin b, args, argTypes } => builtinC P o fr B b argTypes.toList (args.toList.map (opv fr))
  | _ => none

end Go.Sy
