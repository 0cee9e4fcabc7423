/-
An executable machine over a small heap for the model's code: blocks are numbered in the order in which they are made, a slice that is
appended to always moves to a new block, orders are the text's. EngB.. show that what it answers is what the model's calls come to.
-/
import Derived.Orders
import Derived.Laws.Sem
import Derived.Laws.Externs
import Derived.Lib.Bytealg
import Derived.Lib.BytesEntry
set_option linter.unusedVariables false
namespace Go.Eng
open Go

/-- A map's entry. -/
structure Ent where
  key : Value
  val : Value
  born : Nat
/-- What is no block of cells: a text that is gone through, a map. -/
inductive Ob where
  | iter (s : ByteArray) (pos : Nat)
  | map (es : List Ent) (clock : Nat)
class ObC where
  o : Option Ob
instance noOb : ObC := ⟨none⟩
/-- A block: its cells; may the run write to it? (What is no block of cells has none.) -/
structure Blk where
  cells : List Value
  sz : Nat
  own : Bool
  [ob : ObC]
def Blk.plain (b : Blk) : Bool := b.ob.o.isNone
/-- May its cells be written? -/
def Blk.w (b : Blk) : Bool := b.own && b.ob.o.isNone
theorem Blk.w_mk {cs : List Value} {sz : Nat} : Blk.w ⟨cs, sz, true⟩ = true := of_eq_true (eq_self true)
def obj (o : Ob) : Blk := @Blk.mk [] 0 true ⟨some o⟩

/-- The heap: how many blocks there are, and what each holds; none: nobody may look at it (any more). -/
structure Heap where
  n : Nat
  get : Nat → Option Blk

def Heap.push (H : Heap) (b : Blk) : Heap := ⟨H.n + 1, fun i => if i = H.n then some b else H.get i⟩
def Heap.upd (H : Heap) (j : Nat) (b : Option Blk) : Heap := ⟨H.n, fun i => if i = j then b else H.get i⟩
def Heap.empty : Heap := ⟨0, fun _ => none⟩

abbrev Env := Nat → Value
def bnd {α β : Type} (r : Option (α × Heap)) (k : α → Heap → Option β) : Option β :=
  match r with
  | some (a, H) => k a H
  | none => none

abbrev oneC : Value → Bool := Value.oneCell'
/-- A value of one cell that leads nowhere. -/
def flat1 : Value → Bool
  | .bool _ | .int _ _ | .string _ | .pointer none | .map none | .nilFunc | .nilIface => true
  | .slice none n c => n == 0 && c == 0
  | _ => false
def flat : Value → Bool
  | .agg cs => cs.all flat1
  | .tuple cs => cs.all flat1
  | v => flat1 v

/-! ### memory -/
def ldC (a : Value) (H : Heap) : Option (Value × Heap) :=
  match a with
  | .pointer (some ⟨b, o, none⟩) =>
    match H.get b with
    | some blk =>
      match blk.cells[o]? with
      | some v => some (v, H)
      | none => none
    | none => none
  | _ => none
def cut (l : List Value) (o k : Nat) : List Value := (l.drop o).take k
def ldA (k : Nat) (a : Value) (H : Heap) : Option (Value × Heap) :=
  match a with
  | .pointer (some ⟨b, o, none⟩) =>
    match H.get b with
    | some blk => if o + k ≤ blk.cells.length then some (.agg (cut blk.cells o k).toArray, H) else none
    | none => none
  | _ => none
def splice (l : List Value) (o : Nat) (vs : List Value) : List Value := l.take o ++ vs ++ l.drop (o + vs.length)
def stV (k : Nat) (a x : Value) (H : Heap) : Option (Value × Heap) :=
  match a with
  | .pointer (some ⟨b, o, none⟩) =>
    match H.get b with
    | some blk =>
      if x.cells.size = k ∧ x.cells.toList.all oneC = true ∧ o + k ≤ blk.cells.length ∧ blk.w = true then
        some (undef, H.upd b (some ⟨splice blk.cells o x.cells.toList, blk.sz, true⟩))
      else none
    | none => none
  | _ => none
def newV (cs : List Value) (H : Heap) : Option (Value × Heap) :=
  if cs.all oneC = true then some (.pointer (some ⟨H.n, 0, none⟩), H.push ⟨cs, 1, true⟩) else none
def newS (sz len cap : Nat) (cs : List Value) (H : Heap) : Option (Value × Heap) :=
  if cs.all oneC = true then some (.slice (some ⟨H.n, 0, none⟩) len cap, H.push ⟨cs, sz, true⟩) else none

/-! ### addresses -/
def fAddr (off : Nat) (a : Value) : Option Value :=
  match a with
  | .pointer (some ⟨b, o, none⟩) => some (.pointer (some ⟨b, o + off, none⟩))
  | _ => none
def iAddrS (sz : Nat) (x i : Value) : Option Value :=
  match x, i with
  | .slice (some ⟨b, o, _⟩) len _, .int _ n => if 0 ≤ n ∧ n < (len : Int) then some (.pointer (some ⟨b, o + n.toNat * sz, none⟩)) else none
  | _, _ => none
def iAddrA (len sz : Nat) (x i : Value) : Option Value :=
  match x, i with
  | .pointer (some ⟨b, o, none⟩), .int _ n => if 0 ≤ n ∧ n < (len : Int) then some (.pointer (some ⟨b, o + n.toNat * sz, none⟩)) else none
  | _, _ => none
def bound (v : Option Value) (d : Nat) : Option Nat :=
  match v with
  | none => some d
  | some (.int _ n) => if 0 ≤ n then some n.toNat else none
  | _ => none
def slcStr (x : Value) (lo hi : Option Value) : Option Value :=
  match x with
  | .string s =>
    match bound lo 0, bound hi s.size with
    | some l, some h => if l ≤ h ∧ h ≤ s.size then some (.string (s.extract l h)) else none
    | _, _ => none
  | _ => none
def slcS (sz : Nat) (x : Value) (lo hi mx : Option Value) : Option Value :=
  match x with
  | .slice base len cap =>
    match bound lo 0, bound hi len, bound mx cap with
    | some l, some h, some m =>
      if l ≤ h ∧ h ≤ m ∧ m ≤ cap ∧ (mx.isNone || hi.isSome) = true then
        match base with
        | none => some (.slice none (h - l) (m - l))
        | some ⟨b, o, sp⟩ => some (.slice (some ⟨b, o + l * sz, if mx.isSome then some 0 else sp⟩) (h - l) (m - l))
      else none
    | _, _, _ => none
  | _ => none
def slcA (n sz : Nat) (x : Value) (lo hi mx : Option Value) : Option Value :=
  match x with
  | .pointer (some ⟨b, o, none⟩) =>
    match bound lo 0, bound hi n, bound mx n with
    | some l, some h, some m =>
      if l ≤ h ∧ h ≤ m ∧ m ≤ n ∧ (mx.isNone || hi.isSome) = true then some (.slice (some ⟨b, o + l * sz, some 0⟩) (h - l) (m - l)) else none
    | _, _, _ => none
  | _ => none

/-! ### append, copy -/
/-- What is appended: how many elements, and their cells. -/
def addend (sz : Nat) (x : Value) (H : Heap) : Option (Nat × List Value) :=
  match x with
  | .slice none n _ => if n = 0 then some (0, []) else none
  | .slice (some ⟨b, o, _⟩) n _ =>
    if n = 0 then some (0, []) else
    match H.get b with
    | some blk => if o + n * sz ≤ blk.cells.length then some (n, cut blk.cells o (n * sz)) else none
    | none => none
  | .string s => if sz = 1 then some (s.size, s.data.toList.map fun c => .int .u8 c.toNat) else none
  | _ => none
def mostBytes : Nat := 140737488355328
def app (sz bytes : Nat) (s x : Value) (H : Heap) : Option (Value × Heap) :=
  match addend sz x H, s with
  | some (n, cs), .slice base len cap =>
    if n = 0 then some (s, H) else
    if ¬ (len + n) * bytes ≤ mostBytes then none else
    match base with
    | none => if len = 0 ∧ cap = 0 then some (.slice (some ⟨H.n, 0, none⟩) n n, H.push ⟨cs, sz, true⟩) else none
    | some ⟨b, o, sp⟩ =>
      match H.get b with
      | none => none
      | some blk =>
        if sp.isSome || !blk.own then
          if cap < len + n ∧ o + len * sz ≤ blk.cells.length then
            some (.slice (some ⟨H.n, 0, none⟩) (len + n) (len + n), H.push ⟨cut blk.cells o (len * sz) ++ cs, sz, true⟩)
          else none
        else if len = cap ∧ o + len * sz = blk.cells.length ∧ blk.sz = sz then
          some (.slice (some ⟨H.n, 0, none⟩) (len + n) (len + n), (H.upd b none).push ⟨blk.cells.drop o ++ cs, sz, true⟩)
        else if len + n ≤ cap ∧ o + (len + n) * sz ≤ blk.cells.length then
          some (.slice (some ⟨b, o, none⟩) (len + n) cap, H.upd b (some ⟨splice blk.cells (o + len * sz) cs, blk.sz, true⟩))
        else none
  | _, _ => none
def rep (n : Nat) (zs : List Value) : List Value :=
  match n with
  | 0 => []
  | n + 1 => zs ++ rep n zs
/-- So many noughts are appended to nothing. -/
def appZ (sz bytes : Nat) (zs : List Value) (s x : Value) (H : Heap) : Option (Value × Heap) :=
  match s, x with
  | .slice none 0 0, .int .i64 n =>
    if 0 < n ∧ n < 9223372036854775808 ∧ n.toNat * bytes ≤ mostBytes ∧ zs.all oneC = true then some (.slice (some ⟨H.n, 0, none⟩) n.toNat n.toNat, H.push ⟨rep n.toNat zs, sz, true⟩) else none
  | _, _ => none
def cpy (sz : Nat) (d x : Value) (H : Heap) : Option (Value × Heap) :=
  match d, addend sz x H with
  | .slice base len _, some (n, cs) =>
    let k := Nat.min n len
    match base with
    | none => some (.int .i64 k, H)
    | some ⟨b, o, _⟩ =>
      match H.get b with
      | some blk =>
        if blk.w = true ∧ o + k * sz ≤ blk.cells.length then some (.int .i64 k, H.upd b (some ⟨splice blk.cells o (cs.take (k * sz)), blk.sz, true⟩))
        else none
      | none => none
  | _, _ => none

/-! ### what computes -/
def intB (op : BinOp) (k : IntKind) (x y : Int) : Option Value :=
  match op with
  | .add => some (.int k (k.wrap (x + y)))
  | .sub => some (.int k (k.wrap (x - y)))
  | .mul => some (.int k (k.wrap (x * y)))
  | .quo => if y = 0 then none else some (.int k (k.wrap (x.tdiv y)))
  | .rem => if y = 0 then none else some (.int k (x.tmod y))
  | .and => some (.int k (k.wrap (BitVec.ofInt k.bits x &&& BitVec.ofInt k.bits y).toNat))
  | .or => some (.int k (k.wrap (BitVec.ofInt k.bits x ||| BitVec.ofInt k.bits y).toNat))
  | .xor => some (.int k (k.wrap (BitVec.ofInt k.bits x ^^^ BitVec.ofInt k.bits y).toNat))
  | .andNot => some (.int k (k.wrap (BitVec.ofInt k.bits x &&& ~~~ (BitVec.ofInt k.bits y)).toNat))
  | .eql => some (.bool (x == y))
  | .neq => some (.bool (x != y))
  | .lss => some (.bool (x < y))
  | .leq => some (.bool (x ≤ y))
  | .gtr => some (.bool (x > y))
  | .geq => some (.bool (x ≥ y))
  | _ => none
def shiftB (op : BinOp) (k : IntKind) (x y : Int) : Option Value :=
  if y < 0 then none else
  match op with
  | .shl => some (.int k (k.wrap (x * 2 ^ (min y.toNat k.bits))))
  | .shr => some (.int k (x.fdiv (2 ^ (min y.toNat k.bits))))
  | _ => none
def strB (op : BinOp) (x y : ByteArray) : Option Value :=
  match op with
  | .add => if ((x.size + y.size : Nat) : Int) > IntKind.i64.max then none else some (.string (x ++ y))
  | .eql => some (.bool (x.toList == y.toList))
  | .neq => some (.bool !(x.toList == y.toList))
  | .lss => some (.bool (Op.bytesLess x.toList y.toList))
  | .leq => some (.bool (Op.bytesLess x.toList y.toList || x.toList == y.toList))
  | .gtr => some (.bool !(Op.bytesLess x.toList y.toList || x.toList == y.toList))
  | .geq => some (.bool !(Op.bytesLess x.toList y.toList))
  | _ => none
def eqA (P : Program) (t : TypeId) (x y : Value) : Option Bool :=
  if flat x && flat y && !P.eqGuardType P.depth t then
    match (Op.equal t x y).run P default with
    | .ok b _ => some b
    | _ => none
  else none
def eqV (P : Program) (t : TypeId) (x y : Value) : Option Bool :=
  match P.underlying t, x, y with
  | some .bool, .bool a, .bool b => some (a == b)
  | some (.pointer _), .pointer a, .pointer none => some a.isNone
  | some (.pointer _), .pointer none, .pointer b => some b.isNone
  | some (.slice _), .slice a _ _, .slice none _ _ => some a.isNone
  | some (.slice _), .slice none _ _, .slice b _ _ => some b.isNone
  | some (.map _ _), .map a, .map none => some a.isNone
  | some (.map _ _), .map none, .map b => some b.isNone
  | some (.struct _), .agg _, .agg _ => eqA P t x y
  | some (.array _ _), .agg _, .agg _ => eqA P t x y
  | _, _, _ => none
def binB (P : Program) (op : BinOp) (t : TypeId) (x y : Value) : Option Value :=
  match x, y with
  | .int k a, .int k' b =>
    match op with
    | .shl => shiftB .shl k a b
    | .shr => shiftB .shr k a b
    | op => if k = k' then intB op k a b else none
  | .string a, .string b => strB op a b
  | x, y =>
    match op with
    | .eql => (eqV P t x y).map .bool
    | .neq => (eqV P t x y).map fun b => .bool !b
    | _ => none
def unB (op : UnOp) (x : Value) : Option Value :=
  match op, x with
  | .neg, .int k n => some (.int k (k.wrap (0 - n)))
  | .xor, .int k n => some (.int k (k.wrap (BitVec.ofInt k.bits (if k.signed then -1 else k.max) ^^^ BitVec.ofInt k.bits n).toNat))
  | .not, .bool b => some (.bool !b)
  | _, _ => none
def byteOf : Value → Option UInt8
  | .int .u8 n => some (UInt8.ofNat n.toNat)
  | _ => none
def toStr (x : Value) (H : Heap) : Option (Value × Heap) :=
  match x with
  | .slice none _ _ => some (.string .empty, H)
  | .slice (some ⟨b, o, _⟩) n _ =>
    if n = 0 then some (.string .empty, H) else
    match H.get b with
    | some blk =>
      if o + n ≤ blk.cells.length then
        match (cut blk.cells o n).mapM byteOf with
        | some l => some (.string ⟨l.toArray⟩, H)
        | none => none
      else none
    | none => none
  | _ => none
def ofStr (x : Value) (H : Heap) : Option (Value × Heap) :=
  match x with
  | .string s => if s.size ≤ mostBytes then some (.slice (some ⟨H.n, 0, none⟩) s.size s.size, H.push ⟨s.data.toList.map fun c => .int .u8 c.toNat, 1, true⟩) else none
  | _ => none
def markV (x : Value) (H : Heap) : Option (Value × Heap) :=
  match x with
  | .slice (some ⟨b, o, none⟩) n c =>
    match H.get b with
    | some blk => if blk.w = true ∧ 0 < c then some (.slice (some ⟨b, o, none⟩) n c, H) else none
    | none => none
  | _ => none
inductive Cnv where
  | int (k : IntKind) | same | rune | toStr | ofStr | mark | bad
def cnvOf (P : Program) (src dst : TypeId) : Cnv :=
  match P.underlying src, P.underlying dst with
  | some (.int _), some (.int k) => .int k
  | some .string, some .string => .same
  | some (.int _), some .string => .rune
  | some (.slice e), some .string => if P.underlying e matches some (.int .u8) then .toStr else .bad
  | some .string, some (.slice e) => if P.underlying e matches some (.int .u8) then .ofStr else .bad
  | some (.slice e), some (.slice _) => if src = dst then (if P.underlying e matches some (.int .u8) then .mark else .bad) else .bad
  | _, _ => .bad
def cnv (c : Cnv) (x : Value) (H : Heap) : Option (Value × Heap) :=
  match c with
  | .int k => match x with | .int _ n => some (.int k (k.wrap n), H) | _ => none
  | .same => match x with | .string s => some (.string s, H) | _ => none
  | .rune => match x with | .int _ n => some (.string (Utf8.encode n), H) | _ => none
  | .toStr => toStr x H
  | .ofStr => ofStr x H
  | .mark => markV x H
  | .bad => none
def szOf (P : Program) (t : TypeId) : Option Nat := (P.info? t).map (·.size)
def bytesOf (P : Program) (t : TypeId) : Option Nat := (P.info? t).map (·.bytes)
def zeroOf (P : Program) (t : TypeId) : Option Value := match (P.info? t).bind (·.zero) with | some z => if flat z then some z else none | none => none
def isAggT (P : Program) (t : TypeId) : Option Bool := (P.underlying t).map fun | .struct _ => true | .array _ _ => true | _ => false
def partV (agg : Bool) (k off : Nat) (x : Value) : Option Value :=
  match x with
  | .agg cs => if agg then (if off + k ≤ cs.size then some (.agg (cut cs.toList off k).toArray) else none) else cs.toList[off]?
  | _ => none
def idxA (agg : Bool) (len sz : Nat) (x i : Value) : Option Value :=
  match i with
  | .int _ n => if 0 ≤ n ∧ n < (len : Int) then partV agg sz (n.toNat * sz) x else none
  | _ => none
def idxS (x i : Value) : Option Value :=
  match x, i with
  | .string s, .int _ n => if 0 ≤ n then (s.data.toList[n.toNat]?).map fun c => .int .u8 c.toNat else none
  | _, _ => none
/-- Parts laid into cells. -/
def fillC (cells : List Value) : List (Nat × Nat × Value) → Option (List Value)
  | [] => some cells
  | (off, size, v) :: rest => if v.cells.size = size ∧ off + size ≤ cells.length then fillC (splice cells off v.cells.toList) rest else none
def places (P : Program) (t : TypeId) (ps : List (Nat × Value)) : Option (List (Nat × Nat × Value)) :=
  match P.underlying t with
  | some (.struct fs) => (fs.toList.mapM fun f => (szOf P f.type).map fun s => (f.offset, s)).bind fun pls => ps.mapM fun (i, v) => (pls[i]?).map fun p => (p.1, p.2, v)
  | some (.array _ e) => (szOf P e).map fun s => ps.map fun (i, v) => (i * s, s, v)
  | _ => none
def up (x : Option Value) (H : Heap) : Option (Value × Heap) :=
  match x with
  | some v => some (v, H)
  | none => none

def ev (env : Env) : Operand → Value
  | .tmp t => env t
  | .const v => v
  | .global g => .pointer (some ⟨g, 0, none⟩)
  | .func f => .func (.func f) #[] #[]

/-- What a call may be asked. -/
abbrev CallF := FuncId → List Value → Heap → Option (Value × Heap)

/-! ### texts gone through, maps -/
def keyB (d : TypeDesc) (k : Value) : Bool :=
  match d, k with
  | .string, .string _ => true
  | .bool, .bool _ => true
  | .int a, .int b _ => a == b
  | _, _ => false
def obAt (H : Heap) (b : Nat) : Option Ob := (H.get b).bind fun k => k.ob.o
def rngS (x : Value) (H : Heap) : Option (Value × Heap) :=
  match x with
  | .string s => some (.pointer (some ⟨H.n, 0, none⟩), H.push (obj (.iter s 0)))
  | _ => none
def nxtS (x : Value) (H : Heap) : Option (Value × Heap) :=
  match x with
  | .pointer (some ⟨b, 0, none⟩) =>
    match obAt H b with
    | some (.iter s pos) =>
      if pos < s.size then some (.tuple #[.bool true, .int .i64 pos, .int .i32 (Utf8.decode s pos).1], H.upd b (some (obj (.iter s (pos + (Utf8.decode s pos).2)))))
      else some (.tuple #[.bool false], H)
    | _ => none
  | _ => none
def mkM (H : Heap) : Option (Value × Heap) := some (.map (some H.n), H.push (obj (.map [] 0)))
def findM (d : TypeDesc) (k : Value) : List Ent → Nat → Option (Option (Nat × Value))
  | [], _ => some none
  | e :: es, i =>
    match Instr.sameNow d k e.key with
    | some true => some (some (i, e.val))
    | some false => findM d k es (i + 1)
    | none => none
def lkM (d : TypeDesc) (z : Value) (ok : Bool) (x k : Value) (H : Heap) : Option (Value × Heap) :=
  match x with
  | .map none => some (if ok then .tuple #[z, .bool false] else z, H)
  | .map (some b) =>
    match obAt H b with
    | some (.map es _) =>
      match findM d k es 0 with
      | some (some (_, v)) => some (if ok then .tuple #[v, .bool true] else v, H)
      | some none => some (if ok then .tuple #[z, .bool false] else z, H)
      | none => none
    | _ => none
  | _ => none
def upM (d : TypeDesc) (x k v : Value) (H : Heap) : Option (Value × Heap) :=
  match x with
  | .map (some b) =>
    match obAt H b with
    | some (.map es clock) =>
      match findM d k es 0 with
      | some (some (i, _)) => some (undef, H.upd b (some (obj (.map (es.modify i fun e => ⟨k, v, e.born⟩) clock))))
      | some none => some (undef, H.upd b (some (obj (.map (es ++ [⟨k, v, clock⟩]) (clock + 1)))))
      | none => none
    | _ => none
  | _ => none
def lenM (x : Value) (H : Heap) : Option (Value × Heap) :=
  match x with
  | .map none => some (.int .i64 0, H)
  | .map (some b) =>
    match obAt H b with
    | some (.map es _) => some (.int .i64 es.length, H)
    | _ => none
  | _ => none
def isMapT (P : Program) (t : TypeId) : Bool := match P.underlying t with | some (.map _ _) => true | _ => false

def capB (P : Program) (t : TypeId) (x : Value) : Option Value :=
  match P.underlying t, x with
  | some (.array n _), _ => some (.int .i64 n)
  | some (.slice _), .slice none _ _ => some (.int .i64 0)
  | some (.slice _), .slice (some ⟨_, _, some _⟩) _ c => some (.int .i64 c)
  | _, _ => none
def lenB (P : Program) (t : TypeId) (x : Value) : Option Value :=
  match P.underlying t, x with
  | some .string, .string s => some (.int .i64 s.size)
  | some (.array n _), _ => some (.int .i64 n)
  | some (.slice _), .slice _ n _ => some (.int .i64 n)
  | _, _ => none
def builtinB (P : Program) (b : Builtin) (ts : Array TypeId) (args : List Value) (H : Heap) : Option (Value × Heap) :=
  match b, args with
  | .len, [x] => match ts[0]? with | some t => if isMapT P t then lenM x H else up (lenB P t x) H | none => none
  | .cap, [x] => match ts[0]? with | some t => up (capB P t x) H | none => none
  | .append, [s, x] =>
    match ts[0]? with
    | some t =>
      match P.underlying t with
      | some (.slice e) =>
        match szOf P e, bytesOf P e, zeroOf P e with
        | some sz, some by_, some z =>
          if 0 < sz ∧ 0 < by_ ∧ z.cells.size = sz then
            match (ts[1]?).bind P.underlying with
            | some (.slice _) => app sz by_ s x H
            | some .string => app sz by_ s x H
            | some (.int _) => appZ sz by_ z.cells.toList s x H
            | _ => none
          else none
        | _, _, _ => none
      | _ => none
    | none => none
  | .copy, [d, x] =>
    match ts[0]? with
    | some t =>
      match P.underlying t with
      | some (.slice e) => match szOf P e with | some sz => cpy sz d x H | none => none
      | _ => none
    | none => none
  | .min, [.int k x, .int k' y] => if k = k' then some (.int k (if y < x then y else x), H) else none
  | .max, [.int k x, .int k' y] => if k = k' then some (.int k (if x < y then y else x), H) else none
  | _, _ => none

/-- An operation that is no call. -/
def aop (P : Program) (C : CallF) (env : Env) (o : Op) (H : Heap) : Option (Value × Heap) :=
  match o with
  | .move x => some (ev env x, H)
  | .assign x => some (ev env x, H)
  | .pick c a b => match ev env c with | .bool t => some (if t then ev env a else ev env b, H) | _ => none
  | .alloc e => match zeroOf P e with | some z => newV z.cells.toList H | none => none
  | .box _ x => newV (ev env x).cells.toList H
  | .build t ps =>
    match zeroOf P t, places P t (ps.toList.map fun (i, x) => (i, ev env x)) with
    | some z, some pl => match fillC z.cells.toList pl with | some cs => some (.agg cs.toArray, H) | none => none
    | _, _ => none
  | .buildSlice t len ps =>
    match P.underlying t with
    | some (.slice e) =>
      match szOf P e, zeroOf P e with
      | some sz, some z =>
        if len * sz ≤ 16777216 ∧ z.cells.size = sz ∧ 0 < sz then
          match fillC (rep len z.cells.toList) (ps.toList.map fun (i, x) => (i * sz, sz, ev env x)) with
          | some cs => newS sz len len cs H
          | none => none
        else none
      | _, _ => none
    | _ => none
  | .load t a =>
    match isAggT P t, szOf P t with
    | some true, some k => ldA k (ev env a) H
    | some false, _ => ldC (ev env a) H
    | _, _ => none
  | .store t a x => match szOf P t with | some k => stV k (ev env a) (ev env x) H | none => none
  | .nilCheck x => match ev env x with | .pointer (some a) => some (.pointer (some a), H) | .func (.func f) a b => some (.func (.func f) a b, H) | _ => none
  | .binOp op t x y _ => up (binB P op t (ev env x) (ev env y)) H
  | .unOp op _ x => up (unB op (ev env x)) H
  | .convert s d x => cnv (cnvOf P s d) (ev env x) H
  | .makeFunc (.func f) first captured => some (.func (.func f) (first.map (ev env)) (captured.map (ev env)), H)
  | .makeSlice t l c =>
    match P.underlying t, ev env l, ev env c with
    | some (.slice e), .int .i64 n, .int .i64 m =>
      match zeroOf P e, szOf P e, bytesOf P e with
      | some z, some sz, some by_ => if 0 ≤ n ∧ n ≤ m ∧ by_ * m ≤ 140737488355328 ∧ z.cells.size = sz ∧ m < 9223372036854775808 ∧ 0 < sz then newS sz n.toNat m.toNat (rep m.toNat z.cells.toList) H else none
      | _, _, _ => none
    | _, _, _ => none
  | .slice t x lo hi mx =>
    match P.underlying t with
    | some .string => if mx.isNone then up (slcStr (ev env x) (lo.map (ev env)) (hi.map (ev env))) H else none
    | some (.slice e) => match szOf P e with | some sz => up (slcS sz (ev env x) (lo.map (ev env)) (hi.map (ev env)) (mx.map (ev env))) H | none => none
    | some (.array n e) => match szOf P e with | some sz => up (slcA n sz (ev env x) (lo.map (ev env)) (hi.map (ev env)) (mx.map (ev env))) H | none => none
    | _ => none
  | .fieldAddr s x f =>
    match P.underlying s with
    | some (.struct fs) =>
      match fs[f]? with
      | some fl => match szOf P fl.type with | some (_ + 1) => up (fAddr fl.offset (ev env x)) H | _ => none
      | none => none
    | _ => none
  | .field s x f =>
    match P.underlying s with
    | some (.struct fs) =>
      match fs[f]? with
      | some fl => match isAggT P fl.type, szOf P fl.type with | some ag, some k => up (partV ag k fl.offset (ev env x)) H | _, _ => none
      | none => none
    | _ => none
  | .indexAddr t x i =>
    match P.underlying t with
    | some (.array len e) => match szOf P e with | some sz => up (iAddrA len sz (ev env x) (ev env i)) H | none => none
    | some (.slice e) => match szOf P e with | some sz => up (iAddrS sz (ev env x) (ev env i)) H | none => none
    | _ => none
  | .index t x i =>
    match P.underlying t with
    | some (.array len e) => match isAggT P e, szOf P e with | some ag, some sz => up (idxA ag len sz (ev env x) (ev env i)) H | _, _ => none
    | some .string => up (idxS (ev env x) (ev env i)) H
    | _ => none
  | .extract t ix => match ev env t with | .tuple vs => up (vs.toList[ix]?) H | _ => none
  | .range t x => match P.underlying t with | some .string => rngS (ev env x) H | _ => none
  | .next x true => nxtS (ev env x) H
  | .makeMap t r => match P.underlying t, r.map (ev env) with | some (.map _ _), none => mkM H | some (.map _ _), some (.int _ _) => mkM H | _, _ => none
  | .lookup t x k ok =>
    match P.underlying t with
    | some (.map kt et) =>
      match P.underlying kt, zeroOf P et with
      | some d, some z => if keyB d (ev env k) then lkM d z ok (ev env x) (ev env k) H else none
      | _, _ => none
    | _ => none
  | .mapUpdate t x k v =>
    match P.underlying t with
    | some (.map kt _) => match P.underlying kt with | some d => if keyB d (ev env k) then upM d (ev env x) (ev env k) (ev env v) H else none | _ => none
    | _ => none
  | .insert t x k v =>
    match P.underlying t with
    | some (.map kt _) => match P.underlying kt with | some d => if keyB d (ev env k) then upM d (ev env x) (ev env k) (ev env v) H else none | _ => none
    | _ => none
  | .call c =>
    match c.callee with
    | .value f => match ev env f with | .func (.func g) first captured => C g (first.toList ++ (c.args.toList.map (ev env)) ++ captured.toList) H | _ => none
    | .builtin b => builtinB P b c.argTypes (c.args.toList.map (ev env)) H
    | _ => none
  | _ => none

/-! ### code -/
inductive AExit where
  | normal | exit (id : Nat) | ret

def putE (N : Nat) (env : Env) (d : Option Tmp) (v : Value) : Env :=
  match d with
  | some d => if d < N then (fun t => if t = d then v else env t) else env
  | none => env
def wantedE (ops : List Oper) (o : Oper) (env : Env) : Bool :=
  match o.guard with
  | none => true
  | some (j, want) =>
    match (ops[j]?).bind (·.dst) with
    | some d => match env d with | .bool b => b == want | _ => false
    | none => false

/-- Operations in the text's order. -/
def aops (P : Program) (C : CallF) (N : Nat) (all : List Oper) : List Oper → Env → Heap → Option (Env × Heap)
  | [], env, H => some (env, H)
  | o :: rest, env, H =>
    if wantedE all o env then
      match aop P C env o.op H with
      | some (v, H') => aops P C N all rest (putE N env o.dst v) H'
      | none => none
    else aops P C N all rest (putE N env o.dst undef) H

def aloop (f : Env → Heap → Option (AExit × Env × Heap)) : Nat → Env → Heap → Option (AExit × Env × Heap)
  | 0, _, _ => none
  | n + 1, env, H =>
    match f env H with
    | some (.normal, env', H') => aloop f n env' H'
    | r => r

/-! ### regions whose order is drawn -/
inductive OKind where
  | pure | read | make | act
  deriving DecidableEq
def kindOf (P : Program) : Op → OKind
  | .load _ _ => .read
  | .convert s d _ => match cnvOf P s d with | .toStr => .read | .ofStr => .make | .mark => .act | _ => .pure
  | .alloc _ | .box _ _ | .buildSlice _ _ _ | .makeSlice _ _ _ => .make
  | .move _ | .assign _ | .pick _ _ _ | .build _ _ | .nilCheck _ | .binOp _ _ _ _ _ | .unOp _ _ _ | .makeFunc _ _ _ | .slice _ _ _ _ _
  | .fieldAddr _ _ _ | .field _ _ _ | .indexAddr _ _ _ | .index _ _ _ | .extract _ _ => .pure
  | .call { callee := .builtin .len, argTypes := ts, .. } => if (match ts[0]? with | some t => isMapT P t | none => false) then .act else .pure
  | .call { callee := .builtin .cap, .. } => .pure
  | .call { callee := .builtin .min, .. } => .pure
  | .call { callee := .builtin .max, .. } => .pure
  | _ => .act
def blkOf : Value → Option Nat
  | .pointer (some a) => some a.block
  | .slice (some a) _ _ => some a.block
  | _ => none
def readBlk (env : Env) : Op → Option Nat
  | .load _ a => blkOf (ev env a)
  | .convert _ _ a => blkOf (ev env a)
  | _ => none
def eqVal : Value → Value → Bool
  | .bool a, .bool b => a == b
  | .int k a, .int k' b => k == k' && a == b
  | .string a, .string b => a.data.toList == b.data.toList
  | .pointer a, .pointer b => a == b
  | .slice a n c, .slice b m d => a == b && n == m && c == d
  | .nilIface, .nilIface => true
  | .nilFunc, .nilFunc => true
  | .map a, .map b => a == b
  | _, _ => false
def eqCells : List Value → List Value → Bool
  | [], [] => true
  | a :: l, b :: m => eqVal a b && eqCells l m
  | _, _ => false
def eqBlk (x y : Blk) : Bool := eqCells x.cells y.cells && x.sz == y.sz && x.own == y.own && x.plain && y.plain
/-- Is it the same? (What can be held against each other is held against each other.) -/
noncomputable def same (x y : Option Blk) : Bool := @decide (x = y) (Classical.propDecidable _)
noncomputable def sameBlk (H H' : Heap) (b : Option Nat) : Bool :=
  match b with
  | none => true
  | some b =>
    if b < H.n then
      (match H.get b, H'.get b with
      | some x, some y => eqBlk x y
      | _, _ => false) || same (H'.get b) (H.get b)
    else true
/-- For each operation the set of those that it waits for. -/
def befs : List Oper → List Nat → List Nat
  | [], acc => acc
  | o :: rest, acc => befs rest (acc ++ [o.after.toList.foldl (fun s e => if Region.binds .any e then s ||| 2 ^ e.on ||| acc.getD e.on 0 else s) 0])
def ordered (bf : List Nat) (i j : Nat) : Bool := (bf.getD j 0).testBit i || (bf.getD i 0).testBit j
noncomputable def aopsD (P : Program) (C : CallF) (N : Nat) (all : List Oper) (bf : List Nat) : List Oper → Nat → List (Nat × Heap × Heap) → List (Nat × Option Nat) → Env → Heap → Option (Env × Heap)
  | [], _, _, _, env, H => some (env, H)
  | o :: rest, i, acts, reads, env, H =>
    if wantedE all o env then
      match kindOf P o.op with
      | .read =>
        let b := readBlk env o.op
        if acts.all fun x => ordered bf x.1 i || sameBlk x.2.1 x.2.2 b then
          match aop P C env o.op H with
          | some (v, H') => aopsD P C N all bf rest (i + 1) acts ((i, b) :: reads) (putE N env o.dst v) H'
          | none => none
        else none
      | .act =>
        match aop P C env o.op H with
        | some (v, H') =>
          if reads.all fun x => ordered bf x.1 i || sameBlk H H' x.2 then
            aopsD P C N all bf rest (i + 1) ((i, H, H') :: acts) reads (putE N env o.dst v) H'
          else none
        | none => none
      | .make =>
        match aop P C env o.op H with
        | some (v, H') => aopsD P C N all bf rest (i + 1) acts ((i, some H.n) :: reads) (putE N env o.dst v) H'
        | none => none
      | .pure =>
        match aop P C env o.op H with
        | some (v, H') => aopsD P C N all bf rest (i + 1) acts reads (putE N env o.dst v) H'
        | none => none
    else aopsD P C N all bf rest (i + 1) acts reads (putE N env o.dst undef) H
/-- The temporaries that an operation looks at or writes. -/
def names (all : List Oper) (o : Oper) : List Tmp := o.dst.toList ++ o.looksAt all.toArray
def isAct (P : Program) (o : Oper) : Bool := kindOf P o.op == .act
def drawOk (P : Program) (N : Nat) (all : List Oper) (bf : List Nat) : Bool :=
  (all.all fun o => match o.dst with | some d => d < N | none => true) &&
  (all.zipIdx.all fun (o, i) => o.after.all fun e => !Region.binds .any e || e.on < i) &&
  (all.all fun o => match o.op with | .select _ _ => false | _ => true) &&
  (all.zipIdx.all fun (o, i) => match o.guard with | none => true | some (j, _) => j < i && (bf.getD i 0).testBit j) &&
  all.zipIdx.all fun (o, i) => all.zipIdx.all fun (q, j) =>
    i == j || (!(isAct P o && isAct P q) || ordered bf i j) && ((match o.dst with | some d => !(names all q).contains d | none => true) || ordered bf i j)
noncomputable def aregion (P : Program) (C : CallF) (N : Nat) (ops : List Oper) (draw : Bool) (env : Env) (H : Heap) : Option (Env × Heap) :=
  if draw then (if drawOk P N ops (befs ops []) then aopsD P C N ops (befs ops []) ops 0 [] [] env H else none) else aops P C N ops ops env H

noncomputable def acode (P : Program) (C : CallF) (fuel N : Nat) : Code → Env → Heap → Option (AExit × Env × Heap)
  | .skip, env, H => some (.normal, env, H)
  | .region _ ops draw, env, H => match aregion P C N ops.toList draw env H with | some (env', H') => some (.normal, env', H') | none => none
  | .seq a b, env, H =>
    match acode P C fuel N a env H with
    | some (.normal, env', H') => acode P C fuel N b env' H'
    | r => r
  | .cond c a b, env, H =>
    match ev env c with
    | .bool true => acode P C fuel N a env H
    | .bool false => acode P C fuel N b env H
    | _ => none
  | .block id body, env, H =>
    match acode P C fuel N body env H with
    | some (.exit i, env', H') => if i = id then some (.normal, env', H') else some (.exit i, env', H')
    | r => r
  | .loop body, env, H => aloop (acode P C fuel N body) fuel env H
  | .exit id, env, H => some (.exit id, env, H)
  | .scope body, env, H => acode P C fuel N body env H
  | .label _, env, H => some (.normal, env, H)
  | .ret, env, H => some (.ret, env, H)
  | _, _, _ => none

/-! ### what is let in -/
def okOpd (P : Program) (gl : Bool) : Operand → Bool
  | .tmp _ => true
  | .const v => flat v
  | .global g => gl && g < P.globals.size
  | .func _ => true
def okCode (P : Program) (gl : Bool) : Code → Bool
  | .region _ ops _ => ops.toList.all fun o => o.op.operands.toList.all (okOpd P gl)
  | .seq a b => okCode P gl a && okCode P gl b
  | .cond c a b => okOpd P gl c && okCode P gl a && okCode P gl b
  | .block _ b => okCode P gl b
  | .loop b => okCode P gl b
  | .scope b => okCode P gl b
  | _ => true

/-! ### calls -/
def env0 (args : List Value) : Env := fun t => args.getD t undef
def resOne (P : Program) (env : Env) (H : Heap) : ResultVar → Option Value
  | .tmp t => some (env t)
  | .cell a t =>
    match isAggT P t, szOf P t with
    | some true, some k => (ldA k (env a) H).map (·.1)
    | some false, _ => (ldC (env a) H).map (·.1)
    | _, _ => none
def resL (P : Program) (env : Env) (H : Heap) : List ResultVar → Option (List Value)
  | [] => some []
  | r :: rest => match resOne P env H r, resL P env H rest with | some v, some l => some (v :: l) | _, _ => none
def one (l : List Value) : Value := match l with | [v] => v | l => .tuple l.toArray
def results (P : Program) (fn : Func) (env : Env) (H : Heap) : Option (Value × Heap) := (resL P env H fn.results.toList).map fun l => (one l, H)

/-- What is told of a function ahead. -/
abbrev Ext := FuncId → Option (List Value → Heap → Option (Value × Heap))

/-! ### what has no text in Go -/
def numOf : Value → Option Int
  | .int .u8 n => some n
  | _ => none
def idxX (args : List Value) (H : Heap) : Option (Value × Heap) :=
  match args with
  | [.string s, .int .u8 c] => some (.int .i64 (Lib.indexByte s.data.toList c.toNat.toUInt8), H)
  | [.slice a n k, .int .u8 c] =>
    match addend 1 (.slice a n k) H with
    | some (_, cs) => match cs.mapM numOf with | some xs => some (.int .i64 (Lib.indexByte (Lib.bytesOf xs) c.toNat.toUInt8), H) | none => none
    | none => none
  | _ => none
def externX (fn : Func) (args : List Value) (H : Heap) : Option (Value × Heap) :=
  if (fn.name == "internal/bytealg.IndexByte" || fn.name == "internal/bytealg.IndexByteString") && (Extern.findNext fn).isNone then idxX args H else none

noncomputable def acall (P : Program) (gl : Bool) (E : Ext) : Nat → CallF
  | 0, _, _, _ => none
  | n + 1, f, args, H =>
    match P.funcs[f]? with
    | none => none
    | some fn =>
      match fn.name == "runtime.NumGoroutine", fn.body with
      | false, some c =>
        match E f with
        | some g => g args H
        | none =>
          if !okCode P gl c then none else
          match acode P (acall P gl E n) n (max args.length fn.ntmps) c (env0 args) H with
          | some (.normal, env, H') => results P fn env H'
          | some (.ret, env, H') => results P fn env H'
          | _ => none
      | false, none => externX fn args H
      | _, _ => none

end Go.Eng
