import Derived.Orders
import Derived.Laws.Sem
import Derived.Laws.Externs
import Derived.Lib.Bytealg
import Derived.Lib.BytesEntry
import Derived.Laws.Cells
import Derived.Laws.Entries
import Derived.ChangeKeysEq
import Derived.Laws.World
import Derived.Laws.Append
import Derived.Laws.BytesString
import Derived.Laws.IdiomStrings
import Derived.IntWalk
set_option linter.unusedVariables false
namespace Go.Eng
open Go

structure Ent where
  key : Value
  val : Value
  born : Nat
inductive Ob where
  | iter (s : ByteArray) (pos : Nat)
  | map (es : List Ent) (clock : Nat)
class ObC where
  o : Option Ob
instance noOb : ObC := ⟨none⟩
structure Blk where
  cells : List Value
  sz : Nat
  own : Bool
  [ob : ObC]
def Blk.plain (b : Blk) : Bool := b.ob.o.isNone
def Blk.w (b : Blk) : Bool := b.own && b.ob.o.isNone
theorem Blk.w_mk {cs : List Value} {sz : Nat} : Blk.w ⟨cs, sz, true⟩ = true := of_eq_true (eq_self true)
def obj (o : Ob) : Blk := @Blk.mk [] 0 true ⟨some o⟩

structure Heap where
  n : Nat
  get : Nat → Option Blk

def Heap.push (H : Heap) (b : Blk) : Heap := ⟨H.n + 1, fun i => if i = H.n then some b else H.get i⟩
def Heap.upd (H : Heap) (j : Nat) (b : Option Blk) : Heap := ⟨H.n, fun i => if i = j then b else H.get i⟩
def Heap.empty : Heap := ⟨0, fun _ => none⟩

abbrev Env := Nat → Value
def bnd {α β : Type} (r : Option (α × Heap)) (k : α → Heap → Option β) : Option β :=
  match r with
  | some (a, H) => k a H
  | none => none

def junkV : Value := .chan none
abbrev oneC : Value → Bool := Value.oneCell'
def flat1 : Value → Bool
  | .bool _ | .int _ _ | .string _ | .pointer none | .map none | .nilFunc | .nilIface => true
  | .slice none n c => n == 0 && c == 0
  | _ => false
def flat : Value → Bool
  | .agg cs => cs.all flat1
  | .tuple cs => cs.all flat1
  | v => flat1 v

def ldC (a : Value) (H : Heap) : Option (Value × Heap) :=
  match a with
  | .pointer (some ⟨b, o, none⟩) =>
    match H.get b with
    | some blk =>
      match blk.cells[o]? with
      | some v => some (v, H)
      | none => none
    | none => none
  | _ => none
def cut (l : List Value) (o k : Nat) : List Value := (l.drop o).take k
def ldA (k : Nat) (a : Value) (H : Heap) : Option (Value × Heap) :=
  match a with
  | .pointer (some ⟨b, o, none⟩) =>
    match H.get b with
    | some blk => if o + k ≤ blk.cells.length then some (.agg (cut blk.cells o k).toArray, H) else none
    | none => none
  | _ => none
def splice (l : List Value) (o : Nat) (vs : List Value) : List Value := l.take o ++ vs ++ l.drop (o + vs.length)
def stV (k : Nat) (a x : Value) (H : Heap) : Option (Value × Heap) :=
  match a with
  | .pointer (some ⟨b, o, none⟩) =>
    match H.get b with
    | some blk =>
      if x.cells.size = k ∧ x.cells.toList.all oneC = true ∧ o + k ≤ blk.cells.length ∧ blk.w = true then
        some (undef, H.upd b (some ⟨splice blk.cells o x.cells.toList, blk.sz, true⟩))
      else none
    | none => none
  | _ => none
def newV (cs : List Value) (H : Heap) : Option (Value × Heap) :=
  if cs.all oneC = true then some (.pointer (some ⟨H.n, 0, none⟩), H.push ⟨cs, 1, true⟩) else none
def newS (sz len cap : Nat) (cs : List Value) (H : Heap) : Option (Value × Heap) :=
  if cs.all oneC = true then some (.slice (some ⟨H.n, 0, none⟩) len cap, H.push ⟨cs, sz, true⟩) else none

def fAddr (off : Nat) (a : Value) : Option Value :=
  match a with
  | .pointer (some ⟨b, o, none⟩) => some (.pointer (some ⟨b, o + off, none⟩))
  | _ => none
def iAddrS (sz : Nat) (x i : Value) : Option Value :=
  match x, i with
  | .slice (some ⟨b, o, _⟩) len _, .int _ n => if 0 ≤ n ∧ n < (len : Int) then some (.pointer (some ⟨b, o + n.toNat * sz, none⟩)) else none
  | _, _ => none
def iAddrA (len sz : Nat) (x i : Value) : Option Value :=
  match x, i with
  | .pointer (some ⟨b, o, none⟩), .int _ n => if 0 ≤ n ∧ n < (len : Int) then some (.pointer (some ⟨b, o + n.toNat * sz, none⟩)) else none
  | _, _ => none
def bound (v : Option Value) (d : Nat) : Option Nat :=
  match v with
  | none => some d
  | some (.int _ n) => if 0 ≤ n then some n.toNat else none
  | _ => none
def slcStr (x : Value) (lo hi : Option Value) : Option Value :=
  match x with
  | .string s =>
    match bound lo 0, bound hi s.size with
    | some l, some h => if l ≤ h ∧ h ≤ s.size then some (.string (s.extract l h)) else none
    | _, _ => none
  | _ => none
def slcS (sz : Nat) (x : Value) (lo hi mx : Option Value) : Option Value :=
  match x with
  | .slice base len cap =>
    match bound lo 0, bound hi len, bound mx cap with
    | some l, some h, some m =>
      if l ≤ h ∧ h ≤ m ∧ m ≤ cap ∧ (mx.isNone || hi.isSome) = true then
        match base with
        | none => some (.slice none (h - l) (m - l))
        | some ⟨b, o, sp⟩ => some (.slice (some ⟨b, o + l * sz, if mx.isSome then some 0 else sp⟩) (h - l) (m - l))
      else none
    | _, _, _ => none
  | _ => none
def slcA (n sz : Nat) (x : Value) (lo hi mx : Option Value) : Option Value :=
  match x with
  | .pointer (some ⟨b, o, none⟩) =>
    match bound lo 0, bound hi n, bound mx n with
    | some l, some h, some m =>
      if l ≤ h ∧ h ≤ m ∧ m ≤ n ∧ (mx.isNone || hi.isSome) = true then some (.slice (some ⟨b, o + l * sz, some 0⟩) (h - l) (m - l)) else none
    | _, _, _ => none
  | _ => none

def addend (sz : Nat) (x : Value) (H : Heap) : Option (Nat × List Value) :=
  match x with
  | .slice none n _ => if n = 0 then some (0, []) else none
  | .slice (some ⟨b, o, _⟩) n _ =>
    if n = 0 then some (0, []) else
    match H.get b with
    | some blk => if o + n * sz ≤ blk.cells.length then some (n, cut blk.cells o (n * sz)) else none
    | none => none
  | .string s => if sz = 1 then some (s.size, s.data.toList.map fun c => .int .u8 c.toNat) else none
  | _ => none
def mostBytes : Nat := 140737488355328
def app (sz bytes : Nat) (s x : Value) (H : Heap) : Option (Value × Heap) :=
  match addend sz x H, s with
  | some (n, cs), .slice base len cap =>
    if n = 0 then some (s, H) else
    if ¬ (len + n) * bytes ≤ mostBytes then none else
    match base with
    | none => if len = 0 ∧ cap = 0 then some (.slice (some ⟨H.n, 0, none⟩) n n, H.push ⟨cs, sz, true⟩) else none
    | some ⟨b, o, sp⟩ =>
      match H.get b with
      | none => none
      | some blk =>
        if sp.isSome || !blk.own then
          if cap < len + n ∧ o + len * sz ≤ blk.cells.length then
            some (.slice (some ⟨H.n, 0, none⟩) (len + n) (len + n), H.push ⟨cut blk.cells o (len * sz) ++ cs, sz, true⟩)
          else none
        else if len = cap ∧ o + len * sz = blk.cells.length ∧ blk.sz = sz then
          some (.slice (some ⟨H.n, 0, none⟩) (len + n) (len + n), (H.upd b none).push ⟨blk.cells.drop o ++ cs, sz, true⟩)
        else if len + n ≤ cap ∧ o + (len + n) * sz ≤ blk.cells.length then
          some (.slice (some ⟨b, o, none⟩) (len + n) cap, H.upd b (some ⟨splice blk.cells (o + len * sz) cs, blk.sz, true⟩))
        else none
  | _, _ => none
def rep (n : Nat) (zs : List Value) : List Value :=
  match n with
  | 0 => []
  | n + 1 => zs ++ rep n zs
def appZ (sz bytes : Nat) (zs : List Value) (s x : Value) (H : Heap) : Option (Value × Heap) :=
  match s, x with
  | .slice none 0 0, .int .i64 n =>
    if 0 < n ∧ n < 9223372036854775808 ∧ n.toNat * bytes ≤ mostBytes ∧ zs.all oneC = true then some (.slice (some ⟨H.n, 0, none⟩) n.toNat n.toNat, H.push ⟨rep n.toNat zs, sz, true⟩) else none
  | _, _ => none
def cpy (sz : Nat) (d x : Value) (H : Heap) : Option (Value × Heap) :=
  match d, addend sz x H with
  | .slice base len _, some (n, cs) =>
    let k := Nat.min n len
    match base with
    | none => some (.int .i64 k, H)
    | some ⟨b, o, _⟩ =>
      match H.get b with
      | some blk =>
        if blk.w = true ∧ o + k * sz ≤ blk.cells.length then some (.int .i64 k, H.upd b (some ⟨splice blk.cells o (cs.take (k * sz)), blk.sz, true⟩))
        else none
      | none => none
  | _, _ => none

def intB (op : BinOp) (k : IntKind) (x y : Int) : Option Value :=
  match op with
  | .add => some (.int k (k.wrap (x + y)))
  | .sub => some (.int k (k.wrap (x - y)))
  | .mul => some (.int k (k.wrap (x * y)))
  | .quo => if y = 0 then none else some (.int k (k.wrap (x.tdiv y)))
  | .rem => if y = 0 then none else some (.int k (x.tmod y))
  | .and => some (.int k (k.wrap (BitVec.ofInt k.bits x &&& BitVec.ofInt k.bits y).toNat))
  | .or => some (.int k (k.wrap (BitVec.ofInt k.bits x ||| BitVec.ofInt k.bits y).toNat))
  | .xor => some (.int k (k.wrap (BitVec.ofInt k.bits x ^^^ BitVec.ofInt k.bits y).toNat))
  | .andNot => some (.int k (k.wrap (BitVec.ofInt k.bits x &&& ~~~ (BitVec.ofInt k.bits y)).toNat))
  | .eql => some (.bool (x == y))
  | .neq => some (.bool (x != y))
  | .lss => some (.bool (x < y))
  | .leq => some (.bool (x ≤ y))
  | .gtr => some (.bool (x > y))
  | .geq => some (.bool (x ≥ y))
  | _ => none
def shiftB (op : BinOp) (k : IntKind) (x y : Int) : Option Value :=
  if y < 0 then none else
  match op with
  | .shl => some (.int k (k.wrap (x * 2 ^ (min y.toNat k.bits))))
  | .shr => some (.int k (x.fdiv (2 ^ (min y.toNat k.bits))))
  | _ => none
def strB (op : BinOp) (x y : ByteArray) : Option Value :=
  match op with
  | .add => if ((x.size + y.size : Nat) : Int) > IntKind.i64.max then none else some (.string (x ++ y))
  | .eql => some (.bool (x.toList == y.toList))
  | .neq => some (.bool !(x.toList == y.toList))
  | .lss => some (.bool (Op.bytesLess x.toList y.toList))
  | .leq => some (.bool (Op.bytesLess x.toList y.toList || x.toList == y.toList))
  | .gtr => some (.bool !(Op.bytesLess x.toList y.toList || x.toList == y.toList))
  | .geq => some (.bool !(Op.bytesLess x.toList y.toList))
  | _ => none
def eqA (P : Program) (t : TypeId) (x y : Value) : Option Bool :=
  if flat x && flat y && !P.eqGuardType P.depth t then
    match (Op.equal t x y).run P default with
    | .ok b _ => some b
    | _ => none
  else none
def eqV (P : Program) (t : TypeId) (x y : Value) : Option Bool :=
  match P.underlying t, x, y with
  | some .bool, .bool a, .bool b => some (a == b)
  | some (.pointer _), .pointer a, .pointer none => some a.isNone
  | some (.pointer _), .pointer none, .pointer b => some b.isNone
  | some (.slice _), .slice a _ _, .slice none _ _ => some a.isNone
  | some (.slice _), .slice none _ _, .slice b _ _ => some b.isNone
  | some (.map _ _), .map a, .map none => some a.isNone
  | some (.map _ _), .map none, .map b => some b.isNone
  | some (.struct _), .agg _, .agg _ => eqA P t x y
  | some (.array _ _), .agg _, .agg _ => eqA P t x y
  | _, _, _ => none
def binB (P : Program) (op : BinOp) (t : TypeId) (x y : Value) : Option Value :=
  match x, y with
  | .int k a, .int k' b =>
    match op with
    | .shl => shiftB .shl k a b
    | .shr => shiftB .shr k a b
    | op => if k = k' then intB op k a b else none
  | .string a, .string b => strB op a b
  | x, y =>
    match op with
    | .eql => (eqV P t x y).map .bool
    | .neq => (eqV P t x y).map fun b => .bool !b
    | _ => none
def unB (op : UnOp) (x : Value) : Option Value :=
  match op, x with
  | .neg, .int k n => some (.int k (k.wrap (0 - n)))
  | .xor, .int k n => some (.int k (k.wrap (BitVec.ofInt k.bits (if k.signed then -1 else k.max) ^^^ BitVec.ofInt k.bits n).toNat))
  | .not, .bool b => some (.bool !b)
  | _, _ => none
def byteOf : Value → Option UInt8
  | .int .u8 n => some (UInt8.ofNat n.toNat)
  | _ => none
def toStr (x : Value) (H : Heap) : Option (Value × Heap) :=
  match x with
  | .slice none _ _ => some (.string .empty, H)
  | .slice (some ⟨b, o, _⟩) n _ =>
    if n = 0 then some (.string .empty, H) else
    match H.get b with
    | some blk =>
      if o + n ≤ blk.cells.length then
        match (cut blk.cells o n).mapM byteOf with
        | some l => some (.string ⟨l.toArray⟩, H)
        | none => none
      else none
    | none => none
  | _ => none
def ofStr (x : Value) (H : Heap) : Option (Value × Heap) :=
  match x with
  | .string s => if s.size ≤ mostBytes then some (.slice (some ⟨H.n, 0, none⟩) s.size s.size, H.push ⟨s.data.toList.map fun c => .int .u8 c.toNat, 1, true⟩) else none
  | _ => none
def markV (x : Value) (H : Heap) : Option (Value × Heap) :=
  match x with
  | .slice (some ⟨b, o, none⟩) n c =>
    match H.get b with
    | some blk => if blk.w = true ∧ 0 < c then some (.slice (some ⟨b, o, none⟩) n c, H) else none
    | none => none
  | _ => none
inductive Cnv where
  | int (k : IntKind) | same | rune | toStr | ofStr | mark | bad
def cnvOf (P : Program) (src dst : TypeId) : Cnv :=
  match P.underlying src, P.underlying dst with
  | some (.int _), some (.int k) => .int k
  | some .string, some .string => .same
  | some (.int _), some .string => .rune
  | some (.slice e), some .string => if P.underlying e matches some (.int .u8) then .toStr else .bad
  | some .string, some (.slice e) => if P.underlying e matches some (.int .u8) then .ofStr else .bad
  | some (.slice e), some (.slice _) => if src = dst then (if P.underlying e matches some (.int .u8) then .mark else .bad) else .bad
  | _, _ => .bad
def cnv (c : Cnv) (x : Value) (H : Heap) : Option (Value × Heap) :=
  match c with
  | .int k => match x with | .int _ n => some (.int k (k.wrap n), H) | _ => none
  | .same => match x with | .string s => some (.string s, H) | _ => none
  | .rune => match x with | .int _ n => some (.string (Utf8.encode n), H) | _ => none
  | .toStr => toStr x H
  | .ofStr => ofStr x H
  | .mark => markV x H
  | .bad => none
def szOf (P : Program) (t : TypeId) : Option Nat := (P.info? t).map (·.size)
def bytesOf (P : Program) (t : TypeId) : Option Nat := (P.info? t).map (·.bytes)
def zeroOf (P : Program) (t : TypeId) : Option Value := match (P.info? t).bind (·.zero) with | some z => if flat z then some z else none | none => none
def isAggT (P : Program) (t : TypeId) : Option Bool := (P.underlying t).map fun | .struct _ => true | .array _ _ => true | _ => false
def partV (agg : Bool) (k off : Nat) (x : Value) : Option Value :=
  match x with
  | .agg cs => if agg then (if off + k ≤ cs.size then some (.agg (cut cs.toList off k).toArray) else none) else cs.toList[off]?
  | _ => none
def idxA (agg : Bool) (len sz : Nat) (x i : Value) : Option Value :=
  match i with
  | .int _ n => if 0 ≤ n ∧ n < (len : Int) then partV agg sz (n.toNat * sz) x else none
  | _ => none
def idxS (x i : Value) : Option Value :=
  match x, i with
  | .string s, .int _ n => if 0 ≤ n then (s.data.toList[n.toNat]?).map fun c => .int .u8 c.toNat else none
  | _, _ => none
def fillC (cells : List Value) : List (Nat × Nat × Value) → Option (List Value)
  | [] => some cells
  | (off, size, v) :: rest => if v.cells.size = size ∧ off + size ≤ cells.length then fillC (splice cells off v.cells.toList) rest else none
def places (P : Program) (t : TypeId) (ps : List (Nat × Value)) : Option (List (Nat × Nat × Value)) :=
  match P.underlying t with
  | some (.struct fs) => (fs.toList.mapM fun f => (szOf P f.type).map fun s => (f.offset, s)).bind fun pls => ps.mapM fun (i, v) => (pls[i]?).map fun p => (p.1, p.2, v)
  | some (.array _ e) => (szOf P e).map fun s => ps.map fun (i, v) => (i * s, s, v)
  | _ => none
def up (x : Option Value) (H : Heap) : Option (Value × Heap) :=
  match x with
  | some v => some (v, H)
  | none => none

def ev (env : Env) : Operand → Value
  | .tmp t => env t
  | .const v => v
  | .global g => .pointer (some ⟨g, 0, none⟩)
  | .func f => .func (.func f) #[] #[]

abbrev CallF := FuncId → List Value → Heap → Option (Value × Heap)

def keyB (d : TypeDesc) (k : Value) : Bool :=
  match d, k with
  | .string, .string _ => true
  | .bool, .bool _ => true
  | .int a, .int b _ => a == b
  | _, _ => false
def obAt (H : Heap) (b : Nat) : Option Ob := (H.get b).bind fun k => k.ob.o
def rngS (x : Value) (H : Heap) : Option (Value × Heap) :=
  match x with
  | .string s => some (.pointer (some ⟨H.n, 0, none⟩), H.push (obj (.iter s 0)))
  | _ => none
def nxtS (x : Value) (H : Heap) : Option (Value × Heap) :=
  match x with
  | .pointer (some ⟨b, 0, none⟩) =>
    match obAt H b with
    | some (.iter s pos) =>
      if pos < s.size then some (.tuple #[.bool true, .int .i64 pos, .int .i32 (Utf8.decode s pos).1], H.upd b (some (obj (.iter s (pos + (Utf8.decode s pos).2)))))
      else some (.tuple #[.bool false], H)
    | _ => none
  | _ => none
def mkM (H : Heap) : Option (Value × Heap) := some (.map (some H.n), H.push (obj (.map [] 0)))
def findM (d : TypeDesc) (k : Value) : List Ent → Nat → Option (Option (Nat × Value))
  | [], _ => some none
  | e :: es, i =>
    match Instr.sameNow d k e.key with
    | some true => some (some (i, e.val))
    | some false => findM d k es (i + 1)
    | none => none
def lkM (d : TypeDesc) (z : Value) (ok : Bool) (x k : Value) (H : Heap) : Option (Value × Heap) :=
  match x with
  | .map none => some (if ok then .tuple #[z, .bool false] else z, H)
  | .map (some b) =>
    match obAt H b with
    | some (.map es _) =>
      match findM d k es 0 with
      | some (some (_, v)) => some (if ok then .tuple #[v, .bool true] else v, H)
      | some none => some (if ok then .tuple #[z, .bool false] else z, H)
      | none => none
    | _ => none
  | _ => none
def upM (d : TypeDesc) (x k v : Value) (H : Heap) : Option (Value × Heap) :=
  match x with
  | .map (some b) =>
    match obAt H b with
    | some (.map es clock) =>
      match findM d k es 0 with
      | some (some (i, _)) => some (undef, H.upd b (some (obj (.map (es.modify i fun e => ⟨k, v, e.born⟩) clock))))
      | some none => some (undef, H.upd b (some (obj (.map (es ++ [⟨k, v, clock⟩]) (clock + 1)))))
      | none => none
    | _ => none
  | _ => none
def lenM (x : Value) (H : Heap) : Option (Value × Heap) :=
  match x with
  | .map none => some (.int .i64 0, H)
  | .map (some b) =>
    match obAt H b with
    | some (.map es _) => some (.int .i64 es.length, H)
    | _ => none
  | _ => none
def isMapT (P : Program) (t : TypeId) : Bool := match P.underlying t with | some (.map _ _) => true | _ => false

def capB (P : Program) (t : TypeId) (x : Value) : Option Value :=
  match P.underlying t, x with
  | some (.array n _), _ => some (.int .i64 n)
  | some (.slice _), .slice none _ _ => some (.int .i64 0)
  | some (.slice _), .slice (some ⟨_, _, some _⟩) _ c => some (.int .i64 c)
  | _, _ => none
def lenB (P : Program) (t : TypeId) (x : Value) : Option Value :=
  match P.underlying t, x with
  | some .string, .string s => some (.int .i64 s.size)
  | some (.array n _), _ => some (.int .i64 n)
  | some (.slice _), .slice _ n _ => some (.int .i64 n)
  | _, _ => none
def builtinB (P : Program) (b : Builtin) (ts : Array TypeId) (args : List Value) (H : Heap) : Option (Value × Heap) :=
  match b, args with
  | .len, [x] => match ts[0]? with | some t => if isMapT P t then lenM x H else up (lenB P t x) H | none => none
  | .cap, [x] => match ts[0]? with | some t => up (capB P t x) H | none => none
  | .append, [s, x] =>
    match ts[0]? with
    | some t =>
      match P.underlying t with
      | some (.slice e) =>
        match szOf P e, bytesOf P e, zeroOf P e with
        | some sz, some by_, some z =>
          if 0 < sz ∧ 0 < by_ ∧ z.cells.size = sz then
            match (ts[1]?).bind P.underlying with
            | some (.slice _) => app sz by_ s x H
            | some .string => app sz by_ s x H
            | some (.int _) => appZ sz by_ z.cells.toList s x H
            | _ => none
          else none
        | _, _, _ => none
      | _ => none
    | none => none
  | .copy, [d, x] =>
    match ts[0]? with
    | some t =>
      match P.underlying t with
      | some (.slice e) => match szOf P e with | some sz => cpy sz d x H | none => none
      | _ => none
    | none => none
  | .min, [.int k x, .int k' y] => if k = k' then some (.int k (if y < x then y else x), H) else none
  | .max, [.int k x, .int k' y] => if k = k' then some (.int k (if x < y then y else x), H) else none
  | _, _ => none

def aop (P : Program) (C : CallF) (env : Env) (o : Op) (H : Heap) : Option (Value × Heap) :=
  match o with
  | .move x => some (ev env x, H)
  | .assign x => some (ev env x, H)
  | .pick c a b => match ev env c with | .bool t => some (if t then ev env a else ev env b, H) | _ => none
  | .alloc e => match zeroOf P e with | some z => newV z.cells.toList H | none => none
  | .box _ x => newV (ev env x).cells.toList H
  | .build t ps =>
    match zeroOf P t, places P t (ps.toList.map fun (i, x) => (i, ev env x)) with
    | some z, some pl => match fillC z.cells.toList pl with | some cs => some (.agg cs.toArray, H) | none => none
    | _, _ => none
  | .buildSlice t len ps =>
    match P.underlying t with
    | some (.slice e) =>
      match szOf P e, zeroOf P e with
      | some sz, some z =>
        if len * sz ≤ 16777216 ∧ z.cells.size = sz ∧ 0 < sz then
          match fillC (rep len z.cells.toList) (ps.toList.map fun (i, x) => (i * sz, sz, ev env x)) with
          | some cs => newS sz len len cs H
          | none => none
        else none
      | _, _ => none
    | _ => none
  | .load t a =>
    match isAggT P t, szOf P t with
    | some true, some k => ldA k (ev env a) H
    | some false, _ => ldC (ev env a) H
    | _, _ => none
  | .store t a x => match szOf P t with | some k => stV k (ev env a) (ev env x) H | none => none
  | .nilCheck x => match ev env x with | .pointer (some a) => some (.pointer (some a), H) | .func (.func f) a b => some (.func (.func f) a b, H) | _ => none
  | .binOp op t x y _ => up (binB P op t (ev env x) (ev env y)) H
  | .unOp op _ x => up (unB op (ev env x)) H
  | .convert s d x => cnv (cnvOf P s d) (ev env x) H
  | .makeFunc (.func f) first captured => some (.func (.func f) (first.map (ev env)) (captured.map (ev env)), H)
  | .makeSlice t l c =>
    match P.underlying t, ev env l, ev env c with
    | some (.slice e), .int .i64 n, .int .i64 m =>
      match zeroOf P e, szOf P e, bytesOf P e with
      | some z, some sz, some by_ => if 0 ≤ n ∧ n ≤ m ∧ by_ * m ≤ 140737488355328 ∧ z.cells.size = sz ∧ m < 9223372036854775808 ∧ 0 < sz then newS sz n.toNat m.toNat (rep m.toNat z.cells.toList) H else none
      | _, _, _ => none
    | _, _, _ => none
  | .slice t x lo hi mx =>
    match P.underlying t with
    | some .string => if mx.isNone then up (slcStr (ev env x) (lo.map (ev env)) (hi.map (ev env))) H else none
    | some (.slice e) => match szOf P e with | some sz => up (slcS sz (ev env x) (lo.map (ev env)) (hi.map (ev env)) (mx.map (ev env))) H | none => none
    | some (.array n e) => match szOf P e with | some sz => up (slcA n sz (ev env x) (lo.map (ev env)) (hi.map (ev env)) (mx.map (ev env))) H | none => none
    | _ => none
  | .fieldAddr s x f =>
    match P.underlying s with
    | some (.struct fs) =>
      match fs[f]? with
      | some fl => match szOf P fl.type with | some (_ + 1) => up (fAddr fl.offset (ev env x)) H | _ => none
      | none => none
    | _ => none
  | .field s x f =>
    match P.underlying s with
    | some (.struct fs) =>
      match fs[f]? with
      | some fl => match isAggT P fl.type, szOf P fl.type with | some ag, some k => up (partV ag k fl.offset (ev env x)) H | _, _ => none
      | none => none
    | _ => none
  | .indexAddr t x i =>
    match P.underlying t with
    | some (.array len e) => match szOf P e with | some sz => up (iAddrA len sz (ev env x) (ev env i)) H | none => none
    | some (.slice e) => match szOf P e with | some sz => up (iAddrS sz (ev env x) (ev env i)) H | none => none
    | _ => none
  | .index t x i =>
    match P.underlying t with
    | some (.array len e) => match isAggT P e, szOf P e with | some ag, some sz => up (idxA ag len sz (ev env x) (ev env i)) H | _, _ => none
    | some .string => up (idxS (ev env x) (ev env i)) H
    | _ => none
  | .extract t ix => match ev env t with | .tuple vs => up (vs.toList[ix]?) H | _ => none
  | .range t x => match P.underlying t with | some .string => rngS (ev env x) H | _ => none
  | .next x true => nxtS (ev env x) H
  | .makeMap t r => match P.underlying t, r.map (ev env) with | some (.map _ _), none => mkM H | some (.map _ _), some (.int _ _) => mkM H | _, _ => none
  | .lookup t x k ok =>
    match P.underlying t with
    | some (.map kt et) =>
      match P.underlying kt, zeroOf P et with
      | some d, some z => if keyB d (ev env k) then lkM d z ok (ev env x) (ev env k) H else none
      | _, _ => none
    | _ => none
  | .mapUpdate t x k v =>
    match P.underlying t with
    | some (.map kt _) => match P.underlying kt with | some d => if keyB d (ev env k) then upM d (ev env x) (ev env k) (ev env v) H else none | _ => none
    | _ => none
  | .insert t x k v =>
    match P.underlying t with
    | some (.map kt _) => match P.underlying kt with | some d => if keyB d (ev env k) then upM d (ev env x) (ev env k) (ev env v) H else none | _ => none
    | _ => none
  | .call c =>
    match c.callee with
    | .value f => match ev env f with | .func (.func g) first captured => C g (first.toList ++ (c.args.toList.map (ev env)) ++ captured.toList) H | _ => none
    | .builtin b => builtinB P b c.argTypes (c.args.toList.map (ev env)) H
    | _ => none
  | _ => none

inductive AExit where
  | normal | exit (id : Nat) | ret

def putE (N : Nat) (env : Env) (d : Option Tmp) (v : Value) : Env :=
  match d with
  | some d => if d < N then (fun t => if t = d then v else env t) else env
  | none => env
def wantedE (ops : List Oper) (o : Oper) (env : Env) : Bool :=
  match o.guard with
  | none => true
  | some (j, want) =>
    match (ops[j]?).bind (·.dst) with
    | some d => match env d with | .bool b => b == want | _ => false
    | none => false

def aops (P : Program) (C : CallF) (N : Nat) (all : List Oper) : List Oper → Env → Heap → Option (Env × Heap)
  | [], env, H => some (env, H)
  | o :: rest, env, H =>
    if wantedE all o env then
      match aop P C env o.op H with
      | some (v, H') => aops P C N all rest (putE N env o.dst v) H'
      | none => none
    else aops P C N all rest (putE N env o.dst undef) H

def aloop (f : Env → Heap → Option (AExit × Env × Heap)) : Nat → Env → Heap → Option (AExit × Env × Heap)
  | 0, _, _ => none
  | n + 1, env, H =>
    match f env H with
    | some (.normal, env', H') => aloop f n env' H'
    | r => r

inductive OKind where
  | pure | read | make | act
  deriving DecidableEq
def kindOf (P : Program) : Op → OKind
  | .load _ _ => .read
  | .convert s d _ => match cnvOf P s d with | .toStr => .read | .ofStr => .make | .mark => .act | _ => .pure
  | .alloc _ | .box _ _ | .buildSlice _ _ _ | .makeSlice _ _ _ => .make
  | .move _ | .assign _ | .pick _ _ _ | .build _ _ | .nilCheck _ | .binOp _ _ _ _ _ | .unOp _ _ _ | .makeFunc _ _ _ | .slice _ _ _ _ _
  | .fieldAddr _ _ _ | .field _ _ _ | .indexAddr _ _ _ | .index _ _ _ | .extract _ _ => .pure
  | .call { callee := .builtin .len, argTypes := ts, .. } => if (match ts[0]? with | some t => isMapT P t | none => false) then .act else .pure
  | .call { callee := .builtin .cap, .. } => .pure
  | .call { callee := .builtin .min, .. } => .pure
  | .call { callee := .builtin .max, .. } => .pure
  | _ => .act
def blkOf : Value → Option Nat
  | .pointer (some a) => some a.block
  | .slice (some a) _ _ => some a.block
  | _ => none
def readBlk (env : Env) : Op → Option Nat
  | .load _ a => blkOf (ev env a)
  | .convert _ _ a => blkOf (ev env a)
  | _ => none
def eqVal : Value → Value → Bool
  | .bool a, .bool b => a == b
  | .int k a, .int k' b => k == k' && a == b
  | .string a, .string b => a.data.toList == b.data.toList
  | .pointer a, .pointer b => a == b
  | .slice a n c, .slice b m d => a == b && n == m && c == d
  | .nilIface, .nilIface => true
  | .nilFunc, .nilFunc => true
  | .map a, .map b => a == b
  | _, _ => false
def eqCells : List Value → List Value → Bool
  | [], [] => true
  | a :: l, b :: m => eqVal a b && eqCells l m
  | _, _ => false
def eqBlk (x y : Blk) : Bool := eqCells x.cells y.cells && x.sz == y.sz && x.own == y.own && x.plain && y.plain
noncomputable def same (x y : Option Blk) : Bool := @decide (x = y) (Classical.propDecidable _)
noncomputable def sameBlk (H H' : Heap) (b : Option Nat) : Bool :=
  match b with
  | none => true
  | some b =>
    if b < H.n then
      (match H.get b, H'.get b with
      | some x, some y => eqBlk x y
      | _, _ => false) || same (H'.get b) (H.get b)
    else true
def befs : List Oper → List Nat → List Nat
  | [], acc => acc
  | o :: rest, acc => befs rest (acc ++ [o.after.toList.foldl (fun s e => if Region.binds .any e then s ||| 2 ^ e.on ||| acc.getD e.on 0 else s) 0])
def ordered (bf : List Nat) (i j : Nat) : Bool := (bf.getD j 0).testBit i || (bf.getD i 0).testBit j
noncomputable def aopsD (P : Program) (C : CallF) (N : Nat) (all : List Oper) (bf : List Nat) : List Oper → Nat → List (Nat × Heap × Heap) → List (Nat × Option Nat) → Env → Heap → Option (Env × Heap)
  | [], _, _, _, env, H => some (env, H)
  | o :: rest, i, acts, reads, env, H =>
    if wantedE all o env then
      match kindOf P o.op with
      | .read =>
        let b := readBlk env o.op
        if acts.all fun x => ordered bf x.1 i || sameBlk x.2.1 x.2.2 b then
          match aop P C env o.op H with
          | some (v, H') => aopsD P C N all bf rest (i + 1) acts ((i, b) :: reads) (putE N env o.dst v) H'
          | none => none
        else none
      | .act =>
        match aop P C env o.op H with
        | some (v, H') =>
          if reads.all fun x => ordered bf x.1 i || sameBlk H H' x.2 then
            aopsD P C N all bf rest (i + 1) ((i, H, H') :: acts) reads (putE N env o.dst v) H'
          else none
        | none => none
      | .make =>
        match aop P C env o.op H with
        | some (v, H') => aopsD P C N all bf rest (i + 1) acts ((i, some H.n) :: reads) (putE N env o.dst v) H'
        | none => none
      | .pure =>
        match aop P C env o.op H with
        | some (v, H') => aopsD P C N all bf rest (i + 1) acts reads (putE N env o.dst v) H'
        | none => none
    else aopsD P C N all bf rest (i + 1) acts reads (putE N env o.dst undef) H
def names (all : List Oper) (o : Oper) : List Tmp := o.dst.toList ++ o.looksAt all.toArray
def isAct (P : Program) (o : Oper) : Bool := kindOf P o.op == .act
def drawOk (P : Program) (N : Nat) (all : List Oper) (bf : List Nat) : Bool :=
  (all.all fun o => match o.dst with | some d => d < N | none => true) &&
  (all.zipIdx.all fun (o, i) => o.after.all fun e => !Region.binds .any e || e.on < i) &&
  (all.all fun o => match o.op with | .select _ _ => false | _ => true) &&
  (all.zipIdx.all fun (o, i) => match o.guard with | none => true | some (j, _) => j < i && (bf.getD i 0).testBit j) &&
  all.zipIdx.all fun (o, i) => all.zipIdx.all fun (q, j) =>
    i == j || (!(isAct P o && isAct P q) || ordered bf i j) && ((match o.dst with | some d => !(names all q).contains d | none => true) || ordered bf i j)
noncomputable def aregion (P : Program) (C : CallF) (N : Nat) (ops : List Oper) (draw : Bool) (env : Env) (H : Heap) : Option (Env × Heap) :=
  if draw then (if drawOk P N ops (befs ops []) then aopsD P C N ops (befs ops []) ops 0 [] [] env H else none) else aops P C N ops ops env H

noncomputable def acode (P : Program) (C : CallF) (fuel N : Nat) : Code → Env → Heap → Option (AExit × Env × Heap)
  | .skip, env, H => some (.normal, env, H)
  | .region _ ops draw, env, H => match aregion P C N ops.toList draw env H with | some (env', H') => some (.normal, env', H') | none => none
  | .seq a b, env, H =>
    match acode P C fuel N a env H with
    | some (.normal, env', H') => acode P C fuel N b env' H'
    | r => r
  | .cond c a b, env, H =>
    match ev env c with
    | .bool true => acode P C fuel N a env H
    | .bool false => acode P C fuel N b env H
    | _ => none
  | .block id body, env, H =>
    match acode P C fuel N body env H with
    | some (.exit i, env', H') => if i = id then some (.normal, env', H') else some (.exit i, env', H')
    | r => r
  | .loop body, env, H => aloop (acode P C fuel N body) fuel env H
  | .exit id, env, H => some (.exit id, env, H)
  | .scope body, env, H => acode P C fuel N body env H
  | .label _, env, H => some (.normal, env, H)
  | .ret, env, H => some (.ret, env, H)
  | _, _, _ => none

def okOpd (P : Program) (gl : Bool) : Operand → Bool
  | .tmp _ => true
  | .const v => flat v
  | .global g => gl && g < P.globals.size
  | .func _ => true
def okCode (P : Program) (gl : Bool) : Code → Bool
  | .region _ ops _ => ops.toList.all fun o => o.op.operands.toList.all (okOpd P gl)
  | .seq a b => okCode P gl a && okCode P gl b
  | .cond c a b => okOpd P gl c && okCode P gl a && okCode P gl b
  | .block _ b => okCode P gl b
  | .loop b => okCode P gl b
  | .scope b => okCode P gl b
  | _ => true

def env0 (args : List Value) : Env := fun t => args.getD t undef
def resOne (P : Program) (env : Env) (H : Heap) : ResultVar → Option Value
  | .tmp t => some (env t)
  | .cell a t =>
    match isAggT P t, szOf P t with
    | some true, some k => (ldA k (env a) H).map (·.1)
    | some false, _ => (ldC (env a) H).map (·.1)
    | _, _ => none
def resL (P : Program) (env : Env) (H : Heap) : List ResultVar → Option (List Value)
  | [] => some []
  | r :: rest => match resOne P env H r, resL P env H rest with | some v, some l => some (v :: l) | _, _ => none
def one (l : List Value) : Value := match l with | [v] => v | l => .tuple l.toArray
def results (P : Program) (fn : Func) (env : Env) (H : Heap) : Option (Value × Heap) := (resL P env H fn.results.toList).map fun l => (one l, H)

abbrev Ext := FuncId → Option (List Value → Heap → Option (Value × Heap))

def numOf : Value → Option Int
  | .int .u8 n => some n
  | _ => none
def idxX (args : List Value) (H : Heap) : Option (Value × Heap) :=
  match args with
  | [.string s, .int .u8 c] => some (.int .i64 (Lib.indexByte s.data.toList c.toNat.toUInt8), H)
  | [.slice a n k, .int .u8 c] =>
    match addend 1 (.slice a n k) H with
    | some (_, cs) => match cs.mapM numOf with | some xs => some (.int .i64 (Lib.indexByte (Lib.bytesOf xs) c.toNat.toUInt8), H) | none => none
    | none => none
  | _ => none
def addX (args : List Value) (H : Heap) : Option (Value × Heap) :=
  match args with
  | [.int .u64 x, .int .u64 y, .int .u64 c] => if 0 ≤ x ∧ 0 ≤ y ∧ 0 ≤ c ∧ c ≤ 1 then some (.tuple #[.int .u64 ((x + y + c) % 18446744073709551616), .int .u64 ((x + y + c) / 18446744073709551616)], H) else none
  | _ => none
def mkX (P : Program) (fn : Func) (args : List Value) (H : Heap) : Option (Value × Heap) :=
  match args, fn.resultTypes.toList with
  | [.int .i64 n], [t] => match P.underlying t with
    | some (.slice _) => if 0 ≤ n ∧ n ≤ 140737488355328 then newS 1 n.toNat n.toNat (List.replicate n.toNat junkV) H else none
    | _ => none
  | _, _ => none
def externX (P : Program) (fn : Func) (args : List Value) (H : Heap) : Option (Value × Heap) :=
  if (fn.name == "internal/bytealg.IndexByte" || fn.name == "internal/bytealg.IndexByteString") && (Extern.findNext fn).isNone then idxX args H else
  if fn.name == "math/bits.Add64" && (Extern.findNext fn).isNone then addX args H else
  if fn.name == "internal/bytealg.MakeNoZero" && (Extern.findNext fn).isNone then mkX P fn args H else none

noncomputable def acall (P : Program) (gl : Bool) (E : Ext) : Nat → CallF
  | 0, _, _, _ => none
  | n + 1, f, args, H =>
    match P.funcs[f]? with
    | none => none
    | some fn =>
      match fn.name == "runtime.NumGoroutine", fn.body with
      | false, some c =>
        match E f with
        | some g => g args H
        | none =>
          if !okCode P gl c then none else
          match acode P (acall P gl E n) n (max args.length fn.ntmps) c (env0 args) H with
          | some (.normal, env, H') => results P fn env H'
          | some (.ret, env, H') => results P fn env H'
          | _ => none
      | false, none => externX P fn args H
      | _, _ => none

end Go.Eng

set_option linter.unusedVariables false
namespace Go.Eng
open Go

structure Pl where
  blk : Nat
  off : Nat
  room : Nat
abbrev Mp := Nat → Option Pl

inductive VRel (m : Mp) : Value → Value → Prop where
  | flat {v : Value} (h : flat1 v = true) : VRel m v v
  | ptr {b o : Nat} {p : Pl} (h : m b = some p) : VRel m (.pointer (some ⟨b, o, none⟩)) (.pointer (some ⟨p.blk, p.off + o, none⟩))
  | slc {b o len cap cap' : Nat} {p : Pl} (h : m b = some p) (h1 : cap ≤ cap') (h2 : cap' ≤ cap + p.room) (h3 : len ≤ cap) :
      VRel m (.slice (some ⟨b, o, none⟩) len cap) (.slice (some ⟨p.blk, p.off + o, none⟩) len cap')
  | slx {b o len cap : Nat} {p : Pl} (h : m b = some p) (h3 : len ≤ cap) :
      VRel m (.slice (some ⟨b, o, some 0⟩) len cap) (.slice (some ⟨p.blk, p.off + o, none⟩) len cap)
  | sl0 {b o : Nat} {sp : Option Nat} {a' : Addr} {p : Pl} (h : m b = some p) : VRel m (.slice (some ⟨b, o, sp⟩) 0 0) (.slice (some a') 0 0)
  | mapv {b : Nat} {p : Pl} (h : m b = some p) : VRel m (.map (some b)) (.map (some p.blk))
  | junk {k : IntKind} {n : Int} : VRel m junkV (.int k n)
  | func {f : FuncId} {a b a' b' : Array Value} (ha : a.toList.length = a'.toList.length) (hb : b.toList.length = b'.toList.length)
      (h1 : ∀ (i : Nat) v v', a.toList[i]? = some v → a'.toList[i]? = some v' → VRel m v v') (h2 : ∀ (i : Nat) v v', b.toList[i]? = some v → b'.toList[i]? = some v' → VRel m v v') :
      VRel m (.func (.func f) a b) (.func (.func f) a' b')
  | agg {a a' : Array Value} (ha : a.toList.length = a'.toList.length) (h1 : ∀ (i : Nat) v v', a.toList[i]? = some v → a'.toList[i]? = some v' → VRel m v v') : VRel m (.agg a) (.agg a')
  | tuple {a a' : Array Value} (ha : a.toList.length = a'.toList.length) (h1 : ∀ (i : Nat) v v', a.toList[i]? = some v → a'.toList[i]? = some v' → VRel m v v') : VRel m (.tuple a) (.tuple a')

def LRel (m : Mp) (l l' : List Value) : Prop := l.length = l'.length ∧ ∀ (i : Nat) v v', l[i]? = some v → l'[i]? = some v' → VRel m v v'

theorem LRel.nil {m : Mp} : LRel m [] [] := ⟨rfl, by simp⟩
theorem LRel.get {m : Mp} {l l' : List Value} (h : LRel m l l') {i : Nat} {v : Value} (hv : l[i]? = some v) : ∃ v', l'[i]? = some v' ∧ VRel m v v' := by
  have hi : i < l.length := by
    rcases Nat.lt_or_ge i l.length with h' | h'
    · exact h'
    · simp [List.getElem?_eq_none h'] at hv
  have hi' : i < l'.length := h.1 ▸ hi
  exact ⟨l'[i], List.getElem?_eq_getElem hi', h.2 i v _ hv (List.getElem?_eq_getElem hi')⟩
theorem LRel.cons {m : Mp} {v v' : Value} {l l' : List Value} (h : VRel m v v') (hl : LRel m l l') : LRel m (v :: l) (v' :: l') :=
  ⟨by simp [hl.1], fun i a a' ha ha' => by
    cases i with
    | zero => simp at ha ha'; subst ha; subst ha'; exact h
    | succ i => simp at ha ha'; exact hl.2 i a a' ha ha'⟩
theorem LRel.head {m : Mp} {v v' : Value} {l l' : List Value} (h : LRel m (v :: l) (v' :: l')) : VRel m v v' := h.2 0 v v' rfl rfl
theorem LRel.tail {m : Mp} {v v' : Value} {l l' : List Value} (h : LRel m (v :: l) (v' :: l')) : LRel m l l' :=
  ⟨by simpa using h.1, fun i a a' ha ha' => h.2 (i + 1) a a' (by simpa using ha) (by simpa using ha')⟩
theorem LRel.cases_cons {m : Mp} {v : Value} {l l' : List Value} (h : LRel m (v :: l) l') : ∃ v' r', l' = v' :: r' ∧ VRel m v v' ∧ LRel m l r' := by
  cases l' with
  | nil => exact absurd h.1 (by simp)
  | cons v' r' => exact ⟨v', r', rfl, h.head, h.tail⟩
theorem LRel.cases_nil {m : Mp} {l' : List Value} (h : LRel m [] l') : l' = [] := by
  cases l' with
  | nil => rfl
  | cons v' r' => exact absurd h.1 (by simp)
theorem LRel.append {m : Mp} {a a' b b' : List Value} (h : LRel m a a') (hb : LRel m b b') : LRel m (a ++ b) (a' ++ b') := by
  induction a generalizing a' with
  | nil => rw [h.cases_nil]; exact hb
  | cons v l ih =>
    obtain ⟨v', r', rfl, h1, h2⟩ := h.cases_cons
    exact LRel.cons h1 (ih h2)
theorem LRel.drop {m : Mp} {a a' : List Value} (h : LRel m a a') (k : Nat) : LRel m (a.drop k) (a'.drop k) :=
  ⟨by simp [h.1], fun i v v' hv hv' => h.2 (k + i) v v' (by simpa using hv) (by simpa using hv')⟩
theorem LRel.take {m : Mp} {a a' : List Value} (h : LRel m a a') (k : Nat) : LRel m (a.take k) (a'.take k) :=
  ⟨by simp [h.1], fun i v v' hv hv' => by
    rw [List.getElem?_take] at hv hv'
    split at hv
    · rename_i hi
      rw [if_pos hi] at hv'
      exact h.2 i v v' hv hv'
    · cases hv⟩
theorem LRel.cut {m : Mp} {a a' : List Value} (h : LRel m a a') (o k : Nat) : LRel m (cut a o k) (cut a' o k) := (h.drop o).take k

theorem VRel.agg' {m : Mp} {a a' : Array Value} (h : LRel m a.toList a'.toList) : VRel m (.agg a) (.agg a') := .agg h.1 h.2
theorem VRel.tuple' {m : Mp} {a a' : Array Value} (h : LRel m a.toList a'.toList) : VRel m (.tuple a) (.tuple a') := .tuple h.1 h.2
theorem VRel.undef {m : Mp} : VRel m undef undef := VRel.tuple' (a := #[]) (a' := #[]) LRel.nil

def MLe (m m' : Mp) : Prop := ∀ b p, m b = some p → m' b = some p
theorem MLe.refl (m : Mp) : MLe m m := fun _ _ h => h
theorem MLe.trans {a b c : Mp} (h : MLe a b) (h' : MLe b c) : MLe a c := fun x p hx => h' x p (h x p hx)
theorem VRel.mono {m m' : Mp} (hm : MLe m m') {v v' : Value} (h : VRel m v v') : VRel m' v v' := by
  induction h with
  | flat h => exact .flat h
  | ptr h => exact .ptr (hm _ _ h)
  | slc h h1 h2 h3 => exact .slc (hm _ _ h) h1 h2 h3
  | slx h h3 => exact .slx (hm _ _ h) h3
  | sl0 h => exact .sl0 (hm _ _ h)
  | mapv h => exact .mapv (hm _ _ h)
  | junk => exact .junk
  | func ha hb h1 h2 ih1 ih2 => exact .func ha hb ih1 ih2
  | agg ha h1 ih => exact .agg ha ih
  | tuple ha h1 ih => exact .tuple ha ih
theorem LRel.mono {m m' : Mp} (hm : MLe m m') {l l' : List Value} (h : LRel m l l') : LRel m' l l' := ⟨h.1, fun i v v' a b => (h.2 i v v' a b).mono hm⟩

theorem VRel.ofFlat {m : Mp} {v : Value} (h : Eng.flat v = true) : VRel m v v := by
  have L : ∀ cs : Array Value, cs.all flat1 = true → LRel m cs.toList cs.toList := fun cs hc => ⟨rfl, fun i a a' ha ha' => by
    rw [ha] at ha'
    obtain rfl := Option.some.inj ha'
    refine .flat ?_
    rw [Array.all_eq_true] at hc
    have hi : i < cs.size := by
      rcases Nat.lt_or_ge i cs.size with h' | h'
      · exact h'
      · simp [h'] at ha
    have := hc i hi
    simp at ha
    rw [Array.getElem?_eq_getElem hi] at ha
    simpa [Option.some.inj ha] using this⟩
  cases v <;> first
    | exact .agg' (L _ (by simpa [Eng.flat] using h))
    | exact .tuple' (L _ (by simpa [Eng.flat] using h))
    | exact .flat (by simpa [Eng.flat] using h)

theorem VRel.eq_of_flat1 {m : Mp} {v v' : Value} (h : VRel m v v') (hf : flat1 v = true) : v' = v := by
  cases h <;> first | rfl | (simp [flat1] at hf; done) | (simp [flat1, junkV] at hf; done) | skip
theorem VRel.oneC {m : Mp} {v v' : Value} (h : VRel m v v') : Eng.oneC v' = Eng.oneC v := by
  cases h <;> rfl
theorem VRel.cells {m : Mp} {v v' : Value} (h : VRel m v v') : LRel m v.cells.toList v'.cells.toList := by
  have h0 := h
  cases h with
  | agg ha h1 => exact ⟨ha, h1⟩
  | flat hf => cases v <;> first | (simp [flat1] at hf; done) | exact LRel.cons h0 .nil
  | _ => exact LRel.cons h0 .nil
theorem LRel.allOne {m : Mp} {l l' : List Value} (h : LRel m l l') (ho : l.all Eng.oneC = true) : l'.all Eng.oneC = true := by
  induction l generalizing l' with
  | nil => rw [h.cases_nil]; rfl
  | cons v l ih =>
    obtain ⟨v', r', rfl, h1, h2⟩ := h.cases_cons
    simp only [List.all_cons, Bool.and_eq_true] at ho ⊢
    exact ⟨by rw [h1.oneC]; exact ho.1, ih h2 ho.2⟩
theorem LRel.size {m : Mp} {a b : Array Value} (h : LRel m a.toList b.toList) : b.size = a.size := by simpa using h.1.symm

def Fz (fr : Nat × Nat) (n : Nat) : Prop := fr.1 = fr.2 ∨ n ≤ fr.1
theorem Fz.not {fr : Nat × Nat} {n o : Nat} (h : Fz fr n) (ho : o < n) : ¬ (fr.1 ≤ o ∧ o < fr.2) := by
  rcases h with h | h <;> omega
theorem Fz.mono {fr : Nat × Nat} {n k : Nat} (h : Fz fr n) (hk : k ≤ n) : Fz fr k := by
  rcases h with h | h
  · exact .inl h
  · exact .inr (by omega)
def ObRel (m : Mp) : Ob → Obj → Prop
  | .iter s pos, x => x = .stringIter s pos
  | .map es clock, x => ∃ es' : Array MapEntry, x = .map es' clock ∧ es'.toList.length = es.length ∧ ∀ (i : Nat) e, es[i]? = some e → flat1 e.key = true ∧ ∃ v', es'.toList[i]? = some ⟨e.key, v', e.born⟩ ∧ VRel m e.val v'
theorem ObRel.mono {m m' : Mp} (hm : MLe m m') {o : Ob} {x : Obj} (h : ObRel m o x) : ObRel m' o x := by
  cases o with
  | iter s pos => exact h
  | map es clock =>
    obtain ⟨es', h1, h2, h3⟩ := h
    exact ⟨es', h1, h2, fun i e he => by obtain ⟨k1, v', k2, k3⟩ := h3 i e he; exact ⟨k1, v', k2, k3.mono hm⟩⟩
def Lies (m : Mp) (w : World) (blk : Blk) (p : Pl) : Prop :=
  (blk.plain = true ∧ ∃ cs e fr, w.heap[p.blk]? = some (.cells cs e fr) ∧ p.off + blk.cells.length + p.room * blk.sz ≤ cs.size ∧
    (∀ i v, blk.cells[i]? = some v → ∃ v', cs[p.off + i]? = some v' ∧ VRel m v v') ∧
    (blk.own = true → Fz fr (p.off + blk.cells.length + p.room * blk.sz))) ∨
  ∃ o x, blk = obj o ∧ p.off = 0 ∧ p.room = 0 ∧ w.heap[p.blk]? = some x ∧ ObRel m o x
theorem Lies.plain {m : Mp} {w : World} {blk : Blk} {p : Pl} (h : Lies m w blk p) (hp : blk.plain = true) : ∃ cs e fr, w.heap[p.blk]? = some (.cells cs e fr) ∧ p.off + blk.cells.length + p.room * blk.sz ≤ cs.size ∧
    (∀ i v, blk.cells[i]? = some v → ∃ v', cs[p.off + i]? = some v' ∧ VRel m v v') ∧
    (blk.own = true → Fz fr (p.off + blk.cells.length + p.room * blk.sz)) := by
  rcases h with h | ⟨o, x, rfl, _⟩
  · exact h.2
  · cases hp
theorem Lies.lt {m : Mp} {w : World} {blk : Blk} {p : Pl} (h : Lies m w blk p) : p.blk < w.heap.size := by
  rcases h with ⟨_, cs, e, fr, h, _⟩ | ⟨o, x, _, _, _, h, _⟩ <;> exact (Array.getElem?_eq_some_iff.1 h).1
theorem Lies.mono {m m' : Mp} {w : World} {blk : Blk} {p : Pl} (hm : MLe m m') (h : Lies m w blk p) : Lies m' w blk p := by
  rcases h with ⟨h0, cs, e, fr, h1, h2, h3, h4⟩ | ⟨o, x, h1, h2, h3, h4, h5⟩
  · exact .inl ⟨h0, cs, e, fr, h1, h2, fun i v hv => by obtain ⟨v', q1, q2⟩ := h3 i v hv; exact ⟨v', q1, q2.mono hm⟩, h4⟩
  · exact .inr ⟨o, x, h1, h2, h3, h4, h5.mono hm⟩
theorem Lies.at {m : Mp} {w w' : World} {blk : Blk} {p : Pl} (h : Lies m w blk p) (hw : w'.heap[p.blk]? = w.heap[p.blk]?) : Lies m w' blk p := by
  unfold Lies
  rw [hw]
  exact h
theorem Lies.plain_of {m : Mp} {w : World} {blk : Blk} {p : Pl} {cs : Array Value} {e : TypeId} {fr : Nat × Nat} (h : Lies m w blk p) (hh : w.heap[p.blk]? = some (.cells cs e fr)) : blk.plain = true := by
  rcases h with h | ⟨o, x, rfl, _, _, h4, h5⟩
  · exact h.1
  · rw [hh] at h4
    injection h4 with h4
    subst h4
    cases o with
    | iter s pos => cases h5
    | map es clock => obtain ⟨es', h5, _⟩ := h5; cases h5
theorem Lies.none {m : Mp} {w : World} {blk : Blk} {p : Pl} (h : Lies m w blk p) (hp : blk.plain = false) : blk.cells = [] ∧ blk.sz = 0 ∧ blk.own = true := by
  rcases h with h | ⟨o, x, rfl, _⟩
  · rw [h.1] at hp; cases hp
  · exact ⟨rfl, rfl, rfl⟩
theorem Blk.w_iff {b : Blk} : b.w = true ↔ b.own = true ∧ b.plain = true := by simp [Blk.w, Blk.plain]
theorem Blk.eta' {b : Blk} (h : b.own = true) (hp : b.plain = true) : (⟨b.cells, b.sz, true⟩ : Blk) = b := by
  cases b with
  | @mk c s o ob =>
    cases ob with
    | mk x =>
      simp only [Blk.plain, Option.isNone_iff_eq_none] at hp
      simp only at h
      subst h; subst hp
      rfl
structure HRel (m : Mp) (H : Heap) (w : World) : Prop where
  low : ∀ b blk, H.get b = some blk → b < H.n
  blk : ∀ b blk p, H.get b = some blk → m b = some p → Lies m w blk p
  inj : ∀ b b' blk blk' p p', b ≠ b' → H.get b = some blk → blk.own = true → H.get b' = some blk' → m b = some p → m b' = some p' → p.blk ≠ p'.blk
  one : ∀ b blk, H.get b = some blk → blk.cells.all oneC = true
  froz : ∀ b blk p, H.get b = some blk → blk.own = false → m b = some p → p.room = 0

def MLow (m : Mp) (n : Nat) : Prop := ∀ b p, m b = some p → b < n

structure Step (m : Mp) (H : Heap) (w : World) (m' : Mp) (H' : Heap) (w' : World) : Prop where
  ext : ∀ b, b < H.n → m' b = m b
  hn : H.n ≤ H'.n
  rel : HRel m' H' w'
  size : w.heap.size ≤ w'.heap.size
  frame : ∀ c, c < w.heap.size → (∀ b blk p, H.get b = some blk → blk.own = true → m b = some p → p.blk ≠ c) → w'.heap[c]? = w.heap[c]?
  own : ∀ b blk p, H'.get b = some blk → blk.own = true → m' b = some p → p.blk < w.heap.size → ∃ b0 blk0 p0, H.get b0 = some blk0 ∧ blk0.own = true ∧ m b0 = some p0 ∧ p0.blk = p.blk
  os : w'.os = w.os
  tape : w'.tape = w.tape
  output : w'.output = w.output
  old : ∀ b blk, b < H.n → H.get b = some blk → blk.own = false → H'.get b = some blk
  back : ∀ b blk, b < H.n → H'.get b = some blk → blk.own = false → H.get b = some blk
  keepLow : MLow m H.n → MLow m' H'.n
  fresh : ∀ b blk, H.n ≤ b → H'.get b = some blk → blk.own = true

theorem Step.refl {m : Mp} {H : Heap} {w : World} (h : HRel m H w) : Step m H w m H w :=
  ⟨fun _ _ => rfl, Nat.le_refl _, h, Nat.le_refl _, fun _ _ _ => rfl, fun b blk p h1 h2 h3 _ => ⟨b, blk, p, h1, h2, h3, rfl⟩, rfl, rfl, rfl, fun _ _ _ h _ => h, fun _ _ _ h _ => h, id, fun b blk h1 h2 => by have := h.low b blk h2; omega⟩
theorem Step.trans {m m1 m2 : Mp} {H H1 H2 : Heap} {w w1 w2 : World} (h : Step m H w m1 H1 w1) (h' : Step m1 H1 w1 m2 H2 w2) : Step m H w m2 H2 w2 where
  ext b hb := by rw [h'.ext b (Nat.lt_of_lt_of_le hb h.hn), h.ext b hb]
  hn := Nat.le_trans h.hn h'.hn
  rel := h'.rel
  size := Nat.le_trans h.size h'.size
  frame c hc hf := by
    rw [h'.frame c (Nat.lt_of_lt_of_le hc h.size) fun b blk p h1 h2 h3 he => by
      obtain ⟨b0, blk0, p0, g1, g2, g3, g4⟩ := h.own b blk p h1 h2 h3 (by rw [he]; exact hc)
      exact hf b0 blk0 p0 g1 g2 g3 (g4.trans he)]
    exact h.frame c hc hf
  own b blk p h1 h2 h3 h4 := by
    obtain ⟨b1, blk1, p1, g1, g2, g3, g4⟩ := h'.own b blk p h1 h2 h3 (Nat.lt_of_lt_of_le h4 h.size)
    obtain ⟨b0, blk0, p0, k1, k2, k3, k4⟩ := h.own b1 blk1 p1 g1 g2 g3 (by rw [g4]; exact h4)
    exact ⟨b0, blk0, p0, k1, k2, k3, k4.trans g4⟩
  os := h'.os.trans h.os
  tape := h'.tape.trans h.tape
  output := h'.output.trans h.output
  old b blk hb h1 h2 := h'.old b blk (Nat.lt_of_lt_of_le hb h.hn) (h.old b blk hb h1 h2) h2
  keepLow h0 := h'.keepLow (h.keepLow h0)
  fresh b blk h1 h2 := by
    rcases Nat.lt_or_ge b H1.n with h3 | h3
    · cases ho : blk.own with
      | true => rfl
      | false =>
        have := h.fresh b blk h1 (h'.back b blk h3 h2 ho)
        rw [ho] at this; cases this
    · exact h'.fresh b blk h3 h2
  back b blk hb h1 h2 := h.back b blk hb (h'.back b blk (Nat.lt_of_lt_of_le hb h.hn) h1 h2) h2
theorem Step.mle {m m' : Mp} {H H' : Heap} {w w' : World} (h : Step m H w m' H' w') (hl : MLow m H.n) : MLe m m' := fun b p hb => by rw [h.ext b (hl b p hb)]; exact hb

end Go.Eng

set_option linter.unusedVariables false
namespace Go.Eng
open Go

theorem add_plain (g o j : Nat) : (⟨g, o, none⟩ : Addr).add j = ⟨g, o + j, none⟩ := by
  unfold Addr.add; split <;> simp_all

theorem HRel.cell {m : Mp} {H : Heap} {w : World} (h : HRel m H w) {b i : Nat} {blk : Blk} {p : Pl} {v : Value} (hb : H.get b = some blk) (hm : m b = some p)
    (hv : blk.cells[i]? = some v) : ∃ v', w.cell? ⟨p.blk, p.off + i, none⟩ = some v' ∧ VRel m v v' := by
  have hpl : blk.plain = true := by
    cases hq : blk.plain with
    | true => rfl
    | false => rw [((h.blk b blk p hb hm).none hq).1] at hv; cases hv
  obtain ⟨cs, e, fr, hh, _, hc, _⟩ := (h.blk b blk p hb hm).plain hpl
  obtain ⟨v', h1, h2⟩ := hc i v hv
  exact ⟨v', by simp [World.cell?, hh, h1], h2⟩

theorem HRel.cells {m : Mp} {H : Heap} {w : World} (h : HRel m H w) {b o k : Nat} {blk : Blk} {p : Pl} (hb : H.get b = some blk) (hm : m b = some p)
    (hk : o + k ≤ blk.cells.length) : ∃ l', l'.length = k ∧ LRel m (cut blk.cells o k) l' ∧ ∀ j v, l'[j]? = some v → w.cell? ⟨p.blk, p.off + o + j, none⟩ = some v := by
  by_cases hk0 : k = 0
  · subst hk0
    exact ⟨[], rfl, by simpa [cut] using LRel.nil, by simp⟩
  have hpl : blk.plain = true := by
    cases hq : blk.plain with
    | true => rfl
    | false => rw [((h.blk b blk p hb hm).none hq).1] at hk; simp at hk; omega
  obtain ⟨cs, e, fr, hh, hsz, hc, _⟩ := (h.blk b blk p hb hm).plain hpl
  have hle : p.off + o + k ≤ cs.size := by
    have : p.off + blk.cells.length ≤ cs.size := Nat.le_trans (Nat.le_add_right _ _) hsz
    omega
  refine ⟨cut cs.toList (p.off + o) k, by simp [cut]; omega, ⟨by simp [cut]; omega, ?_⟩, ?_⟩
  · intro i v v' hv hv'
    simp only [cut, List.getElem?_take, List.getElem?_drop] at hv hv'
    split at hv
    · rename_i hi
      rw [if_pos hi] at hv'
      obtain ⟨v2, h1, h2⟩ := hc (o + i) v hv
      have : cs.toList[p.off + o + i]? = some v2 := by rw [← Array.getElem?_toList] at h1; rw [show p.off + o + i = p.off + (o + i) by omega]; exact h1
      rw [this] at hv'
      exact Option.some.inj hv' ▸ h2
    · cases hv
  · intro j v hv
    simp only [cut, List.getElem?_take, List.getElem?_drop] at hv
    split at hv
    · simp only [World.cell?, hh]
      rw [Array.getElem?_toList] at hv
      simpa using hv
    · cases hv

theorem run_cells {P : Program} {w : World} {g o k : Nat} {l : List Value} (hl : l.length = k) (h : ∀ j v, l[j]? = some v → w.cell? ⟨g, o + j, none⟩ = some v) :
    (loadCells ⟨g, o, none⟩ k).run P w = .ok l.toArray w := by
  subst hl
  exact run_loadCells_list w _ l fun j v hj => by rw [add_plain]; exact h j v hj

theorem run_isAgg {P : Program} {t : TypeId} {b : Bool} (h : isAggT P t = some b) (w : World) : (isAgg t).run P w = .ok b w := by
  unfold isAggT at h
  cases hu : P.underlying t with
  | none => simp [hu] at h
  | some d =>
    simp only [hu, Option.map_some, Option.some.injEq] at h
    simp only [isAgg, Sem.run_bind, run_underlying hu, Result.andThen]
    cases d <;> simp_all
theorem run_size {P : Program} {t : TypeId} {k : Nat} (h : szOf P t = some k) (w : World) : (sizeOf t).run P w = .ok k w := by
  unfold szOf at h
  cases hi : P.info? t with
  | none => simp [hi] at h
  | some i => simp [hi] at h; simp [sizeOf, run_typeInfo w hi, h]
theorem zeroOf_inv {P : Program} {t : TypeId} {z : Value} (h : zeroOf P t = some z) : (∃ i, P.info? t = some i ∧ i.zero = some z) ∧ flat z = true := by
  unfold zeroOf at h
  split at h
  · rename_i z' hz
    split at h
    · rename_i hf
      simp only [Option.some.injEq] at h
      subst h
      simp only [Option.bind_eq_some_iff] at hz
      exact ⟨hz, hf⟩
    · cases h
  · cases h
theorem run_zero {P : Program} {t : TypeId} {z : Value} (h : zeroOf P t = some z) (w : World) : (zeroValue t).run P w = .ok z w := by
  obtain ⟨⟨i, hi, hz⟩, _⟩ := zeroOf_inv h
  simp [zeroValue, run_typeInfo w hi, hz]
theorem run_bytes {P : Program} {t : TypeId} {k : Nat} (h : bytesOf P t = some k) (w : World) : ∃ i, (typeInfo t).run P w = .ok i w ∧ i.bytes = k := by
  unfold bytesOf at h
  cases hi : P.info? t with
  | none => simp [hi] at h
  | some i => simp [hi] at h; exact ⟨i, run_typeInfo w hi, h⟩

theorem VRel.ptr_inv {m : Mp} {b o : Nat} {v' : Value} (h : VRel m (.pointer (some ⟨b, o, none⟩)) v') : ∃ p, m b = some p ∧ v' = .pointer (some ⟨p.blk, p.off + o, none⟩) := by
  cases h with
  | flat h => simp [flat1] at h
  | ptr h => exact ⟨_, h, rfl⟩

theorem ldC_sound {P : Program} {m : Mp} {H H' : Heap} {w : World} {a a' v : Value} {t : TypeId} (hr : HRel m H w) (ha : VRel m a a') (h : ldC a H = some (v, H'))
    (ht : isAggT P t = some false) : H' = H ∧ ∃ v', (Instr.loadAt t a').run P w = .ok v' w ∧ VRel m v v' := by
  unfold ldC at h
  split at h
  · rename_i b o
    obtain ⟨p, hp, rfl⟩ := ha.ptr_inv
    split at h
    · rename_i blk hb
      split at h
      · rename_i v0 hv
        simp only [Option.some.injEq, Prod.mk.injEq] at h
        obtain ⟨rfl, rfl⟩ := h
        obtain ⟨v', hc, hv'⟩ := hr.cell hb hp hv
        exact ⟨rfl, v', by simp [Instr.loadAt, Instr.sureAddr, loadVar, run_isAgg ht, hc], hv'⟩
      · cases h
    · cases h
  · cases h
theorem ldA_sound {P : Program} {m : Mp} {H H' : Heap} {w : World} {a a' v : Value} {t : TypeId} {k : Nat} (hr : HRel m H w) (ha : VRel m a a') (h : ldA k a H = some (v, H'))
    (ht : isAggT P t = some true) (hk : szOf P t = some k) : H' = H ∧ ∃ v', (Instr.loadAt t a').run P w = .ok v' w ∧ VRel m v v' := by
  unfold ldA at h
  split at h
  · rename_i b o
    obtain ⟨p, hp, rfl⟩ := ha.ptr_inv
    split at h
    · rename_i blk hb
      split at h
      · rename_i hle
        simp only [Option.some.injEq, Prod.mk.injEq] at h
        obtain ⟨rfl, rfl⟩ := h
        obtain ⟨l', hl, hrel, hc⟩ := hr.cells hb hp hle
        exact ⟨rfl, .agg l'.toArray, by simp [Instr.loadAt, Instr.sureAddr, loadVar, run_isAgg ht, run_size hk, run_cells hl hc], .agg' (by simpa using hrel)⟩
      · cases h
    · cases h
  · cases h

def spl (cur : Array Value) : Nat → List Value → Array Value
  | _, [] => cur
  | k, v :: vs => spl (cur.setIfInBounds k v) (k + 1) vs
theorem spl_size (vs : List Value) : ∀ (cur : Array Value) (k : Nat), (spl cur k vs).size = cur.size := by
  induction vs with
  | nil => intro cur k; rfl
  | cons v vs ih => intro cur k; simp [spl, ih]
theorem spl_get (vs : List Value) : ∀ (cur : Array Value) (k j : Nat), k + vs.length ≤ cur.size → (spl cur k vs)[j]? = if k ≤ j ∧ j < k + vs.length then vs[j - k]? else cur[j]? := by
  induction vs with
  | nil => intro cur k j _; simp [spl]; omega
  | cons v vs ih =>
    intro cur k j hk
    simp only [List.length_cons] at hk ⊢
    rw [spl, ih _ _ _ (by simp; omega)]
    by_cases h1 : j = k
    · subst h1
      rw [if_neg (by omega), if_pos (by omega)]
      have : j < cur.size := by omega
      simp [this]
    · by_cases h2 : k + 1 ≤ j ∧ j < k + 1 + vs.length
      · rw [if_pos h2, if_pos (by omega), show j - k = (j - (k + 1)) + 1 by omega]; simp
      · rw [if_neg h2, if_neg (by omega)]
        simp [Array.getElem?_setIfInBounds_ne (Ne.symm h1)]

def wput (w : World) (g : Nat) (cs : Array Value) (e : TypeId) (fr : Nat × Nat) : World := { w with heap := w.heap.setIfInBounds g (.cells cs e fr) }
theorem setCell_wput {w : World} {g o : Nat} {cs : Array Value} {e : TypeId} {fr : Nat × Nat} {v : Value} (h : w.heap[g]? = some (.cells cs e fr)) :
    w.setCell ⟨g, o, none⟩ v = wput w g (cs.setIfInBounds o v) e fr := by
  simp only [World.setCell, wput]
  congr 1
  apply Array.ext_getElem?
  intro i
  rw [Array.getElem?_modify, Array.getElem?_setIfInBounds]
  have hg : g < w.heap.size := (Array.getElem?_eq_some_iff.1 h).1
  have h' := Array.getElem?_eq_some_iff.1 h
  by_cases hi : g = i
  · subst hi; simp [hg, h'.2]
  · simp [hi]
theorem wput_heap {w : World} {g : Nat} {cs : Array Value} {e : TypeId} {fr : Nat × Nat} (h : g < w.heap.size) (i : Nat) : (wput w g cs e fr).heap[i]? = if g = i then some (.cells cs e fr) else w.heap[i]? := by
  simp only [wput, Array.getElem?_setIfInBounds]
  by_cases hi : g = i
  · subst hi; simp [h]
  · simp [hi]
theorem wput_self {w : World} {g : Nat} {cs : Array Value} {e : TypeId} {fr : Nat × Nat} (h : w.heap[g]? = some (.cells cs e fr)) : wput w g cs e fr = w := by
  simp only [wput]
  congr 1
  apply Array.ext_getElem?
  intro i
  have hg : g < w.heap.size := (Array.getElem?_eq_some_iff.1 h).1
  rw [Array.getElem?_setIfInBounds]
  have h' := Array.getElem?_eq_some_iff.1 h
  by_cases hi : g = i
  · subst hi; simp [hg, h'.2]
  · simp [hi]
theorem wput_wput {w : World} {g : Nat} {cs cs' : Array Value} {e e' : TypeId} {fr fr' : Nat × Nat} : wput (wput w g cs e fr) g cs' e' fr' = wput w g cs' e' fr' := by
  simp only [wput]
  congr 1
  simp

theorem run_storeCells_spl {P : Program} {g o : Nat} {e : TypeId} {fr : Nat × Nat} : ∀ (vs : List Value) (i : Nat) (cur : Array Value) (w : World), w.heap[g]? = some (.cells cur e fr) →
    o + i + vs.length ≤ cur.size → (∀ j, o + i ≤ j → j < o + i + vs.length → ¬ (fr.1 ≤ j ∧ j < fr.2)) → vs.all Eng.oneC = true →
    (storeCells ⟨g, o, none⟩ vs i).run P w = .ok () (wput w g (spl cur (o + i) vs) e fr)
  | [], i, cur, w, h, _, _, _ => by simp [storeCells, spl, wput_self h]
  | v :: vs, i, cur, w, h, hs, hf, ho => by
    simp only [List.length_cons, List.all_cons, Bool.and_eq_true] at hs hf ho
    have hg : g < w.heap.size := (Array.getElem?_eq_some_iff.1 h).1
    have hc : w.cell? ⟨g, o + i, none⟩ = some (cur[o + i]'(by omega)) := by
      simp only [World.cell?, h]
      simp [show o + i < cur.size by omega]
    have hz : w.frozen? ⟨g, o + i, none⟩ = false := by
      obtain ⟨lo, hi⟩ := fr
      simp only [World.frozen?, h]
      have := hf (o + i) (by omega) (by omega)
      simpa using this
    have hst : (store ((⟨g, o, none⟩ : Addr).add i) v).run P w = .ok () (wput w g (cur.setIfInBounds (o + i) v) e fr) := by
      rw [add_plain, run_store P w _ v _ ho.1, hc]
      simp only [hz, Bool.false_eq_true, if_false, setCell_wput h]
    have ih := run_storeCells_spl (P := P) (g := g) (o := o) (e := e) (fr := fr) vs (i + 1) (cur.setIfInBounds (o + i) v) (wput w g (cur.setIfInBounds (o + i) v) e fr)
      (by rw [wput_heap hg]; simp) (by simp; omega) (fun j h1 h2 => hf j (by omega) (by omega)) ho.2
    simp only [storeCells, Sem.run_bind, hst, Result.andThen, ih, wput_wput, spl]
    rfl

theorem splice_length {l vs : List Value} {o : Nat} (h : o + vs.length ≤ l.length) : (splice l o vs).length = l.length := by simp [splice]; omega
theorem splice_get {l vs : List Value} {o : Nat} (h : o + vs.length ≤ l.length) (j : Nat) : (splice l o vs)[j]? = if o ≤ j ∧ j < o + vs.length then vs[j - o]? else l[j]? := by
  unfold splice
  have ht : (l.take o).length = o := by simp; omega
  by_cases h1 : j < o
  · rw [if_neg (by omega), List.append_assoc, List.getElem?_append_left (by omega), List.getElem?_take, if_pos h1]
  · rw [List.append_assoc, List.getElem?_append_right (by omega), ht]
    by_cases h2 : j < o + vs.length
    · rw [if_pos (by omega), List.getElem?_append_left (by omega)]
    · rw [if_neg (by omega), List.getElem?_append_right (by omega), List.getElem?_drop]
      congr 1; omega
theorem splice_all {l vs : List Value} {o : Nat} {f : Value → Bool} (h : l.all f = true) (h' : vs.all f = true) : (splice l o vs).all f = true := by
  simp only [splice, List.all_append, Bool.and_eq_true]
  rw [List.all_eq_true] at h
  refine ⟨⟨?_, h'⟩, ?_⟩
  · rw [List.all_eq_true]; exact fun x hx => h x (List.mem_of_mem_take hx)
  · rw [List.all_eq_true]; exact fun x hx => h x (List.mem_of_mem_drop hx)

theorem Step.write {m : Mp} {H : Heap} {w : World} (hr : HRel m H w) {b o : Nat} {blk : Blk} {p : Pl} {cs : Array Value} {e : TypeId} {fr : Nat × Nat} {vs vs' : List Value}
    (hb : H.get b = some blk) (ho : blk.own = true) (hm : m b = some p) (hh : w.heap[p.blk]? = some (.cells cs e fr)) (hl : o + vs.length ≤ blk.cells.length) (hv : LRel m vs vs')
    (h1 : vs.all Eng.oneC = true) : Step m H w m (H.upd b (some ⟨splice blk.cells o vs, blk.sz, true⟩)) (wput w p.blk (spl cs (p.off + o) vs') e fr) := by
  obtain ⟨cs0, e0, fr0, hh0, hsz, hc, hf⟩ := (hr.blk b blk p hb hm).plain ((hr.blk b blk p hb hm).plain_of hh)
  rw [hh] at hh0
  injection hh0 with hh0
  injection hh0 with q1 q2 q3
  subst q1; subst q2; subst q3
  have hg : p.blk < w.heap.size := (Array.getElem?_eq_some_iff.1 hh).1
  have hvl : vs'.length = vs.length := hv.1.symm
  refine ⟨fun _ _ => rfl, Nat.le_refl _, ⟨?_, ?_, ?_, ?_, ?_⟩, by simp [wput], ?_, ?_, rfl, rfl, rfl, ?_, ?_, id, ?_⟩
  · intro b' blk' hb'
    simp only [Heap.upd] at hb' ⊢
    split at hb'
    · rename_i he; subst he; exact hr.low _ _ hb
    · exact hr.low _ _ hb'
  · intro b' blk' p' hb' hm'
    simp only [Heap.upd] at hb'
    split at hb'
    · rename_i he
      subst he
      rw [hm] at hm'
      injection hm' with hm'; subst hm'
      injection hb' with hb'; subst hb'
      refine .inl ⟨rfl, spl cs (p.off + o) vs', e, fr, by rw [wput_heap hg, if_pos rfl], by simp only [spl_size, splice_length hl]; exact hsz, ?_, ?_⟩
      · intro i v hi
        simp only [splice_get hl] at hi
        rw [spl_get _ _ _ _ (by have := Nat.le_trans (Nat.le_add_right _ _) hsz; omega)]
        split at hi
        · rename_i hin
          rw [if_pos (by omega), show p.off + i - (p.off + o) = i - o by omega]
          exact hv.get hi
        · rename_i hin
          rw [if_neg (by omega)]
          exact hc i v hi
      · intro _; simp only [splice_length hl]; exact hf ho
    · rename_i hne
      have : p.blk ≠ p'.blk := hr.inj b b' blk blk' p p' (Ne.symm hne) hb ho hb' hm hm'
      exact (hr.blk b' blk' p' hb' hm').at (by rw [wput_heap hg, if_neg this])
  · intro b1 b2 k1 k2 p1 p2 hne e1 o1 e2 m1 m2
    simp only [Heap.upd] at e1 e2
    have f1 : ∃ k, H.get b1 = some k ∧ k.own = true := by
      split at e1
      · rename_i he; subst he; exact ⟨blk, hb, ho⟩
      · exact ⟨k1, e1, o1⟩
    have f2 : ∃ k, H.get b2 = some k := by
      split at e2
      · rename_i he; subst he; exact ⟨blk, hb⟩
      · exact ⟨k2, e2⟩
    obtain ⟨j1, f1, f1'⟩ := f1
    obtain ⟨j2, f2⟩ := f2
    exact hr.inj b1 b2 j1 j2 p1 p2 hne f1 f1' f2 m1 m2
  · intro b' blk' hb'
    simp only [Heap.upd] at hb'
    split at hb'
    · injection hb' with hb'; subst hb'
      exact splice_all (hr.one b blk hb) h1
    · exact hr.one b' blk' hb'
  · intro b' blk' p' hb' ho'
    simp only [Heap.upd] at hb'
    split at hb'
    · injection hb' with hb'; subst hb'; cases ho'
    · exact hr.froz b' blk' p' hb' ho'
  · intro c hc hn
    rw [wput_heap hg, if_neg (hn b blk p hb ho hm)]
  · intro b' blk' p' hb' ho' hm' hlt
    simp only [Heap.upd] at hb'
    split at hb'
    · rename_i he; subst he; exact ⟨b', blk, p', hb, ho, hm', rfl⟩
    · exact ⟨b', blk', p', hb', ho', hm', rfl⟩
  · intro b' blk' hlt hb' ho'
    simp only [Heap.upd]
    rw [if_neg (fun he => by subst he; rw [hb] at hb'; injection hb' with hb'; subst hb'; rw [ho] at ho'; cases ho')]
    exact hb'
  · intro b' blk' hlt hb' ho'
    simp only [Heap.upd] at hb'
    split at hb'
    · injection hb' with hb'; subst hb'; cases ho'
    · exact hb'
  · intro b' blk' h1 hb'
    simp only [Heap.upd] at hb'
    split at hb'
    · injection hb' with hb'; subst hb'; rfl
    · have := hr.low _ _ hb'; omega

theorem stV_sound {P : Program} {m : Mp} {H H' : Heap} {w : World} {a a' x x' v : Value} {t : TypeId} {k : Nat} (hr : HRel m H w) (ha : VRel m a a') (hx : VRel m x x')
    (hk : szOf P t = some k) (h : stV k a x H = some (v, H')) : v = undef ∧ ∃ w', (Instr.storeAt t a' x').run P w = .ok () w' ∧ Step m H w m H' w' := by
  unfold stV at h
  split at h
  · rename_i b o
    obtain ⟨p, hp, rfl⟩ := ha.ptr_inv
    split at h
    · rename_i blk hb
      split at h
      · rename_i hcond
        obtain ⟨c1, c2, c3, c4⟩ := hcond
        obtain ⟨c4, c5⟩ := Blk.w_iff.1 c4
        simp only [Option.some.injEq, Prod.mk.injEq] at h
        obtain ⟨rfl, rfl⟩ := h
        obtain ⟨cs, e, fr, hh, hsz, hc, hf⟩ := (hr.blk b blk p hb hp).plain c5
        have hcl := hx.cells
        have hlen : x.cells.toList.length = k := by simpa using c1
        have hlen' : x'.cells.toList.length = k := by rw [← hcl.1]; exact hlen
        have hst := run_storeCells_spl (P := P) (g := p.blk) (o := p.off + o) (e := e) (fr := fr) x'.cells.toList 0 cs w hh
          (by have := Nat.le_trans (Nat.le_add_right _ _) hsz; omega) (fun j h1 h2 => (hf c4).not (by have := Nat.zero_le (p.room * blk.sz); omega)) (hcl.allOne c2)
        refine ⟨rfl, _, ?_, Step.write hr hb c4 hp hh (by omega) hcl c2⟩
        have hne : ¬ (x'.cells.size ≠ k) := by simpa using hlen'
        simp only [Instr.storeAt, Instr.sureAddr, storeVar, Sem.run_bind, Sem.run_pure, Result.andThen, run_size hk, hne, if_false]
        simpa using hst
      · cases h
    · cases h
  · cases h

def mput (m : Mp) (b : Nat) (p : Pl) : Mp := fun i => if i = b then some p else m i
theorem mput_le {m : Mp} {n : Nat} (h : MLow m n) (p : Pl) : MLe m (mput m n p) := fun b q hb => by
  have := h b q hb
  simp only [mput]
  rw [if_neg (by omega)]
  exact hb
theorem Step.new {m : Mp} {H : Heap} {w w1 : World} (hr : HRel m H w) (hl : MLow m H.n) {l l' : List Value} {cs : Array Value} {e : TypeId} {fr : Nat × Nat} {sz room : Nat}
    (hv : LRel m l l') (h1 : l.all Eng.oneC = true) (hs : l.length + room * sz ≤ cs.size) (hc : ∀ (i : Nat) (v : Value), l'[i]? = some v → cs[i]? = some v) (hf : Fz fr (l.length + room * sz))
    (hw : w1.heap = w.heap.push (.cells cs e fr)) (hos : w1.os = w.os) (ht : w1.tape = w.tape) (hout : w1.output = w.output) :
    Step m H w (mput m H.n ⟨w.heap.size, 0, room⟩) (H.push ⟨l, sz, true⟩) w1 := by
  have hle := mput_le hl ⟨w.heap.size, 0, room⟩
  have hold : ∀ i, i < w.heap.size → w1.heap[i]? = w.heap[i]? := fun i hi => by rw [hw, Array.getElem?_push]; simp [Nat.ne_of_lt hi]
  have hnew : w1.heap[w.heap.size]? = some (.cells cs e fr) := by rw [hw]; simp
  have hmb : ∀ b q blk, H.get b = some blk → mput m H.n ⟨w.heap.size, 0, room⟩ b = some q → m b = some q := fun b q blk hb hq => by
    have := hr.low b blk hb
    simp only [mput] at hq
    rwa [if_neg (by omega)] at hq
  have hblt : ∀ b q blk, H.get b = some blk → m b = some q → q.blk < w.heap.size := fun b q blk hb hq => by
    exact (hr.blk b blk q hb hq).lt
  refine ⟨?_, by simp [Heap.push], ⟨?_, ?_, ?_, ?_, ?_⟩, by rw [hw]; simp, fun c hc _ => hold c hc, ?_, hos, ht, hout, ?_, ?_, ?_, ?_⟩
  · intro b hb; simp only [mput]; rw [if_neg (by omega)]
  · intro b blk hb
    simp only [Heap.push] at hb ⊢
    split at hb
    · omega
    · have := hr.low _ _ hb; omega
  · intro b blk p hb hp
    simp only [Heap.push] at hb
    split at hb
    · rename_i he
      subst he
      injection hb with hb; subst hb
      simp only [mput, if_true] at hp
      injection hp with hp; subst hp
      refine .inl ⟨rfl, cs, e, fr, hnew, by simpa using hs, ?_, ?_⟩
      · intro i v hi
        obtain ⟨v', g1, g2⟩ := hv.get hi
        exact ⟨v', by simpa using hc i v' g1, g2.mono hle⟩
      · intro _; exact hf.mono (by simp)
    · exact ((hr.blk b blk p hb (hmb b p blk hb hp)).mono hle).at (hold _ (hblt b p blk hb (hmb b p blk hb hp)))
  · intro b1 b2 k1 k2 p1 p2 hne e1 o1 e2 m1 m2
    simp only [Heap.push] at e1 e2
    split at e1
    · rename_i he
      subst he
      split at e2
      · rename_i he2; exact absurd he2.symm hne
      · have h2 := hblt _ _ _ e2 (hmb _ _ _ e2 m2)
        simp only [mput, if_true] at m1
        injection m1 with m1; subst m1
        simp only; omega
    · split at e2
      · rename_i he2
        subst he2
        have h1 := hblt _ _ _ e1 (hmb _ _ _ e1 m1)
        simp only [mput, if_true] at m2
        injection m2 with m2; subst m2
        simp only; omega
      · exact hr.inj b1 b2 k1 k2 p1 p2 hne e1 o1 e2 (hmb _ _ _ e1 m1) (hmb _ _ _ e2 m2)
  · intro b blk hb
    simp only [Heap.push] at hb
    split at hb
    · injection hb with hb; subst hb; exact h1
    · exact hr.one b blk hb
  · intro b blk p hb ho hp
    simp only [Heap.push] at hb
    split at hb
    · injection hb with hb; subst hb; cases ho
    · exact hr.froz b blk p hb ho (hmb b p blk hb hp)
  · intro b blk p hb ho hp hlt
    simp only [Heap.push] at hb
    split at hb
    · rename_i he
      subst he
      simp only [mput, if_true] at hp
      injection hp with hp; subst hp
      simp at hlt
    · exact ⟨b, blk, p, hb, ho, hmb b p blk hb hp, rfl⟩
  · intro b blk hlt hb _
    simp only [Heap.push]; rw [if_neg (by omega)]; exact hb
  · intro b blk hlt hb _
    simp only [Heap.push] at hb; rw [if_neg (by omega)] at hb; exact hb
  · intro _ b p hp
    simp only [mput] at hp
    simp only [Heap.push]
    split at hp
    · omega
    · have := hl b p hp; omega
  · intro b blk h1 hb
    simp only [Heap.push] at hb
    split at hb
    · injection hb with hb; subst hb; rfl
    · have := hr.low _ _ hb; omega

theorem newV_sound {P : Program} {m : Mp} {H H' : Heap} {w : World} {cs cs' : List Value} {v : Value} {t : TypeId} (hr : HRel m H w) (hl : MLow m H.n) (hv : LRel m cs cs') (h : newV cs H = some (v, H')) :
    ∃ m' v' w', (do pure (Value.pointer (some (← newRow t cs'.toArray))) : Sem Value).run P w = .ok v' w' ∧ VRel m' v v' ∧ Step m H w m' H' w' := by
  unfold newV at h
  split at h
  · rename_i h1
    simp only [Option.some.injEq, Prod.mk.injEq] at h
    obtain ⟨rfl, rfl⟩ := h
    refine ⟨_, .pointer (some ⟨w.heap.size, 0, none⟩), { w with heap := w.heap.push (.cells cs'.toArray t) }, by simp [newRow], ?_, Step.new hr hl (cs := cs'.toArray) (e := t) (fr := (0, 0)) (sz := 1) (room := 0) hv h1 (by simp [hv.1]) (by simp) (.inl rfl) rfl rfl rfl rfl⟩
    have := VRel.ptr (m := mput m H.n ⟨w.heap.size, 0, 0⟩) (b := H.n) (o := 0) (p := ⟨w.heap.size, 0, 0⟩) (by simp [mput])
    simpa using this
  · cases h
theorem newS_sound {P : Program} {m : Mp} {H H' : Heap} {w : World} {cs cs' : List Value} {v : Value} {t : TypeId} {sz len cap : Nat} (hr : HRel m H w) (hl : MLow m H.n) (hv : LRel m cs cs') (h : newS sz len cap cs H = some (v, H')) (hlc : len ≤ cap) :
    ∃ m' v' w', (do pure (Value.slice (some (← newRow t cs'.toArray)) len cap) : Sem Value).run P w = .ok v' w' ∧ VRel m' v v' ∧ Step m H w m' H' w' := by
  unfold newS at h
  split at h
  · rename_i h1
    simp only [Option.some.injEq, Prod.mk.injEq] at h
    obtain ⟨rfl, rfl⟩ := h
    refine ⟨_, .slice (some ⟨w.heap.size, 0, none⟩) len cap, { w with heap := w.heap.push (.cells cs'.toArray t) }, by simp [newRow], ?_, Step.new hr hl (cs := cs'.toArray) (e := t) (fr := (0, 0)) (sz := sz) (room := 0) hv h1 (by simp [hv.1]) (by simp) (.inl rfl) rfl rfl rfl rfl⟩
    have := VRel.slc (m := mput m H.n ⟨w.heap.size, 0, 0⟩) (b := H.n) (o := 0) (p := ⟨w.heap.size, 0, 0⟩) (len := len) (cap := cap) (cap' := cap) (by simp [mput]) (Nat.le_refl _) (by simp) hlc
    simpa using this
  · cases h

end Go.Eng

set_option linter.unusedVariables false
namespace Go.Eng
open Go

theorem HRel.of_heap {m : Mp} {H : Heap} {w w' : World} (h : HRel m H w) (hh : w'.heap = w.heap) : HRel m H w' := by
  exact ⟨h.low, fun b k p h1 h2 => (h.blk b k p h1 h2).at (by rw [hh]), h.inj, h.one, h.froz⟩
theorem Step.same {m : Mp} {H : Heap} {w w' : World} (h : HRel m H w) (hh : w'.heap = w.heap) (h1 : w'.os = w.os) (h2 : w'.tape = w.tape) (h3 : w'.output = w.output) : Step m H w m H w' :=
  ⟨fun _ _ => rfl, Nat.le_refl _, h.of_heap hh, by rw [hh]; exact Nat.le_refl _, fun _ _ _ => by rw [hh], fun b blk p h1 h2 h3 _ => ⟨b, blk, p, h1, h2, h3, rfl⟩, h1, h2, h3, fun _ _ _ h _ => h, fun _ _ _ h _ => h, id, fun b blk h1 h2 => by have := h.low b blk h2; omega⟩

theorem VRel.slice_inv {m : Mp} {b o len cap : Nat} {sp : Option Nat} {v' : Value} (h : VRel m (.slice (some ⟨b, o, sp⟩) len cap) v') :
    (len = 0 ∧ cap = 0 ∧ ∃ a', v' = .slice (some a') 0 0) ∨ ∃ p cap', m b = some p ∧ v' = .slice (some ⟨p.blk, p.off + o, none⟩) len cap' ∧ len ≤ cap ∧ cap ≤ cap' ∧ cap' ≤ cap + p.room ∧ (sp = none ∨ sp = some 0 ∧ cap' = cap) := by
  cases h with
  | flat h => simp [flat1] at h
  | slc h h1 h2 h3 => exact .inr ⟨_, _, h, rfl, h3, h1, h2, .inl rfl⟩
  | slx h h3 => exact .inr ⟨_, _, h, rfl, h3, Nat.le_refl _, Nat.le_add_right _ _, .inr ⟨rfl, rfl⟩⟩
  | sl0 h => exact .inl ⟨rfl, rfl, _, rfl⟩
theorem VRel.slice_mapped {m : Mp} {b o len cap : Nat} {sp : Option Nat} {v' : Value} (h : VRel m (.slice (some ⟨b, o, sp⟩) len cap) v') : ∃ p, m b = some p := by
  cases h with
  | flat h => simp [flat1] at h
  | slc h h1 h2 h3 => exact ⟨_, h⟩
  | slx h h3 => exact ⟨_, h⟩
  | sl0 h => exact ⟨_, h⟩
theorem VRel.slice_nil_inv {m : Mp} {len cap : Nat} {v' : Value} (h : VRel m (.slice none len cap) v') : len = 0 ∧ cap = 0 ∧ v' = .slice none 0 0 := by
  cases h with
  | flat h => simp [flat1] at h; obtain ⟨rfl, rfl⟩ := h; exact ⟨rfl, rfl, rfl⟩
theorem VRel.string_inv {m : Mp} {s : ByteArray} {v' : Value} (h : VRel m (.string s) v') : v' = .string s := h.eq_of_flat1 rfl
theorem VRel.int_inv {m : Mp} {k : IntKind} {n : Int} {v' : Value} (h : VRel m (.int k n) v') : v' = .int k n := h.eq_of_flat1 rfl
theorem VRel.bool_inv {m : Mp} {b : Bool} {v' : Value} (h : VRel m (.bool b) v') : v' = .bool b := h.eq_of_flat1 rfl

theorem addend_sound {P : Program} {m : Mp} {H : Heap} {w : World} {x x' : Value} {sz n : Nat} {cs : List Value} (hr : HRel m H w) (hx : VRel m x x') (h : addend sz x H = some (n, cs)) : (∀ w', (Builtin.lenOf x').run P w' = .ok n w') ∧ ∃ cs', LRel m cs cs' ∧ cs.length = n * sz ∧ ∀ k, k ≤ n → ∀ w', w'.heap = w.heap → (Builtin.firstCells sz k x').run P w' = .ok (cs'.take (k * sz)).toArray w' := by
  unfold addend at h
  split at h
  · rename_i n0 c0
    split at h
    · rename_i hn
      simp only [Option.some.injEq, Prod.mk.injEq] at h
      obtain ⟨rfl, rfl⟩ := h
      obtain ⟨rfl, rfl, rfl⟩ := hx.slice_nil_inv
      exact ⟨fun w' => rfl, [], LRel.nil, by simp, fun k hk w' hw => by simp [Builtin.firstCells]⟩
    · cases h
  · rename_i b o sp n0 c0
    split at h
    · rename_i hn0
      simp only [Option.some.injEq, Prod.mk.injEq] at h
      obtain ⟨rfl, rfl⟩ := h
      subst hn0
      rcases hx.slice_inv with ⟨_, rfl, a', rfl⟩ | ⟨p, cap', hp, rfl, _, _, _, _⟩
      · exact ⟨fun w' => rfl, [], LRel.nil, by simp, fun k hk w' hw => by
          have : k = 0 := by omega
          subst this
          simp [Builtin.firstCells, loadCells, loadCellsFrom]⟩
      · exact ⟨fun w' => rfl, [], LRel.nil, by simp, fun k hk w' hw => by
          have : k = 0 := by omega
          subst this
          simp [Builtin.firstCells, loadCells, loadCellsFrom]⟩
    split at h
    · rename_i blk hb
      split at h
      · rename_i hle
        simp only [Option.some.injEq, Prod.mk.injEq] at h
        obtain ⟨rfl, rfl⟩ := h
        rcases hx.slice_inv with ⟨rfl, rfl, a', rfl⟩ | ⟨p, cap', hp, rfl, _, _, _, _⟩
        · refine ⟨fun w' => rfl, [], by simpa [cut] using LRel.nil, by simp [cut], fun k hk w' hw => ?_⟩
          have : k = 0 := by omega
          subst this
          simp [Builtin.firstCells, loadCells, loadCellsFrom]
        · obtain ⟨l', hl, hrel, hc⟩ := hr.cells hb hp hle
          refine ⟨fun w' => rfl, l', hrel, by simp [cut]; omega, fun k hk w' hw => ?_⟩
          simp only [Builtin.firstCells]
          have hks : k * sz ≤ n0 * sz := Nat.mul_le_mul_right _ hk
          refine run_cells (by simp; omega) fun j v hj => ?_
          rw [List.getElem?_take] at hj
          split at hj
          · have := hc j v hj
            unfold World.cell? at this ⊢
            rw [hw]; exact this
          · cases hj
      · cases h
    · cases h
  · rename_i s
    split at h
    case isFalse => cases h
    rename_i hsz
    subst hsz
    simp only [Option.some.injEq, Prod.mk.injEq] at h
    obtain ⟨rfl, rfl⟩ := h
    obtain rfl := hx.string_inv
    have hfl : ∀ l : List UInt8, LRel m (l.map fun c => Value.int .u8 c.toNat) (l.map fun c => Value.int .u8 c.toNat) := fun l => by
      induction l with
      | nil => exact LRel.nil
      | cons c l ih => exact LRel.cons (.flat rfl) ih
    refine ⟨fun w' => rfl, _, hfl _, by simp, fun k hk w' hw => ?_⟩
    simp only [Builtin.firstCells, Sem.run_pure]
    congr 1
    apply Array.ext'
    simp
  · cases h

section
variable {P : Program} {w : World} {sz by_ len cap n : Nat} {t ty e : TypeId} {ts : Array TypeId} {z x : Value} {d2 : TypeDesc} {t2 : TypeId} {base : Option Addr} {new : List Value}
theorem run_app_in (h0 : ts[0]? = some t) (hu : P.underlying t = some (.slice e)) (hsz : szOf P e = some sz) (h2 : ts[1]? = some t2) (hu2 : P.underlying t2 = some d2) (hd2 : ∀ k, d2 ≠ .int k)
    (hlen : ∀ w', (Builtin.lenOf x).run P w' = .ok n w') (hf : (Builtin.firstCells sz n x).run P w = .ok new.toArray w) (hc : len + n ≤ cap) :
    (Builtin.append_ ts ty #[.slice base len cap, x]).run P w =
      match base with
      | some a => ((storeCells (a.add (len * sz)) new).run P w).andThen fun _ w' => .ok (.slice base (len + n) cap) w'
      | none => .ok (.slice base (len + n) cap) w := by
  have hnot : (match d2 with | .int _ => true | _ => false) = false := by cases d2 <;> first | rfl | exact absurd rfl (hd2 _)
  simp only [Builtin.append_, h0, h2]
  simp [hc, hf, hnot, hlen, run_size hsz, run_underlying hu, run_underlying hu2]
  cases base <;> simp
theorem run_app_new (h0 : ts[0]? = some t) (hu : P.underlying t = some (.slice e)) (hsz : szOf P e = some sz) (h2 : ts[1]? = some t2) (hu2 : P.underlying t2 = some d2) (hd2 : ∀ k, d2 ≠ .int k)
    (hby : bytesOf P e = some by_) (hb0 : 0 < by_) (hz : zeroOf P e = some z) {old : List Value}
    (hlen : ∀ w', (Builtin.lenOf x).run P w' = .ok n w') (hf : ∀ w', w'.heap = w.heap → (Builtin.firstCells sz n x).run P w' = .ok new.toArray w')
    (ho : ∀ w', w'.heap = w.heap → (Builtin.firstCells sz len (.slice base len cap)).run P w' = .ok old.toArray w') (hc : cap < len + n) (hm : (len + n) * by_ ≤ mostBytes) :
    ∃ nc, len + n ≤ nc ∧ (Builtin.append_ ts ty #[.slice base len cap, x]).run P w = .ok (.slice (some ⟨w.heap.size, 0, none⟩) (len + n) nc)
        (w.drew.alloc (.cells (old.toArray ++ new.toArray ++ Builtin.zeroCells z.cells (nc - (len + n))) e)) := by
  obtain ⟨i, hi, hib⟩ := run_bytes hby w
  have hi' : P.info? e = some i := by
    unfold bytesOf at hby
    cases h : P.info? e with
    | none => simp [h] at hby
    | some j =>
      rw [run_typeInfo w h] at hi
      injection hi with hi; rw [hi]
  have hnot : (match d2 with | .int _ => true | _ => false) = false := by cases d2 <;> first | rfl | exact absurd rfl (hd2 _)
  have hn1 : ¬ (len + n ≤ cap) := by omega
  have hmul : len + n ≤ (len + n) * by_ := Nat.le_mul_of_pos_right _ hb0
  have h63 : ¬ ((9223372036854775807 : Int) < (len : Int) + (n : Int)) := by unfold mostBytes at hm; omega
  have h48 : ¬ (281474976710656 < Builtin.nextslicecap (len + n) cap * i.bytes) := by
    rw [hib]
    have := growslice_fits (bytes := by_) hc hm
    omega
  have hf' := hf w.drew rfl
  have ho' := ho w.drew rfl
  have hge : len + n ≤ (Question.appendCap (len + n) cap e).cut (w.tape w.drawn (.appendCap (len + n) cap e)) := by simp [Question.cut]
  refine ⟨_, hge, ?_⟩
  simp only [Builtin.append_, h0, h2]
  have hty : ∀ w : World, (typeInfo e).run P w = .ok i w := fun w => run_typeInfo w hi'
  simp [hn1, hnot, hlen, run_size hsz, run_underlying hu, run_underlying hu2, hty, h63, h48, Question.forced, hf', ho', run_zero hz, newRow]
  congr 2
  apply Array.ext'
  simp
end
theorem kp_get {H : Heap} {b i : Nat} {k : Blk} : ((H.upd b none).push k).get i = if i = H.n then some k else if i = b then none else H.get i := rfl
theorem zeros_size {z : Value} {n : Nat} : (Builtin.zeroCells z.cells n).size = n * z.cells.size := by simp [Builtin.zeroCells]

theorem first_slice {P : Program} {m : Mp} {H : Heap} {w : World} {b o : Nat} {blk : Blk} {p : Pl} (hr : HRel m H w) (hb : H.get b = some blk) (hp : m b = some p) (len sz cap : Nat) (hk : o + len * sz ≤ blk.cells.length) :
    ∃ l', l'.length = len * sz ∧ LRel m (cut blk.cells o (len * sz)) l' ∧ ∀ w', w'.heap = w.heap → (Builtin.firstCells sz len (.slice (some ⟨p.blk, p.off + o, none⟩) len cap)).run P w' = .ok l'.toArray w' := by
  obtain ⟨l', hl, hrel, hc⟩ := hr.cells hb hp hk
  refine ⟨l', hl, hrel, fun w' hw => ?_⟩
  simp only [Builtin.firstCells]
  exact run_cells hl fun j v hj => by
    have := hc j v hj
    unfold World.cell? at this ⊢
    rw [hw]; exact this

theorem Step.kill {m : Mp} {H : Heap} {w : World} (hr : HRel m H w) {b : Nat} {blk : Blk} (hb : H.get b = some blk) (ho : blk.own = true) : Step m H w m (H.upd b none) w := by
  refine ⟨fun _ _ => rfl, Nat.le_refl _, ⟨?_, ?_, ?_, ?_, ?_⟩, Nat.le_refl _, fun _ _ _ => rfl, ?_, rfl, rfl, rfl, ?_, ?_, id, ?_⟩
  · intro b' k h; simp only [Heap.upd] at h ⊢; split at h
    · cases h
    · exact hr.low b' k h
  · intro b' k p h; simp only [Heap.upd] at h; split at h
    · cases h
    · exact hr.blk b' k p h
  · intro b1 b2 k1 k2 p1 p2 hne e1 o1 e2; simp only [Heap.upd] at e1 e2
    split at e1
    · cases e1
    · split at e2
      · cases e2
      · exact hr.inj b1 b2 k1 k2 p1 p2 hne e1 o1 e2
  · intro b' k h; simp only [Heap.upd] at h; split at h
    · cases h
    · exact hr.one b' k h
  · intro b' k p h; simp only [Heap.upd] at h; split at h
    · cases h
    · exact hr.froz b' k p h
  · intro b' k p h h2 h3 _; simp only [Heap.upd] at h; split at h
    · cases h
    · exact ⟨b', k, p, h, h2, h3, rfl⟩
  · intro b' k hlt h h2
    simp only [Heap.upd]
    rw [if_neg (fun he => by subst he; rw [hb] at h; injection h with h; subst h; rw [ho] at h2; cases h2)]
    exact h
  · intro b' k hlt h h2
    simp only [Heap.upd] at h
    split at h
    · cases h
    · exact h
  · intro b' k h1 h
    simp only [Heap.upd] at h
    split at h
    · cases h
    · exact absurd (hr.low _ _ h) (by have : H.n ≤ b' := h1; omega)

theorem Step.grow {m : Mp} {H : Heap} {w : World} (hr : HRel m H w) (hl : MLow m H.n) {b o : Nat} {blk : Blk} {p : Pl} {cs : Array Value} {e : TypeId} {fr : Nat × Nat} {new new' : List Value} {k : Nat}
    (hb : H.get b = some blk) (ho : blk.own = true) (hm : m b = some p) (hh : w.heap[p.blk]? = some (.cells cs e fr)) (hoo : o ≤ blk.cells.length) (hn : new.length = k * blk.sz) (hk : k ≤ p.room)
    (hv : LRel m new new') (h1 : new.all Eng.oneC = true) :
    Step m H w (mput m H.n ⟨p.blk, p.off + o, p.room - k⟩) ((H.upd b none).push ⟨blk.cells.drop o ++ new, blk.sz, true⟩) (wput w p.blk (spl cs (p.off + blk.cells.length) new') e fr) := by
  obtain ⟨cs0, e0, fr0, hh0, hsz, hc, hf⟩ := (hr.blk b blk p hb hm).plain ((hr.blk b blk p hb hm).plain_of hh)
  rw [hh] at hh0
  injection hh0 with hh0
  injection hh0 with q1 q2 q3
  subst q1; subst q2; subst q3
  have hg : p.blk < w.heap.size := (Array.getElem?_eq_some_iff.1 hh).1
  have hnl : new'.length = new.length := hv.1.symm
  have hrm : k * blk.sz + (p.room - k) * blk.sz = p.room * blk.sz := by rw [← Nat.add_mul, Nat.add_sub_cancel' hk]
  have hle := mput_le hl ⟨p.blk, p.off + o, p.room - k⟩
  have hmb : ∀ b' q, b' < H.n → mput m H.n ⟨p.blk, p.off + o, p.room - k⟩ b' = some q → m b' = some q := fun b' q hb' hq => by
    simp only [mput] at hq
    rwa [if_neg (by omega)] at hq
  refine ⟨?_, by simp [Heap.push, Heap.upd], ⟨?_, ?_, ?_, ?_, ?_⟩, by simp [wput], ?_, ?_, rfl, rfl, rfl, ?_, ?_, ?_, ?_⟩
  · intro b' hb'; simp only [mput]; rw [if_neg (by omega)]
  · intro b' k' h
    rw [kp_get] at h
    show b' < H.n + 1
    split at h
    · omega
    · split at h
      · cases h
      · have := hr.low _ _ h; omega
  · intro b' k' p' h hp'
    rw [kp_get] at h
    split at h
    · rename_i he
      subst he
      injection h with h; subst h
      simp only [mput, if_true] at hp'
      injection hp' with hp'; subst hp'
      refine .inl ⟨rfl, spl cs (p.off + blk.cells.length) new', e, fr, by rw [wput_heap hg, if_pos rfl], by simp only [spl_size, List.length_append, List.length_drop]; omega, ?_, ?_⟩
      · intro i v hi
        dsimp only at hi ⊢
        rw [spl_get _ _ _ _ (by omega)]
        by_cases hlt : i < blk.cells.length - o
        · rw [List.getElem?_append_left (by simp; omega), List.getElem?_drop] at hi
          rw [if_neg (by omega)]
          obtain ⟨v', g1, g2⟩ := hc (o + i) v hi
          exact ⟨v', by rw [show p.off + o + i = p.off + (o + i) by omega]; exact g1, g2.mono hle⟩
        · rw [List.getElem?_append_right (by simp; omega)] at hi
          obtain ⟨v', g1, g2⟩ := hv.get hi
          have hin : i - (List.drop o blk.cells).length < new'.length := (List.getElem?_eq_some_iff.1 g1).1
          simp only [List.length_drop] at hin g1
          rw [if_pos (by omega), show p.off + o + i - (p.off + blk.cells.length) = i - (blk.cells.length - o) by omega]
          exact ⟨v', g1, g2.mono hle⟩
      · intro _
        refine (hf ho).mono ?_
        dsimp only
        simp only [List.length_append, List.length_drop]
        omega
    · split at h
      · cases h
      · rename_i h3 h4
        have hlt := hr.low _ _ h
        have hne : p.blk ≠ p'.blk := hr.inj b b' blk k' p p' (Ne.symm h4) hb ho h hm (hmb b' p' hlt hp')
        exact ((hr.blk b' k' p' h (hmb b' p' hlt hp')).mono hle).at (by rw [wput_heap hg, if_neg hne])
  · intro b1 b2 k1 k2 p1 p2 hne e1 o1 e2 m1 m2
    rw [kp_get] at e1 e2
    split at e1
    · rename_i he
      subst he
      simp only [mput, if_true] at m1
      injection m1 with m1; subst m1
      split at e2
      · rename_i he2; exact absurd he2.symm hne
      · split at e2
        · cases e2
        · rename_i h3 h4
          exact hr.inj b b2 blk k2 p p2 (Ne.symm h4) hb ho e2 hm (hmb _ _ (hr.low _ _ e2) m2)
    · split at e1
      · cases e1
      · rename_i h5 h6
        split at e2
        · rename_i he2
          subst he2
          simp only [mput, if_true] at m2
          injection m2 with m2; subst m2
          exact hr.inj b1 b k1 blk p1 p h6 e1 o1 hb (hmb _ _ (hr.low _ _ e1) m1) hm
        · split at e2
          · cases e2
          · exact hr.inj b1 b2 k1 k2 p1 p2 hne e1 o1 e2 (hmb _ _ (hr.low _ _ e1) m1) (hmb _ _ (hr.low _ _ e2) m2)
  · intro b' k' h
    rw [kp_get] at h
    split at h
    · injection h with h; subst h
      simp only [List.all_append, Bool.and_eq_true]
      refine ⟨?_, h1⟩
      have := hr.one b blk hb
      rw [List.all_eq_true] at this ⊢
      exact fun x hx => this x (List.mem_of_mem_drop hx)
    · split at h
      · cases h
      · exact hr.one b' k' h
  · intro b' k' p' h ho' hp'
    rw [kp_get] at h
    split at h
    · injection h with h; subst h; cases ho'
    · split at h
      · cases h
      · exact hr.froz b' k' p' h ho' (hmb _ _ (hr.low _ _ h) hp')
  · intro c hc' hnc
    rw [wput_heap hg, if_neg (hnc b blk p hb ho hm)]
  · intro b' k' p' h ho' hp' hlt
    rw [kp_get] at h
    split at h
    · rename_i he
      subst he
      simp only [mput, if_true] at hp'
      injection hp' with hp'; subst hp'
      exact ⟨b, blk, p, hb, ho, hm, rfl⟩
    · split at h
      · cases h
      · exact ⟨b', k', p', h, ho', hmb _ _ (hr.low _ _ h) hp', rfl⟩
  · intro b' k' hlt h h2
    rw [kp_get, if_neg (by omega), if_neg (fun he => by subst he; rw [hb] at h; injection h with h; subst h; rw [ho] at h2; cases h2)]
    exact h
  · intro b' k' hlt h h2
    rw [kp_get] at h
    rw [if_neg (by omega)] at h
    split at h
    · cases h
    · exact h
  · intro _ b' p' hp'
    simp only [mput] at hp'
    show b' < H.n + 1
    split at hp'
    · omega
    · have := hl b' p' hp'; omega
  · intro b' k' h1 h
    rw [kp_get] at h
    split at h
    · injection h with h; subst h; rfl
    · split at h
      · cases h
      · have := hr.low _ _ h; omega

theorem app_sound {P : Program} {m : Mp} {H H' : Heap} {w : World} {s s' x x' v : Value} {sz by_ : Nat} {t ty e : TypeId} {ts : Array TypeId} {z : Value} {d2 : TypeDesc} {t2 : TypeId} (hr : HRel m H w) (hl : MLow m H.n)
    (hs : VRel m s s') (hx : VRel m x x') (h : app sz by_ s x H = some (v, H')) (h0 : ts[0]? = some t) (hu : P.underlying t = some (.slice e)) (hsz : szOf P e = some sz) (hby : bytesOf P e = some by_)
    (hz : zeroOf P e = some z) (hzs : z.cells.size = sz) (hb0 : 0 < by_) (hs0 : 0 < sz) (h2 : ts[1]? = some t2) (hu2 : P.underlying t2 = some d2) (hd2 : ∀ k, d2 ≠ .int k) :
    ∃ m' v' w', (Builtin.append_ ts ty #[s', x']).run P w = .ok v' w' ∧ VRel m' v v' ∧ Step m H w m' H' w' := by
  unfold app at h
  split at h
  case h_2 => cases h
  rename_i n cs base len cap hadd
  obtain ⟨hlen, cs', hrel, hcl, hfirst⟩ := addend_sound (P := P) hr hx hadd
  have hcl' : cs'.length = n * sz := by rw [← hrel.1]; exact hcl
  have hfull : ∀ w', w'.heap = w.heap → (Builtin.firstCells sz n x').run P w' = .ok cs'.toArray w' := fun w' hw => by
    have := hfirst n (Nat.le_refl _) w' hw
    rwa [List.take_of_length_le (by omega)] at this
  have hone : cs.all Eng.oneC = true := by
    unfold addend at hadd
    split at hadd
    · split at hadd
      · simp only [Option.some.injEq, Prod.mk.injEq] at hadd; rw [← hadd.2]; rfl
      · cases hadd
    · split at hadd
      · simp only [Option.some.injEq, Prod.mk.injEq] at hadd; rw [← hadd.2]; rfl
      split at hadd
      · rename_i blk hb
        split at hadd
        · simp only [Option.some.injEq, Prod.mk.injEq] at hadd
          rw [← hadd.2, List.all_eq_true]
          have := hr.one _ _ hb
          rw [List.all_eq_true] at this
          exact fun y hy => this y (List.mem_of_mem_drop (List.mem_of_mem_take hy))
        · cases hadd
      · cases hadd
    · split at hadd
      case isFalse => cases hadd
      simp only [Option.some.injEq, Prod.mk.injEq] at hadd
      rw [← hadd.2, List.all_eq_true]
      intro y hy
      obtain ⟨c, _, rfl⟩ := List.mem_map.1 hy
      rfl
    · cases hadd
  split at h
  · rename_i hn
    subst hn
    simp only [Option.some.injEq, Prod.mk.injEq] at h
    obtain ⟨rfl, rfl⟩ := h
    have hcs : cs' = [] := List.eq_nil_of_length_eq_zero (by omega)
    subst hcs
    have hin : ∀ (base' : Option Addr) (cap' : Nat), s' = .slice base' len cap' → len ≤ cap' → (Builtin.append_ ts ty #[s', x']).run P w = .ok s' w := fun base' cap' he hle => by
      rw [he, run_app_in (ty := ty) h0 hu hsz h2 hu2 hd2 hlen (hfull w rfl) (by omega)]
      cases base' <;> simp [storeCells]
    cases base with
    | none =>
      obtain ⟨rfl, rfl, rfl⟩ := hs.slice_nil_inv
      exact ⟨m, _, w, hin _ _ rfl (Nat.le_refl _), hs, Step.refl hr⟩
    | some a =>
      obtain ⟨b, o, sp⟩ := a
      rcases hs.slice_inv with ⟨rfl, rfl, a', rfl⟩ | ⟨p, cap', hp, rfl, g1, g2, _, _⟩
      · exact ⟨m, _, w, hin _ _ rfl (Nat.le_refl _), hs, Step.refl hr⟩
      · exact ⟨m, _, w, hin _ _ rfl (by omega), hs, Step.refl hr⟩
  · rename_i hn
    split at h
    · cases h
    · rename_i hm
      have hm : (len + n) * by_ ≤ mostBytes := by omega
      have fresh : ∀ (H : Heap), HRel m H w → MLow m H.n → ∀ (base' : Option Addr) (cap' : Nat) (old old' : List Value), s' = .slice base' len cap' → cap' < len + n → old.length = len * sz → LRel m old old' → old.all Eng.oneC = true →
          (∀ w', w'.heap = w.heap → (Builtin.firstCells sz len (.slice base' len cap')).run P w' = .ok old'.toArray w') →
          ∃ room w1, (Builtin.append_ ts ty #[s', x']).run P w = .ok (.slice (some ⟨w.heap.size, 0, none⟩) (len + n) (len + n + room)) w1 ∧
            Step m H w (mput m H.n ⟨w.heap.size, 0, room⟩) (H.push ⟨old ++ cs, sz, true⟩) w1 := by
        intro H hr hl base' cap' old old' he hlt hol horel hoone hfo
        obtain ⟨nc, hnc, hrun⟩ := run_app_new (ty := ty) (base := base') h0 hu hsz h2 hu2 hd2 hby hb0 hz hlen hfull hfo hlt hm
        refine ⟨nc - (len + n), _, by rw [he, hrun, Nat.add_sub_cancel' hnc], ?_⟩
        have hol' : old'.length = len * sz := by rw [← horel.1]; exact hol
        refine Step.new hr hl (l := old ++ cs) (l' := old' ++ cs') (cs := old'.toArray ++ cs'.toArray ++ Builtin.zeroCells z.cells (nc - (len + n))) (e := e) (fr := (0, 0)) (LRel.append horel hrel)
          (by rw [List.all_append, hoone, hone]; rfl) ?_ ?_ (.inl rfl) ?_ rfl rfl rfl
        · simp only [List.length_append, Array.size_append, List.size_toArray, zeros_size, hzs]
          omega
        · intro i v hi
          have : i < (old' ++ cs').length := (List.getElem?_eq_some_iff.1 hi).1
          rw [Array.getElem?_append_left (by simp at this ⊢; omega)]
          simpa using hi
        · rfl
      have vnew : ∀ {B room : Nat} {m : Mp} {b : Nat}, VRel (mput m b ⟨B, 0, room⟩) (.slice (some ⟨b, 0, none⟩) (len + n) (len + n)) (.slice (some ⟨B, 0, none⟩) (len + n) (len + n + room)) := fun {B room m b} => by
        have := VRel.slc (m := mput m b ⟨B, 0, room⟩) (b := b) (o := 0) (p := ⟨B, 0, room⟩) (len := len + n) (cap := len + n) (cap' := len + n + room) (by simp [mput]) (by omega) (Nat.le_refl _) (Nat.le_refl _)
        simpa using this
      cases base with
      | none =>
        simp only at h
        split at h
        · rename_i hc
          obtain ⟨rfl, rfl⟩ := hc
          simp only [Option.some.injEq, Prod.mk.injEq] at h
          obtain ⟨rfl, rfl⟩ := h
          obtain ⟨_, _, rfl⟩ := hs.slice_nil_inv
          obtain ⟨room, w1, g1, g2⟩ := fresh H hr hl none 0 [] [] rfl (by omega) (by simp) LRel.nil rfl (fun w' _ => by simp [Builtin.firstCells])
          simp only [Nat.zero_add] at g1 vnew
          exact ⟨_, _, w1, g1, vnew, by simpa using g2⟩
        · cases h
      | some a =>
        obtain ⟨b, o, sp⟩ := a
        simp only at h
        split at h
        · cases h
        · rename_i blk hb
          split at h
          · rename_i hsp
            split at h
            · rename_i hc
              obtain ⟨hc1, hc2⟩ := hc
              simp only [Option.some.injEq, Prod.mk.injEq] at h
              obtain ⟨rfl, rfl⟩ := h
              have hco : (cut blk.cells o (len * sz)).all Eng.oneC = true := by
                rw [List.all_eq_true]
                have := hr.one _ _ hb
                rw [List.all_eq_true] at this
                exact fun y hy => this y (List.mem_of_mem_drop (List.mem_of_mem_take hy))
              rcases hs.slice_inv with ⟨rfl, rfl, a', rfl⟩ | ⟨p, cap', hp, rfl, g1, g2, g3, g4⟩
              · obtain ⟨room, w1, g1, g2⟩ := fresh H hr hl (some a') 0 [] [] rfl (by omega) (by simp) LRel.nil rfl (fun w' _ => by simp [Builtin.firstCells, loadCells, loadCellsFrom])
                exact ⟨_, _, w1, g1, vnew, by simpa [cut] using g2⟩
              · obtain ⟨l', k1, k2, k3⟩ := first_slice (P := P) hr hb hp len sz cap' hc2
                have hcap : cap' = cap := by
                  rcases Bool.or_eq_true_iff.1 hsp with hsp | hsp
                  · rcases g4 with g4 | g4
                    · rw [g4] at hsp; cases hsp
                    · exact g4.2
                  · have := hr.froz b blk p hb (by simpa using hsp) hp
                    omega
                obtain ⟨room, w1, j1, j2⟩ := fresh H hr hl _ cap' (cut blk.cells o (len * sz)) l' rfl (by omega) (by simp [cut]; omega) k2 hco k3
                exact ⟨_, _, w1, j1, vnew, j2⟩
            · cases h
          · rename_i hsp
            have hown : blk.own = true := by
              cases ho : blk.own with
              | true => rfl
              | false => exact absurd (by simp [ho]) hsp
            split at h
            · rename_i hc
              obtain ⟨rfl, hc2, hc3⟩ := hc
              simp only [Option.some.injEq, Prod.mk.injEq] at h
              obtain ⟨rfl, rfl⟩ := h
              have hK := Step.kill hr hb hown
              have hdrop : blk.cells.drop o = cut blk.cells o (len * sz) := by
                unfold cut; rw [List.take_of_length_le (by simp; omega)]
              have hco : (cut blk.cells o (len * sz)).all Eng.oneC = true := by
                rw [List.all_eq_true]
                have := hr.one _ _ hb
                rw [List.all_eq_true] at this
                exact fun y hy => this y (List.mem_of_mem_drop (List.mem_of_mem_take hy))
              rcases hs.slice_inv with ⟨rfl, _, a', rfl⟩ | ⟨p, cap', hp, rfl, g1, g2, g3, g4⟩
              · obtain ⟨room, w1, g1, g2⟩ := fresh _ hK.rel hl (some a') 0 [] [] rfl (by omega) (by simp) LRel.nil rfl (fun w' _ => by simp [Builtin.firstCells, loadCells, loadCellsFrom])
                exact ⟨_, _, w1, g1, vnew, hK.trans (by rw [hdrop, show cut blk.cells o (0 * sz) = [] by simp [cut]]; exact g2)⟩
              · by_cases hin : len + n ≤ cap'
                · have hpl : blk.plain = true := by
                    cases hq : blk.plain with
                    | true => rfl
                    | false => have := ((hr.blk b blk p hb hp).none hq).2.1; omega
                  obtain ⟨cs0, e0, fr0, hh, hsz0, hc0, hf0⟩ := (hr.blk b blk p hb hp).plain hpl
                  have hnr : n ≤ p.room := by omega
                  have hnrz : n * sz ≤ p.room * blk.sz := by rw [hc3]; exact Nat.mul_le_mul_right _ hnr
                  have hst := run_storeCells_spl (P := P) (g := p.blk) (o := p.off + blk.cells.length) (e := e0) (fr := fr0) cs' 0 cs0 w hh (by omega) (fun j h1 h2 => (hf0 hown).not (by omega)) (hrel.allOne hone)
                  refine ⟨_, .slice (some ⟨p.blk, p.off + o, none⟩) (len + n) cap', _, ?_, ?_, hc3 ▸ Step.grow hr hl (k := n) hb hown hp hh (by omega) (by rw [hc3]; exact hcl) hnr hrel hone⟩
                  · rw [run_app_in (ty := ty) h0 hu hsz h2 hu2 hd2 hlen (hfull w rfl) hin]
                    simp only [add_plain, show p.off + o + len * sz = p.off + blk.cells.length by omega, hst, Result.andThen, Nat.add_zero]
                  · have := VRel.slc (m := mput m H.n ⟨p.blk, p.off + o, p.room - n⟩) (b := H.n) (o := 0) (p := ⟨p.blk, p.off + o, p.room - n⟩) (len := len + n) (cap := len + n) (cap' := cap') (by simp [mput]) hin (by simp only; omega) (Nat.le_refl _)
                    simpa using this
                · obtain ⟨l', k1, k2, k3⟩ := first_slice (P := P) (o := o) hr hb hp len sz cap' (by omega)
                  obtain ⟨room, w1, j1, j2⟩ := fresh _ hK.rel hl _ cap' (cut blk.cells o (len * sz)) l' rfl (by omega) (by simp [cut]; omega) k2 hco k3
                  exact ⟨_, _, w1, j1, vnew, hK.trans (by rw [hdrop]; exact j2)⟩
            · split at h
              case isFalse => cases h
              rename_i hc
              obtain ⟨hc1, hc2⟩ := hc
              simp only [Option.some.injEq, Prod.mk.injEq] at h
              obtain ⟨rfl, rfl⟩ := h
              rcases hs.slice_inv with ⟨rfl, rfl, a', rfl⟩ | ⟨p, cap', hp, rfl, g1, g2, g3, g4⟩
              · omega
              · have hpl : blk.plain = true := by
                  cases hq : blk.plain with
                  | true => rfl
                  | false =>
                    have h1 := ((hr.blk b blk p hb hp).none hq).1
                    rw [h1] at hc2
                    have h2 : 0 < (len + n) * sz := Nat.mul_pos (by omega) hs0
                    simp only [List.length_nil] at hc2; omega
                obtain ⟨cs0, e0, fr0, hh, hsz0, hc0, hf0⟩ := (hr.blk b blk p hb hp).plain hpl
                have hadd2 : (len + n) * sz = len * sz + n * sz := Nat.add_mul _ _ _
                have hst := run_storeCells_spl (P := P) (g := p.blk) (o := p.off + (o + len * sz)) (e := e0) (fr := fr0) cs' 0 cs0 w hh
                  (by have := Nat.le_trans (Nat.le_add_right _ _) hsz0; omega) (fun j h1 h2 => (hf0 hown).not (by have := Nat.zero_le (p.room * blk.sz); omega)) (hrel.allOne hone)
                refine ⟨m, .slice (some ⟨p.blk, p.off + o, none⟩) (len + n) cap', _, ?_, ?_, Step.write hr hb hown hp hh (by rw [hcl]; omega) hrel hone⟩
                · rw [run_app_in (ty := ty) h0 hu hsz h2 hu2 hd2 hlen (hfull w rfl) (by omega)]
                  simp only [add_plain, show p.off + o + len * sz = p.off + (o + len * sz) by omega, hst, Result.andThen, Nat.add_zero]
                · have hsp' : sp = none := by
                    cases sp with
                    | none => rfl
                    | some x => exact absurd (by simp) hsp
                  rcases g4 with g4 | g4
                  · exact .slc hp g2 g3 hc1
                  · rw [hsp'] at g4; cases g4.1

end Go.Eng

set_option linter.unusedVariables false
namespace Go.Eng
open Go

theorem LRel.eq_flat {m : Mp} {l l' : List Value} (h : LRel m l l') (hf : l.all flat1 = true) : l' = l := by
  induction l generalizing l' with
  | nil => exact h.cases_nil
  | cons v l ih =>
    obtain ⟨v', r', rfl, h1, h2⟩ := h.cases_cons
    simp only [List.all_cons, Bool.and_eq_true] at hf
    rw [h1.eq_of_flat1 hf.1, ih h2 hf.2]

theorem cpy_sound {P : Program} {m : Mp} {H H' : Heap} {w : World} {d d' x x' v : Value} {sz : Nat} {t ty e : TypeId} {ts : Array TypeId} (hr : HRel m H w)
    (hd : VRel m d d') (hx : VRel m x x') (h : cpy sz d x H = some (v, H')) (h0 : ts[0]? = some t) (hu : P.underlying t = some (.slice e)) (hsz : szOf P e = some sz) :
    ∃ w', (Builtin.copy_ ts ty #[d', x']).run P w = .ok v w' ∧ VRel m v v ∧ Step m H w m H' w' := by
  unfold cpy at h
  split at h
  case h_2 => cases h
  rename_i base len cap n cs hadd
  obtain ⟨hlen, cs', hrel, hcl, hfirst⟩ := addend_sound (P := P) hr hx hadd
  have hk := hfirst (Nat.min n len) (Nat.min_le_left _ _) w rfl
  have hone : cs.all Eng.oneC = true := by
    unfold addend at hadd
    split at hadd
    · split at hadd
      · simp only [Option.some.injEq, Prod.mk.injEq] at hadd; rw [← hadd.2]; rfl
      · cases hadd
    · split at hadd
      · simp only [Option.some.injEq, Prod.mk.injEq] at hadd; rw [← hadd.2]; rfl
      split at hadd
      · rename_i blk hb
        split at hadd
        · simp only [Option.some.injEq, Prod.mk.injEq] at hadd
          rw [← hadd.2, List.all_eq_true]
          have := hr.one _ _ hb
          rw [List.all_eq_true] at this
          exact fun y hy => this y (List.mem_of_mem_drop (List.mem_of_mem_take hy))
        · cases hadd
      · cases hadd
    · split at hadd
      case isFalse => cases hadd
      simp only [Option.some.injEq, Prod.mk.injEq] at hadd
      rw [← hadd.2, List.all_eq_true]
      intro y hy
      obtain ⟨c, _, rfl⟩ := List.mem_map.1 hy
      rfl
    · cases hadd
  have run : ∀ (base' : Option Addr) (cap' : Nat), d' = .slice base' len cap' → (Builtin.copy_ ts ty #[d', x']).run P w =
      match base' with
      | some a => ((storeCells a (cs'.take (Nat.min n len * sz))).run P w).andThen fun _ w' => .ok (.int .i64 (Nat.min n len)) w'
      | none => .ok (.int .i64 (Nat.min n len)) w := fun base' cap' he => by
    subst he
    simp only [Builtin.copy_, h0]
    simp [run_underlying hu, hlen, run_size hsz, hk, goInt]
    cases base' <;> simp
  cases base with
  | none =>
    simp only [Option.some.injEq, Prod.mk.injEq] at h
    obtain ⟨rfl, rfl⟩ := h
    obtain ⟨rfl, rfl, rfl⟩ := hd.slice_nil_inv
    exact ⟨w, run _ _ rfl, .flat rfl, Step.refl hr⟩
  | some a =>
    obtain ⟨b, o, sp⟩ := a
    simp only at h
    split at h
    case h_2 => cases h
    rename_i blk hb
    split at h
    case isFalse => cases h
    rename_i hc
    obtain ⟨ho, hle⟩ := hc
    obtain ⟨ho, hpl⟩ := Blk.w_iff.1 ho
    simp only [Option.some.injEq, Prod.mk.injEq] at h
    obtain ⟨rfl, rfl⟩ := h
    have htl : (cs.take (Nat.min n len * sz)).length = Nat.min n len * sz := by
      rw [List.length_take, hcl]
      exact Nat.min_eq_left (Nat.mul_le_mul_right sz (Nat.min_le_left n len))
    have hto : (cs.take (Nat.min n len * sz)).all Eng.oneC = true := by
      rw [List.all_eq_true] at hone ⊢
      exact fun y hy => hone y (List.mem_of_mem_take hy)
    rcases hd.slice_inv with ⟨rfl, _, a', rfl⟩ | ⟨p, cap', hp, rfl, g1, g2, g3, g4⟩
    · refine ⟨w, by rw [run _ _ rfl]; simp [storeCells], .flat rfl, ?_⟩
      have hz : cs.take (Nat.min n 0 * sz) = [] := by simp
      rw [hz]
      have : H.upd b (some ⟨splice blk.cells o [], blk.sz, true⟩) = H := by
        simp only [Heap.upd, splice, List.append_nil, List.length_nil, Nat.add_zero, List.take_append_drop]
        rw [Blk.eta' ho hpl]
        congr 1
        funext i
        split
        · rename_i he; subst he; rw [hb]
        · rfl
      rw [this]
      exact Step.refl hr
    · obtain ⟨cs0, e0, fr0, hh, hsz0, hc0, hf0⟩ := (hr.blk b blk p hb hp).plain hpl
      have htl' : (cs'.take (Nat.min n len * sz)).length = Nat.min n len * sz := by rw [← (hrel.take _).1]; exact htl
      have hst := run_storeCells_spl (P := P) (g := p.blk) (o := p.off + o) (e := e0) (fr := fr0) (cs'.take (Nat.min n len * sz)) 0 cs0 w hh
        (by have := Nat.le_trans (Nat.le_add_right _ _) hsz0; omega) (fun j h1 h2 => (hf0 ho).not (by have := Nat.zero_le (p.room * blk.sz); omega)) ((hrel.take _).allOne hto)
      refine ⟨_, by rw [run _ _ rfl]; simp only [hst, Result.andThen, Nat.add_zero], .flat rfl, Step.write hr hb ho hp hh (by omega) (hrel.take _) hto⟩

theorem bytes_flat : ∀ {l : List Value} {r : List UInt8}, l.mapM byteOf = some r → l.all flat1 = true ∧ ∃ ns : List Int, l = ns.map (Value.int .u8) ∧ r = ns.map fun n => UInt8.ofNat n.toNat
  | [], r, h => by simp at h; subst h; exact ⟨rfl, [], rfl, rfl⟩
  | v :: l, r, h => by
    rw [List.mapM_cons] at h
    cases hv : byteOf v with
    | none => simp [hv] at h
    | some c =>
      cases hl : l.mapM byteOf with
      | none => simp [hv, hl] at h
      | some r' =>
        simp [hv, hl] at h
        subst h
        obtain ⟨h1, ns, rfl, rfl⟩ := bytes_flat hl
        unfold byteOf at hv
        split at hv
        · rename_i n
          simp only [Option.some.injEq] at hv
          subst hv
          exact ⟨by simp only [List.all_cons, h1, Bool.and_true]; rfl, n :: ns, rfl, rfl⟩
        · cases hv

theorem foldl_push : ∀ (ns : List Int) (r : ByteArray), ns.foldl (fun r n => r.push (UInt8.ofNat n.toNat)) r = ⟨r.data ++ (ns.map fun n => UInt8.ofNat n.toNat).toArray⟩
  | [], r => by simp
  | n :: ns, r => by
    simp only [List.foldl_cons]
    rw [foldl_push ns]
    simp [ByteArray.push]

theorem toStr_sound {P : Program} {m : Mp} {H H' : Heap} {w : World} {x x' v : Value} {src dst e : TypeId} (hr : HRel m H w) (hx : VRel m x x') (h : toStr x H = some (v, H'))
    (hs : P.underlying src = some (.slice e)) (he : P.underlying e = some (.int .u8)) (hd : P.underlying dst = some .string) : H' = H ∧ (convert src dst x').run P w = .ok v w ∧ VRel m v v := by
  unfold toStr at h
  split at h
  · simp only [Option.some.injEq, Prod.mk.injEq] at h
    obtain ⟨rfl, rfl⟩ := h
    obtain ⟨_, _, rfl⟩ := hx.slice_nil_inv
    exact ⟨rfl, by rw [run_convert_bytes_string w src dst e _ _ _ hs he hd]; simp [Conv.bytesToString], .flat rfl⟩
  · rename_i b o sp n cap
    split at h
    · rename_i hn
      simp only [Option.some.injEq, Prod.mk.injEq] at h
      obtain ⟨rfl, rfl⟩ := h
      have hz : ∃ a' cap', x' = .slice (some a') 0 cap' := by
        rcases hx.slice_inv with ⟨_, _, a', rfl⟩ | ⟨p, cap', hp, rfl, _⟩
        · exact ⟨a', 0, rfl⟩
        · exact ⟨_, cap', by rw [hn]⟩
      obtain ⟨a', cap', rfl⟩ := hz
      refine ⟨rfl, ?_, .flat rfl⟩
      rw [run_convert_bytes_string w src dst e _ _ _ hs he hd, run_bytesToString w a' 0 cap' [] (by simp [loadCells, loadCellsFrom])]
      rfl
    split at h
    case h_2 => cases h
    rename_i blk hb
    split at h
    case isFalse => cases h
    rename_i hle
    split at h
    case h_2 => cases h
    rename_i l hl
    simp only [Option.some.injEq, Prod.mk.injEq] at h
    obtain ⟨rfl, rfl⟩ := h
    obtain ⟨hfl, ns, hns, rfl⟩ := bytes_flat hl
    refine ⟨rfl, ?_, .flat rfl⟩
    have key : ∀ (a : Addr) (cap' : Nat), (loadCells a n).run P w = .ok (ns.map (Value.int .u8)).toArray w → (convert src dst (.slice (some a) n cap')).run P w = .ok (.string ⟨(ns.map fun n => UInt8.ofNat n.toNat).toArray⟩) w := fun a cap' hload => by
      rw [run_convert_bytes_string w src dst e _ _ _ hs he hd, run_bytesToString w a n cap' ns hload, foldl_push]
      simp
    rcases hx.slice_inv with ⟨rfl, _, a', rfl⟩ | ⟨p, cap', hp, rfl, g1, g2, g3, g4⟩
    · have : ns = [] := by
        have := congrArg List.length hns
        simp [cut] at this
        exact List.eq_nil_of_length_eq_zero (by simpa using this.symm)
      subst this
      exact key a' 0 (by simp [loadCells, loadCellsFrom])
    · obtain ⟨l', k1, k2, k3⟩ := hr.cells hb hp hle
      refine key _ _ ?_
      rw [← hns, ← k2.eq_flat hfl]
      exact run_cells k1 k3
  · cases h


theorem ofStr_sound {P : Program} {m : Mp} {H H' : Heap} {w : World} {x x' v : Value} {src dst e : TypeId} (hr : HRel m H w) (hl : MLow m H.n) (hx : VRel m x x') (h : ofStr x H = some (v, H'))
    (hs : P.underlying src = some .string) (he : P.underlying e = some (.int .u8)) (hd : P.underlying dst = some (.slice e)) :
    ∃ m' v' w', (convert src dst x').run P w = .ok v' w' ∧ VRel m' v v' ∧ Step m H w m' H' w' := by
  unfold ofStr at h
  split at h
  case h_2 => cases h
  rename_i s
  split at h
  case isFalse => cases h
  simp only [Option.some.injEq, Prod.mk.injEq] at h
  obtain ⟨rfl, rfl⟩ := h
  obtain rfl := hx.string_inv
  have hrun := run_bytes_of_string w src dst e s hs hd he
  have hge : s.size ≤ grownCap w s.size 0 e := by simp [grownCap, Question.cut]
  have hsz : (bytesRow s (grownCap w s.size 0 e)).size = grownCap w s.size 0 e := by
    simp only [bytesRow, Array.size_append, Array.size_map, Array.size_replicate]
    show s.data.size + _ = _
    have : s.data.size = s.size := rfl
    omega
  have hfl : ∀ l : List UInt8, LRel m (l.map fun c => Value.int .u8 c.toNat) (l.map fun c => Value.int .u8 c.toNat) := fun l => by
    induction l with
    | nil => exact LRel.nil
    | cons c l ih => exact LRel.cons (.flat rfl) ih
  have hlen : s.data.toList.length = s.size := by simp
  refine ⟨mput m H.n ⟨w.heap.size, 0, grownCap w s.size 0 e - s.size⟩, _, _, hrun, ?_, Step.new hr hl (sz := 1) (room := grownCap w s.size 0 e - s.size) (hfl _) ?_ ?_ ?_ ?_ rfl rfl rfl rfl⟩
  · have := VRel.slc (m := mput m H.n ⟨w.heap.size, 0, grownCap w s.size 0 e - s.size⟩) (b := H.n) (o := 0) (p := ⟨w.heap.size, 0, grownCap w s.size 0 e - s.size⟩) (len := s.size) (cap := s.size) (cap' := grownCap w s.size 0 e) (by simp [mput]) hge (by simp only; omega) (Nat.le_refl _)
    simpa using this
  · rw [List.all_eq_true]
    intro y hy
    obtain ⟨c, _, rfl⟩ := List.mem_map.1 hy
    rfl
  · rw [List.length_map, hlen, hsz]; omega
  · intro i v hv
    have hi : i < (s.data.toList.map fun c => Value.int .u8 c.toNat).length := (List.getElem?_eq_some_iff.1 hv).1
    unfold bytesRow
    rw [Array.getElem?_append_left (by simpa using hi)]
    simpa using hv
  · right
    rw [List.length_map, hlen]
    simp only [hsz]
    omega

theorem fAddr_sound {P : Program} {m : Mp} {w : World} {a a' v : Value} {s : TypeId} {fs : Array Field} {f k : Nat} {fl : Field} (ha : VRel m a a') (hu : P.underlying s = some (.struct fs)) (hf : fs[f]? = some fl)
    (hk : szOf P fl.type = some (k + 1)) (h : fAddr fl.offset a = some v) : ∃ v', (Instr.fieldAt s a' f).run P w = .ok v' w ∧ VRel m v v' := by
  unfold fAddr at h
  split at h
  case h_2 => cases h
  rename_i b o
  simp only [Option.some.injEq] at h
  subst h
  obtain ⟨p, hp, rfl⟩ := ha.ptr_inv
  refine ⟨.pointer (some ⟨p.blk, p.off + (o + fl.offset), none⟩), ?_, .ptr hp⟩
  simp [Instr.fieldAt, run_underlying hu, hf, Instr.sureAddr, fieldPlace, run_size hk, add_plain, Nat.add_assoc]
theorem iAddrS_sound {P : Program} {m : Mp} {w : World} {x x' i i' v : Value} {t e : TypeId} {sz : Nat} (hx : VRel m x x') (hi : VRel m i i') (hu : P.underlying t = some (.slice e)) (hk : szOf P e = some sz)
    (h : iAddrS sz x i = some v) : ∃ v', (Instr.indexAt t x' i').run P w = .ok v' w ∧ VRel m v v' := by
  unfold iAddrS at h
  split at h
  case h_2 => cases h
  rename_i b o sp len cap k n
  split at h
  case isFalse => cases h
  rename_i hc
  simp only [Option.some.injEq] at h
  subst h
  obtain rfl := hi.int_inv
  rcases hx.slice_inv with ⟨rfl, _, a', rfl⟩ | ⟨p, cap', hp, rfl, g1, g2, g3, g4⟩
  · exact absurd hc (by omega)
  · refine ⟨.pointer (some ⟨p.blk, p.off + (o + n.toNat * sz), none⟩), ?_, .ptr hp⟩
    simp [Instr.indexAt, asIntOf, run_underlying hu, run_size hk, hc.1, hc.2, add_plain, Nat.add_assoc]
theorem iAddrA_sound {P : Program} {m : Mp} {w : World} {x x' i i' v : Value} {t e : TypeId} {len sz : Nat} (hx : VRel m x x') (hi : VRel m i i') (hu : P.underlying t = some (.array len e)) (hk : szOf P e = some sz)
    (h : iAddrA len sz x i = some v) : ∃ v', (Instr.indexAt t x' i').run P w = .ok v' w ∧ VRel m v v' := by
  unfold iAddrA at h
  split at h
  case h_2 => cases h
  rename_i b o k n
  split at h
  case isFalse => cases h
  rename_i hc
  simp only [Option.some.injEq] at h
  subst h
  obtain rfl := hi.int_inv
  obtain ⟨p, hp, rfl⟩ := hx.ptr_inv
  refine ⟨.pointer (some ⟨p.blk, p.off + (o + n.toNat * sz), none⟩), ?_, .ptr hp⟩
  simp [Instr.indexAt, asIntOf, run_underlying hu, run_size hk, hc.1, hc.2, Instr.sureAddr, add_plain, Nat.add_assoc]
theorem partV_sound {P : Program} {m : Mp} {w : World} {cs cs' : Array Value} {v : Value} {t : TypeId} {ag : Bool} {k off : Nat} (hx : LRel m cs.toList cs'.toList) (ha : isAggT P t = some ag) (hk : szOf P t = some k)
    (h : partV ag k off (.agg cs) = some v) : ∃ v', (part t cs' off).run P w = .ok v' w ∧ VRel m v v' := by
  simp only [partV] at h
  split at h
  · rename_i hag
    split at h
    case isFalse => cases h
    simp only [Option.some.injEq] at h
    subst h
    refine ⟨.agg (cs'.extract off (off + k)), ?_, ?_⟩
    · simp [part, run_isAgg ha, hag, run_size hk]
    · refine .agg' ?_
      simp only [Array.toList_extract]
      have := hx.cut off k
      simpa [cut, List.extract_eq_take_drop] using this
  · rename_i hag
    have hag : ag = false := by simpa using hag
    obtain ⟨v', g1, g2⟩ := hx.get h
    refine ⟨v', ?_, g2⟩
    rw [Array.getElem?_toList] at g1
    simp [part, run_isAgg ha, hag, g1]
theorem VRel.agg_inv {m : Mp} {cs : Array Value} {v' : Value} (h : VRel m (.agg cs) v') : ∃ cs', v' = .agg cs' ∧ LRel m cs.toList cs'.toList := by
  cases h with
  | agg a b => exact ⟨_, rfl, a, b⟩
  | flat h => simp [flat1] at h
theorem VRel.tuple_inv {m : Mp} {cs : Array Value} {v' : Value} (h : VRel m (.tuple cs) v') : ∃ cs', v' = .tuple cs' ∧ LRel m cs.toList cs'.toList := by
  cases h with
  | tuple a b => exact ⟨_, rfl, a, b⟩
  | flat h => simp [flat1] at h
theorem idxA_sound {P : Program} {m : Mp} {w : World} {x x' i i' v : Value} {t e : TypeId} {len sz : Nat} {ag : Bool} (hx : VRel m x x') (hi : VRel m i i') (hu : P.underlying t = some (.array len e)) (ha : isAggT P e = some ag) (hk : szOf P e = some sz)
    (h : idxA ag len sz x i = some v) : ∃ v', (Instr.index t x' i').run P w = .ok v' w ∧ VRel m v v' := by
  unfold idxA at h
  split at h
  case h_2 => cases h
  rename_i k n
  split at h
  case isFalse => cases h
  rename_i hc
  obtain rfl := hi.int_inv
  cases x <;> first | (simp [partV] at h; done) | skip
  rename_i cs
  obtain ⟨cs', rfl, hl⟩ := hx.agg_inv
  obtain ⟨v', g1, g2⟩ := partV_sound (P := P) (w := w) hl ha hk h
  exact ⟨v', by simp [Instr.index, asIntOf, run_underlying hu, run_size hk, hc.1, hc.2, g1], g2⟩
theorem idxS_sound {P : Program} {m : Mp} {w : World} {x x' i i' v : Value} {t : TypeId} (hx : VRel m x x') (hi : VRel m i i') (hu : P.underlying t = some .string)
    (h : idxS x i = some v) : (Instr.index t x' i').run P w = .ok v w ∧ VRel m v v := by
  unfold idxS at h
  split at h
  case h_2 => cases h
  rename_i s k n
  split at h
  case isFalse => cases h
  rename_i hc
  obtain rfl := hi.int_inv
  obtain rfl := hx.string_inv
  cases hs : s.data.toList[n.toNat]? with
  | none => simp [hs] at h
  | some c =>
    simp only [hs, Option.map_some, Option.some.injEq] at h
    subst h
    have : s[n.toNat]? = some c := by
      have hlt := (List.getElem?_eq_some_iff.1 hs).1
      have hlt' : n.toNat < s.size := by simpa using hlt
      rw [getElem?_pos s n.toNat hlt']
      have := (List.getElem?_eq_some_iff.1 hs).2
      congr 1
    exact ⟨by simp [Instr.index, asIntOf, run_underlying hu, hc, this], .flat rfl⟩

theorem mark_sound {P : Program} {m : Mp} {H H' : Heap} {w : World} {x x' v : Value} {t e : TypeId} (hr : HRel m H w) (hx : VRel m x x') (h : markV x H = some (v, H'))
    (hs : P.underlying t = some (.slice e)) (he : P.underlying e = some (.int .u8)) : ∃ v' w', (convert t t x').run P w = .ok v' w' ∧ VRel m v v' ∧ Step m H w m H' w' := by
  unfold markV at h
  split at h
  case h_2 => cases h
  rename_i b o n c
  split at h
  case h_2 => cases h
  rename_i blk hb
  split at h
  case isFalse => cases h
  rename_i hc
  obtain ⟨ho, hc0⟩ := hc
  simp only [Option.some.injEq, Prod.mk.injEq] at h
  obtain ⟨rfl, rfl⟩ := h
  rcases hx.slice_inv with ⟨_, rfl, a', rfl⟩ | ⟨p, cap', hp, rfl, g1, g2, g3, g4⟩
  · omega
  obtain ⟨ho, hpl⟩ := Blk.w_iff.1 ho
  obtain ⟨cs0, e0, fr0, hh, hsz0, hc0', hf0⟩ := (hr.blk b blk p hb hp).plain hpl
  have hg : p.blk < w.heap.size := (Array.getElem?_eq_some_iff.1 hh).1
  have hsh : w.shape? p.blk = some (e0, cs0.size) := by unfold World.shape?; rw [hh]
  have hz := hf0 ho
  obtain ⟨lo, hi⟩ := fr0
  have hfr : w.freeze ⟨p.blk, cs0.size, none⟩ 1 = wput w p.blk cs0 e0 (if lo == hi then (cs0.size, cs0.size + 1) else (min lo cs0.size, max hi (cs0.size + 1))) := by
    unfold World.freeze wput
    rw [if_neg (by decide)]
    congr 1
    apply Array.ext_getElem?
    intro i
    rw [Array.getElem?_modify, Array.getElem?_setIfInBounds]
    by_cases hi' : p.blk = i
    · subst hi'
      simp only [if_true, hh, hg, Option.map_some]
    · simp only [if_neg hi']
  have hz' : Fz (if lo == hi then (cs0.size, cs0.size + 1) else (min lo cs0.size, max hi (cs0.size + 1))) (p.off + blk.cells.length + p.room * blk.sz) := by
    split
    · right; exact hsz0
    · rename_i hne
      right
      rcases hz with hz | hz
      · simp at hne; simp at hz; exact absurd hz hne
      · simp only at hz ⊢; omega
  refine ⟨_, w.freeze ⟨p.blk, cs0.size, none⟩ 1, ?_, hx, ?_⟩
  · simp only [convert, Sem.run_bind, run_underlying hs, run_underlying he, Result.andThen]
    simp [markStringish, hsh]
  · rw [hfr]
    generalize (if lo == hi then (cs0.size, cs0.size + 1) else (min lo cs0.size, max hi (cs0.size + 1))) = fr' at hz'
    refine ⟨fun _ _ => rfl, Nat.le_refl _, ⟨hr.low, ?_, hr.inj, hr.one, hr.froz⟩, by simp [wput], ?_, fun b blk p q1 q2 q3 _ => ⟨b, blk, p, q1, q2, q3, rfl⟩, rfl, rfl, rfl, fun _ _ _ q _ => q, fun _ _ _ q _ => q, id, fun b k h1 h2 => by have := hr.low b k h2; omega⟩
    · intro b2 k2 p2 hb2 hp2
      by_cases he2 : b2 = b
      · subst he2
        rw [hb] at hb2; injection hb2 with hb2; subst hb2
        rw [hp] at hp2; injection hp2 with hp2; subst hp2
        exact .inl ⟨hpl, cs0, e0, fr', by rw [wput_heap hg, if_pos rfl], hsz0, hc0', fun _ => hz'⟩
      · have hne : p.blk ≠ p2.blk := hr.inj b b2 blk k2 p p2 (Ne.symm he2) hb ho hb2 hp hp2
        exact (hr.blk b2 k2 p2 hb2 hp2).at (by rw [wput_heap hg, if_neg hne])
    · intro c hc hn
      rw [wput_heap hg, if_neg (hn b blk p hb ho hp)]

end Go.Eng

set_option linter.unusedVariables false
namespace Go.Eng
open Go Go.IntWalk

def ORel (m : Mp) : Option Value → Option Value → Prop
  | none, none => True
  | some a, some b => VRel m a b
  | _, _ => False
theorem bound_inv {m : Mp} {v v' : Option Value} {d l : Nat} (hv : ORel m v v') (h : bound v d = some l) : (v = none ∧ v' = none ∧ l = d) ∨ ∃ k n, v = some (.int k n) ∧ v' = some (.int k n) ∧ 0 ≤ n ∧ l = n.toNat := by
  unfold bound at h
  split at h
  · cases v' with
    | none => exact .inl ⟨rfl, rfl, (Option.some.inj h).symm⟩
    | some _ => exact hv.elim
  · rename_i k n
    split at h
    case isFalse => cases h
    rename_i hn
    cases v' with
    | none => exact hv.elim
    | some b =>
      obtain rfl := VRel.int_inv hv
      exact .inr ⟨k, n, rfl, rfl, hn, (Option.some.inj h).symm⟩
  · cases h
theorem bounds_sound {P : Program} {m : Mp} {w : World} {isS : Bool} {len cap cap' l h mm : Nat} {lo lo' hi hi' mx mx' : Option Value} (r1 : ORel m lo lo') (r2 : ORel m hi hi') (r3 : ORel m mx mx')
    (hl : bound lo 0 = some l) (hh : bound hi len = some h) (hm : bound mx cap = some mm) (h1 : l ≤ h) (h2 : h ≤ mm) (h3 : mm ≤ cap) (h4 : cap ≤ cap') (hx : (mx.isNone || hi.isSome) = true) :
    (Instr.sliceBounds isS len cap' lo' hi' mx').run P w = .ok (l, h, if mx.isSome then mm else cap') w := by
  unfold Instr.sliceBounds
  have sb : ∀ (k : IntKind) (n : Int) (y : Nat) (c : BoundsCode), 0 ≤ n → n.toNat ≤ y → (Instr.sliceBound (.int k n) y c).run P w = .ok n.toNat w := fun k n y c q1 q2 => by
    have : n ≤ (y : Int) := by omega
    simp [Instr.sliceBound, asIntOf, q1, this]
  rcases bound_inv r3 hm with ⟨rfl, rfl, rfl⟩ | ⟨k3, n3, rfl, rfl, q3, rfl⟩
  · rcases bound_inv r2 hh with ⟨rfl, rfl, rfl⟩ | ⟨k2, n2, rfl, rfl, q2, rfl⟩
    · rcases bound_inv r1 hl with ⟨rfl, rfl, rfl⟩ | ⟨k1, n1, rfl, rfl, q1, rfl⟩
      · simp
      · simp [sb _ _ _ _ q1 h1]
    · rcases bound_inv r1 hl with ⟨rfl, rfl, rfl⟩ | ⟨k1, n1, rfl, rfl, q1, rfl⟩
      · simp [sb _ _ _ _ q2 (show n2.toNat ≤ cap' by omega)]
      · simp [sb _ _ _ _ q2 (show n2.toNat ≤ cap' by omega), sb _ _ _ _ q1 h1]
  · rcases bound_inv r2 hh with ⟨rfl, rfl, rfl⟩ | ⟨k2, n2, rfl, rfl, q2, rfl⟩
    · simp at hx
    · rcases bound_inv r1 hl with ⟨rfl, rfl, rfl⟩ | ⟨k1, n1, rfl, rfl, q1, rfl⟩
      · simp [sb _ _ _ _ q3 (show n3.toNat ≤ cap' by omega), sb _ _ _ _ q2 h2]
      · simp [sb _ _ _ _ q3 (show n3.toNat ≤ cap' by omega), sb _ _ _ _ q2 h2, sb _ _ _ _ q1 h1]

theorem slcStr_sound {P : Program} {m : Mp} {w : World} {x x' v : Value} {t : TypeId} {lo lo' hi hi' : Option Value} (hx : VRel m x x') (r1 : ORel m lo lo') (r2 : ORel m hi hi') (hu : P.underlying t = some .string)
    (h : slcStr x lo hi = some v) : (Instr.sliceAt t x' lo' hi' none).run P w = .ok v w ∧ VRel m v v := by
  unfold slcStr at h
  split at h
  case h_2 => cases h
  rename_i s
  split at h
  case h_2 => cases h
  rename_i l hh hl hh'
  split at h
  case isFalse => cases h
  rename_i hc
  simp only [Option.some.injEq] at h
  subst h
  obtain rfl := hx.string_inv
  have hb := bounds_sound (P := P) (w := w) (isS := false) (len := s.size) (cap := s.size) (cap' := s.size) r1 r2 (mx := none) (mx' := none) trivial hl hh' rfl hc.1 hc.2 (Nat.le_refl _) (Nat.le_refl _) rfl
  exact ⟨by simp [Instr.sliceAt, Instr.slice, run_underlying hu, hb], .flat rfl⟩

theorem slcS_sound {P : Program} {m : Mp} {w : World} {x x' v : Value} {t e : TypeId} {sz : Nat} {lo lo' hi hi' mx mx' : Option Value} (hx : VRel m x x') (r1 : ORel m lo lo') (r2 : ORel m hi hi') (r3 : ORel m mx mx')
    (hu : P.underlying t = some (.slice e)) (hk : szOf P e = some sz) (h : slcS sz x lo hi mx = some v) : ∃ v', (Instr.sliceAt t x' lo' hi' mx').run P w = .ok v' w ∧ VRel m v v' := by
  unfold slcS at h
  split at h
  case h_2 => cases h
  rename_i base len cap
  split at h
  case h_2 => cases h
  rename_i l hh mm hl hh' hmm
  split at h
  case isFalse => cases h
  rename_i hc
  obtain ⟨c1, c2, c3, c4⟩ := hc
  have run : ∀ (base' : Option Addr) (cap' : Nat), x' = .slice base' len cap' → cap ≤ cap' → (Instr.sliceAt t x' lo' hi' mx').run P w =
      .ok (.slice (if (if mx.isSome then mm else cap') = l then base' else base'.map (·.add (l * sz))) (hh - l) ((if mx.isSome then mm else cap') - l)) w := fun base' cap' he hle => by
    subst he
    have hb := bounds_sound (P := P) (w := w) (isS := true) (len := len) (cap := cap) (cap' := cap') r1 r2 r3 hl hh' hmm c1 c2 c3 hle c4
    simp [Instr.sliceAt, Instr.slice, run_underlying hu, hb, run_size hk]
  cases base with
  | none =>
    simp only [Option.some.injEq] at h
    subst h
    obtain ⟨rfl, rfl, rfl⟩ := hx.slice_nil_inv
    have : mm = 0 := by omega
    subst this
    have : l = 0 := by omega
    subst this
    have : hh = 0 := by omega
    subst this
    refine ⟨.slice none 0 0, ?_, .flat rfl⟩
    rw [run none 0 rfl (Nat.le_refl _)]
    simp
  | some a =>
    obtain ⟨b, o, sp⟩ := a
    simp only [Option.some.injEq] at h
    subst h
    rcases hx.slice_inv with ⟨rfl, rfl, a', rfl⟩ | ⟨p, cap', hp, rfl, g1, g2, g3, g4⟩
    · have : mm = 0 := by omega
      subst this
      have : l = 0 := by omega
      subst this
      have : hh = 0 := by omega
      subst this
      obtain ⟨p0, hp0⟩ := hx.slice_mapped
      refine ⟨.slice (some a') 0 0, ?_, by simpa using VRel.sl0 hp0⟩
      rw [run (some a') 0 rfl (Nat.le_refl _)]
      simp
    · refine ⟨_, run _ cap' rfl g2, ?_⟩
      by_cases hz : (if mx.isSome then mm else cap') = l
      · rw [if_pos hz]
        have hm0 : mm - l = 0 := by
          split at hz
          · omega
          · omega
        have hh0 : hh - l = 0 := by omega
        rw [hz, hm0, hh0, Nat.sub_self]
        exact .sl0 hp
      · rw [if_neg hz]
        simp only [Option.map_some, add_plain]
        rw [Nat.add_assoc]
        cases hms : mx.isSome with
        | true =>
          simp only [if_true]
          exact .slx hp (by omega)
        | false =>
          simp only [Bool.false_eq_true, if_false]
          have hmc : mm = cap := by
            cases mx with
            | none => simpa [bound] using hmm.symm
            | some _ => simp at hms
          subst hmc
          rcases g4 with rfl | ⟨rfl, rfl⟩
          · exact .slc hp (by omega) (by omega) (by omega)
          · exact .slx hp (by omega)


theorem slcA_sound {P : Program} {m : Mp} {w : World} {x x' v : Value} {t e : TypeId} {n sz : Nat} {lo lo' hi hi' mx mx' : Option Value} (hx : VRel m x x') (r1 : ORel m lo lo') (r2 : ORel m hi hi') (r3 : ORel m mx mx')
    (hu : P.underlying t = some (.array n e)) (hk : szOf P e = some sz) (h : slcA n sz x lo hi mx = some v) : ∃ v', (Instr.sliceAt t x' lo' hi' mx').run P w = .ok v' w ∧ VRel m v v' := by
  unfold slcA at h
  split at h
  case h_2 => cases h
  rename_i b o
  split at h
  case h_2 => cases h
  rename_i l hh mm hl hh' hmm
  split at h
  case isFalse => cases h
  rename_i hc
  obtain ⟨c1, c2, c3, c4⟩ := hc
  simp only [Option.some.injEq] at h
  subst h
  obtain ⟨p, hp, rfl⟩ := hx.ptr_inv
  have hb := bounds_sound (P := P) (w := w) (isS := false) (len := n) (cap := n) (cap' := n) r1 r2 r3 hl hh' hmm c1 c2 c3 (Nat.le_refl _) c4
  have hmx : (if mx.isSome then mm else n) = mm := by
    cases mx with
    | none => simpa [bound] using hmm
    | some _ => rfl
  rw [hmx] at hb
  refine ⟨.slice (some (if mm = l then ⟨p.blk, p.off + o, none⟩ else ⟨p.blk, p.off + (o + l * sz), none⟩)) (hh - l) (mm - l), ?_, ?_⟩
  · simp [Instr.sliceAt, run_underlying hu, Instr.sureAddr, hb, run_size hk, add_plain, Nat.add_assoc]
  · by_cases hz : mm = l
    · rw [if_pos hz, show hh - l = 0 by omega, show mm - l = 0 by omega]; exact .sl0 hp
    · rw [if_neg hz]; exact .slx hp (by omega)

theorem splice_rel {m : Mp} {l l' vs vs' : List Value} (h : LRel m l l') (h' : LRel m vs vs') (o : Nat) : LRel m (splice l o vs) (splice l' o vs') := by
  unfold splice
  rw [← h'.1]
  exact ((h.take o).append h').append (h.drop _)
theorem fill_cells (cells : Array Value) (off : Nat) (vs : List Value) (h : off + vs.length ≤ cells.size) :
    (vs.toArray.zipIdx.foldl (fun cs (c, j) => cs.setIfInBounds (off + j) c) cells).toList = splice cells.toList off vs := by
  have key : ∀ (vs : List Value) (k : Nat) (cells : Array Value), off + k + vs.length ≤ cells.size → ((vs.zipIdx k).foldl (fun cs (c, j) => Array.setIfInBounds cs (off + j) c) cells) = spl cells (off + k) vs := by
    intro vs
    induction vs with
    | nil => intro k cells _; rfl
    | cons v vs ih =>
      intro k cells hk
      simp only [List.length_cons] at hk
      simp only [List.zipIdx_cons, List.foldl_cons, spl]
      rw [ih (k + 1) _ (by simp; omega)]
      rfl
  rw [← Array.foldl_toList, Array.toList_zipIdx]
  rw [key vs 0 cells (by omega)]
  apply List.ext_getElem?
  intro i
  rw [splice_get (by simpa using h), Array.getElem?_toList, spl_get _ _ _ _ (by omega)]
  simp
theorem fillC_sound {m : Mp} (place : Nat → Option (Nat × Nat)) : ∀ (ps : List (Nat × Value)) (ps' : List (Nat × Value)) (pl : List (Nat × Nat × Value)) (cells cells' : List Value) (r : List Value),
    ps.map (·.1) = ps'.map (·.1) → LRel m (ps.map (·.2)) (ps'.map (·.2)) → (∀ (i : Nat) a, ps[i]? = some a → ∃ o s, place a.1 = some (o, s) ∧ pl[i]? = some (o, s, a.2)) → pl.length = ps.length → LRel m cells cells' →
    fillC cells pl = some r → ∃ r', Instr.fill place cells'.toArray ps' = some r' ∧ LRel m r r'.toList
  | [], ps', pl, cells, cells', r, h1, h2, h3, h4, h5, h6 => by
    cases ps' with
    | cons a b => simp at h1
    | nil =>
      have : pl = [] := List.eq_nil_of_length_eq_zero h4
      subst this
      simp only [fillC, Option.some.injEq] at h6
      subst h6
      exact ⟨cells'.toArray, rfl, h5⟩
  | (i, v) :: ps, ps', pl, cells, cells', r, h1, h2, h3, h4, h5, h6 => by
    cases ps' with
    | nil => simp at h1
    | cons a ps' =>
      obtain ⟨i', v'⟩ := a
      simp only [List.map_cons, List.cons.injEq] at h1
      obtain ⟨rfl, h1⟩ := h1
      simp only [List.map_cons] at h2
      obtain ⟨o, s, q1, q2⟩ := h3 0 (i, v) rfl
      cases pl with
      | nil => simp at q2
      | cons x pl =>
        simp only [List.getElem?_cons_zero, Option.some.injEq] at q2
        subst q2
        simp only [fillC] at h6
        split at h6
        case isFalse => cases h6
        rename_i hc
        have hv := h2.head
        have hsz : v'.cells.size = v.cells.size := LRel.size hv.cells
        have hl : cells'.toArray.size = cells.length := by simp [h5.1]
        have hle : o + v'.cells.toList.length ≤ cells'.toArray.size := by rw [hl]; simp [hsz]; omega
        have hf := fill_cells cells'.toArray o v'.cells.toList hle
        obtain ⟨r', g1, g2⟩ := fillC_sound place ps ps' pl _ (splice cells' o v'.cells.toList) r h1 h2.tail (fun i a ha => by have := h3 (i + 1) a (by simpa using ha); simpa using this) (by simpa using h4) (splice_rel h5 hv.cells o) h6
        refine ⟨r', ?_, g2⟩
        simp only [Instr.fill, q1]
        have hl' := h5.1
        have hc2 := hc.2
        rw [if_neg (by simp only [hsz, hc.1, List.size_toArray]; simp; omega)]
        rw [← g1]
        congr 1
        apply Array.ext'
        simpa using hf


theorem run_mapM {α β : Type} {P : Program} {w : World} {f : α → Sem β} {g : α → Option β} (hf : ∀ a b, g a = some b → (f a).run P w = .ok b w) : ∀ (l : List α) (r : List β), l.mapM g = some r → (l.mapM f).run P w = .ok r w
  | [], r, h => by simp at h; subst h; simp
  | a :: l, r, h => by
    rw [List.mapM_cons] at h
    simp only [Option.bind_eq_bind, Option.bind_eq_some_iff, Option.pure_def, Option.some.injEq] at h
    obtain ⟨b, hb, r', hr', rfl⟩ := h
    rw [List.mapM_cons]
    simp [hf a b hb, run_mapM hf l r' hr']

theorem build_sound {P : Program} {m : Mp} {w : World} {t : TypeId} {ps ps' : List (Nat × Value)} {pl : List (Nat × Nat × Value)} {z : Value} {cs : List Value} (hi : ps.map (·.1) = ps'.map (·.1)) (hv : LRel m (ps.map (·.2)) (ps'.map (·.2)))
    (hz : zeroOf P t = some z) (hzf : flat z = true) (hp : places P t ps = some pl) (h : fillC z.cells.toList pl = some cs) : ∃ v', (Instr.build t ps'.toArray).run P w = .ok v' w ∧ VRel m (.agg cs.toArray) v' := by
  have hzr : LRel m z.cells.toList z.cells.toList := (VRel.ofFlat hzf).cells
  unfold places at hp
  split at hp
  · rename_i fs hu
    simp only [Option.bind_eq_some_iff] at hp
    obtain ⟨pls, hpls, hp⟩ := hp
    have hmap : ∀ (ps : List (Nat × Value)) (pl : List (Nat × Nat × Value)), (ps.mapM fun (x : Nat × Value) => (pls[x.1]?).map fun p => (p.1, p.2, x.2)) = some pl →
        pl.length = ps.length ∧ ∀ (i : Nat) a, ps[i]? = some a → ∃ o s, pls[a.1]? = some (o, s) ∧ pl[i]? = some (o, s, a.2) := by
      intro ps
      induction ps with
      | nil => intro pl h; simp at h; subst h; exact ⟨rfl, by simp⟩
      | cons a ps ih =>
        intro pl h
        rw [List.mapM_cons] at h
        simp only [Option.bind_eq_bind, Option.bind_eq_some_iff, Option.map_eq_some_iff] at h
        obtain ⟨x, ⟨p, hf, rfl⟩, pl', hpl, h⟩ := h
        simp only [Option.pure_def, Option.some.injEq] at h
        subst h
        obtain ⟨q1, q2⟩ := ih pl' hpl
        refine ⟨by simp [q1], fun j b hb => ?_⟩
        cases j with
        | zero => simp at hb; subst hb; exact ⟨p.1, p.2, hf, rfl⟩
        | succ j => simp at hb; obtain ⟨o, s', k1, k2⟩ := q2 j b hb; exact ⟨o, s', k1, by simpa using k2⟩
    obtain ⟨hlen, hpl⟩ := hmap ps pl hp
    have hrun := run_mapM (P := P) (w := w) (f := fun f : Field => (do pure (f.offset, ← sizeOf f.type) : Sem (Nat × Nat))) (g := fun f : Field => (szOf P f.type).map fun s => (f.offset, s)) (fun a b hab => by
      cases hs : szOf P a.type with
      | none => simp [hs] at hab
      | some s => simp [hs] at hab; subst hab; simp [run_size hs]) fs.toList pls hpls
    obtain ⟨r', g1, g2⟩ := fillC_sound (m := m) (fun i => pls.toArray[i]?) ps ps' pl z.cells.toList z.cells.toList cs hi hv (fun i a ha => by obtain ⟨o, s, k1, k2⟩ := hpl i a ha; exact ⟨o, s, by simpa using k1, k2⟩) hlen hzr h
    refine ⟨.agg r', ?_, .agg' (by simpa using g2)⟩
    have hrun' : (fs.mapM fun f : Field => (do pure (f.offset, ← sizeOf f.type) : Sem (Nat × Nat))).run P w = .ok pls.toArray w := by
      rw [Array.mapM_eq_mapM_toList]
      simp only [Sem.run_map, hrun, Result.andThen]
    simp only [Instr.build, Sem.run_bind, run_zero hz, Result.andThen, run_underlying hu]
    rw [hrun']
    simp only [Array.toArray_toList, List.getElem?_toArray] at g1
    simp [g1]
  · rename_i n e hu
    cases hs : szOf P e with
    | none => simp [hs] at hp
    | some s =>
      simp only [hs, Option.map_some, Option.some.injEq] at hp
      subst hp
      obtain ⟨r', g1, g2⟩ := fillC_sound (m := m) (fun i => some (i * s, s)) ps ps' _ z.cells.toList z.cells.toList cs hi hv (fun i a ha => ⟨a.1 * s, s, rfl, by simp [ha]⟩) (by simp) hzr h
      refine ⟨.agg r', ?_, .agg' (by simpa using g2)⟩
      simp only [Array.toArray_toList] at g1
      simp [Instr.build, run_zero hz, run_underlying hu, run_size hs, g1]
  · cases hp

theorem rep_rel {m : Mp} {l l' : List Value} (h : LRel m l l') : ∀ n, LRel m (rep n l) (rep n l')
  | 0 => LRel.nil
  | n + 1 => h.append (rep_rel h n)
theorem rep_length {l : List Value} : ∀ n, (rep n l).length = n * l.length
  | 0 => by simp [rep]
  | n + 1 => by simp [rep, rep_length n, Nat.add_mul]; omega
theorem rep_get {l : List Value} (hl : 0 < l.length) : ∀ (n i : Nat), i < n * l.length → (rep n l)[i]? = l[i % l.length]?
  | 0, i, h => by simp at h
  | n + 1, i, h => by
    simp only [rep]
    by_cases hi : i < l.length
    · rw [List.getElem?_append_left hi, Nat.mod_eq_of_lt hi]
    · rw [List.getElem?_append_right (by omega), rep_get hl n _ (by rw [Nat.succ_mul] at h; omega), Nat.mod_eq_sub_mod (a := i) (b := l.length) (by omega)]
theorem rep_array {z : Array Value} (hz : 0 < z.size) (n : Nat) : ((Array.range (n * z.size)).map (z[· % z.size]!)).toList = rep n z.toList := by
  apply List.ext_getElem?
  intro i
  by_cases hi : i < n * z.size
  · rw [rep_get (by simpa using hz) n i (by simpa using hi)]
    have hm : i % z.size < z.size := Nat.mod_lt _ hz
    simp [hi, hm, getElem!_def]
  · rw [List.getElem?_eq_none (by simp; omega), List.getElem?_eq_none (by rw [rep_length]; simp; omega)]

theorem buildSlice_sound {P : Program} {m : Mp} {H H' : Heap} {w : World} {t e : TypeId} {len sz : Nat} {ps ps' : List (Nat × Value)} {z v : Value} {cs : List Value} (hr : HRel m H w) (hlow : MLow m H.n) (hi : ps.map (·.1) = ps'.map (·.1)) (hv : LRel m (ps.map (·.2)) (ps'.map (·.2)))
    (hu : P.underlying t = some (.slice e)) (hs : szOf P e = some sz) (hz : zeroOf P e = some z) (hzf : flat z = true) (hzs : z.cells.size = sz) (hp : 0 < sz) (hsz : len * sz ≤ 16777216)
    (h : fillC (rep len z.cells.toList) (ps.map fun x => (x.1 * sz, sz, x.2)) = some cs) (hn : newS sz len len cs H = some (v, H')) :
    ∃ m' v' w', (Instr.buildSlice t len ps'.toArray).run P w = .ok v' w' ∧ VRel m' v v' ∧ Step m H w m' H' w' := by
  have hzr : LRel m z.cells.toList z.cells.toList := (VRel.ofFlat hzf).cells
  obtain ⟨r', g1, g2⟩ := fillC_sound (m := m) (fun i => some (i * sz, sz)) ps ps' _ (rep len z.cells.toList) (rep len z.cells.toList) cs hi hv (fun i a ha => ⟨a.1 * sz, sz, rfl, by simp [ha]⟩) (by simp) (rep_rel hzr len) h
  obtain ⟨m', v', w', q1, q2, q3⟩ := newS_sound (P := P) (t := e) hr hlow (by simpa using g2) hn (Nat.le_refl _)
  refine ⟨m', v', w', ?_, q2, q3⟩
  have hbig : ¬ (16777216 < len * sz) := by omega
  have harr : (if len * sz = 0 then (#[] : Array Value) else z.cells) = z.cells ∨ len = 0 := by
    by_cases h0 : len * sz = 0
    · right
      rcases Nat.mul_eq_zero.1 h0 with h0 | h0 <;> omega
    · left; rw [if_neg h0]
  have hcells : ∀ y : Array Value, (y = z.cells ∨ len = 0) → ((Array.range (len * sz)).map (y[· % y.size]!)) = (rep len z.cells.toList).toArray := fun y hy => by
    rcases hy with rfl | rfl
    · apply Array.ext'
      rw [← hzs, rep_array (by omega)]
    · simp [rep]
  simp only [Array.toArray_toList] at q1
  by_cases h0 : len * sz = 0
  · have hl0 : len = 0 := by rcases Nat.mul_eq_zero.1 h0 with h0 | h0 <;> omega
    subst hl0
    simp only [rep] at g1
    have hd : (Array.map (fun _ : Nat => (default : Value)) (Array.range 0)) = #[] := by simp
    simp [Instr.buildSlice, run_underlying hu, run_size hs] at q1 ⊢
    rw [hd]
    have g1' : Instr.fill (fun i => some (i * sz, sz)) #[] ps' = some r' := g1
    rw [g1']
    simpa using q1
  · have hc := hcells z.cells (.inl rfl)
    simp only [Instr.buildSlice, Sem.run_bind, run_underlying hu, Result.andThen, run_size hs]
    simp [hbig, h0, run_zero hz, hc, g1] at q1 ⊢
    exact q1


theorem makeSlice_sound {P : Program} {m : Mp} {H H' : Heap} {w : World} {t e : TypeId} {sz by_ : Nat} {n c : Int} {z v : Value} (hr : HRel m H w) (hlow : MLow m H.n)
    (hu : P.underlying t = some (.slice e)) (hs : szOf P e = some sz) (hz : zeroOf P e = some z) (hb : bytesOf P e = some by_) (hzf : flat z = true) (hzs : z.cells.size = sz) (h0 : 0 ≤ n) (hnc : n ≤ c) (hc : (by_ : Int) * c ≤ 140737488355328) (hc63 : c < 9223372036854775808)
    (hp : 0 < sz) (hn : newS sz n.toNat c.toNat (rep c.toNat z.cells.toList) H = some (v, H')) :
    ∃ m' v' w', (Instr.makeSlice t (.int .i64 n) (.int .i64 c)).run P w = .ok v' w' ∧ VRel m' v v' ∧ Step m H w m' H' w' := by
  have hzr : LRel m z.cells.toList z.cells.toList := (VRel.ofFlat hzf).cells
  obtain ⟨m', v', w', q1, q2, q3⟩ := newS_sound (P := P) (t := e) hr hlow (rep_rel hzr c.toNat) hn (by omega)
  refine ⟨m', v', w', ?_, q2, q3⟩
  obtain ⟨i, hi, hib⟩ := run_bytes hb w
  have hwn : IntKind.i64.wrap n = n := i64_in n (by omega)
  have hwc : IntKind.i64.wrap c = c := i64_in c (by omega)
  subst hib
  have c1 : ¬ (c < 0) := by omega
  have c2 : ¬ (281474976710656 < (i.bytes : Int) * c) := by omega
  have c3 : ¬ (n < 0) := by omega
  have c4 : ¬ (c < n) := by omega
  have hcells : ∀ y : Array Value, (y = z.cells ∨ c.toNat = 0) → ((Array.range (c.toNat * sz)).map (y[· % y.size]!)) = (rep c.toNat z.cells.toList).toArray := fun y hy => by
    rcases hy with rfl | hy
    · apply Array.ext'
      rw [← hzs, rep_array (by omega)]
    · simp [rep, hy]
  by_cases h0 : c.toNat * sz = 0
  · have hl0 : c.toNat = 0 := by rcases Nat.mul_eq_zero.1 h0 with h0 | h0 <;> omega
    have hd := hcells #[] (.inr hl0)
    simp [Instr.makeSlice, run_underlying hu, asInt, asIntOf, hi, hwn, hwc, c1, c2, c3, c4, run_size hs, h0] at q1 ⊢
    rw [h0] at hd
    simp at hd
    rw [hd]
    exact q1
  · have hd := hcells z.cells (.inl rfl)
    simp [Instr.makeSlice, run_underlying hu, asInt, asIntOf, hi, hwn, hwc, c1, c2, c3, c4, run_size hs, h0, run_zero hz, hd] at q1 ⊢
    exact q1

theorem appZ_sound {P : Program} {m : Mp} {H H' : Heap} {w : World} {s s' x x' v : Value} {sz by_ : Nat} {t ty e : TypeId} {ts : Array TypeId} {z : Value} {q : IntKind} {t2 : TypeId} (hr : HRel m H w) (hl : MLow m H.n)
    (hs : VRel m s s') (hx : VRel m x x') (h : appZ sz by_ z.cells.toList s x H = some (v, H')) (h0 : ts[0]? = some t) (hu : P.underlying t = some (.slice e)) (hsz : szOf P e = some sz) (hby : bytesOf P e = some by_)
    (hz : zeroOf P e = some z) (hzs : z.cells.size = sz) (hb0 : 0 < by_) (hsz0 : 0 < sz) (h2 : ts[1]? = some t2) (hu2 : P.underlying t2 = some (.int q)) :
    ∃ m' v' w', (Builtin.append_ ts ty #[s', x']).run P w = .ok v' w' ∧ VRel m' v v' ∧ Step m H w m' H' w' := by
  unfold appZ at h
  split at h
  case h_2 => cases h
  rename_i n
  split at h
  case isFalse => cases h
  rename_i hc
  obtain ⟨c1, c2, c3, c4⟩ := hc
  simp only [Option.some.injEq, Prod.mk.injEq] at h
  obtain ⟨rfl, rfl⟩ := h
  obtain ⟨_, _, rfl⟩ := hs.slice_nil_inv
  obtain rfl := hx.int_inv
  obtain ⟨i, hi, hib⟩ := run_bytes hby w
  have hi' : P.info? e = some i := by
    unfold bytesOf at hby
    cases h : P.info? e with
    | none => simp [h] at hby
    | some j =>
      rw [run_typeInfo w h] at hi
      injection hi with hi; rw [hi]
  have hty : ∀ w : World, (typeInfo e).run P w = .ok i w := fun w => run_typeInfo w hi'
  obtain ⟨k, rfl⟩ : ∃ k : Nat, n = k := ⟨n.toNat, by omega⟩
  simp only [Int.toNat_natCast] at c3 ⊢
  have hk : 0 < k := by omega
  have hmb : mostBytes = 140737488355328 := rfl
  have hkb : k ≤ k * by_ := Nat.le_mul_of_pos_right _ hb0
  have hw : IntKind.i64.wrap (k : Int) = k := i64_in _ (by omega)
  have n1 : ¬ ((k : Int) < 0) := by omega
  have n2 : ¬ ((281474976710656 : Int) < (k : Int) * (i.bytes : Int)) := by rw [hib]; omega
  have n3 : ¬ (k * sz = 0) := by
    intro h
    rcases Nat.mul_eq_zero.1 h with h | h <;> omega
  have n4 : ¬ ((9223372036854775807 : Int) < (k : Int)) := by omega
  have n5 : ¬ (281474976710656 < Builtin.nextslicecap k 0 * i.bytes) := by
    rw [hib]
    have := growslice_fits (bytes := by_) (old := 0) (show 0 < k from hk) c3
    omega
  have hge : k ≤ (Question.appendCap k 0 e).cut (w.tape w.drawn (.appendCap k 0 e)) := by simp [Question.cut]
  have hrel : LRel m (rep k z.cells.toList) (rep k z.cells.toList) := rep_rel ((VRel.ofFlat (zeroOf_inv hz).2).cells) k
  have hone : (rep k z.cells.toList).all oneC = true := by
    have : ∀ j, (rep j z.cells.toList).all oneC = true := by
      intro j
      induction j with
      | zero => rfl
      | succ j ih => simp only [rep, List.all_append, c4, ih]; rfl
    exact this k
  obtain ⟨nc, hnc⟩ : ∃ nc, (Question.appendCap k 0 e).cut (w.tape w.drawn (.appendCap k 0 e)) = nc := ⟨_, rfl⟩
  rw [hnc] at hge
  have hcells : Builtin.zeroCells z.cells k = (rep k z.cells.toList).toArray := by
    apply Array.ext'
    unfold Builtin.zeroCells
    rw [rep_array (by omega)]
  have hrun : (Builtin.append_ ts ty #[.slice none 0 0, .int .i64 (k : Int)]).run P w = .ok (.slice (some ⟨w.heap.size, 0, none⟩) k nc) (w.drew.alloc (.cells ((rep k z.cells.toList).toArray ++ Builtin.zeroCells z.cells (nc - k)) e)) := by
    simp only [Builtin.append_, h0, h2]
    simp [run_size hsz, run_underlying hu, run_underlying hu2, hty, asInt, asIntOf, hw, n1, n2, n3, n4, n5, Question.forced, Builtin.firstCells, run_zero hz, newRow, hnc, hcells, Nat.ne_of_gt hk]
  refine ⟨mput m H.n ⟨w.heap.size, 0, nc - k⟩, _, _, hrun, ?_, ?_⟩
  · have := VRel.slc (m := mput m H.n ⟨w.heap.size, 0, nc - k⟩) (b := H.n) (o := 0) (p := ⟨w.heap.size, 0, nc - k⟩) (len := k) (cap := k) (cap' := nc) (by simp [mput]) hge (by simp only; omega) (Nat.le_refl _)
    simpa using this
  · refine Step.new hr hl (l := rep k z.cells.toList) (l' := rep k z.cells.toList) (cs := (rep k z.cells.toList).toArray ++ Builtin.zeroCells z.cells (nc - k)) (e := e) (fr := (0, 0)) hrel hone ?_ ?_ (.inl rfl) rfl rfl rfl rfl
    · simp only [Array.size_append, List.size_toArray, zeros_size, hzs]
      omega
    · intro j v hj
      have := (List.getElem?_eq_some_iff.1 hj).1
      rw [Array.getElem?_append_left (by simpa using this)]
      simpa using hj

end Go.Eng
