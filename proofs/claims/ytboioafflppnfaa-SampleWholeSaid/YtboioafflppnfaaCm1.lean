/- The canonical machine: a deterministic machine over abstract memory; its states, micro-operations and evaluator. Conditions: none. -/
import Derived.Orders
import Derived.Below
import Derived.KernelRfl
import Derived.WalkKit
namespace Go.Cm
open Go.RowKit

/-- what is not known of a slot -/
def unk : Value := .chan none

/-- no address in it, one cell -/
def plain1 : Value → Bool
  | .bool _ | .int .. | .string _ | .pointer none | .slice none 0 0 | .map none | .nilFunc | .nilIface => true
  | _ => false
def plainV : Value → Bool
  | .agg cs => cs.toList.all plain1
  | v => plain1 v

/-- what a map's key may be here: numbers, truths, texts -/
def key1 : Value → Bool
  | .bool _ | .int .. | .string _ => true
  | _ => false
def keyV : Value → Bool
  | .agg cs => cs.toList.all key1
  | v => key1 v

/-- frames: slot and value, the newest first -/
abbrev Fr := List (Nat × Value)
def Fr.get : Fr → Nat → Value
  | [], _ => unk
  | (t, v) :: r, s => if s = t then v else Fr.get r s
def Fr.put (f : Fr) (d : Option Nat) (v : Value) : Fr :=
  match d with
  | some t => (t, v) :: f
  | none => f
def Fr.ev (f : Fr) : Operand → Value
  | .tmp t => f.get t
  | .const v => v
  | .global g => .pointer (some ⟨g, 0, none⟩)
  | .func g => .func (.func g) #[] #[]
def Fr.keep (f : Fr) : List Nat → Fr
  | [] => []
  | t :: l => (t, f.get t) :: Fr.keep f l

inductive CObj where
  | ro (cs : List Value)
  | rw (cs : List Value)
  | loose (esz : Nat) (cs : List Value)
  | dead
  | map (es : List (Value × Value × Nat)) (clock : Nat)
  deriving Inhabited

def CObj.excl : CObj → Bool
  | .rw _ | .loose .. | .map .. => true
  | _ => false

/-- memory: the newest object first; object i lies at place n - 1 - i -/
structure Heap where
  n : Nat
  l : List CObj
  deriving Inhabited

def Heap.get? (h : Heap) (i : Nat) : Option CObj := if i < h.n then h.l[h.n - 1 - i]? else none
def Heap.push (h : Heap) (o : CObj) : Heap := ⟨h.n + 1, o :: h.l⟩
def Heap.set (h : Heap) (i : Nat) (o : CObj) : Heap := ⟨h.n, h.l.set (h.n - 1 - i) o⟩

def Heap.cells (h : Heap) (c : Nat) : Option (List Value) :=
  match h.get? c with
  | some (.ro cs) | some (.rw cs) | some (.loose _ cs) => some cs
  | _ => none

def splice : List Value → Nat → List Value → List Value
  | cs, 0, vs => vs ++ cs.drop vs.length
  | c :: cs, o + 1, vs => c :: splice cs o vs
  | [], _ + 1, _ => []

def Heap.rd1 (h : Heap) (a : Addr) : Option Value :=
  if a.spot.isSome then none else
  match h.cells a.block with
  | some cs => cs[a.off]?
  | none => none
def Heap.rdN (h : Heap) (a : Addr) (n : Nat) : Option (List Value) :=
  if a.spot.isSome then none else
  match h.cells a.block with
  | some cs => if a.off + n ≤ cs.length then some ((cs.drop a.off).take n) else none
  | none => none
def Heap.wr (h : Heap) (a : Addr) (vs : List Value) : Option Heap :=
  if a.spot.isSome then none else
  match h.get? a.block with
  | some (.rw cs) => if a.off + vs.length ≤ cs.length then some (h.set a.block (.rw (splice cs a.off vs))) else none
  | some (.loose e cs) => if a.off + vs.length ≤ cs.length then some (h.set a.block (.loose e (splice cs a.off vs))) else none
  | _ => none

/-- the cells of a value that is known -/
def cellsOf : Value → Option (List Value)
  | .agg cs => some cs.toList
  | .chan _ => none
  | .tuple _ => none
  | v => some [v]

inductive PT where
  | int
  | bool
  | str
  | st (fs : List (Nat × Nat × Bool × PT))
  deriving Inhabited

inductive EqT where
  | bool | ptr | slice | map | iface | ifaceC | func
  | plain (p : PT)
  deriving Inhabited

inductive MOp where
  | mv (x : Operand)
  | pick (c a b : Operand)
  | new (cs : List Value)
  | box (x : Operand)
  | build (zero : List Value) (parts : List (Nat × Nat × Operand))
  | buildSlice (zero : List Value) (len : Nat) (parts : List (Nat × Nat × Operand))
  | load1 (x : Operand)
  | loadN (n : Nat) (x : Operand)
  | store (n : Nat) (x v : Operand)
  | nilCheck (x : Operand)
  | ar (op : BinOp) (x y : Operand)
  | eq (neg : Bool) (t : EqT) (x y : Operand)
  | un (op : UnOp) (x : Operand)
  | conv (k : IntKind) (x : Operand)
  | convBS (x : Operand)
  | convSB (x : Operand)
  | toI (t : TypeId) (x : Operand)
  | mkF (f : FuncId) (first caps : List Operand)
  | mkMap
  | mkSl (bytes : Nat) (zero : List Value) (l c : Operand)
  | slS (x : Operand) (lo hi : Option Operand)
  | slV (esz : Nat) (x : Operand) (lo hi mx : Option Operand)
  | slA (esz n : Nat) (x : Operand) (lo hi : Option Operand)
  | fld (off : Nat) (x : Operand)
  | ixV (esz : Nat) (x i : Operand)
  | ixA (esz len : Nat) (x i : Operand)
  | ixS (x i : Operand)
  | ixG (esz len : Nat) (agg : Bool) (x i : Operand)
  | ext (x : Operand) (i : Nat)
  | lenS (x : Operand)
  | lenV (x : Operand)
  | lenM (x : Operand)
  | lenC (n : Nat)
  | capV (x : Operand)
  | app (esz bytes : Nat) (x y : Operand)
  | appS (x y : Operand)
  | copyV (esz : Nat) (x y : Operand)
  | copyS (x y : Operand)
  | minmax (mx : Bool) (x y : Operand)
  | look (kt : PT) (zero : Value) (ok : Bool) (x k : Operand)
  | mset (kt : PT) (m k v : Operand)
  | call (f : FuncId) (args : List Operand)
  | callV (x : Operand) (args : List Operand)
  | tyA (t : TypeId) (zero : Value) (ok : Bool) (x : Operand)
  | bad
  deriving Inhabited

structure MO where
  dst : Option Nat
  op : MOp
  guard : Option (Nat × Bool)
  deriving Inhabited

inductive MCode where
  | skip
  | region (ops : List MO) (crosses : List (Nat × Nat))
  | seq (a b : MCode)
  | cond (c : Operand) (thn els : MCode)
  | block (id : Nat) (body : MCode)
  | loop (live : List Nat) (body : MCode)
  | exit (id : Nat)
  | ret
  | bad
  deriving Inhabited

inductive MRes where
  | tmp (t : Nat)
  | cell1 (t : Nat)
  | cellN (t n : Nat)
  deriving Inhabited

structure MFun where
  nargs : Nat
  body : MCode
  res : List MRes
  deriving Inhabited

/-! ### the pure parts -/

def arith (op : BinOp) : Value → Value → Option Value
  | .int k a, .int k' b =>
    match op with
    | .shl => if b < 0 then none else some (.int k (k.wrap (a * 2 ^ (min b.toNat k.bits))))
    | .shr => if b < 0 then none else some (.int k (a.fdiv (2 ^ (min b.toNat k.bits))))
    | _ =>
    if k ≠ k' then none else
    match op with
    | .add => some (.int k (k.wrap (a + b)))
    | .sub => some (.int k (k.wrap (a - b)))
    | .mul => some (.int k (k.wrap (a * b)))
    | .quo => if b = 0 then none else some (.int k (k.wrap (a.tdiv b)))
    | .rem => if b = 0 then none else some (.int k (a.tmod b))
    | .and => some (.int k (k.wrap (BitVec.ofInt k.bits a &&& BitVec.ofInt k.bits b).toNat))
    | .or => some (.int k (k.wrap (BitVec.ofInt k.bits a ||| BitVec.ofInt k.bits b).toNat))
    | .xor => some (.int k (k.wrap (BitVec.ofInt k.bits a ^^^ BitVec.ofInt k.bits b).toNat))
    | .andNot => some (.int k (k.wrap (BitVec.ofInt k.bits a &&& ~~~ BitVec.ofInt k.bits b).toNat))
    | .eql => some (.bool (a == b))
    | .neq => some (.bool (a != b))
    | .lss => some (.bool (a < b))
    | .leq => some (.bool (a ≤ b))
    | .gtr => some (.bool (a > b))
    | .geq => some (.bool (a ≥ b))
    | _ => none
  | .string a, .string b =>
    match op with
    | .add => if ((a.size + b.size : Nat) : Int) > 9223372036854775807 then none else some (.string (a ++ b))
    | .eql => some (.bool (a.toList == b.toList))
    | .neq => some (.bool !(a.toList == b.toList))
    | .lss => some (.bool (Op.bytesLess a.toList b.toList))
    | .leq => some (.bool (Op.bytesLess a.toList b.toList || a.toList == b.toList))
    | .gtr => some (.bool !(Op.bytesLess a.toList b.toList || a.toList == b.toList))
    | .geq => some (.bool !(Op.bytesLess a.toList b.toList))
    | _ => none
  | _, _ => none

def unary (op : UnOp) : Value → Option Value
  | .int k n =>
    match op with
    | .neg => some (.int k (k.wrap (0 - n)))
    | .xor => some (.int k (k.wrap (BitVec.ofInt k.bits (if k.signed then -1 else k.max) ^^^ BitVec.ofInt k.bits n).toNat))
    | _ => none
  | .bool b => match op with | .not => some (.bool !b) | _ => none
  | _ => none

mutual
def eqPT : PT → Value → Value → Option Bool
  | .int, .int k a, .int k' b => if k = k' then some (a == b) else none
  | .bool, .bool a, .bool b => some (a == b)
  | .str, .string a, .string b => some (a == b)
  | .st fs, .agg xs, .agg ys => eqPTs fs xs ys
  | _, _, _ => none
def eqPTs : List (Nat × Nat × Bool × PT) → Array Value → Array Value → Option Bool
  | [], _, _ => some true
  | (off, size, agg, p) :: fs, xs, ys =>
    match eqPT p (if agg then .agg (xs.extract off (off + size)) else xs.getD off unk) (if agg then .agg (ys.extract off (off + size)) else ys.getD off unk) with
    | some true => eqPTs fs xs ys
    | some false => if (eqPTs fs xs ys).isSome then some false else none
    | none => none
end

def eqVal : EqT → Value → Value → Option Bool
  | .bool, .bool a, .bool b => some (a == b)
  | .ptr, .pointer none, .pointer b => some b.isNone
  | .ptr, .pointer (some _), .pointer none => some false
  | .slice, .slice none _ _, .slice b _ _ => some b.isNone
  | .slice, .slice (some _) _ _, .slice none _ _ => some false
  | .map, .map none, .map b => some b.isNone
  | .map, .map (some _), .map none => some false
  | .iface, .nilIface, .iface _ _ => some false
  | .iface, .iface _ _, .nilIface => some false
  | .ifaceC, .nilIface, .iface _ _ => some false
  | .ifaceC, .iface _ _, .nilIface => some false
  | .ifaceC, .nilIface, .nilIface => some true
  | .func, .nilFunc, .func _ _ _ => some false
  | .func, .func _ _ _, .nilFunc => some false
  | .func, .nilFunc, .nilFunc => some true
  | .plain p, a, b => eqPT p a b
  | _, _, _ => none

def asNat? : Value → Option Nat
  | .int _ n => if 0 ≤ n then some n.toNat else none
  | _ => none

/-- the bounds of a slice expression: low, high, max -/
def bounds (len cap : Nat) (lo hi mx : Option Value) : Option (Nat × Nat × Nat) :=
  match (match mx with | some v => (match asNat? v with | some m => if m ≤ cap then some m else none | none => none) | none => some cap) with
  | none => none
  | some m =>
    match (match hi with | some v => (match asNat? v with | some h => if h ≤ m then some h else none | none => none) | none => if mx.isSome then none else some len) with
    | none => none
    | some h =>
      match (match lo with | some v => (match asNat? v with | some l => if l ≤ h then some l else none | none => none) | none => some 0) with
      | none => none
      | some l => some (l, h, m)

/-- parts laid into cells: each at its offset, of its size -/
def lay (ρ : Operand → Value) : List (Nat × Nat × Operand) → List Value → Option (List Value)
  | [], cs => some cs
  | (off, size, x) :: r, cs =>
    match cellsOf (ρ x) with
    | some vs => if vs.length = size ∧ off + size ≤ cs.length then lay ρ r (splice cs off vs) else none
    | none => none

def toBytes : List Value → Option (List UInt8)
  | [] => some []
  | .int .u8 n :: r => match toBytes r with | some l => some (UInt8.ofNat n.toNat :: l) | none => none
  | _ :: _ => none

def ofBytes (s : ByteArray) : List Value := s.data.toList.map fun b => .int .u8 b.toNat

def repL (zero : List Value) : Nat → List Value
  | 0 => []
  | n + 1 => zero ++ repL zero n

def findE (kt : PT) (k : Value) : List (Value × Value × Nat) → Nat → Option (Option (Nat × Value))
  | [], _ => some none
  | (x, v, _) :: es, i =>
    match eqPT kt k x with
    | some true => some (some (i, v))
    | some false => findE kt k es (i + 1)
    | none => none

mutual
def beqV : Nat → Value → Value → Bool
  | 0, _, _ => false
  | _ + 1, .bool a, .bool b => a == b
  | _ + 1, .int k a, .int k' b => k == k' && a == b
  | _ + 1, .string a, .string b => a == b
  | _ + 1, .pointer a, .pointer b => a == b
  | _ + 1, .slice a n m, .slice b n' m' => a == b && n == n' && m == m'
  | _ + 1, .map a, .map b => a == b
  | _ + 1, .nilFunc, .nilFunc => true
  | _ + 1, .nilIface, .nilIface => true
  | n + 1, .iface t v, .iface u w => t == u && beqV n v w
  | n + 1, .agg a, .agg b => beqL n a.toList b.toList
  | _, _, _ => false
def beqL : Nat → List Value → List Value → Bool
  | _, [], [] => true
  | n, a :: aS, b :: bs => beqV n a b && beqL n aS bs
  | _, _, _ => false
end

/-- an append of n known elements onto a slice -/
def appendTo (h : Heap) (esz bytes : Nat) (x : Value) (n : Nat) (vs : List Value) : Option (Value × Heap) :=
  match x with
  | .slice base sLen sCap =>
    if vs.length ≠ n * esz ∨ (sLen + n) * bytes > 140737488355328 then none else
    if sLen + n ≤ sCap then
      match base with
      | none => some (.slice none (sLen + n) sCap, h)
      | some a =>
        if n = 0 then some (.slice (some a) sLen sCap, h) else
        match h.wr ⟨a.block, a.off + sLen * esz, a.spot⟩ vs with
        | some h' => some (.slice (some a) (sLen + n) sCap, h')
        | none => none
    else
      match base with
      | none => some (.slice (some ⟨h.n, 0, none⟩) n n, h.push (.loose esz vs))
      | some a =>
        match h.rdN a (sLen * esz) with
        | none => none
        | some old =>
          match h.get? a.block with
          | some (.loose e cs) =>
            if a.off + sCap * e = cs.length then
              if e = esz then some (.slice (some ⟨h.n, 0, none⟩) (sLen + n) (sLen + n), (h.set a.block .dead).push (.loose esz (old ++ vs))) else none
            else some (.slice (some ⟨h.n, 0, none⟩) (sLen + n) (sLen + n), h.push (.loose esz (old ++ vs)))
          | _ => some (.slice (some ⟨h.n, 0, none⟩) (sLen + n) (sLen + n), h.push (.loose esz (old ++ vs)))
  | _ => none

/-- the cells that a slice or a nil slice holds -/
def sliceCells (h : Heap) (esz n : Nat) : Value → Option (List Value)
  | .slice a len _ =>
    if n = 0 then some [] else
    match a with
    | some a => if n ≤ len then h.rdN a (n * esz) else none
    | none => none
  | _ => none

def addOff (a : Addr) (n : Nat) : Addr := ⟨a.block, a.off + n, a.spot⟩

def cop (ρ : Operand → Value) (h : Heap) : MOp → Option (Value × Heap)
  | .mv x => some (ρ x, h)
  | .pick c a b => match ρ c with | .bool t => some (if t then ρ a else ρ b, h) | _ => none
  | .new cs => some (.pointer (some ⟨h.n, 0, none⟩), h.push (.rw cs))
  | .box x => match cellsOf (ρ x) with | some cs => some (.pointer (some ⟨h.n, 0, none⟩), h.push (.rw cs)) | none => none
  | .build zero parts => match lay ρ parts zero with | some cs => some (.agg cs.toArray, h) | none => none
  | .buildSlice zero len parts => match lay ρ parts zero with | some cs => some (.slice (some ⟨h.n, 0, none⟩) len len, h.push (.rw cs)) | none => none
  | .load1 x => match ρ x with | .pointer (some a) => (match h.rd1 a with | some v => some (v, h) | none => none) | _ => none
  | .loadN n x => match ρ x with | .pointer (some a) => (match h.rdN a n with | some vs => some (.agg vs.toArray, h) | none => none) | _ => none
  | .store n x v => match ρ x, cellsOf (ρ v) with | .pointer (some a), some vs => (if vs.length = n then (match h.wr a vs with | some h' => some (undef, h') | none => none) else none) | _, _ => none
  | .nilCheck x => match ρ x with | .pointer (some a) => some (.pointer (some a), h) | .func (.func f) a b => some (.func (.func f) a b, h) | _ => none
  | .ar op x y => match arith op (ρ x) (ρ y) with | some v => some (v, h) | none => none
  | .eq neg t x y => match eqVal t (ρ x) (ρ y) with | some b => some (.bool (if neg then !b else b), h) | none => none
  | .un op x => match unary op (ρ x) with | some v => some (v, h) | none => none
  | .conv k x => match ρ x with | .int _ n => some (.int k (k.wrap n), h) | _ => none
  | .convBS x => match ρ x with
    | .slice none _ _ => some (.string .empty, h)
    | .slice (some a) len cap => (match sliceCells h 1 len (.slice (some a) len cap) with | some cs => (match toBytes cs with | some l => some (.string ⟨l.toArray⟩, h) | none => none) | none => none)
    | _ => none
  | .convSB x => match ρ x with | .string s => some (.slice (some ⟨h.n, 0, none⟩) s.size s.size, h.push (.loose 1 (ofBytes s))) | _ => none
  | .toI t x => match ρ x with | .chan _ => none | v => some (.iface t v, h)
  | .mkF f first caps => some (.func (.func f) (first.map ρ).toArray (caps.map ρ).toArray, h)
  | .mkMap => some (.map (some h.n), h.push (.map [] 0))
  | .mkSl bytes zero l c => match ρ l, ρ c with
    | .int _ l, .int _ c => if 0 ≤ l ∧ l ≤ c ∧ bytes * c ≤ 281474976710656 ∧ c ≤ 9223372036854775807 then some (.slice (some ⟨h.n, 0, none⟩) l.toNat c.toNat, h.push (.rw (repL zero c.toNat))) else none
    | _, _ => none
  | .slS x lo hi => match ρ x with
    | .string s => (match bounds s.size s.size (lo.map ρ) (hi.map ρ) none with | some (l, e, _) => some (.string (s.extract l e), h) | none => none)
    | _ => none
  | .slV esz x lo hi mx => match ρ x with
    | .slice a len cap => (match bounds len cap (lo.map ρ) (hi.map ρ) (mx.map ρ) with
      | some (l, e, m) => (match a with
        | none => some (.slice none (e - l) (m - l), h)
        | some a =>
          if mx.isSome then some (.slice (some (if m = l then a else addOff a (l * esz))) (e - l) (m - l), h) else
          match h.get? a.block with
          | some (.ro _) | some (.rw _) => some (.slice (some (if m = l then a else addOff a (l * esz))) (e - l) (m - l), h)
          | some (.loose k _) => if m = l then some (.slice (some ⟨a.block, a.off, some 0⟩) 0 0, h) else if k = esz then some (.slice (some (addOff a (l * esz))) (e - l) (m - l), h) else none
          | some .dead => if m = l then some (.slice (some ⟨a.block, a.off, some 0⟩) 0 0, h) else none
          | _ => none)
      | none => none)
    | _ => none
  | .slA esz n x lo hi => match ρ x with
    | .pointer (some a) => (match bounds n n (lo.map ρ) (hi.map ρ) none with
      | some (l, e, m) => some (.slice (some (if m = l then a else addOff a (l * esz))) (e - l) (m - l), h)
      | none => none)
    | _ => none
  | .fld off x => match ρ x with | .pointer (some a) => some (.pointer (some (addOff a off)), h) | _ => none
  | .ixV esz x i => match ρ x, ρ i with | .slice (some a) len _, .int _ n => if 0 ≤ n ∧ n < len then some (.pointer (some (addOff a (n.toNat * esz))), h) else none | _, _ => none
  | .ixA esz len x i => match ρ x, ρ i with | .pointer (some a), .int _ n => if 0 ≤ n ∧ n < len then some (.pointer (some (addOff a (n.toNat * esz))), h) else none | _, _ => none
  | .ixS x i => match ρ x, ρ i with | .string s, .int _ n => (if 0 ≤ n then (match s[n.toNat]? with | some b => some (.int .u8 b.toNat, h) | none => none) else none) | _, _ => none
  | .ixG esz len agg x i => match ρ x, ρ i with
    | .agg cs, .int _ n => if 0 ≤ n ∧ n < len then (if agg then some (.agg (cs.extract (n.toNat * esz) (n.toNat * esz + esz)), h) else (match cs[n.toNat * esz]? with | some v => some (v, h) | none => none)) else none
    | _, _ => none
  | .ext x i => match ρ x with | .tuple vs => (match vs[i]? with | some v => some (v, h) | none => none) | _ => none
  | .lenS x => match ρ x with | .string s => some (.int .i64 s.size, h) | _ => none
  | .lenV x => match ρ x with | .slice _ n _ => some (.int .i64 n, h) | _ => none
  | .lenM x => match ρ x with
    | .map none => some (.int .i64 0, h)
    | .map (some c) => (match h.get? c with | some (.map es _) => some (.int .i64 es.length, h) | _ => none)
    | _ => none
  | .lenC n => some (.int .i64 n, h)
  | .capV x => match ρ x with
    | .slice none _ n => some (.int .i64 n, h)
    | .slice (some a) _ n => if a.spot.isSome then none else (match h.get? a.block with | some (.rw _) | some (.ro _) => some (.int .i64 n, h) | _ => none)
    | _ => none
  | .app esz bytes x y => match ρ y with
    | .slice a len cap => (match sliceCells h esz len (.slice a len cap) with | some vs => appendTo h esz bytes (ρ x) len vs | none => none)
    | _ => none
  | .appS x y => match ρ y with | .string s => appendTo h 1 1 (ρ x) s.size (ofBytes s) | _ => none
  | .copyV esz x y => match ρ x, ρ y with
    | .slice d dl _, .slice s sl c => if min sl dl = 0 then some (.int .i64 0, h) else (match sliceCells h esz (min sl dl) (.slice s sl c), d with
      | some vs, some a => (match h.wr a vs with | some h' => some (.int .i64 (min sl dl : Nat), h') | none => none)
      | _, _ => none)
    | _, _ => none
  | .copyS x y => match ρ x, ρ y with
    | .slice d dl _, .string s => if min s.size dl = 0 then some (.int .i64 0, h) else (match d with
      | some a => (match h.wr a ((ofBytes s).take dl) with | some h' => some (.int .i64 (min s.size dl : Nat), h') | none => none)
      | none => none)
    | _, _ => none
  | .minmax mx x y => match ρ x, ρ y with
    | .int k a, .int _ b => some (.int k (if mx then (if b > a then b else a) else (if b < a then b else a)), h)
    | _, _ => none
  | .look kt zero ok x k => if (eqPT kt (ρ k) (ρ k)).isNone then none else match ρ x with
    | .map none => some (if ok then .tuple #[zero, .bool false] else zero, h)
    | .map (some c) => (match h.get? c with
      | some (.map es _) => (match findE kt (ρ k) es 0 with
        | some (some (_, v)) => some (if ok then .tuple #[v, .bool true] else v, h)
        | some none => some (if ok then .tuple #[zero, .bool false] else zero, h)
        | none => none)
      | _ => none)
    | _ => none
  | .mset kt m k v => if (eqPT kt (ρ k) (ρ k)).isNone then none else match ρ m with
    | .map (some c) => (match h.get? c with
      | some (.map es clock) => (match cellsOf (ρ v) with
        | some _ => (match findE kt (ρ k) es 0 with
          | some (some (i, _)) => (match es[i]? with
            | some (x, _, _) => if keyV x && beqV 9 x (ρ k) then some (undef, h.set c (.map (es.modify i fun e => (e.1, ρ v, e.2.2)) clock)) else none
            | none => none)
          | some none => some (undef, h.set c (.map (es ++ [(ρ k, ρ v, clock)]) (clock + 1)))
          | none => none)
        | none => none)
      | _ => none)
    | _ => none
  | .call _ _ => none
  | .callV _ _ => none
  | .bad => none
  | .tyA t zero ok x => match ρ x with
    | .nilIface => if ok then some (.tuple #[zero, .bool false], h) else none
    | .iface u v => if u = t then some (if ok then .tuple #[v, .bool true] else v, h) else if ok then some (.tuple #[zero, .bool false], h) else none
    | _ => none

inductive Ex where
  | norm
  | exit (id : Nat)
  | ret
  deriving DecidableEq, Inhabited

/-- is the operation wanted, by its guard? none: not known -/
def wantedC (f : Fr) : Option (Nat × Bool) → Option Bool
  | none => some true
  | some (t, want) => match f.get t with
    | .bool b => some (b == want)
    | .tuple vs => if vs.size = 0 then some false else none
    | _ => none

/-- what a region's operation did -/
structure Tr where
  ran : Bool
  f : Fr
  h : Heap
  h' : Heap
  v : Value
  deriving Inhabited

/-- the operation's reading once more, in another memory -/
def reread (ρ : Operand → Value) (h : Heap) (o : MOp) : Option Value :=
  match o with
  | .load1 _ | .loadN .. | .convBS _ | .slV .. => (match cop ρ h o with | some (v, _) => some v | none => none)
  | _ => none

/-- a reading i and an effect j whose order is open: the reading is the same on the effect's other side -/
def CrossOK (ops : List MO) (trs : List Tr) (ij : Nat × Nat) : Prop :=
  ∀ o ti tj, ops[ij.1]? = some o → trs[ij.1]? = some ti → trs[ij.2]? = some tj → ti.ran = true → tj.ran = true →
    reread ti.f.ev (if ij.1 < ij.2 then tj.h' else tj.h) o.op = some ti.v

def resOne (f : Fr) (h : Heap) : MRes → Option Value
  | .tmp t => some (f.get t)
  | .cell1 t => match f.get t with | .pointer (some a) => h.rd1 a | _ => none
  | .cellN t n => match f.get t with | .pointer (some a) => (match h.rdN a n with | some vs => some (.agg vs.toArray) | none => none) | _ => none
def resAll (f : Fr) (h : Heap) : List MRes → Option (List Value)
  | [] => some []
  | r :: rs => match resOne f h r, resAll f h rs with | some v, some vs => some (v :: vs) | _, _ => none
def resC (rs : List MRes) (f : Fr) (h : Heap) : Option Value :=
  match resAll f h rs with
  | some [v] => some v
  | some vs => some (.tuple vs.toArray)
  | none => none

def initF : Nat → List Value → Fr
  | _, [] => []
  | i, v :: vs => (i, v) :: initF (i + 1) vs

inductive Jd where
  | op (o : MOp) (f : Fr) (h : Heap) (v : Value) (h' : Heap)
  | ops (l : List MO) (f : Fr) (h : Heap) (trs : List Tr) (f' : Fr) (h' : Heap)
  | code (c : MCode) (f : Fr) (h : Heap) (e : Ex) (f' : Fr) (h' : Heap)
  | rounds (live : List Nat) (c : MCode) (f : Fr) (h : Heap) (e : Ex) (f' : Fr) (h' : Heap)
  | call (g : FuncId) (args : List Value) (h : Heap) (v : Value) (h' : Heap)

/-- the program's resolved functions, and what is known of others -/
structure Prg where
  fn : FuncId → Option MFun
  orac : FuncId → List Value → Heap → Value → Heap → Prop

inductive Ev (M : Prg) : Jd → Prop
  | prim {o f h v h'} : cop (Fr.ev f) h o = some (v, h') → Ev M (.op o f h v h')
  | opcall {g args f h v h'} : Ev M (.call g (args.map (Fr.ev f)) h v h') → Ev M (.op (.call g args) f h v h')
  | opcallV {x args f g h v h'} {first caps : Array Value} : Fr.ev f x = .func (.func g) first caps →
      Ev M (.call g (first.toList ++ args.map (Fr.ev f) ++ caps.toList) h v h') → Ev M (.op (.callV x args) f h v h')
  | nil {f h} : Ev M (.ops [] f h [] f h)
  | run {o r f h v h1 trs f' h'} : wantedC f o.guard = some true → Ev M (.op o.op f h v h1) → Ev M (.ops r (Fr.put f o.dst v) h1 trs f' h') →
      Ev M (.ops (o :: r) f h (⟨true, f, h, h1, v⟩ :: trs) f' h')
  | pass {o r f h trs f' h'} : wantedC f o.guard = some false → Ev M (.ops r (Fr.put f o.dst undef) h trs f' h') →
      Ev M (.ops (o :: r) f h (⟨false, f, h, h, undef⟩ :: trs) f' h')
  | skip {f h} : Ev M (.code .skip f h .norm f h)
  | region {l x f h trs f' h'} : Ev M (.ops l f h trs f' h') → (∀ ij ∈ x, CrossOK l trs ij) → Ev M (.code (.region l x) f h .norm f' h')
  | seqN {a b f h f1 h1 e f' h'} : Ev M (.code a f h .norm f1 h1) → Ev M (.code b f1 h1 e f' h') → Ev M (.code (.seq a b) f h e f' h')
  | seqX {a b f h e f' h'} : Ev M (.code a f h e f' h') → e ≠ .norm → Ev M (.code (.seq a b) f h e f' h')
  | condT {c a b f h e f' h'} : Fr.ev f c = .bool true → Ev M (.code a f h e f' h') → Ev M (.code (.cond c a b) f h e f' h')
  | condF {c a b f h e f' h'} : Fr.ev f c = .bool false → Ev M (.code b f h e f' h') → Ev M (.code (.cond c a b) f h e f' h')
  | blockX {i b f h f' h'} : Ev M (.code b f h (.exit i) f' h') → Ev M (.code (.block i b) f h .norm f' h')
  | blockO {i b f h e f' h'} : Ev M (.code b f h e f' h') → e ≠ .exit i → Ev M (.code (.block i b) f h e f' h')
  | loop {live b f h e f' h'} : Ev M (.rounds live b (Fr.keep f live) h e f' h') → Ev M (.code (.loop live b) f h e f' h')
  | again {live b f h f1 h1 e f' h'} : Ev M (.code b f h .norm f1 h1) → Ev M (.rounds live b (Fr.keep f1 live) h1 e f' h') → Ev M (.rounds live b f h e f' h')
  | out {live b f h e f' h'} : Ev M (.code b f h e f' h') → e ≠ .norm → Ev M (.rounds live b f h e f' h')
  | exit {i f h} : Ev M (.code (.exit i) f h (.exit i) f h)
  | ret {f h} : Ev M (.code .ret f h .ret f h)
  | fcall {g F args h e f' h' v} : M.fn g = some F → args.length = F.nargs → Ev M (.code F.body (initF 0 args) h e f' h') → (e = .norm ∨ e = .ret) →
      resC F.res f' h' = some v → Ev M (.call g args h v h')
  | known {g args h v h'} : M.orac g args h v h' → Ev M (.call g args h v h')

/-! ### the evaluator -/

abbrev CallF := FuncId → List Value → Heap → Option (Value × Heap)

def opC (call : CallF) (f : Fr) (h : Heap) : MOp → Option (Value × Heap)
  | .call g args => call g (args.map f.ev) h
  | .callV x args => match f.ev x with
    | .func (.func g) first caps => call g (first.toList ++ args.map f.ev ++ caps.toList) h
    | _ => none
  | o => cop f.ev h o

def runOps (call : CallF) : List MO → Fr → Heap → Option (Fr × Heap)
  | [], f, h => some (f, h)
  | o :: r, f, h =>
    match wantedC f o.guard with
    | some true => (match opC call f h o.op with | some (v, h') => runOps call r (f.put o.dst v) h' | none => none)
    | some false => runOps call r (f.put o.dst undef) h
    | none => none

def runT (call : CallF) : List MO → Fr → Heap → Option (List Tr × Fr × Heap)
  | [], f, h => some ([], f, h)
  | o :: r, f, h =>
    match wantedC f o.guard with
    | some true => (match opC call f h o.op with
      | some (v, h') => (match runT call r (f.put o.dst v) h' with | some (trs, f', h'') => some (⟨true, f, h, h', v⟩ :: trs, f', h'') | none => none)
      | none => none)
    | some false => (match runT call r (f.put o.dst undef) h with | some (trs, f', h'') => some (⟨false, f, h, h, undef⟩ :: trs, f', h'') | none => none)
    | none => none

def crossB (ops : List MO) (trs : List Tr) (ij : Nat × Nat) : Bool :=
  match ops[ij.1]?, trs[ij.1]?, trs[ij.2]? with
  | some o, some ti, some tj =>
    if ti.ran && tj.ran then (match reread ti.f.ev (if ij.1 < ij.2 then tj.h' else tj.h) o.op with | some v => beqV 9 v ti.v | none => false) else true
  | _, _, _ => true

def iter (body : Fr → Heap → Option (Ex × Fr × Heap)) (live : List Nat) : Nat → Fr → Heap → Option (Ex × Fr × Heap)
  | 0, _, _ => none
  | k + 1, f, h => match body f h with
    | some (.norm, f', h') => iter body live k (f'.keep live) h'
    | r => r

def evalCode (call : CallF) (n : Nat) : MCode → Fr → Heap → Option (Ex × Fr × Heap)
  | .skip, f, h => some (.norm, f, h)
  | .region l [], f, h => match runOps call l f h with | some (f', h') => some (.norm, f', h') | none => none
  | .region l x, f, h => match runT call l f h with
    | some (trs, f', h') => if x.all (crossB l trs) then some (.norm, f', h') else none
    | none => none
  | .seq a b, f, h => match evalCode call n a f h with
    | some (.norm, f', h') => evalCode call n b f' h'
    | r => r
  | .cond c a b, f, h => match f.ev c with
    | .bool true => evalCode call n a f h
    | .bool false => evalCode call n b f h
    | _ => none
  | .block i b, f, h => match evalCode call n b f h with
    | some (.exit j, f', h') => if j = i then some (.norm, f', h') else some (.exit j, f', h')
    | r => r
  | .loop live b, f, h => iter (evalCode call n b) live n (f.keep live) h
  | .exit i, f, h => some (.exit i, f, h)
  | .ret, f, h => some (.ret, f, h)
  | .bad, _, _ => none

def evalCall (fn : FuncId → Option MFun) : Nat → CallF
  | 0, _, _, _ => none
  | k + 1, g, args, h => match fn g with
    | none => none
    | some F => if args.length = F.nargs then
        (match evalCode (evalCall fn k) k F.body (initF 0 args) h with
        | some (.exit _, _, _) => none
        | some (_, f', h') => (match resC F.res f' h' with | some v => some (v, h') | none => none)
        | none => none)
      else none

end Go.Cm
