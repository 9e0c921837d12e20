/- Texts of the proof, joined by program: Cm1, Cm2, Cm3, Cm4, Cm5, Cm6, Cm7, Cm8, Cm9, Cm10, Cm11, Cm12, Cm13. Conditions: none. -/
import Derived.Orders
import Derived.Below
import Derived.KernelRfl
import Derived.WalkKit
import Derived.Lib.ConvBytes
import Derived.Laws.BytesString
import Derived.Laws.Append
import Derived.Laws.StructEq
/- The canonical machine: a deterministic machine over abstract memory; its states, micro-operations and evaluator. Conditions: none. -/
namespace Go.Cm
open Go.RowKit

/-- what is not known of a slot -/
def unk : Value := .chan none

/-- no address in it, one cell -/
def plain1 : Value → Bool
  | .bool _ | .int .. | .string _ | .pointer none | .slice none 0 0 | .map none | .nilFunc | .nilIface => true
  | _ => false
def plainV : Value → Bool
  | .agg cs => cs.toList.all plain1
  | v => plain1 v

/-- what a map's key may be here: numbers, truths, texts -/
def key1 : Value → Bool
  | .bool _ | .int .. | .string _ => true
  | _ => false
def keyV : Value → Bool
  | .agg cs => cs.toList.all key1
  | v => key1 v

/-- frames: slot and value, the newest first -/
abbrev Fr := List (Nat × Value)
def Fr.get : Fr → Nat → Value
  | [], _ => unk
  | (t, v) :: r, s => if s = t then v else Fr.get r s
def Fr.put (f : Fr) (d : Option Nat) (v : Value) : Fr :=
  match d with
  | some t => (t, v) :: f
  | none => f
def Fr.ev (f : Fr) : Operand → Value
  | .tmp t => f.get t
  | .const v => v
  | .global g => .pointer (some ⟨g, 0, none⟩)
  | .func g => .func (.func g) #[] #[]
def Fr.keep (f : Fr) : List Nat → Fr
  | [] => []
  | t :: l => (t, f.get t) :: Fr.keep f l

inductive CObj where
  | ro (cs : List Value)
  | rw (cs : List Value)
  | loose (esz : Nat) (cs : List Value)
  | dead
  | map (es : List (Value × Value × Nat)) (clock : Nat)
  deriving Inhabited

def CObj.excl : CObj → Bool
  | .rw _ | .loose .. | .map .. => true
  | _ => false

/-- memory: the newest object first; object i lies at place n - 1 - i -/
structure Heap where
  n : Nat
  l : List CObj
  deriving Inhabited

def Heap.get? (h : Heap) (i : Nat) : Option CObj := if i < h.n then h.l[h.n - 1 - i]? else none
def Heap.push (h : Heap) (o : CObj) : Heap := ⟨h.n + 1, o :: h.l⟩
def Heap.set (h : Heap) (i : Nat) (o : CObj) : Heap := ⟨h.n, h.l.set (h.n - 1 - i) o⟩

def Heap.cells (h : Heap) (c : Nat) : Option (List Value) :=
  match h.get? c with
  | some (.ro cs) | some (.rw cs) | some (.loose _ cs) => some cs
  | _ => none

def splice : List Value → Nat → List Value → List Value
  | cs, 0, vs => vs ++ cs.drop vs.length
  | c :: cs, o + 1, vs => c :: splice cs o vs
  | [], _ + 1, _ => []

def Heap.rd1 (h : Heap) (a : Addr) : Option Value :=
  if a.spot.isSome then none else
  match h.cells a.block with
  | some cs => cs[a.off]?
  | none => none
def Heap.rdN (h : Heap) (a : Addr) (n : Nat) : Option (List Value) :=
  if a.spot.isSome then none else
  match h.cells a.block with
  | some cs => if a.off + n ≤ cs.length then some ((cs.drop a.off).take n) else none
  | none => none
def Heap.wr (h : Heap) (a : Addr) (vs : List Value) : Option Heap :=
  if a.spot.isSome then none else
  match h.get? a.block with
  | some (.rw cs) => if a.off + vs.length ≤ cs.length then some (h.set a.block (.rw (splice cs a.off vs))) else none
  | some (.loose e cs) => if a.off + vs.length ≤ cs.length then some (h.set a.block (.loose e (splice cs a.off vs))) else none
  | _ => none

/-- the cells of a value that is known -/
def cellsOf : Value → Option (List Value)
  | .agg cs => some cs.toList
  | .chan _ => none
  | .tuple _ => none
  | v => some [v]

inductive PT where
  | int
  | bool
  | str
  | st (fs : List (Nat × Nat × Bool × PT))
  deriving Inhabited

inductive EqT where
  | bool | ptr | slice | map | iface | ifaceC | func
  | plain (p : PT)
  deriving Inhabited

inductive MOp where
  | mv (x : Operand)
  | pick (c a b : Operand)
  | new (cs : List Value)
  | box (x : Operand)
  | build (zero : List Value) (parts : List (Nat × Nat × Operand))
  | buildSlice (zero : List Value) (len : Nat) (parts : List (Nat × Nat × Operand))
  | load1 (x : Operand)
  | loadN (n : Nat) (x : Operand)
  | store (n : Nat) (x v : Operand)
  | nilCheck (x : Operand)
  | ar (op : BinOp) (x y : Operand)
  | eq (neg : Bool) (t : EqT) (x y : Operand)
  | un (op : UnOp) (x : Operand)
  | conv (k : IntKind) (x : Operand)
  | convBS (x : Operand)
  | convSB (x : Operand)
  | toI (t : TypeId) (x : Operand)
  | mkF (f : FuncId) (first caps : List Operand)
  | mkMap
  | mkSl (bytes : Nat) (zero : List Value) (l c : Operand)
  | slS (x : Operand) (lo hi : Option Operand)
  | slV (esz : Nat) (x : Operand) (lo hi mx : Option Operand)
  | slA (esz n : Nat) (x : Operand) (lo hi : Option Operand)
  | fld (off : Nat) (x : Operand)
  | ixV (esz : Nat) (x i : Operand)
  | ixA (esz len : Nat) (x i : Operand)
  | ixS (x i : Operand)
  | ixG (esz len : Nat) (agg : Bool) (x i : Operand)
  | ext (x : Operand) (i : Nat)
  | lenS (x : Operand)
  | lenV (x : Operand)
  | lenM (x : Operand)
  | lenC (n : Nat)
  | capV (x : Operand)
  | app (esz bytes : Nat) (x y : Operand)
  | appS (x y : Operand)
  | copyV (esz : Nat) (x y : Operand)
  | copyS (x y : Operand)
  | minmax (mx : Bool) (x y : Operand)
  | look (kt : PT) (zero : Value) (ok : Bool) (x k : Operand)
  | mset (kt : PT) (m k v : Operand)
  | call (f : FuncId) (args : List Operand)
  | callV (x : Operand) (args : List Operand)
  | tyA (t : TypeId) (zero : Value) (ok : Bool) (x : Operand)
  | bad
  deriving Inhabited

structure MO where
  dst : Option Nat
  op : MOp
  guard : Option (Nat × Bool)
  deriving Inhabited

inductive MCode where
  | skip
  | region (ops : List MO) (crosses : List (Nat × Nat))
  | seq (a b : MCode)
  | cond (c : Operand) (thn els : MCode)
  | block (id : Nat) (body : MCode)
  | loop (live : List Nat) (body : MCode)
  | exit (id : Nat)
  | ret
  | bad
  deriving Inhabited

inductive MRes where
  | tmp (t : Nat)
  | cell1 (t : Nat)
  | cellN (t n : Nat)
  deriving Inhabited

structure MFun where
  nargs : Nat
  body : MCode
  res : List MRes
  deriving Inhabited

/-! ### the pure parts -/

def arith (op : BinOp) : Value → Value → Option Value
  | .int k a, .int k' b =>
    match op with
    | .shl => if b < 0 then none else some (.int k (k.wrap (a * 2 ^ (min b.toNat k.bits))))
    | .shr => if b < 0 then none else some (.int k (a.fdiv (2 ^ (min b.toNat k.bits))))
    | _ =>
    if k ≠ k' then none else
    match op with
    | .add => some (.int k (k.wrap (a + b)))
    | .sub => some (.int k (k.wrap (a - b)))
    | .mul => some (.int k (k.wrap (a * b)))
    | .quo => if b = 0 then none else some (.int k (k.wrap (a.tdiv b)))
    | .rem => if b = 0 then none else some (.int k (a.tmod b))
    | .and => some (.int k (k.wrap (BitVec.ofInt k.bits a &&& BitVec.ofInt k.bits b).toNat))
    | .or => some (.int k (k.wrap (BitVec.ofInt k.bits a ||| BitVec.ofInt k.bits b).toNat))
    | .xor => some (.int k (k.wrap (BitVec.ofInt k.bits a ^^^ BitVec.ofInt k.bits b).toNat))
    | .andNot => some (.int k (k.wrap (BitVec.ofInt k.bits a &&& ~~~ BitVec.ofInt k.bits b).toNat))
    | .eql => some (.bool (a == b))
    | .neq => some (.bool (a != b))
    | .lss => some (.bool (a < b))
    | .leq => some (.bool (a ≤ b))
    | .gtr => some (.bool (a > b))
    | .geq => some (.bool (a ≥ b))
    | _ => none
  | .string a, .string b =>
    match op with
    | .add => if ((a.size + b.size : Nat) : Int) > 9223372036854775807 then none else some (.string (a ++ b))
    | .eql => some (.bool (a.toList == b.toList))
    | .neq => some (.bool !(a.toList == b.toList))
    | .lss => some (.bool (Op.bytesLess a.toList b.toList))
    | .leq => some (.bool (Op.bytesLess a.toList b.toList || a.toList == b.toList))
    | .gtr => some (.bool !(Op.bytesLess a.toList b.toList || a.toList == b.toList))
    | .geq => some (.bool !(Op.bytesLess a.toList b.toList))
    | _ => none
  | _, _ => none

def unary (op : UnOp) : Value → Option Value
  | .int k n =>
    match op with
    | .neg => some (.int k (k.wrap (0 - n)))
    | .xor => some (.int k (k.wrap (BitVec.ofInt k.bits (if k.signed then -1 else k.max) ^^^ BitVec.ofInt k.bits n).toNat))
    | _ => none
  | .bool b => match op with | .not => some (.bool !b) | _ => none
  | _ => none

mutual
def eqPT : PT → Value → Value → Option Bool
  | .int, .int k a, .int k' b => if k = k' then some (a == b) else none
  | .bool, .bool a, .bool b => some (a == b)
  | .str, .string a, .string b => some (a == b)
  | .st fs, .agg xs, .agg ys => eqPTs fs xs ys
  | _, _, _ => none
def eqPTs : List (Nat × Nat × Bool × PT) → Array Value → Array Value → Option Bool
  | [], _, _ => some true
  | (off, size, agg, p) :: fs, xs, ys =>
    match eqPT p (if agg then .agg (xs.extract off (off + size)) else xs.getD off unk) (if agg then .agg (ys.extract off (off + size)) else ys.getD off unk) with
    | some true => eqPTs fs xs ys
    | some false => if (eqPTs fs xs ys).isSome then some false else none
    | none => none
end

def eqVal : EqT → Value → Value → Option Bool
  | .bool, .bool a, .bool b => some (a == b)
  | .ptr, .pointer none, .pointer b => some b.isNone
  | .ptr, .pointer (some _), .pointer none => some false
  | .slice, .slice none _ _, .slice b _ _ => some b.isNone
  | .slice, .slice (some _) _ _, .slice none _ _ => some false
  | .map, .map none, .map b => some b.isNone
  | .map, .map (some _), .map none => some false
  | .iface, .nilIface, .iface _ _ => some false
  | .iface, .iface _ _, .nilIface => some false
  | .ifaceC, .nilIface, .iface _ _ => some false
  | .ifaceC, .iface _ _, .nilIface => some false
  | .ifaceC, .nilIface, .nilIface => some true
  | .func, .nilFunc, .func _ _ _ => some false
  | .func, .func _ _ _, .nilFunc => some false
  | .func, .nilFunc, .nilFunc => some true
  | .plain p, a, b => eqPT p a b
  | _, _, _ => none

def asNat? : Value → Option Nat
  | .int _ n => if 0 ≤ n then some n.toNat else none
  | _ => none

/-- the bounds of a slice expression: low, high, max -/
def bounds (len cap : Nat) (lo hi mx : Option Value) : Option (Nat × Nat × Nat) :=
  match (match mx with | some v => (match asNat? v with | some m => if m ≤ cap then some m else none | none => none) | none => some cap) with
  | none => none
  | some m =>
    match (match hi with | some v => (match asNat? v with | some h => if h ≤ m then some h else none | none => none) | none => if mx.isSome then none else some len) with
    | none => none
    | some h =>
      match (match lo with | some v => (match asNat? v with | some l => if l ≤ h then some l else none | none => none) | none => some 0) with
      | none => none
      | some l => some (l, h, m)

/-- parts laid into cells: each at its offset, of its size -/
def lay (ρ : Operand → Value) : List (Nat × Nat × Operand) → List Value → Option (List Value)
  | [], cs => some cs
  | (off, size, x) :: r, cs =>
    match cellsOf (ρ x) with
    | some vs => if vs.length = size ∧ off + size ≤ cs.length then lay ρ r (splice cs off vs) else none
    | none => none

def toBytes : List Value → Option (List UInt8)
  | [] => some []
  | .int .u8 n :: r => match toBytes r with | some l => some (UInt8.ofNat n.toNat :: l) | none => none
  | _ :: _ => none

def ofBytes (s : ByteArray) : List Value := s.data.toList.map fun b => .int .u8 b.toNat

def repL (zero : List Value) : Nat → List Value
  | 0 => []
  | n + 1 => zero ++ repL zero n

def findE (kt : PT) (k : Value) : List (Value × Value × Nat) → Nat → Option (Option (Nat × Value))
  | [], _ => some none
  | (x, v, _) :: es, i =>
    match eqPT kt k x with
    | some true => some (some (i, v))
    | some false => findE kt k es (i + 1)
    | none => none

mutual
def beqV : Nat → Value → Value → Bool
  | 0, _, _ => false
  | _ + 1, .bool a, .bool b => a == b
  | _ + 1, .int k a, .int k' b => k == k' && a == b
  | _ + 1, .string a, .string b => a == b
  | _ + 1, .pointer a, .pointer b => a == b
  | _ + 1, .slice a n m, .slice b n' m' => a == b && n == n' && m == m'
  | _ + 1, .map a, .map b => a == b
  | _ + 1, .nilFunc, .nilFunc => true
  | _ + 1, .nilIface, .nilIface => true
  | n + 1, .iface t v, .iface u w => t == u && beqV n v w
  | n + 1, .agg a, .agg b => beqL n a.toList b.toList
  | _, _, _ => false
def beqL : Nat → List Value → List Value → Bool
  | _, [], [] => true
  | n, a :: aS, b :: bs => beqV n a b && beqL n aS bs
  | _, _, _ => false
end

/-- an append of n known elements onto a slice -/
def appendTo (h : Heap) (esz bytes : Nat) (x : Value) (n : Nat) (vs : List Value) : Option (Value × Heap) :=
  match x with
  | .slice base sLen sCap =>
    if vs.length ≠ n * esz ∨ (sLen + n) * bytes > 140737488355328 then none else
    if sLen + n ≤ sCap then
      match base with
      | none => some (.slice none (sLen + n) sCap, h)
      | some a =>
        if n = 0 then some (.slice (some a) sLen sCap, h) else
        match h.wr ⟨a.block, a.off + sLen * esz, a.spot⟩ vs with
        | some h' => some (.slice (some a) (sLen + n) sCap, h')
        | none => none
    else
      match base with
      | none => some (.slice (some ⟨h.n, 0, none⟩) n n, h.push (.loose esz vs))
      | some a =>
        match h.rdN a (sLen * esz) with
        | none => none
        | some old =>
          match h.get? a.block with
          | some (.loose e cs) =>
            if a.off + sCap * e = cs.length then
              if e = esz then some (.slice (some ⟨h.n, 0, none⟩) (sLen + n) (sLen + n), (h.set a.block .dead).push (.loose esz (old ++ vs))) else none
            else some (.slice (some ⟨h.n, 0, none⟩) (sLen + n) (sLen + n), h.push (.loose esz (old ++ vs)))
          | _ => some (.slice (some ⟨h.n, 0, none⟩) (sLen + n) (sLen + n), h.push (.loose esz (old ++ vs)))
  | _ => none

/-- the cells that a slice or a nil slice holds -/
def sliceCells (h : Heap) (esz n : Nat) : Value → Option (List Value)
  | .slice a len _ =>
    if n = 0 then some [] else
    match a with
    | some a => if n ≤ len then h.rdN a (n * esz) else none
    | none => none
  | _ => none

def addOff (a : Addr) (n : Nat) : Addr := ⟨a.block, a.off + n, a.spot⟩

def cop (ρ : Operand → Value) (h : Heap) : MOp → Option (Value × Heap)
  | .mv x => some (ρ x, h)
  | .pick c a b => match ρ c with | .bool t => some (if t then ρ a else ρ b, h) | _ => none
  | .new cs => some (.pointer (some ⟨h.n, 0, none⟩), h.push (.rw cs))
  | .box x => match cellsOf (ρ x) with | some cs => some (.pointer (some ⟨h.n, 0, none⟩), h.push (.rw cs)) | none => none
  | .build zero parts => match lay ρ parts zero with | some cs => some (.agg cs.toArray, h) | none => none
  | .buildSlice zero len parts => match lay ρ parts zero with | some cs => some (.slice (some ⟨h.n, 0, none⟩) len len, h.push (.rw cs)) | none => none
  | .load1 x => match ρ x with | .pointer (some a) => (match h.rd1 a with | some v => some (v, h) | none => none) | _ => none
  | .loadN n x => match ρ x with | .pointer (some a) => (match h.rdN a n with | some vs => some (.agg vs.toArray, h) | none => none) | _ => none
  | .store n x v => match ρ x, cellsOf (ρ v) with | .pointer (some a), some vs => (if vs.length = n then (match h.wr a vs with | some h' => some (undef, h') | none => none) else none) | _, _ => none
  | .nilCheck x => match ρ x with | .pointer (some a) => some (.pointer (some a), h) | .func (.func f) a b => some (.func (.func f) a b, h) | _ => none
  | .ar op x y => match arith op (ρ x) (ρ y) with | some v => some (v, h) | none => none
  | .eq neg t x y => match eqVal t (ρ x) (ρ y) with | some b => some (.bool (if neg then !b else b), h) | none => none
  | .un op x => match unary op (ρ x) with | some v => some (v, h) | none => none
  | .conv k x => match ρ x with | .int _ n => some (.int k (k.wrap n), h) | _ => none
  | .convBS x => match ρ x with
    | .slice none _ _ => some (.string .empty, h)
    | .slice (some a) len cap => (match sliceCells h 1 len (.slice (some a) len cap) with | some cs => (match toBytes cs with | some l => some (.string ⟨l.toArray⟩, h) | none => none) | none => none)
    | _ => none
  | .convSB x => match ρ x with | .string s => some (.slice (some ⟨h.n, 0, none⟩) s.size s.size, h.push (.loose 1 (ofBytes s))) | _ => none
  | .toI t x => match ρ x with | .chan _ => none | v => some (.iface t v, h)
  | .mkF f first caps => some (.func (.func f) (first.map ρ).toArray (caps.map ρ).toArray, h)
  | .mkMap => some (.map (some h.n), h.push (.map [] 0))
  | .mkSl bytes zero l c => match ρ l, ρ c with
    | .int _ l, .int _ c => if 0 ≤ l ∧ l ≤ c ∧ bytes * c ≤ 281474976710656 ∧ c ≤ 9223372036854775807 then some (.slice (some ⟨h.n, 0, none⟩) l.toNat c.toNat, h.push (.rw (repL zero c.toNat))) else none
    | _, _ => none
  | .slS x lo hi => match ρ x with
    | .string s => (match bounds s.size s.size (lo.map ρ) (hi.map ρ) none with | some (l, e, _) => some (.string (s.extract l e), h) | none => none)
    | _ => none
  | .slV esz x lo hi mx => match ρ x with
    | .slice a len cap => (match bounds len cap (lo.map ρ) (hi.map ρ) (mx.map ρ) with
      | some (l, e, m) => (match a with
        | none => some (.slice none (e - l) (m - l), h)
        | some a =>
          if mx.isSome then some (.slice (some (if m = l then a else addOff a (l * esz))) (e - l) (m - l), h) else
          match h.get? a.block with
          | some (.ro _) | some (.rw _) => some (.slice (some (if m = l then a else addOff a (l * esz))) (e - l) (m - l), h)
          | some (.loose k _) => if m = l then some (.slice (some ⟨a.block, a.off, some 0⟩) 0 0, h) else if k = esz then some (.slice (some (addOff a (l * esz))) (e - l) (m - l), h) else none
          | some .dead => if m = l then some (.slice (some ⟨a.block, a.off, some 0⟩) 0 0, h) else none
          | _ => none)
      | none => none)
    | _ => none
  | .slA esz n x lo hi => match ρ x with
    | .pointer (some a) => (match bounds n n (lo.map ρ) (hi.map ρ) none with
      | some (l, e, m) => some (.slice (some (if m = l then a else addOff a (l * esz))) (e - l) (m - l), h)
      | none => none)
    | _ => none
  | .fld off x => match ρ x with | .pointer (some a) => some (.pointer (some (addOff a off)), h) | _ => none
  | .ixV esz x i => match ρ x, ρ i with | .slice (some a) len _, .int _ n => if 0 ≤ n ∧ n < len then some (.pointer (some (addOff a (n.toNat * esz))), h) else none | _, _ => none
  | .ixA esz len x i => match ρ x, ρ i with | .pointer (some a), .int _ n => if 0 ≤ n ∧ n < len then some (.pointer (some (addOff a (n.toNat * esz))), h) else none | _, _ => none
  | .ixS x i => match ρ x, ρ i with | .string s, .int _ n => (if 0 ≤ n then (match s[n.toNat]? with | some b => some (.int .u8 b.toNat, h) | none => none) else none) | _, _ => none
  | .ixG esz len agg x i => match ρ x, ρ i with
    | .agg cs, .int _ n => if 0 ≤ n ∧ n < len then (if agg then some (.agg (cs.extract (n.toNat * esz) (n.toNat * esz + esz)), h) else (match cs[n.toNat * esz]? with | some v => some (v, h) | none => none)) else none
    | _, _ => none
  | .ext x i => match ρ x with | .tuple vs => (match vs[i]? with | some v => some (v, h) | none => none) | _ => none
  | .lenS x => match ρ x with | .string s => some (.int .i64 s.size, h) | _ => none
  | .lenV x => match ρ x with | .slice _ n _ => some (.int .i64 n, h) | _ => none
  | .lenM x => match ρ x with
    | .map none => some (.int .i64 0, h)
    | .map (some c) => (match h.get? c with | some (.map es _) => some (.int .i64 es.length, h) | _ => none)
    | _ => none
  | .lenC n => some (.int .i64 n, h)
  | .capV x => match ρ x with
    | .slice none _ n => some (.int .i64 n, h)
    | .slice (some a) _ n => if a.spot.isSome then none else (match h.get? a.block with | some (.rw _) | some (.ro _) => some (.int .i64 n, h) | _ => none)
    | _ => none
  | .app esz bytes x y => match ρ y with
    | .slice a len cap => (match sliceCells h esz len (.slice a len cap) with | some vs => appendTo h esz bytes (ρ x) len vs | none => none)
    | _ => none
  | .appS x y => match ρ y with | .string s => appendTo h 1 1 (ρ x) s.size (ofBytes s) | _ => none
  | .copyV esz x y => match ρ x, ρ y with
    | .slice d dl _, .slice s sl c => if min sl dl = 0 then some (.int .i64 0, h) else (match sliceCells h esz (min sl dl) (.slice s sl c), d with
      | some vs, some a => (match h.wr a vs with | some h' => some (.int .i64 (min sl dl : Nat), h') | none => none)
      | _, _ => none)
    | _, _ => none
  | .copyS x y => match ρ x, ρ y with
    | .slice d dl _, .string s => if min s.size dl = 0 then some (.int .i64 0, h) else (match d with
      | some a => (match h.wr a ((ofBytes s).take dl) with | some h' => some (.int .i64 (min s.size dl : Nat), h') | none => none)
      | none => none)
    | _, _ => none
  | .minmax mx x y => match ρ x, ρ y with
    | .int k a, .int _ b => some (.int k (if mx then (if b > a then b else a) else (if b < a then b else a)), h)
    | _, _ => none
  | .look kt zero ok x k => if (eqPT kt (ρ k) (ρ k)).isNone then none else match ρ x with
    | .map none => some (if ok then .tuple #[zero, .bool false] else zero, h)
    | .map (some c) => (match h.get? c with
      | some (.map es _) => (match findE kt (ρ k) es 0 with
        | some (some (_, v)) => some (if ok then .tuple #[v, .bool true] else v, h)
        | some none => some (if ok then .tuple #[zero, .bool false] else zero, h)
        | none => none)
      | _ => none)
    | _ => none
  | .mset kt m k v => if (eqPT kt (ρ k) (ρ k)).isNone then none else match ρ m with
    | .map (some c) => (match h.get? c with
      | some (.map es clock) => (match cellsOf (ρ v) with
        | some _ => (match findE kt (ρ k) es 0 with
          | some (some (i, _)) => (match es[i]? with
            | some (x, _, _) => if keyV x && beqV 9 x (ρ k) then some (undef, h.set c (.map (es.modify i fun e => (e.1, ρ v, e.2.2)) clock)) else none
            | none => none)
          | some none => some (undef, h.set c (.map (es ++ [(ρ k, ρ v, clock)]) (clock + 1)))
          | none => none)
        | none => none)
      | _ => none)
    | _ => none
  | .call _ _ => none
  | .callV _ _ => none
  | .bad => none
  | .tyA t zero ok x => match ρ x with
    | .nilIface => if ok then some (.tuple #[zero, .bool false], h) else none
    | .iface u v => if u = t then some (if ok then .tuple #[v, .bool true] else v, h) else if ok then some (.tuple #[zero, .bool false], h) else none
    | _ => none

inductive Ex where
  | norm
  | exit (id : Nat)
  | ret
  deriving DecidableEq, Inhabited

/-- is the operation wanted, by its guard? none: not known -/
def wantedC (f : Fr) : Option (Nat × Bool) → Option Bool
  | none => some true
  | some (t, want) => match f.get t with
    | .bool b => some (b == want)
    | .tuple vs => if vs.size = 0 then some false else none
    | _ => none

/-- what a region's operation did -/
structure Tr where
  ran : Bool
  f : Fr
  h : Heap
  h' : Heap
  v : Value
  deriving Inhabited

/-- the operation's reading once more, in another memory -/
def reread (ρ : Operand → Value) (h : Heap) (o : MOp) : Option Value :=
  match o with
  | .load1 _ | .loadN .. | .convBS _ | .slV .. => (match cop ρ h o with | some (v, _) => some v | none => none)
  | _ => none

/-- a reading i and an effect j whose order is open: the reading is the same on the effect's other side -/
def CrossOK (ops : List MO) (trs : List Tr) (ij : Nat × Nat) : Prop :=
  ∀ o ti tj, ops[ij.1]? = some o → trs[ij.1]? = some ti → trs[ij.2]? = some tj → ti.ran = true → tj.ran = true →
    reread ti.f.ev (if ij.1 < ij.2 then tj.h' else tj.h) o.op = some ti.v

def resOne (f : Fr) (h : Heap) : MRes → Option Value
  | .tmp t => some (f.get t)
  | .cell1 t => match f.get t with | .pointer (some a) => h.rd1 a | _ => none
  | .cellN t n => match f.get t with | .pointer (some a) => (match h.rdN a n with | some vs => some (.agg vs.toArray) | none => none) | _ => none
def resAll (f : Fr) (h : Heap) : List MRes → Option (List Value)
  | [] => some []
  | r :: rs => match resOne f h r, resAll f h rs with | some v, some vs => some (v :: vs) | _, _ => none
def resC (rs : List MRes) (f : Fr) (h : Heap) : Option Value :=
  match resAll f h rs with
  | some [v] => some v
  | some vs => some (.tuple vs.toArray)
  | none => none

def initF : Nat → List Value → Fr
  | _, [] => []
  | i, v :: vs => (i, v) :: initF (i + 1) vs

inductive Jd where
  | op (o : MOp) (f : Fr) (h : Heap) (v : Value) (h' : Heap)
  | ops (l : List MO) (f : Fr) (h : Heap) (trs : List Tr) (f' : Fr) (h' : Heap)
  | code (c : MCode) (f : Fr) (h : Heap) (e : Ex) (f' : Fr) (h' : Heap)
  | rounds (live : List Nat) (c : MCode) (f : Fr) (h : Heap) (e : Ex) (f' : Fr) (h' : Heap)
  | call (g : FuncId) (args : List Value) (h : Heap) (v : Value) (h' : Heap)

/-- the program's resolved functions, and what is known of others -/
structure Prg where
  fn : FuncId → Option MFun
  orac : FuncId → List Value → Heap → Value → Heap → Prop

inductive Ev (M : Prg) : Jd → Prop
  | prim {o f h v h'} : cop (Fr.ev f) h o = some (v, h') → Ev M (.op o f h v h')
  | opcall {g args f h v h'} : Ev M (.call g (args.map (Fr.ev f)) h v h') → Ev M (.op (.call g args) f h v h')
  | opcallV {x args f g h v h'} {first caps : Array Value} : Fr.ev f x = .func (.func g) first caps →
      Ev M (.call g (first.toList ++ args.map (Fr.ev f) ++ caps.toList) h v h') → Ev M (.op (.callV x args) f h v h')
  | nil {f h} : Ev M (.ops [] f h [] f h)
  | run {o r f h v h1 trs f' h'} : wantedC f o.guard = some true → Ev M (.op o.op f h v h1) → Ev M (.ops r (Fr.put f o.dst v) h1 trs f' h') →
      Ev M (.ops (o :: r) f h (⟨true, f, h, h1, v⟩ :: trs) f' h')
  | pass {o r f h trs f' h'} : wantedC f o.guard = some false → Ev M (.ops r (Fr.put f o.dst undef) h trs f' h') →
      Ev M (.ops (o :: r) f h (⟨false, f, h, h, undef⟩ :: trs) f' h')
  | skip {f h} : Ev M (.code .skip f h .norm f h)
  | region {l x f h trs f' h'} : Ev M (.ops l f h trs f' h') → (∀ ij ∈ x, CrossOK l trs ij) → Ev M (.code (.region l x) f h .norm f' h')
  | seqN {a b f h f1 h1 e f' h'} : Ev M (.code a f h .norm f1 h1) → Ev M (.code b f1 h1 e f' h') → Ev M (.code (.seq a b) f h e f' h')
  | seqX {a b f h e f' h'} : Ev M (.code a f h e f' h') → e ≠ .norm → Ev M (.code (.seq a b) f h e f' h')
  | condT {c a b f h e f' h'} : Fr.ev f c = .bool true → Ev M (.code a f h e f' h') → Ev M (.code (.cond c a b) f h e f' h')
  | condF {c a b f h e f' h'} : Fr.ev f c = .bool false → Ev M (.code b f h e f' h') → Ev M (.code (.cond c a b) f h e f' h')
  | blockX {i b f h f' h'} : Ev M (.code b f h (.exit i) f' h') → Ev M (.code (.block i b) f h .norm f' h')
  | blockO {i b f h e f' h'} : Ev M (.code b f h e f' h') → e ≠ .exit i → Ev M (.code (.block i b) f h e f' h')
  | loop {live b f h e f' h'} : Ev M (.rounds live b (Fr.keep f live) h e f' h') → Ev M (.code (.loop live b) f h e f' h')
  | again {live b f h f1 h1 e f' h'} : Ev M (.code b f h .norm f1 h1) → Ev M (.rounds live b (Fr.keep f1 live) h1 e f' h') → Ev M (.rounds live b f h e f' h')
  | out {live b f h e f' h'} : Ev M (.code b f h e f' h') → e ≠ .norm → Ev M (.rounds live b f h e f' h')
  | exit {i f h} : Ev M (.code (.exit i) f h (.exit i) f h)
  | ret {f h} : Ev M (.code .ret f h .ret f h)
  | fcall {g F args h e f' h' v} : M.fn g = some F → args.length = F.nargs → Ev M (.code F.body (initF 0 args) h e f' h') → (e = .norm ∨ e = .ret) →
      resC F.res f' h' = some v → Ev M (.call g args h v h')
  | known {g args h v h'} : M.orac g args h v h' → Ev M (.call g args h v h')

/-! ### the evaluator -/

abbrev CallF := FuncId → List Value → Heap → Option (Value × Heap)

def opC (call : CallF) (f : Fr) (h : Heap) : MOp → Option (Value × Heap)
  | .call g args => call g (args.map f.ev) h
  | .callV x args => match f.ev x with
    | .func (.func g) first caps => call g (first.toList ++ args.map f.ev ++ caps.toList) h
    | _ => none
  | o => cop f.ev h o

def runOps (call : CallF) : List MO → Fr → Heap → Option (Fr × Heap)
  | [], f, h => some (f, h)
  | o :: r, f, h =>
    match wantedC f o.guard with
    | some true => (match opC call f h o.op with | some (v, h') => runOps call r (f.put o.dst v) h' | none => none)
    | some false => runOps call r (f.put o.dst undef) h
    | none => none

def runT (call : CallF) : List MO → Fr → Heap → Option (List Tr × Fr × Heap)
  | [], f, h => some ([], f, h)
  | o :: r, f, h =>
    match wantedC f o.guard with
    | some true => (match opC call f h o.op with
      | some (v, h') => (match runT call r (f.put o.dst v) h' with | some (trs, f', h'') => some (⟨true, f, h, h', v⟩ :: trs, f', h'') | none => none)
      | none => none)
    | some false => (match runT call r (f.put o.dst undef) h with | some (trs, f', h'') => some (⟨false, f, h, h, undef⟩ :: trs, f', h'') | none => none)
    | none => none

def crossB (ops : List MO) (trs : List Tr) (ij : Nat × Nat) : Bool :=
  match ops[ij.1]?, trs[ij.1]?, trs[ij.2]? with
  | some o, some ti, some tj =>
    if ti.ran && tj.ran then (match reread ti.f.ev (if ij.1 < ij.2 then tj.h' else tj.h) o.op with | some v => beqV 9 v ti.v | none => false) else true
  | _, _, _ => true

def iter (body : Fr → Heap → Option (Ex × Fr × Heap)) (live : List Nat) : Nat → Fr → Heap → Option (Ex × Fr × Heap)
  | 0, _, _ => none
  | k + 1, f, h => match body f h with
    | some (.norm, f', h') => iter body live k (f'.keep live) h'
    | r => r

def evalCode (call : CallF) (n : Nat) : MCode → Fr → Heap → Option (Ex × Fr × Heap)
  | .skip, f, h => some (.norm, f, h)
  | .region l [], f, h => match runOps call l f h with | some (f', h') => some (.norm, f', h') | none => none
  | .region l x, f, h => match runT call l f h with
    | some (trs, f', h') => if x.all (crossB l trs) then some (.norm, f', h') else none
    | none => none
  | .seq a b, f, h => match evalCode call n a f h with
    | some (.norm, f', h') => evalCode call n b f' h'
    | r => r
  | .cond c a b, f, h => match f.ev c with
    | .bool true => evalCode call n a f h
    | .bool false => evalCode call n b f h
    | _ => none
  | .block i b, f, h => match evalCode call n b f h with
    | some (.exit j, f', h') => if j = i then some (.norm, f', h') else some (.exit j, f', h')
    | r => r
  | .loop live b, f, h => iter (evalCode call n b) live n (f.keep live) h
  | .exit i, f, h => some (.exit i, f, h)
  | .ret, f, h => some (.ret, f, h)
  | .bad, _, _ => none

def evalCall (fn : FuncId → Option MFun) : Nat → CallF
  | 0, _, _, _ => none
  | k + 1, g, args, h => match fn g with
    | none => none
    | some F => if args.length = F.nargs then
        (match evalCode (evalCall fn k) k F.body (initF 0 args) h with
        | some (.exit _, _, _) => none
        | some (_, f', h') => (match resC F.res f' h' with | some v => some (v, h') | none => none)
        | none => none)
      else none

end Go.Cm

/- The canonical machine: how a loaded program's functions are resolved into micro-operations. Conditions: none. -/
namespace Go.Cm
open Go.RowKit

def okX (G : Nat) : Operand → Bool
  | .tmp _ => true
  | .const v => plainV v
  | .global g => g < G
  | .func _ => true

variable (P : Program) (G : Nat)

def aggT (t : TypeId) : Option Bool :=
  match P.underlying t with
  | some (.struct _) | some (.array _ _) => some true
  | some _ => some false
  | none => none
def zeroOf (t : TypeId) : Option Value :=
  match P.info? t with
  | some i => (match i.zero with | some v => if plainV v then some v else none | none => none)
  | none => none
def sizeT (t : TypeId) : Option Nat := (P.info? t).map (·.size)
def bytesT (t : TypeId) : Option Nat := (P.info? t).map (·.bytes)

def ptFields (pt : TypeId → Option PT) : List Field → Option (List (Nat × Nat × Bool × PT))
  | [] => some []
  | f :: fs =>
    if f.name = "_" then none else
    match pt f.type, aggT P f.type, sizeT P f.type, ptFields pt fs with
    | some p, some a, some n, some r => some ((f.offset, n, a, p) :: r)
    | _, _, _, _ => none
def ptOf : Nat → TypeId → Option PT
  | 0, _ => none
  | d + 1, t =>
    match P.underlying t with
    | some (.int _) => some .int
    | some .bool => some .bool
    | some .string => some .str
    | some (.struct fs) => if P.stoodInHeld t then none else (match ptFields P (ptOf d) fs.toList with | some l => some (.st l) | none => none)
    | _ => none

def resParts (fields : Array Field) : List (Nat × Operand) → Option (List (Nat × Nat × Operand))
  | [] => some []
  | (i, x) :: r =>
    match fields[i]?, resParts fields r with
    | some f, some l => (match sizeT P f.type with | some n => some ((f.offset, n, x) :: l) | none => none)
    | _, _ => none

def nilC : Operand → Bool
  | .const .nilIface => true
  | _ => false

def resEq (neg : Bool) (op : BinOp) (t : TypeId) (x y : Operand) : MOp :=
  match P.underlying t with
  | some (.int _) | some .string => .ar op x y
  | some .bool => .eq neg .bool x y
  | some (.pointer _) => .eq neg .ptr x y
  | some (.slice _) => .eq neg .slice x y
  | some (.map _ _) => .eq neg .map x y
  | some (.func _ _ _) => .eq neg .func x y
  | some (.interface _) => .eq neg (if nilC x || nilC y then .ifaceC else .iface) x y
  | some (.struct _) => if P.eqGuardType P.depth t then .bad else (match ptOf P 20 t with | some p => .eq neg (.plain p) x y | none => .bad)
  | _ => .bad

def resBuiltin (b : Builtin) (ts : Array TypeId) (args : List Operand) : MOp :=
  match b, ts.toList, args with
  | .len, [t], [x] =>
    (match P.underlying t with
    | some .string => .lenS x
    | some (.slice _) => .lenV x
    | some (.map _ _) => .lenM x
    | some (.array n _) => .lenC n
    | _ => .bad)
  | .cap, [t], [x] => (match P.underlying t with | some (.slice _) => .capV x | _ => .bad)
  | .append, [t, u], [x, y] =>
    (match P.underlying t, P.underlying u with
    | some (.slice e), some (.slice _) => (match sizeT P e, bytesT P e, zeroOf P e with | some s, some b, some z => if 0 < s ∧ 0 < b ∧ z.cells.size = s then .app s b x y else .bad | _, _, _ => .bad)
    | some (.slice e), some .string => (match sizeT P e, bytesT P e, zeroOf P e with | some s, some b, some z => if s = 1 ∧ b = 1 ∧ z.cells.size = s then .appS x y else .bad | _, _, _ => .bad)
    | _, _ => .bad)
  | .copy, [t, u], [x, y] =>
    (match P.underlying t, P.underlying u with
    | some (.slice e), some (.slice _) => (match sizeT P e with | some s => .copyV s x y | _ => .bad)
    | some (.slice e), some .string => (match sizeT P e with | some s => if s = 1 then .copyS x y else .bad | _ => .bad)
    | _, _ => .bad)
  | .max, [_, _], [x, y] => .minmax true x y
  | .min, [_, _], [x, y] => .minmax false x y
  | _, _, _ => .bad

def allSizes (fs : Array Field) : Bool := fs.toList.all fun f => (sizeT P f.type).isSome

def resO (o : Op) : MOp :=
  match o with
  | .move x | .assign x => .mv x
  | .pick c a b => .pick c a b
  | .alloc e => (match zeroOf P e with | some z => .new z.cells.toList | none => .bad)
  | .box _ x => .box x
  | .build t ps =>
    (match P.underlying t, zeroOf P t with
    | some (.struct fs), some z => if !(allSizes P fs) then .bad else (match resParts P fs ps.toList with | some l => .build z.cells.toList l | none => .bad)
    | some (.array _ e), some z => (match sizeT P e with | some s => .build z.cells.toList (ps.toList.map fun (i, x) => (i * s, s, x)) | none => .bad)
    | _, _ => .bad)
  | .buildSlice t len ps =>
    (match P.underlying t with
    | some (.slice e) => (match sizeT P e, zeroOf P e with
      | some s, some z => if len * s ≤ 16777216 ∧ z.cells.size = s ∧ 0 < s then .buildSlice (repL z.cells.toList len) len (ps.toList.map fun (i, x) => (i * s, s, x)) else .bad
      | _, _ => .bad)
    | _ => .bad)
  | .load t x => (match aggT P t, sizeT P t with | some true, some n => .loadN n x | some false, some _ => .load1 x | _, _ => .bad)
  | .store t x v => (match sizeT P t with | some n => .store n x v | none => .bad)
  | .nilCheck x => .nilCheck x
  | .binOp op t x y _ =>
    (match op with
    | .eql => resEq P false op t x y
    | .neq => resEq P true op t x y
    | _ => .ar op x y)
  | .unOp op _ x => .un op x
  | .convert s d x =>
    (match P.underlying s, P.underlying d with
    | some (.int _), some (.int k) => .conv k x
    | some (.slice e), some .string => (match P.underlying e with | some (.int .u8) => .convBS x | _ => .bad)
    | some .string, some (.slice e) => (match P.underlying e with | some (.int .u8) => .convSB x | _ => .bad)
    | _, _ => .bad)
  | .makeInterface t x => (match P.underlying t with | some (.interface _) => .bad | some _ => .toI t x | none => .bad)
  | .makeFunc (.func f) first caps => .mkF f first.toList caps.toList
  | .makeMap _ none => .mkMap
  | .makeSlice t l c =>
    (match P.underlying t with
    | some (.slice e) => (match sizeT P e, zeroOf P e, bytesT P e with
      | some s, some z, some b => if z.cells.size = s ∧ 0 < s then .mkSl b z.cells.toList l c else .bad
      | _, _, _ => .bad)
    | _ => .bad)
  | .slice t x lo hi mx =>
    (match P.underlying t with
    | some .string => if mx.isSome then .bad else .slS x lo hi
    | some (.slice e) => (match sizeT P e with | some s => .slV s x lo hi mx | none => .bad)
    | some (.array n e) => (match sizeT P e with | some s => if mx.isSome then .bad else .slA s n x lo hi | none => .bad)
    | _ => .bad)
  | .fieldAddr s x f =>
    (match P.underlying s with
    | some (.struct fs) => (match fs[f]? with | some fd => (match sizeT P fd.type with | some n => if n = 0 then .bad else .fld fd.offset x | none => .bad) | none => .bad)
    | _ => .bad)
  | .indexAddr t x i =>
    (match P.underlying t with
    | some (.slice e) => (match sizeT P e with | some s => .ixV s x i | none => .bad)
    | some (.array n e) => (match sizeT P e with | some s => .ixA s n x i | none => .bad)
    | _ => .bad)
  | .index t x i =>
    (match P.underlying t with
    | some .string => .ixS x i
    | some (.array n e) => (match sizeT P e, aggT P e with | some s, some a => .ixG s n a x i | _, _ => .bad)
    | _ => .bad)
  | .lookup t x k ok =>
    (match P.underlying t with
    | some (.map kt e) => (match ptOf P 20 kt, zeroOf P e with | some p, some z => .look p z ok x k | _, _ => .bad)
    | _ => .bad)
  | .mapUpdate t m k v =>
    (match P.underlying t with
    | some (.map kt _) => (match ptOf P 20 kt with | some p => .mset p m k v | _ => .bad)
    | _ => .bad)
  | .typeAssert x _ t ok =>
    (match P.underlying t, zeroOf P t with
    | some (.interface _), _ => .bad
    | some _, some z => .tyA t z ok x
    | _, _ => .bad)
  | .extract x i => .ext x i
  | .call { callee := .value (.func f), args, .. } => .call f args.toList
  | .call { callee := .value x, args, .. } => .callV x args.toList
  | .call { callee := .builtin b, args, argTypes } => resBuiltin P b argTypes args.toList
  | _ => .bad

def resOp (o : Op) : MOp := if o.operands.toList.all (okX G) then resO P o else .bad

/-- what an operation does to memory: 0 nothing, 1 it makes a block, 2 it reads by address and can be read again, 3 it reads otherwise, 4 it writes or calls -/
def kindOf : MOp → Nat
  | .new _ | .box _ | .buildSlice .. | .convSB _ | .mkMap | .mkSl .. => 1
  | .load1 _ | .loadN .. | .convBS _ | .slV .. => 2
  | .lenM _ | .capV _ | .look .. => 3
  | .store .. | .app .. | .appS .. | .copyV .. | .copyS .. | .mset .. | .call .. | .callV .. => 4
  | _ => 0

def tmpsOf (xs : List Operand) : List Nat := xs.filterMap fun | .tmp t => some t | _ => none

/-- the temporaries that an operation names: those that it looks at, and its own -/
def looks (ops : Array Oper) (o : Oper) : List Nat :=
  tmpsOf o.op.operands.toList ++ (match o.guard with | some (j, _) => ((ops[j]?).bind (·.dst)).toList | none => [])

/-- are two operations (i < j) that are not ordered free of each other? -/
def freePair (ops : Array Oper) (ki kj : Nat) (oi oj : Oper) : Bool :=
  (match oi.dst with | some d => !(looks ops oj).contains d && oj.dst != some d | none => true) &&
  (match oj.dst with | some d => !(looks ops oi).contains d | none => true) &&
  !(ki == 4 && kj == 4) && !(ki == 4 && kj == 3) && !(ki == 3 && kj == 4)

def drawOK (ops : Array Oper) (ms : List MOp) (b : Array Nat) : Bool :=
  (List.range ops.size).all fun j => (List.range j).all fun i => (b.getD j 0).testBit i ||
    freePair ops (kindOf (ms.getD i .bad)) (kindOf (ms.getD j .bad)) (ops.getD i default) (ops.getD j default)

def edgesOK (ops : Array Oper) : Bool :=
  (List.range ops.size).all fun i => (ops.getD i default).after.toList.all fun e => !Region.binds .any e || e.on < i

def crossesOf (ops : Array Oper) (ms : List MOp) (b : Array Nat) : List (Nat × Nat) :=
  (List.range ops.size).flatMap fun j => (List.range j).filterMap fun i =>
    if (b.getD j 0).testBit i then none else
    if kindOf (ms.getD i .bad) = 2 ∧ kindOf (ms.getD j .bad) = 4 then some (i, j)
    else if kindOf (ms.getD i .bad) = 4 ∧ kindOf (ms.getD j .bad) = 2 then some (j, i) else none

def resGuard (ops : Array Oper) : Option (Nat × Bool) → Option (Option (Nat × Bool))
  | none => some none
  | some (j, want) => match (ops[j]?).bind (·.dst) with | some t => some (some (t, want)) | none => none

def dstOK (nt : Nat) : Option Nat → Bool
  | some d => decide (d < nt)
  | none => true

def resMO (P : Program) (G : Nat) (nt : Nat) (ops : Array Oper) (o : Oper) : MO :=
  match resGuard ops o.guard with
  | some g => if dstOK nt o.dst then ⟨o.dst, resOp P G o.op, g⟩ else ⟨none, .bad, none⟩
  | none => ⟨none, .bad, none⟩

def resRegion (P : Program) (G : Nat) (nt : Nat) (ops : Array Oper) (draw : Bool) : MCode :=
  if draw then
    if edgesOK ops && drawOK ops (ops.toList.map (resOp P G ·.op)) (Region.before ops) then
      .region (ops.toList.map (resMO P G nt ops)) (crossesOf ops (ops.toList.map (resOp P G ·.op)) (Region.before ops))
    else .bad
  else .region (ops.toList.map (resMO P G nt ops)) []

/-- 'lives': for each loop, in the order of the text, what is kept at its head; what is left of them comes back -/
def resCode (P : Program) (G : Nat) (nt : Nat) : Code → List (List Nat) → MCode × List (List Nat)
  | .skip, l => (.skip, l)
  | .region _ ops d, l => (resRegion P G nt ops d, l)
  | .seq a b, l => let (x, l1) := resCode P G nt a l; let (y, l2) := resCode P G nt b l1; (.seq x y, l2)
  | .cond c a b, l => let (x, l1) := resCode P G nt a l; let (y, l2) := resCode P G nt b l1; (if okX G c then .cond c x y else .bad, l2)
  | .block i b, l => let (x, l1) := resCode P G nt b l; (.block i x, l1)
  | .loop b, l => match l with
    | [] => (.bad, [])
    | v :: l1 => let (x, l2) := resCode P G nt b l1; (.loop v x, l2)
  | .exit i, l => (.exit i, l)
  | .ret, l => (.ret, l)
  | _, l => (.bad, l)

def resRes : List ResultVar → Option (List MRes)
  | [] => some []
  | .tmp t :: r => match resRes r with | some l => some (.tmp t :: l) | none => none
  | .cell a t :: r => match aggT P t, sizeT P t, resRes r with
    | some true, some n, some l => some (.cellN a n :: l)
    | some false, some _, some l => some (.cell1 a :: l)
    | _, _, _ => none

def resFun (lives : List (List Nat)) (fn : Func) : Option MFun :=
  if fn.name == "runtime.NumGoroutine" then none else
  if fn.params.size + fn.nfree > fn.ntmps then none else
  match fn.body, resRes P fn.results.toList with
  | some c, some r => some ⟨fn.params.size + fn.nfree, (resCode P G fn.ntmps c lives).1, r⟩
  | _, _ => none

end Go.Cm

/- The canonical machine's values and memory against the model's: the relation, and how it is kept. Conditions: none. -/
namespace Go.Cm
open Go.RowKit
set_option linter.unusedVariables false

structure Lo where
  sz : Nat
  esz : Nat
  tot : Nat
structure Loc where
  b : Nat
  base : Nat
  lo : Option Lo
abbrev Emb := Nat → Option Loc

def CapRel (l : Loc) (o k k' : Nat) : Prop :=
  k' = k ∨ ∃ e, l.lo = some e ∧ o + k * e.esz = e.sz ∧ k ≤ k' ∧ l.base + o + k' * e.esz ≤ e.tot

/-- a value of one cell that is known -/
def one : Value → Bool
  | .agg _ | .tuple _ | .chan _ => false
  | _ => true

inductive RelV (φ : Emb) : Value → Value → Prop
  | top (v : Value) : RelV φ unk v
  | bool (b : Bool) : RelV φ (.bool b) (.bool b)
  | int (k : IntKind) (n : Int) : RelV φ (.int k n) (.int k n)
  | str (s : ByteArray) : RelV φ (.string s) (.string s)
  | nilp : RelV φ (.pointer none) (.pointer none)
  | ptr {c o : Nat} {l : Loc} : φ c = some l → RelV φ (.pointer (some ⟨c, o, none⟩)) (.pointer (some ⟨l.b, l.base + o, none⟩))
  | nils : RelV φ (.slice none 0 0) (.slice none 0 0)
  | sl {c o n k k' : Nat} {l : Loc} : φ c = some l → CapRel l o k k' → n ≤ k → RelV φ (.slice (some ⟨c, o, none⟩) n k) (.slice (some ⟨l.b, l.base + o, none⟩) n k')
  | slz {c o : Nat} {a : Addr} {k' : Nat} : RelV φ (.slice (some ⟨c, o, some 0⟩) 0 0) (.slice (some a) 0 k')
  | nilm : RelV φ (.map none) (.map none)
  | map {c : Nat} {l : Loc} : φ c = some l → l.base = 0 → RelV φ (.map (some c)) (.map (some l.b))
  | nilf : RelV φ .nilFunc .nilFunc
  | nili : RelV φ .nilIface .nilIface
  | iface {t : TypeId} {v v' : Value} : RelV φ v v' → RelV φ (.iface t v) (.iface t v')
  | agg {a b : Array Value} : a.toList.all one = true → a.size = b.size → (∀ (i : Nat) (v v' : Value), a[i]? = some v → b[i]? = some v' → RelV φ v v') → RelV φ (.agg a) (.agg b)
  | tuple {a b : Array Value} : a.size = b.size → (∀ (i : Nat) (v v' : Value), a[i]? = some v → b[i]? = some v' → RelV φ v v') → RelV φ (.tuple a) (.tuple b)
  | func {f : FuncId} {a b c d : Array Value} : a.size = b.size → (∀ (i : Nat) (v v' : Value), a[i]? = some v → b[i]? = some v' → RelV φ v v') →
      c.size = d.size → (∀ (i : Nat) (v v' : Value), c[i]? = some v → d[i]? = some v' → RelV φ v v') → RelV φ (.func (.func f) a c) (.func (.func f) b d)

def RelL (φ : Emb) (a b : List Value) : Prop := a.length = b.length ∧ ∀ (i : Nat) (v v' : Value), a[i]? = some v → b[i]? = some v' → RelV φ v v'

def Sub (φ φ' : Emb) : Prop := ∀ c l, φ c = some l → φ' c = some l

theorem RelV.mono {φ φ' : Emb} (h : Sub φ φ') {v v' : Value} (r : RelV φ v v') : RelV φ' v v' := by
  induction r with
  | top v => exact .top v
  | bool b => exact .bool b
  | int k n => exact .int k n
  | str s => exact .str s
  | nilp => exact .nilp
  | ptr hc => exact .ptr (h _ _ hc)
  | nils => exact .nils
  | sl hc hk hn => exact .sl (h _ _ hc) hk hn
  | slz => exact .slz
  | nilm => exact .nilm
  | map hc hb => exact .map (h _ _ hc) hb
  | nilf => exact .nilf
  | nili => exact .nili
  | iface _ ih => exact .iface ih
  | agg ho hs _ ih => exact .agg ho hs ih
  | tuple hs _ ih => exact .tuple hs ih
  | func hs _ hs' _ ih ih' => exact .func hs ih hs' ih'

theorem RelL.mono {φ φ' : Emb} (h : Sub φ φ') {a b : List Value} (r : RelL φ a b) : RelL φ' a b := ⟨r.1, fun i v v' p q => (r.2 i v v' p q).mono h⟩
theorem RelL.nil {φ : Emb} : RelL φ [] [] := ⟨rfl, fun i v v' p => by simp at p⟩
theorem RelL.cons {φ : Emb} {v v' : Value} {a b : List Value} (h : RelV φ v v') (r : RelL φ a b) : RelL φ (v :: a) (v' :: b) := by
  refine ⟨by simp [r.1], fun i x x' p q => ?_⟩
  cases i with
  | zero => simp at p q; subst p; subst q; exact h
  | succ i => simp at p q; exact r.2 i x x' p q
theorem RelL.append {φ : Emb} {a b c d : List Value} (h : RelL φ a b) (r : RelL φ c d) : RelL φ (a ++ c) (b ++ d) := by
  refine ⟨by simp [h.1, r.1], fun i x x' p q => ?_⟩
  by_cases hi : i < a.length
  · rw [List.getElem?_append_left hi] at p; rw [List.getElem?_append_left (by rw [← h.1]; exact hi)] at q; exact h.2 i x x' p q
  · rw [List.getElem?_append_right (by omega)] at p; rw [List.getElem?_append_right (by rw [← h.1]; omega), ← h.1] at q; exact r.2 _ x x' p q
theorem RelL.take {φ : Emb} {a b : List Value} (h : RelL φ a b) (n : Nat) : RelL φ (a.take n) (b.take n) := by
  refine ⟨by simp [h.1], fun i x x' p q => ?_⟩
  rw [List.getElem?_take] at p q
  split at p
  · rename_i hi; rw [if_pos hi] at q; exact h.2 i x x' p q
  · simp at p
theorem RelL.drop {φ : Emb} {a b : List Value} (h : RelL φ a b) (n : Nat) : RelL φ (a.drop n) (b.drop n) := by
  refine ⟨by simp [h.1], fun i x x' p q => ?_⟩
  rw [List.getElem?_drop] at p q
  exact h.2 _ x x' p q
theorem RelL.get {φ : Emb} {a b : List Value} (h : RelL φ a b) {i : Nat} {v : Value} (p : a[i]? = some v) : ∃ v', b[i]? = some v' ∧ RelV φ v v' := by
  have hi : i < a.length := by
    rcases Nat.lt_or_ge i a.length with h | h
    · exact h
    · rw [List.getElem?_eq_none h] at p; cases p
  have hb : i < b.length := by rw [← h.1]; exact hi
  exact ⟨b[i], List.getElem?_eq_getElem hb, h.2 i v _ p (List.getElem?_eq_getElem hb)⟩
theorem RelL.get' {φ : Emb} {a b : List Value} (h : RelL φ a b) {i : Nat} {v' : Value} (p : b[i]? = some v') : ∃ v, a[i]? = some v ∧ RelV φ v v' := by
  have hi : i < b.length := by
    rcases Nat.lt_or_ge i b.length with h | h
    · exact h
    · rw [List.getElem?_eq_none h] at p; cases p
  have ha : i < a.length := by rw [h.1]; exact hi
  exact ⟨a[i], List.getElem?_eq_getElem ha, h.2 i _ v' (List.getElem?_eq_getElem ha) p⟩
theorem RelL.splice {φ : Emb} {vs vs' : List Value} (hv : RelL φ vs vs') : ∀ (o : Nat) {a b : List Value}, RelL φ a b → RelL φ (splice a o vs) (splice b o vs') := by
  intro o
  induction o with
  | zero =>
    intro a b h
    have e1 : Cm.splice a 0 vs = vs ++ a.drop vs.length := by cases a <;> rfl
    have e2 : Cm.splice b 0 vs' = vs' ++ b.drop vs'.length := by cases b <;> rfl
    rw [e1, e2, ← hv.1]
    exact hv.append (h.drop _)
  | succ o ih =>
    intro a b h
    cases a with
    | nil =>
      cases b with
      | nil => exact RelL.nil
      | cons y b => have := h.1; simp at this
    | cons x a =>
      cases b with
      | nil => have := h.1; simp at this
      | cons y b =>
        simp only [Cm.splice]
        have h0 : RelV φ x y := h.2 0 x y rfl rfl
        exact RelL.cons h0 (ih (by simpa using h.drop 1))

theorem splice_length (vs : List Value) : ∀ (o : Nat) (a : List Value), o + vs.length ≤ a.length → (splice a o vs).length = a.length := by
  intro o
  induction o with
  | zero => intro a h; cases a <;> simp_all [splice] <;> omega
  | succ o ih =>
    intro a h
    cases a with
    | nil => simp at h
    | cons x a => simp only [splice, List.length_cons]; rw [ih a (by simp at h; omega)]
theorem splice_get (vs : List Value) : ∀ (o : Nat) (a : List Value) (i : Nat), o + vs.length ≤ a.length →
    (splice a o vs)[i]? = if o ≤ i ∧ i < o + vs.length then vs[i - o]? else a[i]? := by
  intro o
  induction o with
  | zero =>
    intro a i h
    have e : splice a 0 vs = vs ++ a.drop vs.length := by cases a <;> rfl
    rw [e]
    by_cases hi : i < vs.length
    · rw [List.getElem?_append_left hi, if_pos ⟨by omega, by omega⟩]; simp
    · rw [List.getElem?_append_right (by omega), if_neg (by omega), List.getElem?_drop]; congr 1; omega
  | succ o ih =>
    intro a i h
    cases a with
    | nil => simp at h
    | cons x a =>
      simp only [splice]
      cases i with
      | zero => simp
      | succ i =>
        simp only [List.getElem?_cons_succ]
        rw [ih a i (by simp at h; omega)]
        by_cases hc : o ≤ i ∧ i < o + vs.length
        · rw [if_pos hc, if_pos ⟨by omega, by omega⟩]; congr 1; omega
        · rw [if_neg hc, if_neg (by omega)]

theorem relV_agg {φ : Emb} {a b : Array Value} : RelV φ (.agg a) (.agg b) ↔ a.toList.all one = true ∧ RelL φ a.toList b.toList := by
  constructor
  · intro h
    cases h with
    | agg ho hs h => exact ⟨ho, by simpa using hs, fun i v v' p q => h i v v' (by simpa using p) (by simpa using q)⟩
  · intro h
    exact .agg h.1 (by simpa using h.2.1) fun i v v' p q => h.2.2 i v v' (by simpa using p) (by simpa using q)
theorem relV_agg_left {φ : Emb} {a : Array Value} {v' : Value} (h : RelV φ (.agg a) v') : ∃ b, v' = .agg b ∧ a.toList.all one = true ∧ RelL φ a.toList b.toList := by
  cases h with
  | agg ho hs h => exact ⟨_, rfl, relV_agg.1 (.agg ho hs h)⟩
theorem RelV.one {φ : Emb} {v v' : Value} (h : RelV φ v v') (ho : Cm.one v = true) : v'.oneCell' = true := by
  cases h <;> simp_all [Cm.one, Value.oneCell', unk]

theorem RelV.plain1 {φ : Emb} {v : Value} (h : plain1 v = true) : RelV φ v v := by
  cases v with
  | bool b => exact .bool b
  | int k n => exact .int k n
  | string s => exact .str s
  | pointer a => cases a <;> simp [Cm.plain1] at h; exact .nilp
  | slice a n m =>
    cases a with
    | some a => simp [Cm.plain1] at h
    | none =>
      cases n with
      | succ n => simp [Cm.plain1] at h
      | zero =>
        cases m with
        | succ m => simp [Cm.plain1] at h
        | zero => exact .nils
  | map r => cases r <;> simp [Cm.plain1] at h; exact .nilm
  | nilFunc => exact .nilf
  | nilIface => exact .nili
  | _ => simp [Cm.plain1] at h
theorem one_of_plain1 {v : Value} (h : plain1 v = true) : one v = true := by
  cases v <;> simp_all [Cm.plain1, Cm.one]
theorem all_one_of_plain {l : List Value} (h : l.all Cm.plain1 = true) : l.all one = true := by
  rw [List.all_eq_true] at *
  exact fun v hv => one_of_plain1 (h v hv)
theorem RelL.plain {φ : Emb} : ∀ {l : List Value}, l.all Cm.plain1 = true → RelL φ l l
  | [], _ => .nil
  | v :: l, h => by simp only [List.all_cons, Bool.and_eq_true] at h; exact .cons (.plain1 h.1) (RelL.plain h.2)
theorem RelV.plain {φ : Emb} {v : Value} (h : plainV v = true) : RelV φ v v := by
  cases v with
  | agg cs => exact relV_agg.2 ⟨all_one_of_plain h, RelL.plain h⟩
  | _ => exact .plain1 h

/-- the cells of a known value -/
theorem RelV.cells {φ : Emb} {v v' : Value} {cs : List Value} (h : RelV φ v v') (hc : cellsOf v = some cs) : cs.all Cm.one = true ∧ RelL φ cs v'.cells.toList := by
  cases h with
  | top v => cases hc
  | agg ho hs h => cases hc; exact ⟨ho, (relV_agg.1 (.agg ho hs h)).2⟩
  | tuple => cases hc
  | _ =>
    cases hc
    refine ⟨rfl, ?_⟩
    simp only [Value.cells]
    refine RelL.cons ?_ .nil
    first | exact .bool _ | exact .int _ _ | exact .str _ | exact .nilp | exact .nils | exact .slz | exact .nilm | exact .nilf | exact .nili | (constructor <;> assumption)

/-! ### memory -/

def CellsRel (φ : Emb) (W : World) (l : Loc) (cs : List Value) : Prop :=
  ∀ (i : Nat) (v : Value), cs[i]? = some v → one v = true ∧ ∃ v', W.cell? ⟨l.b, l.base + i, none⟩ = some v' ∧ RelV φ v v'
def Thawed (W : World) (b lo hi : Nat) : Prop := ∀ j, lo ≤ j → j < hi → W.frozen? ⟨b, j, none⟩ = false
def EntRel (φ : Emb) : List (Value × Value × Nat) → List MapEntry → Prop
  | [], [] => True
  | (k, v, n) :: es, e :: es' => RelV φ k e.key ∧ RelV φ v e.val ∧ e.born = n ∧ EntRel φ es es'
  | _, _ => False

def ObjRel (B : Nat) (φ : Emb) (W : World) (l : Loc) : CObj → Prop
  | .ro cs => l.b < B ∧ l.lo = none ∧ CellsRel φ W l cs
  | .rw cs => B ≤ l.b ∧ l.lo = none ∧ CellsRel φ W l cs ∧ Thawed W l.b l.base (l.base + cs.length) ∧ l.base = 0
  | .loose e cs => B ≤ l.b ∧ ∃ lo, l.lo = some lo ∧ lo.sz = cs.length ∧ lo.esz = e ∧ 0 < e ∧ l.base + cs.length ≤ lo.tot ∧ CellsRel φ W l cs ∧
      Thawed W l.b l.base lo.tot ∧ ∀ j, l.base ≤ j → j < lo.tot → (W.cell? ⟨l.b, j, none⟩).isSome = true
  | .dead => True
  | .map es k => B ≤ l.b ∧ l.lo = none ∧ l.base = 0 ∧ ∃ es', W.heap[l.b]? = some (.map es' k) ∧ EntRel φ es es'.toList

abbrev HF := Nat → Option CObj

structure Sim (B : Nat) (W0 : World) (φ : Emb) (H : HF) (W : World) : Prop where
  below : Below B W0 W
  inB : B ≤ W.heap.size
  lt : ∀ c l, φ c = some l → l.b < W.heap.size
  obj : ∀ c l o, φ c = some l → H c = some o → ObjRel B φ W l o
  inj : ∀ c1 c2 l1 l2 o1 o2, φ c1 = some l1 → φ c2 = some l2 → H c1 = some o1 → H c2 = some o2 → o1.excl = true → o2.excl = true → l1.b = l2.b → c1 = c2

structure Ext (φ φ' : Emb) (H H' : Heap) (W W' : World) : Prop where
  sub : Sub φ φ'
  dom : ∀ c l, φ c = none → φ' c = some l → H.n ≤ c ∧ c < H'.n
  img : ∀ c l, φ c = none → φ' c = some l → W.heap.size ≤ l.b ∨ ∃ c0 l0 o0, φ c0 = some l0 ∧ H.get? c0 = some o0 ∧ o0.excl = true ∧ l0.b = l.b
  keepW : ∀ b, b < W.heap.size → (∀ c l o, φ c = some l → H.get? c = some o → o.excl = true → l.b ≠ b) → W'.heap[b]? = W.heap[b]?
  keepH : ∀ c, c < H.n → φ c = none → H'.get? c = H.get? c
  excl : ∀ c o', c < H.n → H'.get? c = some o' → o'.excl = true → ∃ o, H.get? c = some o ∧ o.excl = true
  size : W.heap.size ≤ W'.heap.size
  le : H.n ≤ H'.n

/-- no number that the step may give out is taken -/
def Free (φ : Emb) (H H' : Heap) : Prop := ∀ c, H.n ≤ c → c < H'.n → φ c = none

theorem Heap.get?_lt {H : Heap} {c : Nat} {o : CObj} (h : H.get? c = some o) : c < H.n := by
  unfold Heap.get? at h
  split at h
  · assumption
  · cases h

theorem Ext.refl {φ : Emb} {H : Heap} {W : World} : Ext φ φ H H W W where
  sub := fun _ _ h => h
  dom := fun c l h h' => by rw [h] at h'; cases h'
  img := fun c l h h' => by rw [h] at h'; cases h'
  keepW := fun _ _ _ => rfl
  keepH := fun _ _ _ => rfl
  excl := fun c o' _ h e => ⟨o', h, e⟩
  size := Nat.le_refl _
  le := Nat.le_refl _

theorem Ext.old {φ φ1 : Emb} {H H1 : Heap} {W W1 : World} (a : Ext φ φ1 H H1 W W1) (hf : Free φ H H1) {c : Nat} {l : Loc} {o : CObj}
    (g1 : φ1 c = some l) (g2 : H1.get? c = some o) (g3 : o.excl = true) :
    W.heap.size ≤ l.b ∨ ∃ c0 l0 o0, φ c0 = some l0 ∧ H.get? c0 = some o0 ∧ o0.excl = true ∧ l0.b = l.b := by
  cases h0 : φ c with
  | none => exact a.img c l h0 g1
  | some l' =>
    have e := a.sub c l' h0; rw [g1] at e; cases e
    have hc1 := Heap.get?_lt g2
    have hc : c < H.n := by
      rcases Nat.lt_or_ge c H.n with h | h
      · exact h
      · have := hf c h hc1; rw [h0] at this; cases this
    obtain ⟨o', p1, p2⟩ := a.excl c o hc g2 g3
    exact .inr ⟨c, l, o', h0, p1, p2, rfl⟩

theorem Ext.trans {φ φ1 φ2 : Emb} {H H1 H2 : Heap} {W W1 W2 : World} (a : Ext φ φ1 H H1 W W1) (b : Ext φ1 φ2 H1 H2 W1 W2) (hf : Free φ H H2) :
    Ext φ φ2 H H2 W W2 where
  sub := fun c l h => b.sub c l (a.sub c l h)
  dom := fun c l h h' => by
    cases h1 : φ1 c with
    | none => have := b.dom c l h1 h'; have := a.le; omega
    | some l1 => have := a.dom c l1 h h1; have := b.le; omega
  img := fun c l h h' => by
    cases h1 : φ1 c with
    | some l1 => have e := b.sub c l1 h1; rw [h'] at e; cases e; exact a.img c l h h1
    | none =>
      rcases b.img c l h1 h' with g | ⟨c0, l0, o0, g1, g2, g3, g4⟩
      · exact .inl (Nat.le_trans a.size g)
      · rw [← g4]
        exact a.old (fun c x y => hf c x (Nat.lt_of_lt_of_le y b.le)) g1 g2 g3
  keepW := fun k hk hno => by
    rw [b.keepW k (Nat.lt_of_lt_of_le hk a.size) ?_, a.keepW k hk hno]
    intro c l o g1 g2 g3 e
    rcases a.old (fun c x y => hf c x (Nat.lt_of_lt_of_le y b.le)) g1 g2 g3 with g | ⟨c0, l0, o0, k1, k2, k3, k4⟩
    · omega
    · exact hno c0 l0 o0 k1 k2 k3 (k4.trans e)
  keepH := fun c hc hn => by
    have h1 : φ1 c = none := by
      cases h1 : φ1 c with
      | none => rfl
      | some l => have := (a.dom c l hn h1).1; omega
    rw [b.keepH c (Nat.lt_of_lt_of_le hc a.le) h1, a.keepH c hc hn]
  excl := fun c o' hc h e => by
    obtain ⟨o1, p, q⟩ := b.excl c o' (Nat.lt_of_lt_of_le hc a.le) h e
    exact a.excl c o1 hc p q
  size := Nat.le_trans a.size b.size
  le := Nat.le_trans a.le b.le

theorem Free.left {φ : Emb} {H H1 H2 : Heap} (h : Free φ H H2) (le : H1.n ≤ H2.n) : Free φ H H1 := fun c x y => h c x (Nat.lt_of_lt_of_le y le)
theorem Free.right {φ φ1 : Emb} {H H1 H2 : Heap} {W W1 : World} (h : Free φ H H2) (a : Ext φ φ1 H H1 W W1) : Free φ1 H1 H2 := by
  intro c x y
  cases h1 : φ1 c with
  | none => rfl
  | some l =>
    have h0 := h c (Nat.le_trans a.le x) y
    have := (a.dom c l h0 h1).2
    omega

/-! ### heap laws -/

theorem Heap.get?_push_old {H : Heap} {o : CObj} {c : Nat} (h : c < H.n) : (H.push o).get? c = H.get? c := by
  show (if c < H.n + 1 then (o :: H.l)[H.n + 1 - 1 - c]? else none) = (if c < H.n then H.l[H.n - 1 - c]? else none)
  rw [if_pos (by omega), if_pos h, show H.n + 1 - 1 - c = (H.n - 1 - c) + 1 from by omega, List.getElem?_cons_succ]
theorem Heap.get?_push_new {H : Heap} {o : CObj} : (H.push o).get? H.n = some o := by
  simp [Heap.get?, Heap.push]
theorem Heap.get?_ge {H : Heap} {c : Nat} (h : H.n ≤ c) : H.get? c = none := by
  show (if c < H.n then H.l[H.n - 1 - c]? else none) = none
  rw [if_neg (by omega)]
theorem Heap.get?_set_other {H : Heap} {o : CObj} {c d : Nat} (hd : d < H.n) (h : c ≠ d) : (H.set d o).get? c = H.get? c := by
  show (if c < H.n then (H.l.set (H.n - 1 - d) o)[H.n - 1 - c]? else none) = (if c < H.n then H.l[H.n - 1 - c]? else none)
  by_cases hc : c < H.n
  · rw [if_pos hc, if_pos hc, List.getElem?_set_ne (by omega)]
  · rw [if_neg hc, if_neg hc]
theorem Heap.get?_set_same {H : Heap} {o o' : CObj} {c : Nat} (h : H.get? c = some o') : (H.set c o).get? c = some o := by
  have hc := Heap.get?_lt h
  have h2 : H.l[H.n - 1 - c]? = some o' := by
    have : (if c < H.n then H.l[H.n - 1 - c]? else none) = some o' := h
    rwa [if_pos hc] at this
  show (if c < H.n then (H.l.set (H.n - 1 - c) o)[H.n - 1 - c]? else none) = some o
  rw [if_pos hc, List.getElem?_set_self]
  rcases Nat.lt_or_ge (H.n - 1 - c) H.l.length with g | g
  · exact g
  · rw [List.getElem?_eq_none g] at h2; cases h2
@[simp] theorem Heap.n_push {H : Heap} {o : CObj} : (H.push o).n = H.n + 1 := rfl
@[simp] theorem Heap.n_set {H : Heap} {o : CObj} {c : Nat} : (H.set c o).n = H.n := rfl

/-! ### objects in a memory that has grown or was written elsewhere -/

theorem cell?_of_block {W W' : World} {b o : Nat} (h : W'.heap[b]? = W.heap[b]?) : W'.cell? ⟨b, o, none⟩ = W.cell? ⟨b, o, none⟩ := by
  simp only [World.cell?, h]
theorem frozen?_of_block {W W' : World} {b o : Nat} (h : W'.heap[b]? = W.heap[b]?) : W'.frozen? ⟨b, o, none⟩ = W.frozen? ⟨b, o, none⟩ := by
  simp only [World.frozen?, h]
theorem CellsRel.keep {φ φ' : Emb} {W W' : World} {l : Loc} {cs : List Value} (hs : Sub φ φ') (h : W'.heap[l.b]? = W.heap[l.b]?) (r : CellsRel φ W l cs) :
    CellsRel φ' W' l cs := by
  intro i v hv
  obtain ⟨ho, v', p, q⟩ := r i v hv
  exact ⟨ho, v', by rw [cell?_of_block h]; exact p, q.mono hs⟩
theorem Thawed.keep {W W' : World} {b lo hi : Nat} (h : W'.heap[b]? = W.heap[b]?) (r : Thawed W b lo hi) : Thawed W' b lo hi := by
  intro j p q
  rw [frozen?_of_block h]; exact r j p q
theorem EntRel.mono {φ φ' : Emb} (hs : Sub φ φ') : ∀ {es : List (Value × Value × Nat)} {es' : List MapEntry}, EntRel φ es es' → EntRel φ' es es'
  | [], [], _ => trivial
  | (k, v, n) :: es, e :: es', h => ⟨h.1.mono hs, h.2.1.mono hs, h.2.2.1, EntRel.mono hs h.2.2.2⟩
  | [], _ :: _, h => h.elim
  | _ :: _, [], h => h.elim
theorem ObjRel.keep {B : Nat} {φ φ' : Emb} {W W' : World} {l : Loc} {o : CObj} (hs : Sub φ φ') (h : W'.heap[l.b]? = W.heap[l.b]?) (r : ObjRel B φ W l o) :
    ObjRel B φ' W' l o := by
  cases o with
  | ro cs => exact ⟨r.1, r.2.1, r.2.2.keep hs h⟩
  | rw cs => exact ⟨r.1, r.2.1, r.2.2.1.keep hs h, r.2.2.2.1.keep h, r.2.2.2.2⟩
  | loose e cs =>
    obtain ⟨h1, lo, h2, h3, h4, h5, h6, h7, h8, h9⟩ := r
    exact ⟨h1, lo, h2, h3, h4, h5, h6, h7.keep hs h, h8.keep h, fun j p q => by rw [cell?_of_block h]; exact h9 j p q⟩
  | dead => trivial
  | map es k =>
    obtain ⟨h1, h2, h3, es', h4, h5⟩ := r
    exact ⟨h1, h2, h3, es', by rw [h]; exact h4, h5.mono hs⟩

/-- only the tape's count has turned -/
theorem Sim.drew {B : Nat} {W0 : World} {φ : Emb} {H : HF} {W : World} (s : Sim B W0 φ H W) : Sim B W0 φ H W.drew where
  below := s.below.drew
  inB := s.inB
  lt := s.lt
  obj := fun c l o h h' => (s.obj c l o h h').keep (fun _ _ h => h) rfl
  inj := s.inj
theorem Ext.drew {φ : Emb} {H : Heap} {W : World} : Ext φ φ H H W W.drew where
  sub := fun _ _ h => h
  dom := fun c l h h' => by rw [h] at h'; cases h'
  img := fun c l h h' => by rw [h] at h'; cases h'
  keepW := fun _ _ _ => rfl
  keepH := fun _ _ _ => rfl
  excl := fun c o' _ h e => ⟨o', h, e⟩
  size := Nat.le_refl _
  le := Nat.le_refl _

def Emb.add (φ : Emb) (c : Nat) (l : Loc) : Emb := fun d => if d = c then some l else φ d
theorem Emb.sub_add {φ : Emb} {c : Nat} {l : Loc} (h : φ c = none) : Sub φ (φ.add c l) := by
  intro d k hk
  unfold Emb.add
  split
  · rename_i e; subst e; rw [h] at hk; cases hk
  · exact hk
theorem Emb.add_same {φ : Emb} {c : Nat} {l : Loc} : φ.add c l c = some l := by simp [Emb.add]
theorem Emb.add_other {φ : Emb} {c d : Nat} {l : Loc} (h : d ≠ c) : φ.add c l d = φ d := by simp [Emb.add, h]

/-- one new block for one new object -/
theorem Sim.alloc {B : Nat} {W0 : World} {φ : Emb} {H : Heap} {W : World} {o : CObj} {ob : Obj} {l : Loc} (s : Sim B W0 φ H.get? W) (hn : φ H.n = none)
    (hb : l.b = W.heap.size) (ho : ObjRel B (φ.add H.n l) (W.alloc ob) l o) :
    Sim B W0 (φ.add H.n l) (H.push o).get? (W.alloc ob) ∧ Ext φ (φ.add H.n l) H (H.push o) W (W.alloc ob) := by
  have keep : ∀ b, b < W.heap.size → (W.alloc ob).heap[b]? = W.heap[b]? := fun b h => Below.heap_alloc _ _ _ h
  refine ⟨⟨s.below.alloc s.inB ob, Nat.le_trans s.inB (by simp), ?_, ?_, ?_⟩, ⟨Emb.sub_add hn, ?_, ?_, fun b h _ => keep b h, fun c h _ => Heap.get?_push_old h, ?_, by simp, by simp⟩⟩
  · intro c k h
    by_cases hc : c = H.n
    · subst hc; rw [Emb.add_same] at h; cases h; simp; omega
    · rw [Emb.add_other hc] at h; have := s.lt c k h; simp; omega
  · intro c k o' h h'
    by_cases hc : c = H.n
    · subst hc; rw [Emb.add_same] at h; cases h; rw [Heap.get?_push_new] at h'; cases h'; exact ho
    · rw [Emb.add_other hc] at h
      have hlt : c < H.n := by have := Heap.get?_lt h'; simp at this; omega
      rw [Heap.get?_push_old hlt] at h'
      exact (s.obj c k o' h h').keep (Emb.sub_add hn) (keep _ (s.lt c k h))
  · intro c1 c2 l1 l2 o1 o2 g1 g2 h1 h2 e1 e2 e
    by_cases hc1 : c1 = H.n
    · by_cases hc2 : c2 = H.n
      · rw [hc1, hc2]
      · rw [Emb.add_other hc2] at g2; subst hc1; rw [Emb.add_same] at g1; cases g1
        have := s.lt c2 l2 g2; omega
    · by_cases hc2 : c2 = H.n
      · rw [Emb.add_other hc1] at g1; subst hc2; rw [Emb.add_same] at g2; cases g2
        have := s.lt c1 l1 g1; omega
      · rw [Emb.add_other hc1] at g1; rw [Emb.add_other hc2] at g2
        have hl1 : c1 < H.n := by have := Heap.get?_lt h1; simp at this; omega
        have hl2 : c2 < H.n := by have := Heap.get?_lt h2; simp at this; omega
        rw [Heap.get?_push_old hl1] at h1; rw [Heap.get?_push_old hl2] at h2
        exact s.inj c1 c2 l1 l2 o1 o2 g1 g2 h1 h2 e1 e2 e
  · intro c k h h'
    by_cases hc : c = H.n
    · subst hc; simp
    · rw [Emb.add_other hc, h] at h'; cases h'
  · intro c k h h'
    by_cases hc : c = H.n
    · subst hc; rw [Emb.add_same] at h'; cases h'; left; omega
    · rw [Emb.add_other hc, h] at h'; cases h'
  · intro c o' hc h e
    rw [Heap.get?_push_old hc] at h
    exact ⟨o', h, e⟩


/-! ### writing cells -/

def storeAll (W : World) (b o : Nat) : List Value → World
  | [] => W
  | v :: vs => storeAll (W.setCell ⟨b, o, none⟩ v) b (o + 1) vs

theorem storeAll_size {b : Nat} : ∀ {vs : List Value} {W : World} {o : Nat}, (storeAll W b o vs).heap.size = W.heap.size
  | [], W, o => rfl
  | v :: vs, W, o => by simp only [storeAll]; rw [storeAll_size]; simp
theorem storeAll_other {b k : Nat} (hk : k ≠ b) : ∀ {vs : List Value} {W : World} {o : Nat}, (storeAll W b o vs).heap[k]? = W.heap[k]?
  | [], W, o => rfl
  | v :: vs, W, o => by simp only [storeAll]; rw [storeAll_other hk]; exact Below.heap_setCell _ _ _ _ hk
theorem storeAll_frozen {b : Nat} {a : Addr} : ∀ {vs : List Value} {W : World} {o : Nat}, (storeAll W b o vs).frozen? a = W.frozen? a
  | [], W, o => rfl
  | v :: vs, W, o => by simp only [storeAll]; rw [storeAll_frozen]; simp
theorem storeAll_below {B b : Nat} {W0 : World} (hB : B ≤ b) : ∀ {vs : List Value} {W : World} {o : Nat}, Below B W0 W → Below B W0 (storeAll W b o vs)
  | [], W, o, h => h
  | v :: vs, W, o, h => by simp only [storeAll]; exact storeAll_below hB (h.setCell hB v)
theorem storeAll_cell {b j : Nat} : ∀ {vs : List Value} {W : World} {o : Nat}, (∀ i, i < vs.length → (W.cell? ⟨b, o + i, none⟩).isSome = true) →
    (storeAll W b o vs).cell? ⟨b, j, none⟩ = if o ≤ j ∧ j < o + vs.length then vs[j - o]? else W.cell? ⟨b, j, none⟩
  | [], W, o, _ => by simp [storeAll]; intro h1 h2; omega
  | v :: vs, W, o, h => by
    have h0 : (W.cell? ⟨b, o, none⟩).isSome = true := h 0 (by simp)
    obtain ⟨u, hu⟩ := Option.isSome_iff_exists.1 h0
    have hne : ∀ i, i ≠ o → (W.setCell ⟨b, o, none⟩ v).cell? ⟨b, i, none⟩ = W.cell? ⟨b, i, none⟩ := fun i hi =>
      World.cell?_setCell_other _ _ _ _ (by intro e; injection e with _ e2; exact hi e2.symm)
    simp only [storeAll]
    rw [storeAll_cell (fun i hi => by rw [hne _ (by omega)]; have := h (i + 1) (by simp; omega); rwa [show o + (i + 1) = o + 1 + i from by omega] at this)]
    by_cases hj : j = o
    · subst hj
      rw [if_neg (by omega), if_pos ⟨by omega, by simp⟩, World.cell?_setCell_same _ _ _ hu]; simp
    · rw [hne j hj]
      by_cases hc : o + 1 ≤ j ∧ j < o + 1 + vs.length
      · rw [if_pos hc, if_pos ⟨by omega, by simp; omega⟩, show j - o = (j - (o + 1)) + 1 from by omega, List.getElem?_cons_succ]
      · rw [if_neg hc, if_neg (by simp; omega)]

theorem run_storeCells {P : Program} {b o : Nat} : ∀ {vs : List Value} {W : World} {i : Nat}, (∀ j, j < vs.length → (W.cell? ⟨b, o + i + j, none⟩).isSome = true) →
    (∀ j, j < vs.length → W.frozen? ⟨b, o + i + j, none⟩ = false) → (∀ v ∈ vs, v.oneCell' = true) →
    (storeCells ⟨b, o, none⟩ vs i).run P W = .ok () (storeAll W b (o + i) vs)
  | [], W, i, _, _, _ => rfl
  | v :: vs, W, i, hc, hf, ho => by
    have h0 := hc 0 (by simp)
    obtain ⟨u, hu⟩ := Option.isSome_iff_exists.1 h0
    have hf0 := hf 0 (by simp)
    simp only [Nat.add_zero] at hu hf0
    have ea : (⟨b, o, none⟩ : Addr).add i = ⟨b, o + i, none⟩ := by unfold Addr.add; split <;> simp_all
    simp only [storeCells, Sem.run_bind, ea, run_store P W _ v _ (ho v (by simp)), hu, hf0, Bool.false_eq_true, if_false, Result.andThen_ok, storeAll]
    have hne : ∀ k, k ≠ o + i → (W.setCell ⟨b, o + i, none⟩ v).cell? ⟨b, k, none⟩ = W.cell? ⟨b, k, none⟩ := fun k hk =>
      World.cell?_setCell_other _ _ _ _ (by intro e; injection e with _ e2; exact hk e2.symm)
    rw [run_storeCells (i := i + 1)]
    · rfl
    · intro j hj; rw [hne _ (by omega)]; have := hc (j + 1) (by simp; omega); rwa [show o + i + (j + 1) = o + (i + 1) + j from by omega] at this
    · intro j hj; rw [World.frozen?_setCell]; have := hf (j + 1) (by simp; omega); rwa [show o + i + (j + 1) = o + (i + 1) + j from by omega] at this
    · intro u hu; exact ho u (by simp [hu])

/-- a canonical write, and the model's -/
theorem Sim.write {B : Nat} {W0 : World} {φ : Emb} {H H' : Heap} {W : World} {c o : Nat} {l : Loc} {vs vs' : List Value} (s : Sim B W0 φ H.get? W)
    (hl : φ c = some l) (hw : H.wr ⟨c, o, none⟩ vs = some H') (hr : RelL φ vs vs') (ho : vs.all one = true) :
    (∀ j, j < vs'.length → (W.cell? ⟨l.b, l.base + o + j, none⟩).isSome = true) ∧ (∀ j, j < vs'.length → W.frozen? ⟨l.b, l.base + o + j, none⟩ = false) ∧
      Sim B W0 φ H'.get? (storeAll W l.b (l.base + o) vs') ∧ Ext φ φ H H' W (storeAll W l.b (l.base + o) vs') := by
  have key : ∃ cs ob ob', H.get? c = some ob ∧ ob.excl = true ∧ ob'.excl = true ∧ H' = H.set c ob' ∧ o + vs.length ≤ cs.length ∧ CellsRel φ W l cs ∧ B ≤ l.b ∧ Thawed W l.b l.base (l.base + cs.length) ∧
      (∀ W', (∀ k, k ≠ l.b → W'.heap[k]? = W.heap[k]?) → (∀ a, W'.frozen? a = W.frozen? a) → (∀ j, (W.cell? ⟨l.b, j, none⟩).isSome = true → (W'.cell? ⟨l.b, j, none⟩).isSome = true) →
        CellsRel φ W' l (splice cs o vs) → ObjRel B φ W' l ob') := by
    simp only [Heap.wr, Option.isSome_none, Bool.false_eq_true, if_false] at hw
    split at hw
    · rename_i cs hg
      split at hw
      · rename_i hle
        cases hw
        obtain ⟨h1, h2, h3, h4, h5⟩ := s.obj c l _ hl hg
        refine ⟨cs, _, .rw (splice cs o vs), hg, rfl, rfl, rfl, hle, h3, h1, h4, fun W' _ hfz _ hcr => ⟨h1, h2, hcr, ?_, h5⟩⟩
        rw [splice_length _ _ _ hle]
        exact fun j p q => by rw [hfz]; exact h4 j p q
      · cases hw
    · rename_i e cs hg
      split at hw
      · rename_i hle
        cases hw
        obtain ⟨h1, lo, h2, h3, h4, h5, h6, h7, h8, h9⟩ := s.obj c l _ hl hg
        refine ⟨cs, _, .loose e (splice cs o vs), hg, rfl, rfl, rfl, hle, h7, h1, fun j p q => h8 j p (by omega), fun W' _ hfz hsm hcr => ⟨h1, lo, h2, ?_, h4, h5, ?_, hcr, ?_, ?_⟩⟩
        · rw [splice_length _ _ _ hle]; exact h3
        · rw [splice_length _ _ _ hle]; exact h6
        · exact fun j p q => by rw [hfz]; exact h8 j p q
        · exact fun j p q => hsm j (h9 j p q)
      · cases hw
    · cases hw
  obtain ⟨cs, ob, ob', hg, hex, hex', rfl, hle, hcells, hB, hth, hmk⟩ := key
  have hlen : vs'.length = vs.length := hr.1.symm
  have hsome : ∀ j, j < vs'.length → (W.cell? ⟨l.b, l.base + o + j, none⟩).isSome = true := by
    intro j hj
    obtain ⟨_, v', p, _⟩ := hcells (o + j) (cs[o + j]'(by omega)) (List.getElem?_eq_getElem _)
    rw [show l.base + o + j = l.base + (o + j) from by omega, p]; rfl
  have hcd := Heap.get?_lt hg
  have hother : ∀ k, k ≠ l.b → (storeAll W l.b (l.base + o) vs').heap[k]? = W.heap[k]? := fun k hk => storeAll_other hk
  refine ⟨hsome, fun j hj => hth _ (by omega) (by omega), ⟨storeAll_below hB s.below, by rw [storeAll_size]; exact s.inB, fun c' l' h => by rw [storeAll_size]; exact s.lt c' l' h, ?_, ?_⟩,
    ⟨fun _ _ h => h, fun c' l' h h' => (by rw [h] at h'; cases h'), fun c' l' h h' => (by rw [h] at h'; cases h'), ?_, ?_, ?_, (by rw [storeAll_size]; exact Nat.le_refl _), Nat.le_refl _⟩⟩
  · intro c' l' o' h h'
    by_cases hc : c' = c
    · subst hc
      rw [hl] at h; cases h
      rw [Heap.get?_set_same hg] at h'; cases h'
      refine hmk _ hother (fun a => storeAll_frozen) ?_ ?_
      · intro j hj
        rw [storeAll_cell hsome]
        split
        · rw [List.getElem?_eq_getElem (by omega)]; rfl
        · exact hj
      · intro i v hv
        rw [splice_get _ _ _ _ hle] at hv
        rw [storeAll_cell hsome]
        by_cases hi : o ≤ i ∧ i < o + vs.length
        · rw [if_pos hi] at hv
          rw [if_pos ⟨by omega, by omega⟩]
          refine ⟨?_, ?_⟩
          · rw [List.all_eq_true] at ho; exact ho v (List.mem_of_getElem? hv)
          · obtain ⟨v', p, q⟩ := hr.get hv
            exact ⟨v', by rw [show l.base + i - (l.base + o) = i - o from by omega]; exact p, q⟩
        · rw [if_neg hi] at hv
          rw [if_neg (by omega)]
          exact hcells i v hv
    · rw [Heap.get?_set_other hcd hc] at h'
      by_cases hb : l'.b = l.b
      · have old := s.obj c' l' o' h h'
        cases o' with
        | dead => trivial
        | ro cs' => have := old.1; omega
        | rw cs' => exact absurd (s.inj c' c l' l _ ob h hl h' hg rfl hex hb) hc
        | loose e cs' => exact absurd (s.inj c' c l' l _ ob h hl h' hg rfl hex hb) hc
        | map es k => exact absurd (s.inj c' c l' l _ ob h hl h' hg rfl hex hb) hc
      · exact (s.obj c' l' o' h h').keep (fun _ _ h => h) (hother _ hb)
  · intro c1 c2 l1 l2 o1 o2 g1 g2 h1 h2 e1 e2 e
    have back : ∀ d od, (H.set c ob').get? d = some od → od.excl = true → ∃ od', H.get? d = some od' ∧ od'.excl = true := by
      intro d od hd he
      by_cases hdc : d = c
      · subst hdc; exact ⟨ob, hg, hex⟩
      · rw [Heap.get?_set_other hcd hdc] at hd; exact ⟨od, hd, he⟩
    obtain ⟨o1', p1, q1⟩ := back c1 o1 h1 e1
    obtain ⟨o2', p2, q2⟩ := back c2 o2 h2 e2
    exact s.inj c1 c2 l1 l2 o1' o2' g1 g2 p1 p2 q1 q2 e
  · intro b hb hno
    exact hother b fun e => hno c l ob hl hg hex e.symm
  · intro c' _ hn
    exact Heap.get?_set_other hcd fun e => by subst e; rw [hl] at hn; cases hn
  · intro c' o' _ h e
    by_cases hc : c' = c
    · subst hc; exact ⟨ob, hg, hex⟩
    · rw [Heap.get?_set_other hcd hc] at h; exact ⟨o', h, e⟩

end Go.Cm

/- The canonical machine's primitive operations against the model's: each that succeeds is one step of the model's. Conditions: none. -/
namespace Go.Cm
open Go.RowKit
set_option linter.unusedVariables false
set_option linter.unusedSimpArgs false

def RelF (φ : Emb) (f : Fr) (tmps : Array Value) : Prop := ∀ t, RelV φ (f.get t) (tmps.getD t undef)
def Glob (G : Nat) (φ : Emb) : Prop := ∀ g, g < G → φ g = some ⟨g, 0, none⟩

theorem RelF.mono {φ φ' : Emb} (h : Sub φ φ') {f : Fr} {t : Array Value} (r : RelF φ f t) : RelF φ' f t := fun i => (r i).mono h
theorem Glob.mono {G : Nat} {φ φ' : Emb} (h : Sub φ φ') (r : Glob G φ) : Glob G φ' := fun g hg => h _ _ (r g hg)
theorem RelF.ev {G : Nat} {φ : Emb} {f : Fr} {a : Act} (r : RelF φ f a.tmps) (hg : Glob G φ) {x : Operand} (hx : okX G x = true) : RelV φ (f.ev x) (a.eval x) := by
  cases x with
  | tmp t => exact r t
  | const v => exact .plain hx
  | global g =>
    have := hg g (by simpa [okX] using hx)
    exact RelV.ptr (c := g) (o := 0) this
  | func g => exact .func rfl (fun i v v' p => by simp at p) rfl (fun i v v' p => by simp at p)

/-! ### what a related value looks like -/
section
variable {φ : Emb} {v' : Value}
theorem relV_ptr {a : Addr} (h : RelV φ (.pointer (some a)) v') : ∃ c o l, a = ⟨c, o, none⟩ ∧ φ c = some l ∧ v' = .pointer (some ⟨l.b, l.base + o, none⟩) := by
  cases h with
  | ptr hc => exact ⟨_, _, _, rfl, hc, rfl⟩
theorem relV_nilp (h : RelV φ (.pointer none) v') : v' = .pointer none := by cases h; rfl
theorem relV_sl {a : Addr} {n k : Nat} (h : RelV φ (.slice (some a) n k) v') : (∃ c o l k', a = ⟨c, o, none⟩ ∧ φ c = some l ∧ CapRel l o k k' ∧ n ≤ k ∧ v' = .slice (some ⟨l.b, l.base + o, none⟩) n k') ∨
    (∃ c o a' k', a = ⟨c, o, some 0⟩ ∧ n = 0 ∧ k = 0 ∧ v' = .slice (some a') 0 k') := by
  cases h with
  | sl hc hk hn => exact .inl ⟨_, _, _, _, rfl, hc, hk, hn, rfl⟩
  | slz => exact .inr ⟨_, _, _, _, rfl, rfl, rfl, rfl⟩
theorem relV_nils {n k : Nat} (h : RelV φ (.slice none n k) v') : n = 0 ∧ k = 0 ∧ v' = .slice none 0 0 := by cases h; exact ⟨rfl, rfl, rfl⟩
theorem relV_int {k : IntKind} {n : Int} (h : RelV φ (.int k n) v') : v' = .int k n := by cases h; rfl
theorem relV_bool {b : Bool} (h : RelV φ (.bool b) v') : v' = .bool b := by cases h; rfl
theorem relV_str {s : ByteArray} (h : RelV φ (.string s) v') : v' = .string s := by cases h; rfl
theorem relV_nilm (h : RelV φ (.map none) v') : v' = .map none := by cases h; rfl
theorem relV_map {c : Nat} (h : RelV φ (.map (some c)) v') : ∃ l, φ c = some l ∧ l.base = 0 ∧ v' = .map (some l.b) := by
  cases h with
  | map hc hb => exact ⟨_, hc, hb, rfl⟩
theorem relV_nili (h : RelV φ .nilIface v') : v' = .nilIface := by cases h; rfl
theorem relV_nilf (h : RelV φ .nilFunc v') : v' = .nilFunc := by cases h; rfl
theorem relV_iface {t : TypeId} {v : Value} (h : RelV φ (.iface t v) v') : ∃ u, v' = .iface t u ∧ RelV φ v u := by
  cases h with
  | iface h => exact ⟨_, rfl, h⟩
theorem relL_arr {a b : Array Value} (hs : a.size = b.size) (h : ∀ (i : Nat) (v v' : Value), a[i]? = some v → b[i]? = some v' → RelV φ v v') : RelL φ a.toList b.toList :=
  ⟨by simpa using hs, fun i v v' p q => h i v v' (by simpa using p) (by simpa using q)⟩
theorem relV_tuple {a : Array Value} (h : RelV φ (.tuple a) v') : ∃ b, v' = .tuple b ∧ RelL φ a.toList b.toList := by
  cases h with
  | tuple hs h => exact ⟨_, rfl, relL_arr hs h⟩
theorem relV_tuple_mk {a b : Array Value} (h : RelL φ a.toList b.toList) : RelV φ (.tuple a) (.tuple b) :=
  .tuple (by simpa using h.1) fun i v v' p q => h.2 i v v' (by simpa using p) (by simpa using q)
theorem relV_func {f : FuncId} {a c : Array Value} (h : RelV φ (.func (.func f) a c) v') : ∃ b d, v' = .func (.func f) b d ∧ RelL φ a.toList b.toList ∧ RelL φ c.toList d.toList := by
  cases h with
  | func hs h hs' h' => exact ⟨_, _, rfl, relL_arr hs h, relL_arr hs' h'⟩
theorem relV_func_mk {f : FuncId} {a b c d : Array Value} (h : RelL φ a.toList b.toList) (h' : RelL φ c.toList d.toList) : RelV φ (.func (.func f) a c) (.func (.func f) b d) :=
  .func (by simpa using h.1) (fun i v v' p q => h.2 i v v' (by simpa using p) (by simpa using q)) (by simpa using h'.1) (fun i v v' p q => h'.2 i v v' (by simpa using p) (by simpa using q))
theorem relV_undef : RelV φ undef undef := relV_tuple_mk RelL.nil
theorem relV_undef' (h : RelV φ undef v') : v' = undef := by
  obtain ⟨b, rfl, hr⟩ := relV_tuple h
  have := hr.1
  simp at this
  show Value.tuple b = Value.tuple #[]
  rw [Array.size_eq_zero_iff.1 this.symm]
end

/-! ### reading -/

theorem Addr.add_at (b o n : Nat) : (⟨b, o, none⟩ : Addr).add n = ⟨b, o + n, none⟩ := by unfold Addr.add; split <;> simp_all

theorem Sim.cells {B : Nat} {W0 : World} {φ : Emb} {H : Heap} {W : World} {c : Nat} {l : Loc} {cs : List Value} (s : Sim B W0 φ H.get? W) (hl : φ c = some l)
    (h : H.cells c = some cs) : CellsRel φ W l cs := by
  unfold Heap.cells at h
  split at h
  · rename_i g; cases h; exact (s.obj c l _ hl g).2.2
  · rename_i g; cases h; exact (s.obj c l _ hl g).2.2.1
  · rename_i g; cases h; obtain ⟨_, lo, _, _, _, _, _, h7, _⟩ := s.obj c l _ hl g; exact h7
  · cases h
theorem Sim.rd1 {B : Nat} {W0 : World} {φ : Emb} {H : Heap} {W : World} {c o : Nat} {l : Loc} {v : Value} (s : Sim B W0 φ H.get? W) (hl : φ c = some l)
    (h : H.rd1 ⟨c, o, none⟩ = some v) : one v = true ∧ ∃ v', W.cell? ⟨l.b, l.base + o, none⟩ = some v' ∧ RelV φ v v' := by
  simp only [Heap.rd1, Option.isSome_none, Bool.false_eq_true, if_false] at h
  split at h
  · rename_i cs hc; exact s.cells hl hc o v h
  · cases h
theorem CellsRel.list {φ : Emb} {W : World} {l : Loc} {cs : List Value} (h : CellsRel φ W l cs) :
    cs.all one = true ∧ ∃ vs', RelL φ cs vs' ∧ ∀ j u, vs'[j]? = some u → W.cell? ⟨l.b, l.base + j, none⟩ = some u := by
  refine ⟨?_, (List.range cs.length).map fun i => (W.cell? ⟨l.b, l.base + i, none⟩).getD undef, ⟨by simp, fun i v v' p q => ?_⟩, fun j u hu => ?_⟩
  · rw [List.all_eq_true]
    intro v hv
    obtain ⟨i, hi⟩ := List.getElem?_of_mem hv
    exact (h i v hi).1
  · obtain ⟨_, u, g1, g2⟩ := h i v p
    rw [List.getElem?_map] at q
    cases hi : (List.range cs.length)[i]? with
    | none => rw [hi] at q; cases q
    | some k =>
      rw [hi] at q
      have hk : k = i := by
        rw [List.getElem?_range] at hi
        · cases hi; rfl
        · rcases Nat.lt_or_ge i cs.length with g | g
          · exact g
          · rw [List.getElem?_eq_none g] at p; cases p
      subst hk
      simp only [Option.map_some, g1, Option.getD_some, Option.some.injEq] at q
      subst q; exact g2
  · rw [List.getElem?_map] at hu
    have hj : j < cs.length := by
      rcases Nat.lt_or_ge j cs.length with g | g
      · exact g
      · rw [List.getElem?_eq_none (by simpa using g)] at hu; cases hu
    rw [List.getElem?_range hj] at hu
    obtain ⟨_, u', g1, g2⟩ := h j _ (List.getElem?_eq_getElem hj)
    simp only [Option.map_some, g1, Option.getD_some, Option.some.injEq] at hu
    subst hu; exact g1
theorem Sim.rdN {B : Nat} {W0 : World} {φ : Emb} {H : Heap} {W : World} {c o n : Nat} {l : Loc} {vs : List Value} (s : Sim B W0 φ H.get? W) (hl : φ c = some l)
    (h : H.rdN ⟨c, o, none⟩ n = some vs) : vs.length = n ∧ vs.all one = true ∧ ∃ vs', RelL φ vs vs' ∧ ∀ j u, vs'[j]? = some u → W.cell? ⟨l.b, l.base + o + j, none⟩ = some u := by
  simp only [Heap.rdN, Option.isSome_none, Bool.false_eq_true, if_false] at h
  split at h
  · rename_i cs hc
    split at h
    · rename_i hle
      cases h
      obtain ⟨ho, vs', hr, hcell⟩ := (s.cells hl hc).list
      refine ⟨by simp; omega, ?_, (vs'.drop o).take n, (hr.drop o).take n, fun j u hu => ?_⟩
      · rw [List.all_eq_true] at *
        exact fun v hv => ho v (List.mem_of_mem_drop (List.mem_of_mem_take hv))
      · rw [List.getElem?_take] at hu
        split at hu
        · rw [List.getElem?_drop] at hu
          rw [show l.base + o + j = l.base + (o + j) from by omega]
          exact hcell _ u hu
        · cases hu
    · cases h
  · cases h

/-! ### the model's small runs -/
section
variable {P : Program} {W : World}
theorem run_ti {t : TypeId} {i : TypeInfo} (h : P.info? t = some i) : (typeInfo t).run P W = .ok i W := by simp [typeInfo, h]
theorem run_un {t : TypeId} {d : TypeDesc} (h : P.underlying t = some d) : (underlying t).run P W = .ok d W := run_underlying h W
theorem run_sz {t : TypeId} {n : Nat} (h : sizeT P t = some n) : (sizeOf t).run P W = .ok n W := by
  unfold sizeT at h
  cases hi : P.info? t with
  | none => rw [hi] at h; cases h
  | some i => rw [hi] at h; cases h; simp [sizeOf, run_ti hi]
theorem run_zv {t : TypeId} {z : Value} (h : zeroOf P t = some z) : (zeroValue t).run P W = .ok z W ∧ plainV z = true := by
  unfold zeroOf at h
  split at h
  · rename_i i hi
    split at h
    · rename_i v hv
      split at h
      · rename_i hp; cases h; exact ⟨by simp [zeroValue, run_ti hi, hv], hp⟩
      · cases h
    · cases h
  · cases h
theorem run_ag {t : TypeId} {b : Bool} (h : aggT P t = some b) : (isAgg t).run P W = .ok b W := by
  unfold aggT at h
  split at h <;> (first | (rename_i g; cases h; simp [isAgg, run_un g]) | cases h)
theorem run_by {t : TypeId} {n : Nat} (h : bytesT P t = some n) : ∃ i, P.info? t = some i ∧ i.bytes = n := by
  unfold bytesT at h
  cases hi : P.info? t with
  | none => rw [hi] at h; cases h
  | some i => rw [hi] at h; cases h; exact ⟨i, rfl, rfl⟩
theorem run_loadCells_at {b o n : Nat} {vs : List Value} (hn : vs.length = n) (h : ∀ j u, vs[j]? = some u → W.cell? ⟨b, o + j, none⟩ = some u) :
    (loadCells ⟨b, o, none⟩ n).run P W = .ok vs.toArray W := by
  subst hn
  exact run_loadCells_list W _ vs fun j v hv => by rw [Addr.add_at]; exact h j v hv
end

end Go.Cm

/- The canonical machine's primitive operations, first part: values, blocks, loads, stores. Conditions: none. -/
namespace Go.Cm
open Go.RowKit
set_option linter.unusedVariables false
set_option linter.unusedSimpArgs false

/-- what one operation of the model's comes to, against the canonical one -/
def Prim (B : Nat) (W0 : World) (φ : Emb) (H : Heap) (W : World) (r : Result Next) (v : Value) (H' : Heap) : Prop :=
  ∃ φ' v' W', (r = .ok (.value v') W' ∨ (r = .ok .skip W' ∧ v' = undef)) ∧ RelV φ' v v' ∧ Sim B W0 φ' H'.get? W' ∧ Ext φ φ' H H' W W'

section
variable {B : Nat} {W0 : World} {φ : Emb} {H H' : Heap} {W : World} {r : Result Next} {v v' : Value}

theorem Prim.pure (s : Sim B W0 φ H.get? W) (hr : r = .ok (.value v') W) (hv : RelV φ v v') : Prim B W0 φ H W r v H :=
  ⟨φ, v', W, .inl hr, hv, s, .refl⟩

/-- a new block that is the call's own alone -/
theorem Sim.allocRw {cs : List Value} {ar : Array Value} {e : TypeId} (s : Sim B W0 φ H.get? W) (hn : φ H.n = none) (ho : cs.all one = true) (hr : RelL φ cs ar.toList) :
    Sim B W0 (φ.add H.n ⟨W.heap.size, 0, none⟩) (H.push (.rw cs)).get? (W.alloc (.cells ar e)) ∧ Ext φ (φ.add H.n ⟨W.heap.size, 0, none⟩) H (H.push (.rw cs)) W (W.alloc (.cells ar e)) := by
  refine s.alloc hn rfl ⟨s.inB, rfl, ?_, ?_, rfl⟩
  · intro i v hv
    refine ⟨by rw [List.all_eq_true] at ho; exact ho v (List.mem_of_getElem? hv), ?_⟩
    obtain ⟨v', p, q⟩ := hr.get hv
    refine ⟨v', ?_, q.mono (Emb.sub_add hn)⟩
    show (W.alloc (.cells ar e)).cell? ⟨W.heap.size, 0 + i, none⟩ = some v'
    rw [Nat.zero_add, World.cell?_alloc_new]; simpa using p
  · intro j _ _; exact World.frozen?_alloc_new ..
/-- a new block behind an append or out of a string: cells, and room behind them -/
theorem Sim.allocLoose {cs : List Value} {ar : Array Value} {e : TypeId} {esz : Nat} {ob : Obj} (s : Sim B W0 φ H.get? W) (hn : φ H.n = none) (ho : cs.all one = true)
    (hr : ∃ rest : List Value, RelL φ cs rest ∧ ∀ (i : Nat) (u : Value), rest[i]? = some u → ar[i]? = some u) (he : 0 < esz) (hsz : cs.length ≤ ar.size)
    (hc : ∀ i, (W.alloc ob).cell? ⟨W.heap.size, i, none⟩ = ar[i]?) (hf : ∀ i, i < ar.size → (W.alloc ob).frozen? ⟨W.heap.size, i, none⟩ = false) :
    Sim B W0 (φ.add H.n ⟨W.heap.size, 0, some ⟨cs.length, esz, ar.size⟩⟩) (H.push (.loose esz cs)).get? (W.alloc ob) ∧
      Ext φ (φ.add H.n ⟨W.heap.size, 0, some ⟨cs.length, esz, ar.size⟩⟩) H (H.push (.loose esz cs)) W (W.alloc ob) := by
  refine s.alloc hn rfl ⟨s.inB, _, rfl, rfl, rfl, he, by simpa using hsz, ?_, ?_, ?_⟩
  · intro i v hv
    refine ⟨by rw [List.all_eq_true] at ho; exact ho v (List.mem_of_getElem? hv), ?_⟩
    obtain ⟨rest, hr1, hr2⟩ := hr
    obtain ⟨v', p, q⟩ := hr1.get hv
    exact ⟨v', by show (W.alloc ob).cell? ⟨W.heap.size, 0 + i, none⟩ = some v'; rw [Nat.zero_add, hc]; exact hr2 _ _ p, q.mono (Emb.sub_add hn)⟩
  · intro j _ h2; exact hf j h2
  · intro j _ h2
    show ((W.alloc ob).cell? ⟨W.heap.size, j, none⟩).isSome = true
    rw [hc, Array.getElem?_eq_getElem h2]; rfl

theorem cells_plain {z : Value} (h : plainV z = true) : z.cells.toList.all plain1 = true := by
  cases z <;> first | exact h | (simp only [Value.cells, List.all_cons, List.all_nil, Bool.and_true]; exact h)

variable {P : Program} {G : Nat} {ρ ρ' : Operand → Value}

theorem prim_new {e : TypeId} {z : Value} (s : Sim B W0 φ H.get? W) (free : Free φ H (H.push (.rw z.cells.toList))) (hz : zeroOf P e = some z) :
    Prim B W0 φ H W ((do pure (Next.value (← Instr.alloc e true (.tuple #[]))) : Sem Next).run P W) (.pointer (some ⟨H.n, 0, none⟩)) (H.push (.rw z.cells.toList)) := by
  obtain ⟨hr, hp⟩ := run_zv (W := W) hz
  have hn : φ H.n = none := free H.n (Nat.le_refl _) (by simp)
  obtain ⟨s', x'⟩ := s.allocRw (e := e) (ar := z.cells) hn (all_one_of_plain (cells_plain hp)) (RelL.plain (cells_plain hp))
  refine ⟨_, .pointer (some ⟨W.heap.size, 0, none⟩), _, .inl ?_, RelV.ptr (c := H.n) (o := 0) Emb.add_same, s', x'⟩
  simp [Instr.alloc, hr, newVar, newRow]

theorem prim_box {e : TypeId} {x : Operand} {cs : List Value} (s : Sim B W0 φ H.get? W) (free : Free φ H (H.push (.rw cs))) (hx : RelV φ (ρ x) (ρ' x)) (hc : cellsOf (ρ x) = some cs) :
    Prim B W0 φ H W ((do pure (Next.value (← Instr.box e (ρ' x))) : Sem Next).run P W) (.pointer (some ⟨H.n, 0, none⟩)) (H.push (.rw cs)) := by
  obtain ⟨ho, hr⟩ := hx.cells hc
  have hn : φ H.n = none := free H.n (Nat.le_refl _) (by simp)
  obtain ⟨s', x'⟩ := s.allocRw (e := e) (ar := (ρ' x).cells) hn ho hr
  refine ⟨_, .pointer (some ⟨W.heap.size, 0, none⟩), _, .inl ?_, RelV.ptr (c := H.n) (o := 0) Emb.add_same, s', x'⟩
  simp [Instr.box, newVar, newRow]

theorem prim_load1 {t : TypeId} {a : Addr} {x' : Value} (s : Sim B W0 φ H.get? W) (hx : RelV φ (.pointer (some a)) x') (ht : aggT P t = some false) (hv : H.rd1 a = some v) :
    Prim B W0 φ H W ((do pure (Next.value (← Instr.loadAt t x')) : Sem Next).run P W) v H := by
  obtain ⟨c, o, l, rfl, hl, rfl⟩ := relV_ptr hx
  obtain ⟨ho, v', hc, hr⟩ := s.rd1 hl hv
  refine Prim.pure s ?_ hr
  simp [Instr.loadAt, Instr.sureAddr, loadVar, run_ag ht, hc]

theorem prim_loadN {t : TypeId} {n : Nat} {a : Addr} {x' : Value} {vs : List Value} (s : Sim B W0 φ H.get? W) (hx : RelV φ (.pointer (some a)) x') (ht : aggT P t = some true) (hn : sizeT P t = some n)
    (hv : H.rdN a n = some vs) : Prim B W0 φ H W ((do pure (Next.value (← Instr.loadAt t x')) : Sem Next).run P W) (.agg vs.toArray) H := by
  obtain ⟨c, o, l, rfl, hl, rfl⟩ := relV_ptr hx
  obtain ⟨hlen, ho, vs', hr, hc⟩ := s.rdN hl hv
  refine Prim.pure (v' := .agg vs'.toArray) s ?_ (relV_agg.2 ⟨ho, hr⟩)
  simp [Instr.loadAt, Instr.sureAddr, loadVar, run_ag ht, run_sz hn, run_loadCells_at (P := P) (hr.1.symm.trans hlen) hc]

theorem prim_store {t : TypeId} {n : Nat} {a : Addr} {x' u u' : Value} {vs : List Value} (s : Sim B W0 φ H.get? W) (hx : RelV φ (.pointer (some a)) x') (hu : RelV φ u u') (hn : sizeT P t = some n)
    (hcs : cellsOf u = some vs) (hlen : vs.length = n) (hw : H.wr a vs = some H') :
    Prim B W0 φ H W ((do Instr.storeAt t x' u'; pure Next.skip : Sem Next).run P W) undef H' := by
  obtain ⟨c, o, l, rfl, hl, rfl⟩ := relV_ptr hx
  obtain ⟨ho, hr⟩ := hu.cells hcs
  obtain ⟨h1, h2, s', x'⟩ := s.write hl hw hr ho
  refine ⟨φ, undef, _, .inr ⟨?_, rfl⟩, relV_undef, s', x'⟩
  have hsize : u'.cells.size = n := by have := hr.1; simp at this; omega
  have hone : ∀ v ∈ u'.cells.toList, v.oneCell' = true := by
    intro v hv
    obtain ⟨i, hi⟩ := List.getElem?_of_mem hv
    obtain ⟨w, p, q⟩ := hr.get' hi
    rw [List.all_eq_true] at ho
    exact q.one (ho w (List.mem_of_getElem? p))
  have := run_storeCells (P := P) (b := l.b) (o := l.base + o) (vs := u'.cells.toList) (W := W) (i := 0) (by simpa using h1) (by simpa using h2) hone
  simp only [Nat.add_zero] at this
  simp [Instr.storeAt, Instr.sureAddr, storeVar, run_sz hn, hsize, this]

theorem prim_ixV {t : TypeId} {e : TypeId} {esz : Nat} {a : Addr} {len cap : Nat} {k : IntKind} {i : Int} {x' : Value} (s : Sim B W0 φ H.get? W) (hx : RelV φ (.slice (some a) len cap) x') (ht : P.underlying t = some (.slice e))
    (hs : sizeT P e = some esz) (h0 : 0 ≤ i) (h1 : i < len) :
    Prim B W0 φ H W ((do pure (Next.value (← Instr.indexAt t x' (.int k i))) : Sem Next).run P W) (.pointer (some (addOff a (i.toNat * esz)))) H := by
  rcases relV_sl hx with ⟨c, o, l, k', rfl, hl, hk, hn, rfl⟩ | ⟨c, o, a', k', rfl, rfl, rfl, rfl⟩
  · refine Prim.pure (v' := .pointer (some ⟨l.b, l.base + (o + i.toNat * esz), none⟩)) s ?_ (RelV.ptr hl)
    simp [Instr.indexAt, asIntOf, run_un ht, h0, h1, run_sz hs, Addr.add_at, Nat.add_assoc]
  · omega

theorem prim_ixA {t : TypeId} {e : TypeId} {esz len : Nat} {a : Addr} {k : IntKind} {i : Int} {x' : Value} (s : Sim B W0 φ H.get? W) (hx : RelV φ (.pointer (some a)) x') (ht : P.underlying t = some (.array len e))
    (hs : sizeT P e = some esz) (h0 : 0 ≤ i) (h1 : i < len) :
    Prim B W0 φ H W ((do pure (Next.value (← Instr.indexAt t x' (.int k i))) : Sem Next).run P W) (.pointer (some (addOff a (i.toNat * esz)))) H := by
  obtain ⟨c, o, l, rfl, hl, rfl⟩ := relV_ptr hx
  refine Prim.pure (v' := .pointer (some ⟨l.b, l.base + (o + i.toNat * esz), none⟩)) s ?_ (RelV.ptr hl)
  simp [Instr.indexAt, asIntOf, run_un ht, h0, h1, run_sz hs, Addr.add_at, Nat.add_assoc, Instr.sureAddr]

theorem prim_fld {t : TypeId} {fs : Array Field} {f n : Nat} {fd : Field} {a : Addr} {x' : Value} (s : Sim B W0 φ H.get? W) (hx : RelV φ (.pointer (some a)) x') (ht : P.underlying t = some (.struct fs))
    (hf : fs[f]? = some fd) (hs : sizeT P fd.type = some n) (hn : n ≠ 0) :
    Prim B W0 φ H W ((do pure (Next.value (← Instr.fieldAt t x' f)) : Sem Next).run P W) (.pointer (some (addOff a fd.offset))) H := by
  obtain ⟨c, o, l, rfl, hl, rfl⟩ := relV_ptr hx
  refine Prim.pure (v' := .pointer (some ⟨l.b, l.base + (o + fd.offset), none⟩)) s ?_ (RelV.ptr hl)
  simp [Instr.fieldAt, run_un ht, hf, Instr.sureAddr, fieldPlace, run_sz hs, hn, Addr.add_at, Nat.add_assoc]

theorem arith_sound {op : BinOp} {t : TypeId} {x y x' y' : Value} (hx : RelV φ x x') (hy : RelV φ y y') (h : arith op x y = some v) :
    (binOp op t x' y').run P W = .ok v W ∧ RelV φ v v := by
  cases x with
  | int k a =>
    cases y with
    | int k' b =>
      have := relV_int hx; subst this; have := relV_int hy; subst this
      simp only [arith] at h
      by_cases hk : k = k'
      · subst hk
        cases op <;> simp only [ne_eq, not_true_eq_false, if_false] at h <;> first
          | (split at h <;> first | (cases h; done) | (cases h; rename_i hb; refine ⟨?_, .int _ _⟩; simp [binOp, Op.shift, Op.intDiv, hb]; done))
          | (cases h; exact ⟨by simp [binOp, Op.intArith, Op.intBits, Op.intCmp], by first | exact .int _ _ | exact .bool _⟩)
          | cases h
      · cases op <;> simp only [ne_eq, hk, not_false_eq_true, if_true] at h <;> first
          | (split at h <;> first | (cases h; done) | (cases h; rename_i hb; refine ⟨?_, .int _ _⟩; simp [binOp, Op.shift, hb]; done))
          | cases h
    | _ => simp [arith] at h
  | string a =>
    cases y with
    | string b =>
      have := relV_str hx; subst this; have := relV_str hy; subst this
      cases op <;> simp only [arith] at h <;> first
        | (split at h <;> first | (cases h; done) | (cases h; rename_i hb; exact ⟨by simp only [binOp, Op.stringOp, IntKind.max_i64, hb, if_false]; rfl, .str _⟩))
        | (cases h; exact ⟨by simp [binOp, Op.stringOp], .bool _⟩)
        | cases h
    | _ => simp [arith] at h
  | _ => simp [arith] at h

theorem eqGuard_arith {op : BinOp} {t : TypeId} {x y : Operand} {a b a' b' : Value} (hx : RelV φ a a') (hy : RelV φ b b') (h : arith op a b = some v) : eqGuard op t x y a' b' = pure () := by
  cases a with
  | int k n => have := relV_int hx; subst this; exact eqGuard_at_int ..
  | string s => have := relV_str hx; subst this; exact eqGuard_at_string ..
  | _ => simp [arith] at h

theorem prim_ar {op : BinOp} {t : TypeId} {x y : Operand} (s : Sim B W0 φ H.get? W) (hx : RelV φ (ρ x) (ρ' x)) (hy : RelV φ (ρ y) (ρ' y)) (h : arith op (ρ x) (ρ y) = some v) :
    Prim B W0 φ H W ((do pure (Next.value (← (do eqGuard op t x y (ρ' x) (ρ' y); binOp op t (ρ' x) (ρ' y)))) : Sem Next).run P W) v H := by
  obtain ⟨h1, h2⟩ := arith_sound (P := P) (W := W) (t := t) hx hy h
  refine Prim.pure s ?_ h2
  simp [eqGuard_arith (t := t) (x := x) (y := y) hx hy h, h1]

theorem prim_un {op : UnOp} {x x' : Value} (s : Sim B W0 φ H.get? W) (hx : RelV φ x x') (h : unary op x = some v) :
    Prim B W0 φ H W ((do pure (Next.value (← Op.unary op x')) : Sem Next).run P W) v H := by
  cases x with
  | int k n =>
    have := relV_int hx; subst this
    cases op <;> simp only [unary] at h <;> first
      | (cases h; exact Prim.pure s (by simp [Op.unary, Op.intArith, Op.intBits]; done) (.int _ _))
      | cases h
  | bool b =>
    have := relV_bool hx; subst this
    cases op <;> simp only [unary] at h <;> first
      | (cases h; exact Prim.pure s (by simp [Op.unary]; done) (.bool _))
      | cases h
  | _ => simp [unary] at h

end
end Go.Cm

/- The canonical machine's primitive operations, second part: composites, slices, conversions. Conditions: none. -/
namespace Go.Cm
open Go.RowKit
set_option linter.unusedVariables false
set_option linter.unusedSimpArgs false

section
variable {B : Nat} {W0 : World} {φ : Emb} {H H' : Heap} {W : World} {r : Result Next} {v v' : Value} {P : Program} {G : Nat} {ρ ρ' : Operand → Value}

/-! ### composites -/

theorem foldl_zipIdx (off : Nat) : ∀ (vs : List Value) (k : Nat) (cs : Array Value),
    ((vs.zipIdx k).foldl (fun cs (p : Value × Nat) => cs.setIfInBounds (off + p.2) p.1) cs).toList = (vs.zipIdx k).foldl (fun cs (p : Value × Nat) => cs.set (off + p.2) p.1) cs.toList
  | [], k, cs => rfl
  | v :: vs, k, cs => by simp only [List.zipIdx_cons, List.foldl_cons]; rw [foldl_zipIdx off vs (k + 1)]; simp
theorem foldl_set (off : Nat) : ∀ (vs : List Value) (k : Nat) (cs : List Value) (i : Nat), off + k + vs.length ≤ cs.length →
    ((vs.zipIdx k).foldl (fun cs (p : Value × Nat) => cs.set (off + p.2) p.1) cs)[i]? = if off + k ≤ i ∧ i < off + k + vs.length then vs[i - (off + k)]? else cs[i]?
  | [], k, cs, i, _ => by simp; intro h1 h2; omega
  | v :: vs, k, cs, i, h => by
    simp only [List.zipIdx_cons, List.foldl_cons]
    rw [foldl_set off vs (k + 1) _ i (by simp at h ⊢; omega)]
    by_cases hi : i = off + k
    · subst hi
      rw [if_neg (by omega), if_pos ⟨by omega, by simp⟩, List.getElem?_set_self (by simp at h; omega)]; simp
    · rw [List.getElem?_set_ne (by omega)]
      by_cases hc : off + (k + 1) ≤ i ∧ i < off + (k + 1) + vs.length
      · rw [if_pos hc, if_pos ⟨by omega, by simp; omega⟩, show i - (off + k) = (i - (off + (k + 1))) + 1 from by omega, List.getElem?_cons_succ]
      · rw [if_neg hc, if_neg (by simp; omega)]
theorem fill_splice (off : Nat) (vs : Array Value) (cs : Array Value) (h : off + vs.size ≤ cs.size) :
    (vs.zipIdx.foldl (fun cs (p : Value × Nat) => cs.setIfInBounds (off + p.2) p.1) cs).toList = splice cs.toList off vs.toList := by
  apply List.ext_getElem?
  intro i
  rw [← Array.foldl_toList, Array.toList_zipIdx, foldl_zipIdx, foldl_set off vs.toList 0 cs.toList i (by simpa using h), splice_get _ _ _ _ (by simpa using h)]
  simp

theorem lay_fill {place : Nat → Option (Nat × Nat)} : ∀ {ps : List (Nat × Operand)} {l : List (Nat × Nat × Operand)} {cs cs2 : List Value} {cs' : Array Value},
    l = ps.map (fun p => ((place p.1).getD (0, 0)).1 |> fun a => (a, ((place p.1).getD (0, 0)).2, p.2)) → (∀ p ∈ ps, (place p.1).isSome = true) →
    (∀ p ∈ ps, RelV φ (ρ p.2) (ρ' p.2)) → lay ρ l cs = some cs2 → cs.all one = true → RelL φ cs cs'.toList →
    cs2.all one = true ∧ ∃ cs2', Instr.fill place cs' (ps.map fun p => (p.1, ρ' p.2)) = some cs2' ∧ RelL φ cs2 cs2'.toList
  | [], l, cs, cs2, cs', hl, _, _, h, ho, hr => by
    subst hl
    simp only [List.map_nil, lay, Option.some.injEq] at h
    subst h
    exact ⟨ho, cs', rfl, hr⟩
  | (i, x) :: ps, l, cs, cs2, cs', hl, hp, hx, h, ho, hr => by
    subst hl
    obtain ⟨⟨off, size⟩, hpl⟩ := Option.isSome_iff_exists.1 (hp (i, x) (by simp))
    simp only [List.map_cons, hpl, Option.getD_some, lay] at h
    split at h
    · rename_i vs hvs
      split at h
      · rename_i hc
        obtain ⟨hv1, hv2⟩ := (hx (i, x) (by simp)).cells hvs
        have hsz : (ρ' x).cells.size = size := by have := hv2.1; simp at this; omega
        have hcs : cs'.size = cs.length := by have := hr.1; simp at this; omega
        have hsp := fill_splice off (ρ' x).cells cs' (by omega)
        have hr' : RelL φ (splice cs off vs) ((ρ' x).cells.zipIdx.foldl (fun cs (p : Value × Nat) => cs.setIfInBounds (off + p.2) p.1) cs').toList := by
          rw [hsp]; exact RelL.splice hv2 off hr
        have ho' : (splice cs off vs).all one = true := by
          rw [List.all_eq_true] at *
          intro v hv
          obtain ⟨j, hj⟩ := List.getElem?_of_mem hv
          rw [splice_get _ _ _ _ (by omega)] at hj
          split at hj
          · exact hv1 v (List.mem_of_getElem? hj)
          · exact ho v (List.mem_of_getElem? hj)
        obtain ⟨g1, cs2', g2, g3⟩ := lay_fill rfl (fun p hm => hp p (by simp [hm])) (fun p hm => hx p (by simp [hm])) h ho' hr'
        refine ⟨g1, cs2', ?_, g3⟩
        simp only [List.map_cons, Instr.fill, hpl]
        rw [if_neg (by simp; omega)]
        exact g2
      · cases h
    · cases h

theorem mapM_places : ∀ {fs : List Field} (_ : fs.all (fun f => (sizeT P f.type).isSome) = true),
    (fs.mapM fun f => (do pure (f.offset, ← sizeOf f.type) : Sem (Nat × Nat))).run P W = .ok (fs.map fun f => (f.offset, (sizeT P f.type).getD 0)) W
  | [], _ => rfl
  | f :: fs, h => by
    simp only [List.all_cons, Bool.and_eq_true] at h
    obtain ⟨n, hn⟩ := Option.isSome_iff_exists.1 h.1
    have ih := mapM_places h.2
    simp only [List.mapM_cons, Sem.run_bind, run_sz hn, Result.andThen_ok, Sem.run_pure, ih, List.map_cons, hn, Option.getD_some]

theorem resParts_eq {fs : Array Field} : ∀ {ps : List (Nat × Operand)} {l : List (Nat × Nat × Operand)}, resParts P fs ps = some l →
    (∀ p ∈ ps, (((fs.toList.map fun f => (f.offset, (sizeT P f.type).getD 0)).toArray)[p.1]?).isSome = true) ∧
    l = ps.map (fun p => (((((fs.toList.map fun f => (f.offset, (sizeT P f.type).getD 0)).toArray)[p.1]?).getD (0, 0)).1, ((((fs.toList.map fun f => (f.offset, (sizeT P f.type).getD 0)).toArray)[p.1]?).getD (0, 0)).2, p.2))
  | [], l, h => by simp [resParts] at h; subst h; simp
  | (i, x) :: ps, l, h => by
    simp only [resParts] at h
    split at h
    · rename_i f l' hf hl'
      split at h
      · rename_i n hn
        cases h
        obtain ⟨g1, g2⟩ := resParts_eq hl'
        have e : ((fs.toList.map fun f => (f.offset, (sizeT P f.type).getD 0)).toArray)[i]? = some (f.offset, n) := by
          simp [hf, hn]
        refine ⟨fun p hp => ?_, ?_⟩
        · rcases List.mem_cons.1 hp with rfl | hp
          · rw [e]; rfl
          · exact g1 p hp
        · rw [List.map_cons, ← g2, e]; rfl
      · cases h
    · cases h

theorem prim_buildSt {t : TypeId} {fs : Array Field} {z : Value} {ps : Array (Nat × Operand)} {l : List (Nat × Nat × Operand)} {cs : List Value} (s : Sim B W0 φ H.get? W)
    (ht : P.underlying t = some (.struct fs)) (hz : zeroOf P t = some z) (ha : allSizes P fs = true) (hl : resParts P fs ps.toList = some l)
    (hx : ∀ p ∈ ps.toList, RelV φ (ρ p.2) (ρ' p.2)) (h : lay ρ l z.cells.toList = some cs) :
    Prim B W0 φ H W ((do pure (Next.value (← Instr.build t (ps.map fun (i, x) => (i, ρ' x)))) : Sem Next).run P W) (.agg cs.toArray) H := by
  obtain ⟨hr, hp⟩ := run_zv (W := W) hz
  obtain ⟨g1, g2⟩ := resParts_eq hl
  obtain ⟨ho, cs2', hf, hrel⟩ := lay_fill (φ := φ) (ρ' := ρ') (place := fun i => ((fs.toList.map fun f => (f.offset, (sizeT P f.type).getD 0)).toArray)[i]?) (cs' := z.cells) g2 g1 hx h
    (all_one_of_plain (cells_plain hp)) (RelL.plain (cells_plain hp))
  refine Prim.pure (v' := .agg cs2') s ?_ (relV_agg.2 ⟨ho, hrel⟩)
  have hm : (fs.mapM fun f => (do pure (f.offset, ← sizeOf f.type) : Sem (Nat × Nat))).run P W = .ok ((fs.toList.map fun f => (f.offset, (sizeT P f.type).getD 0)).toArray) W := by
    rw [Array.mapM_eq_mapM_toList]
    simp only [Sem.run_map, mapM_places ha, Result.andThen_ok]
  simp only [Instr.build, Sem.run_bind, hr, Result.andThen_ok, run_un ht, hm]
  rw [show (ps.map fun (i, x) => (i, ρ' x)).toList = ps.toList.map fun p => (p.1, ρ' p.2) from by simp]
  rw [hf]
  rfl

theorem prim_buildAr {t e : TypeId} {n sz : Nat} {z : Value} {ps : Array (Nat × Operand)} {cs : List Value} (s : Sim B W0 φ H.get? W)
    (ht : P.underlying t = some (.array n e)) (hz : zeroOf P t = some z) (hs : sizeT P e = some sz)
    (hx : ∀ p ∈ ps.toList, RelV φ (ρ p.2) (ρ' p.2)) (h : lay ρ (ps.toList.map fun (i, x) => (i * sz, sz, x)) z.cells.toList = some cs) :
    Prim B W0 φ H W ((do pure (Next.value (← Instr.build t (ps.map fun (i, x) => (i, ρ' x)))) : Sem Next).run P W) (.agg cs.toArray) H := by
  obtain ⟨hr, hp⟩ := run_zv (W := W) hz
  obtain ⟨ho, cs2', hf, hrel⟩ := lay_fill (φ := φ) (ρ' := ρ') (place := fun i => some (i * sz, sz)) (ps := ps.toList) (cs' := z.cells) (by simp) (by simp) hx h
    (all_one_of_plain (cells_plain hp)) (RelL.plain (cells_plain hp))
  refine Prim.pure (v' := .agg cs2') s ?_ (relV_agg.2 ⟨ho, hrel⟩)
  simp only [Instr.build, Sem.run_bind, hr, Result.andThen_ok, run_un ht, run_sz hs]
  rw [show (ps.map fun (i, x) => (i, ρ' x)).toList = ps.toList.map fun p => (p.1, ρ' p.2) from by simp]
  rw [hf]
  rfl

theorem repL_length (z : List Value) : ∀ n, (repL z n).length = n * z.length
  | 0 => by simp [repL]
  | n + 1 => by simp [repL, repL_length z n, Nat.succ_mul, Nat.add_comm]
theorem repL_get (z : List Value) (hz : 0 < z.length) : ∀ (n i : Nat), i < n * z.length → (repL z n)[i]? = z[i % z.length]?
  | 0, i, h => by simp at h
  | n + 1, i, h => by
    simp only [repL]
    by_cases hi : i < z.length
    · rw [List.getElem?_append_left hi, Nat.mod_eq_of_lt hi]
    · rw [List.getElem?_append_right (by omega), repL_get z hz n _ (by rw [Nat.succ_mul] at h; omega)]
      congr 1
      rw [Nat.mod_eq_sub_mod (by omega : z.length ≤ i)]
theorem repL_all {z : List Value} {p : Value → Bool} (h : z.all p = true) : ∀ n, (repL z n).all p = true
  | 0 => rfl
  | n + 1 => by simp [repL, h, repL_all h n]
theorem zeros_eq (z : Array Value) (hz : 0 < z.size) (n : Nat) : ((Array.range (n * z.size)).map (z[· % z.size]!)).toList = repL z.toList n := by
  apply List.ext_getElem?
  intro i
  by_cases hi : i < n * z.size
  · rw [repL_get _ (by simpa using hz) _ _ (by simpa using hi)]
    have hm : i % z.size < z.size := Nat.mod_lt _ hz
    simp [hi, hm]
  · rw [List.getElem?_eq_none (by simpa using hi), List.getElem?_eq_none (by rw [repL_length]; simpa using hi)]

theorem prim_buildSlice {t e : TypeId} {len sz : Nat} {z : Value} {ps : Array (Nat × Operand)} {cs : List Value} (s : Sim B W0 φ H.get? W) (free : Free φ H (H.push (.rw cs)))
    (ht : P.underlying t = some (.slice e)) (hz : zeroOf P e = some z) (hs : sizeT P e = some sz) (h24 : len * sz ≤ 16777216) (hzs : z.cells.size = sz) (hpos : 0 < sz)
    (hx : ∀ p ∈ ps.toList, RelV φ (ρ p.2) (ρ' p.2)) (h : lay ρ (ps.toList.map fun (i, x) => (i * sz, sz, x)) (repL z.cells.toList len) = some cs) :
    Prim B W0 φ H W ((do pure (Next.value (← Instr.buildSlice t len (ps.map fun (i, x) => (i, ρ' x)))) : Sem Next).run P W) (.slice (some ⟨H.n, 0, none⟩) len len) (H.push (.rw cs)) := by
  obtain ⟨hr, hp⟩ := run_zv (W := W) hz
  have hp1 := repL_all (cells_plain hp) len
  have hzc : RelL φ (repL z.cells.toList len) ((Array.range (len * z.cells.size)).map (z.cells[· % z.cells.size]!)).toList := by
    rw [zeros_eq _ (by omega)]; exact RelL.plain hp1
  obtain ⟨ho, cs2', hf, hrel⟩ := lay_fill (φ := φ) (ρ' := ρ') (place := fun i => some (i * sz, sz)) (ps := ps.toList) (by simp) (by simp) hx h (all_one_of_plain hp1) hzc
  have hn : φ H.n = none := free H.n (Nat.le_refl _) (by simp)
  obtain ⟨s', x'⟩ := s.allocRw (e := e) (ar := cs2') hn ho hrel
  refine ⟨_, .slice (some ⟨W.heap.size, 0, none⟩) len len, _, .inl ?_, RelV.sl (c := H.n) (o := 0) Emb.add_same (.inl rfl) (Nat.le_refl _), s', x'⟩
  simp only [Instr.buildSlice, Sem.run_bind, run_un ht, Result.andThen_ok, run_sz hs]
  rw [if_neg (by omega)]
  simp only [Sem.run_pure, Result.andThen_ok, Sem.run_ite, Sem.run_bind, hr]
  rw [show len * z.cells.size = len * sz from by rw [hzs]] at hf
  rw [show (ps.map fun (i, x) => (i, ρ' x)).toList = ps.toList.map fun p => (p.1, ρ' p.2) from by simp]
  by_cases h0 : len * sz = 0
  · have hempty : Array.range (len * sz) = #[] := by rw [h0]; rfl
    rw [hempty, Array.map_empty] at hf
    rw [if_pos h0, hempty, Array.map_empty, hf]
    simp [newRow]
  · rw [if_neg h0, hf]
    simp [newRow]

end
end Go.Cm

/- The canonical machine's primitive operations, third part: slices, strings, appends, copies. Conditions: none. -/
namespace Go.Cm
open Go.RowKit
set_option linter.unusedVariables false
set_option linter.unusedSimpArgs false

section
variable {B : Nat} {W0 : World} {φ : Emb} {H H' : Heap} {W : World} {r : Result Next} {v v' : Value} {P : Program} {G : Nat} {ρ ρ' : Operand → Value}

theorem prim_mkMap {t : TypeId} (s : Sim B W0 φ H.get? W) (free : Free φ H (H.push (.map [] 0))) :
    Prim B W0 φ H W ((do pure (Next.value (← Instr.makeMap t none)) : Sem Next).run P W) (.map (some H.n)) (H.push (.map [] 0)) := by
  have hn : φ H.n = none := free H.n (Nat.le_refl _) (by simp)
  obtain ⟨s', x'⟩ := s.alloc (o := .map [] 0) (ob := .map #[] 0) (l := ⟨W.heap.size, 0, none⟩) hn rfl ⟨s.inB, rfl, rfl, #[], (by show (W.heap.push _)[W.heap.size]? = _; simp), trivial⟩
  refine ⟨_, .map (some W.heap.size), _, .inl ?_, RelV.map (c := H.n) Emb.add_same rfl, s', x'⟩
  simp [Instr.makeMap]

theorem prim_mkSl {t e : TypeId} {sz b : Nat} {z : Value} {kl kc : IntKind} {l c : Int} (s : Sim B W0 φ H.get? W) (free : Free φ H (H.push (.rw (repL z.cells.toList c.toNat))))
    (ht : P.underlying t = some (.slice e)) (hz : zeroOf P e = some z) (hs : sizeT P e = some sz) (hb : bytesT P e = some b) (hzs : z.cells.size = sz) (hpos : 0 < sz)
    (h0 : 0 ≤ l) (h1 : l ≤ c) (h2 : (b : Int) * c ≤ 281474976710656) (h3 : c ≤ 9223372036854775807) :
    Prim B W0 φ H W ((do pure (Next.value (← Instr.makeSlice t (.int kl l) (.int kc c))) : Sem Next).run P W) (.slice (some ⟨H.n, 0, none⟩) l.toNat c.toNat) (H.push (.rw (repL z.cells.toList c.toNat))) := by
  obtain ⟨hr, hp⟩ := run_zv (W := W) hz
  obtain ⟨i, hi, hib⟩ := run_by hb
  have hp1 := repL_all (cells_plain hp) c.toNat
  have hn : φ H.n = none := free H.n (Nat.le_refl _) (by simp)
  obtain ⟨s', x'⟩ := s.allocRw (e := e) (ar := (Array.range (c.toNat * z.cells.size)).map (z.cells[· % z.cells.size]!)) hn (all_one_of_plain hp1) (by rw [zeros_eq _ (by omega)]; exact RelL.plain hp1)
  refine ⟨_, .slice (some ⟨W.heap.size, 0, none⟩) l.toNat c.toNat, _, .inl ?_, RelV.sl (c := H.n) (o := 0) Emb.add_same (.inl rfl) (by omega), s', x'⟩
  have wl : IntKind.i64.wrap l = l := by simp [IntKind.wrap, IntKind.bits, IntKind.signed]; omega
  have wc : IntKind.i64.wrap c = c := by simp [IntKind.wrap, IntKind.bits, IntKind.signed]; omega
  have hbig : ¬ ((c < 0 ∨ (i.bytes : Int) * c > 2 ^ 48) ∨ l < 0 ∨ c < l) := by
    rw [hib]; intro h; rcases h with (h | h) | h | h <;> omega
  have hlarge : (decide (c < 0) || decide ((i.bytes : Int) * c > 2 ^ 48) || decide (l < 0) || decide (l > c)) = false := by
    rw [hib]; simp; omega
  simp only [Instr.makeSlice, asInt, asIntOf, Sem.run_bind, run_un ht, Result.andThen_ok, Sem.run_pure, run_ti hi, wl, wc, hlarge, run_sz hs, hr, run_askRoom]
  simp only [Bool.false_eq_true, if_false, Sem.run_pure, Result.andThen_ok, Sem.run_bind, run_askRoom, run_sz hs, Sem.run_ite, hr]
  have hze : (Array.range (c.toNat * sz)).map (z.cells[· % z.cells.size]!) = (Array.range (c.toNat * z.cells.size)).map (z.cells[· % z.cells.size]!) := by rw [hzs]
  by_cases h0' : c.toNat * sz = 0
  · have hempty : Array.range (c.toNat * sz) = #[] := by rw [h0']; rfl
    have : Array.range (c.toNat * z.cells.size) = #[] := by rw [hzs]; exact hempty
    rw [if_pos h0']
    simp [newRow, hempty, this]
  · rw [if_neg h0']
    simp [newRow, hzs]

theorem bound_ok {y n : Nat} {x x' : Value} {code : BoundsCode} (hx : RelV φ x x') (h : asNat? x = some n) (hle : n ≤ y) : (Instr.sliceBound x' y code).run P W = .ok n W := by
  cases x with
  | int k i =>
    have := relV_int hx; subst this
    simp only [asNat?] at h
    split at h
    · rename_i h0
      cases h
      rw [Instr.sliceBound]
      simp [asIntOf, h0, show i ≤ (y : Int) from by omega]
    · cases h
  | _ => simp [asNat?] at h

theorem relO {x : Option Operand} (hx : ∀ y, x = some y → RelV φ (ρ y) (ρ' y)) : ∀ a, x.map ρ = some a → ∃ a', x.map ρ' = some a' ∧ RelV φ a a' := by
  intro a ha
  cases x with
  | none => cases ha
  | some y => cases ha; exact ⟨_, rfl, hx y rfl⟩

/-- the bounds of a slice expression; the capacity may be greater than is known -/
theorem bounds_ok {isS : Bool} {len cap cap' l e m : Nat} {lo hi mx : Option Operand} (hlo : ∀ y, lo = some y → RelV φ (ρ y) (ρ' y)) (hhi : ∀ y, hi = some y → RelV φ (ρ y) (ρ' y)) (hmx : ∀ y, mx = some y → RelV φ (ρ y) (ρ' y))
    (hlen : len ≤ cap) (hcap : cap ≤ cap') (h : bounds len cap (lo.map ρ) (hi.map ρ) (mx.map ρ) = some (l, e, m)) :
    l ≤ e ∧ e ≤ m ∧ m ≤ cap ∧ (mx = none → m = cap) ∧
    (Instr.sliceBounds isS len cap' (lo.map ρ') (hi.map ρ') (mx.map ρ')).run P W = .ok (l, e, if mx.isSome then m else cap') W := by
  unfold bounds at h
  cases hm : mx with
  | none =>
    subst hm
    simp only [Option.map_none] at h
    cases hh : hi with
    | none =>
      subst hh
      simp only [Option.map_none, Option.isSome_none, Bool.false_eq_true, if_false] at h
      cases hl : lo with
      | none =>
        subst hl
        simp only [Option.map_none, Option.some.injEq, Prod.mk.injEq] at h
        obtain ⟨rfl, rfl, rfl⟩ := h
        exact ⟨by omega, by omega, by omega, fun _ => rfl, by simp [Instr.sliceBounds]⟩
      | some y =>
        subst hl
        simp only [Option.map_some] at h
        cases ha : asNat? (ρ y) with
        | none => simp [ha] at h
        | some n =>
          simp only [ha] at h
          by_cases hk : n ≤ len
          · simp only [hk, if_true, Option.some.injEq, Prod.mk.injEq] at h
            obtain ⟨rfl, rfl, rfl⟩ := h
            refine ⟨by omega, by omega, by omega, fun _ => rfl, ?_⟩
            simp [Instr.sliceBounds, bound_ok (P := P) (W := W) (hlo y rfl) ha hk]
          · simp [hk] at h
    | some z =>
      subst hh
      simp only [Option.map_some] at h
      cases hb : asNat? (ρ z) with
      | none => simp [hb] at h
      | some n =>
        simp only [hb] at h
        by_cases hn : n ≤ cap
        · simp only [hn, if_true] at h
          cases hl : lo with
          | none =>
            subst hl
            simp only [Option.map_none, Option.some.injEq, Prod.mk.injEq] at h
            obtain ⟨rfl, rfl, rfl⟩ := h
            refine ⟨by omega, by omega, by omega, fun _ => rfl, ?_⟩
            simp [Instr.sliceBounds, bound_ok (P := P) (W := W) (y := cap') (hhi z rfl) hb (by omega)]
          | some y =>
            subst hl
            simp only [Option.map_some] at h
            cases ha : asNat? (ρ y) with
            | none => simp [ha] at h
            | some k =>
              simp only [ha] at h
              by_cases hk : k ≤ n
              · simp only [hk, if_true, Option.some.injEq, Prod.mk.injEq] at h
                obtain ⟨rfl, rfl, rfl⟩ := h
                refine ⟨by omega, by omega, by omega, fun _ => rfl, ?_⟩
                simp [Instr.sliceBounds, bound_ok (P := P) (W := W) (y := cap') (hhi z rfl) hb (by omega), bound_ok (P := P) (W := W) (hlo y rfl) ha hk]
              · simp [hk] at h
        · simp [hn] at h
  | some x =>
    subst hm
    simp only [Option.map_some] at h
    cases hc : asNat? (ρ x) with
    | none => simp [hc] at h
    | some q =>
      simp only [hc] at h
      by_cases hq : q ≤ cap
      · simp only [hq, if_true] at h
        cases hh : hi with
        | none => subst hh; simp at h
        | some z =>
          subst hh
          simp only [Option.map_some] at h
          cases hb : asNat? (ρ z) with
          | none => simp [hb] at h
          | some n =>
            simp only [hb] at h
            by_cases hn : n ≤ q
            · simp only [hn, if_true] at h
              cases hl : lo with
              | none =>
                subst hl
                simp only [Option.map_none, Option.some.injEq, Prod.mk.injEq] at h
                obtain ⟨rfl, rfl, rfl⟩ := h
                refine ⟨by omega, by omega, by omega, fun h => (by cases h), ?_⟩
                simp [Instr.sliceBounds, bound_ok (P := P) (W := W) (y := cap') (hmx x rfl) hc (by omega), bound_ok (P := P) (W := W) (hhi z rfl) hb hn]
              | some y =>
                subst hl
                simp only [Option.map_some] at h
                cases ha : asNat? (ρ y) with
                | none => simp [ha] at h
                | some k =>
                  simp only [ha] at h
                  by_cases hk : k ≤ n
                  · simp only [hk, if_true, Option.some.injEq, Prod.mk.injEq] at h
                    obtain ⟨rfl, rfl, rfl⟩ := h
                    refine ⟨by omega, by omega, by omega, fun h => (by cases h), ?_⟩
                    simp [Instr.sliceBounds, bound_ok (P := P) (W := W) (y := cap') (hmx x rfl) hc (by omega), bound_ok (P := P) (W := W) (hhi z rfl) hb hn, bound_ok (P := P) (W := W) (hlo y rfl) ha hk]
                  · simp [hk] at h
            · simp [hn] at h
      · simp [hq] at h

theorem prim_slS {t : TypeId} {sv : ByteArray} {x' : Value} {lo hi : Option Operand} {l e m : Nat} (s : Sim B W0 φ H.get? W) (ht : P.underlying t = some .string) (hx : RelV φ (.string sv) x')
    (hlo : ∀ y, lo = some y → RelV φ (ρ y) (ρ' y)) (hhi : ∀ y, hi = some y → RelV φ (ρ y) (ρ' y)) (h : bounds sv.size sv.size (lo.map ρ) (hi.map ρ) none = some (l, e, m)) :
    Prim B W0 φ H W ((do pure (Next.value (← Instr.sliceAt t x' (lo.map ρ') (hi.map ρ') none)) : Sem Next).run P W) (.string (sv.extract l e)) H := by
  have := relV_str hx; subst this
  obtain ⟨_, _, _, _, hb⟩ := bounds_ok (P := P) (W := W) (isS := false) (mx := none) hlo hhi (by simp) (Nat.le_refl _) (Nat.le_refl _) h
  refine Prim.pure s ?_ (.str _)
  simp only [Option.map_none] at hb
  simp [Instr.sliceAt, Instr.slice, run_un ht, hb]

theorem prim_slA {t el : TypeId} {n sz : Nat} {a : Addr} {x' : Value} {lo hi : Option Operand} {l e m : Nat} (s : Sim B W0 φ H.get? W) (ht : P.underlying t = some (.array n el)) (hs : sizeT P el = some sz)
    (hx : RelV φ (.pointer (some a)) x') (hlo : ∀ y, lo = some y → RelV φ (ρ y) (ρ' y)) (hhi : ∀ y, hi = some y → RelV φ (ρ y) (ρ' y)) (h : bounds n n (lo.map ρ) (hi.map ρ) none = some (l, e, m)) :
    Prim B W0 φ H W ((do pure (Next.value (← Instr.sliceAt t x' (lo.map ρ') (hi.map ρ') none)) : Sem Next).run P W) (.slice (some (if m = l then a else addOff a (l * sz))) (e - l) (m - l)) H := by
  obtain ⟨c, o, lc, rfl, hl, rfl⟩ := relV_ptr hx
  obtain ⟨h1, h2, h3, h4, hb⟩ := bounds_ok (P := P) (W := W) (isS := false) (mx := none) hlo hhi (by simp) (Nat.le_refl _) (Nat.le_refl _) h
  have hm := h4 rfl; subst hm
  simp only [Option.map_none, Option.isSome_none, Bool.false_eq_true, if_false] at hb
  by_cases hml : m = l
  · subst hml
    refine Prim.pure (v' := .slice (some ⟨lc.b, lc.base + o, none⟩) (e - m) (m - m)) s ?_ (by rw [if_pos rfl]; exact RelV.sl hl (.inl rfl) (by omega))
    simp [Instr.sliceAt, Instr.sureAddr, run_un ht, hb, run_sz hs]
  · refine Prim.pure (v' := .slice (some ⟨lc.b, lc.base + (o + l * sz), none⟩) (e - l) (m - l)) s ?_ (by rw [if_neg hml]; exact RelV.sl hl (.inl rfl) (by omega))
    simp [Instr.sliceAt, Instr.sureAddr, run_un ht, hb, run_sz hs, hml, Addr.add_at, Nat.add_assoc]

theorem capRel_sub {lc : Loc} {o k k' l sz : Nat} (h : CapRel lc o k k') (hk : l ≤ k) (he : ∀ e, lc.lo = some e → o + k * e.esz = e.sz → k ≠ k' → e.esz = sz) : CapRel lc (o + l * sz) (k - l) (k' - l) := by
  rcases h with h | ⟨e, h1, h2, h3, h4⟩
  · left; omega
  · by_cases hkk : k' = k
    · left; omega
    · right
      have hsz := he e h1 h2 (fun h => hkk h.symm)
      subst hsz
      refine ⟨e, h1, ?_, by omega, ?_⟩
      · rw [← h2, Nat.sub_mul]
        have : l * e.esz ≤ k * e.esz := Nat.mul_le_mul_right _ hk
        omega
      · rw [Nat.sub_mul]
        have : l * e.esz ≤ k' * e.esz := Nat.mul_le_mul_right _ (by omega)
        omega


theorem Sim.tight {c : Nat} {l : Loc} {o k k' : Nat} (s : Sim B W0 φ H.get? W) (hl : φ c = some l) (ho : (∃ cs, H.get? c = some (.ro cs)) ∨ (∃ cs, H.get? c = some (.rw cs))) (hk : CapRel l o k k') : k' = k := by
  have hlo : l.lo = none := by
    rcases ho with ⟨cs, h⟩ | ⟨cs, h⟩
    · exact (s.obj c l _ hl h).2.1
    · exact (s.obj c l _ hl h).2.1
  rcases hk with h | ⟨e, h, _⟩
  · exact h
  · rw [hlo] at h; cases h

theorem prim_slV {t el : TypeId} {sz len cap : Nat} {a : Option Addr} {x' : Value} {lo hi mx : Option Operand} {l e m : Nat} (s : Sim B W0 φ H.get? W) (ht : P.underlying t = some (.slice el)) (hs : sizeT P el = some sz)
    (hx : RelV φ (.slice a len cap) x') (hlo : ∀ y, lo = some y → RelV φ (ρ y) (ρ' y)) (hhi : ∀ y, hi = some y → RelV φ (ρ y) (ρ' y)) (hmx : ∀ y, mx = some y → RelV φ (ρ y) (ρ' y))
    (h : bounds len cap (lo.map ρ) (hi.map ρ) (mx.map ρ) = some (l, e, m))
    (hv : (match (generalizing := false) a with
        | none => some (.slice none (e - l) (m - l), H)
        | some a =>
          if mx.isSome then some (.slice (some (if m = l then a else addOff a (l * sz))) (e - l) (m - l), H) else
          match H.get? a.block with
          | some (.ro _) | some (.rw _) => some (.slice (some (if m = l then a else addOff a (l * sz))) (e - l) (m - l), H)
          | some (.loose k _) => if m = l then some (.slice (some ⟨a.block, a.off, some 0⟩) 0 0, H) else if k = sz then some (.slice (some (addOff a (l * sz))) (e - l) (m - l), H) else none
          | some .dead => if m = l then some (.slice (some ⟨a.block, a.off, some 0⟩) 0 0, H) else none
          | _ => none) = some (v, H')) :
    Prim B W0 φ H W ((do pure (Next.value (← Instr.sliceAt t x' (lo.map ρ') (hi.map ρ') (mx.map ρ'))) : Sem Next).run P W) v H' := by
  have hsl : ∀ (b : Option Addr) (n k : Nat) (ll ee mm : Nat), (Instr.sliceBounds true n k (lo.map ρ') (hi.map ρ') (mx.map ρ')).run P W = .ok (ll, ee, mm) W →
      (do pure (Next.value (← Instr.sliceAt t (.slice b n k) (lo.map ρ') (hi.map ρ') (mx.map ρ'))) : Sem Next).run P W = .ok (.value (.slice (if mm = ll then b else b.map (·.add (ll * sz))) (ee - ll) (mm - ll))) W := by
    intro b n k ll ee mm hb
    simp [Instr.sliceAt, Instr.slice, run_un ht, hb, run_sz hs]
  cases a with
  | none =>
    obtain ⟨rfl, rfl, rfl⟩ := relV_nils hx
    obtain ⟨h1, h2, h3, h4, hb⟩ := bounds_ok (P := P) (W := W) (isS := true) hlo hhi hmx (Nat.le_refl _) (Nat.le_refl _) h
    obtain rfl : m = 0 := by omega
    obtain rfl : e = 0 := by omega
    obtain rfl : l = 0 := by omega
    simp only [Option.some.injEq, Prod.mk.injEq] at hv
    obtain ⟨rfl, rfl⟩ := hv
    refine Prim.pure (v' := .slice none 0 0) s ?_ .nils
    rw [hsl _ _ _ _ _ _ hb]
    simp
  | some a =>
    simp only at hv
    rcases relV_sl hx with ⟨c, o, lc, k', rfl, hl, hk, hn, rfl⟩ | ⟨c, o, a', k', rfl, rfl, rfl, rfl⟩
    · have hle : cap ≤ k' := by
        rcases hk with h | ⟨_, _, _, h, _⟩
        · omega
        · exact h
      obtain ⟨h1, h2, h3, h4, hb⟩ := bounds_ok (P := P) (W := W) (isS := true) hlo hhi hmx hn hle h
      by_cases hsome : mx.isSome = true
      · rw [if_pos hsome] at hv hb
        simp only [Option.some.injEq, Prod.mk.injEq] at hv
        obtain ⟨rfl, rfl⟩ := hv
        by_cases hml : m = l
        · refine Prim.pure (v' := .slice (some ⟨lc.b, lc.base + o, none⟩) (e - l) (m - l)) s ?_ (by rw [if_pos hml]; exact RelV.sl hl (.inl rfl) (by omega))
          rw [hsl _ _ _ _ _ _ hb, if_pos hml]
        · refine Prim.pure (v' := .slice (some ⟨lc.b, lc.base + (o + l * sz), none⟩) (e - l) (m - l)) s ?_ (by rw [if_neg hml]; exact RelV.sl hl (.inl rfl) (by omega))
          rw [hsl _ _ _ _ _ _ hb, if_neg hml]
          simp [Addr.add_at, Nat.add_assoc]
      · rw [if_neg hsome] at hv hb
        have hm := h4 (by cases mx <;> simp_all)
        subst hm
        have exact_ : k' = m → v = .slice (some (if m = l then ⟨c, o, none⟩ else addOff ⟨c, o, none⟩ (l * sz))) (e - l) (m - l) → H' = H →
            Prim B W0 φ H W ((do pure (Next.value (← Instr.sliceAt t (.slice (some ⟨lc.b, lc.base + o, none⟩) len k') (lo.map ρ') (hi.map ρ') (mx.map ρ'))) : Sem Next).run P W) v H' := by
          rintro rfl rfl rfl
          by_cases hml : k' = l
          · refine Prim.pure (v' := .slice (some ⟨lc.b, lc.base + o, none⟩) (e - l) (k' - l)) s ?_ (by rw [if_pos hml]; exact RelV.sl hl (.inl rfl) (by omega))
            rw [hsl _ _ _ _ _ _ hb, if_pos hml]
          · refine Prim.pure (v' := .slice (some ⟨lc.b, lc.base + (o + l * sz), none⟩) (e - l) (k' - l)) s ?_ (by rw [if_neg hml]; exact RelV.sl hl (.inl rfl) (by omega))
            rw [hsl _ _ _ _ _ _ hb, if_neg hml]
            simp [Addr.add_at, Nat.add_assoc]
        have empty_ : m = l → v = .slice (some ⟨c, o, some 0⟩) 0 0 → H' = H →
            Prim B W0 φ H W ((do pure (Next.value (← Instr.sliceAt t (.slice (some ⟨lc.b, lc.base + o, none⟩) len k') (lo.map ρ') (hi.map ρ') (mx.map ρ'))) : Sem Next).run P W) v H' := by
          rintro rfl rfl rfl
          obtain rfl : e = m := by omega
          by_cases hml : k' = e
          · refine Prim.pure (v' := .slice (some ⟨lc.b, lc.base + o, none⟩) 0 (k' - e)) s ?_ .slz
            rw [hsl _ _ _ _ _ _ hb, if_pos hml]; simp
          · refine Prim.pure (v' := .slice (some ⟨lc.b, lc.base + o + e * sz, none⟩) 0 (k' - e)) s ?_ .slz
            rw [hsl _ _ _ _ _ _ hb, if_neg hml]
            simp [Addr.add_at]
        split at hv
        · rename_i cs hg
          simp only [Option.some.injEq, Prod.mk.injEq] at hv
          exact exact_ (s.tight hl (.inl ⟨cs, hg⟩) hk) hv.1.symm hv.2.symm
        · rename_i cs hg
          simp only [Option.some.injEq, Prod.mk.injEq] at hv
          exact exact_ (s.tight hl (.inr ⟨cs, hg⟩) hk) hv.1.symm hv.2.symm
        · rename_i k cs hg
          by_cases hml : m = l
          · rw [if_pos hml] at hv
            simp only [Option.some.injEq, Prod.mk.injEq] at hv
            exact empty_ hml hv.1.symm hv.2.symm
          · rw [if_neg hml] at hv
            split at hv
            · rename_i hksz
              simp only [Option.some.injEq, Prod.mk.injEq] at hv
              obtain ⟨rfl, rfl⟩ := hv
              obtain ⟨g1, lo', g2, g3, g4, _⟩ := s.obj c lc _ hl hg
              refine Prim.pure (v' := .slice (some ⟨lc.b, lc.base + (o + l * sz), none⟩) (e - l) (k' - l)) s ?_ (RelV.sl hl (capRel_sub hk (by omega) (fun e' he' _ _ => by rw [g2] at he'; cases he'; omega)) (by omega))
              rw [hsl _ _ _ _ _ _ hb, if_neg (by omega)]
              simp [Addr.add_at, Nat.add_assoc]
            · cases hv
        · by_cases hml : m = l
          · rw [if_pos hml] at hv
            simp only [Option.some.injEq, Prod.mk.injEq] at hv
            exact empty_ hml hv.1.symm hv.2.symm
          · rw [if_neg hml] at hv; cases hv
        · cases hv
    · obtain ⟨h1, h2, h3, h4, hb⟩ := bounds_ok (P := P) (W := W) (isS := true) hlo hhi hmx (Nat.le_refl _) (Nat.zero_le k') h
      obtain rfl : m = 0 := by omega
      obtain rfl : e = 0 := by omega
      obtain rfl : l = 0 := by omega
      have hv' : v = .slice (some ⟨c, o, some 0⟩) 0 0 ∧ H' = H := by
        simp only [if_true, Nat.sub_self] at hv
        split at hv
        · cases hv; exact ⟨rfl, rfl⟩
        · split at hv <;> first | (cases hv; exact ⟨rfl, rfl⟩) | cases hv
      obtain ⟨rfl, rfl⟩ := hv'
      by_cases hz : (if mx.isSome then 0 else k') = 0
      · refine Prim.pure (v' := .slice (some a') 0 0) s ?_ .slz
        rw [hsl _ _ _ _ _ _ hb, if_pos hz, hz]
      · refine Prim.pure (v' := .slice (some (a'.add (0 * sz))) 0 (if mx.isSome then 0 else k')) s ?_ .slz
        rw [hsl _ _ _ _ _ _ hb, if_neg hz]
        simp

end
end Go.Cm

/- The canonical machine's primitive operations, fourth part: conversions, lengths, appends, copies. Conditions: none. -/
namespace Go.Cm
open Go.RowKit
set_option linter.unusedVariables false
set_option linter.unusedSimpArgs false

section
variable {B : Nat} {W0 : World} {φ : Emb} {H H' : Heap} {W : World} {r : Result Next} {v v' : Value} {P : Program} {G : Nat} {ρ ρ' : Operand → Value}

theorem prim_conv {src dst : TypeId} {k kk ks : IntKind} {n : Int} {x' : Value} (s : Sim B W0 φ H.get? W) (h1 : P.underlying src = some (.int ks)) (h2 : P.underlying dst = some (.int k)) (hx : RelV φ (.int kk n) x') :
    Prim B W0 φ H W ((do pure (Next.value (← convert src dst x')) : Sem Next).run P W) (.int k (k.wrap n)) H := by
  have := relV_int hx; subst this
  exact Prim.pure s (by simp [convert, run_un h1, run_un h2, Conv.intToInt]) (.int _ _)

theorem sliceCells_ok {esz n len cap : Nat} {a : Option Addr} {x' : Value} {vs : List Value} (s : Sim B W0 φ H.get? W) (hx : RelV φ (.slice a len cap) x') (hn : n ≤ len) (h : sliceCells H esz n (.slice a len cap) = some vs) :
    vs.length = n * esz ∧ vs.all one = true ∧ ∃ a' k' vs', x' = .slice a' len k' ∧ RelL φ vs vs' ∧ (Builtin.firstCells esz n x').run P W = .ok vs'.toArray W := by
  simp only [sliceCells] at h
  split at h
  · rename_i h0
    subst h0
    cases h
    refine ⟨by simp, rfl, ?_⟩
    cases a with
    | none => obtain ⟨rfl, rfl, rfl⟩ := relV_nils hx; exact ⟨none, 0, [], rfl, .nil, by simp [Builtin.firstCells]⟩
    | some a =>
      rcases relV_sl hx with ⟨c, o, lc, k', rfl, hl, hk, hn', rfl⟩ | ⟨c, o, a', k', rfl, rfl, rfl, rfl⟩
      · exact ⟨_, _, [], rfl, .nil, by simp [Builtin.firstCells, loadCells, loadCellsFrom]⟩
      · exact ⟨_, _, [], rfl, .nil, by simp [Builtin.firstCells, loadCells, loadCellsFrom]⟩
  · cases a with
    | none => cases h
    | some a =>
      simp only [hn, if_true] at h
      rcases relV_sl hx with ⟨c, o, lc, k', rfl, hl, hk, hn', rfl⟩ | ⟨c, o, a', k', rfl, rfl, rfl, rfl⟩
      · obtain ⟨g1, g2, vs', g3, g4⟩ := s.rdN hl h
        exact ⟨g1, g2, _, _, vs', rfl, g3, by simp only [Builtin.firstCells]; exact run_loadCells_at (g3.1.symm.trans g1) g4⟩
      · omega

theorem toBytes_rel {φ : Emb} : ∀ {cs cs' : List Value} {l : List UInt8}, RelL φ cs cs' → toBytes cs = some l → ∃ ns : List Int, cs' = ns.map (Value.int .u8) ∧ l = ns.map fun n => UInt8.ofNat n.toNat
  | [], cs', l, hr, h => by
    cases h
    have := hr.1
    simp at this
    exact ⟨[], by simp [List.length_eq_zero_iff.1 this.symm], rfl⟩
  | .int .u8 n :: cs, cs', l, hr, h => by
    simp only [toBytes] at h
    split at h
    · rename_i l' hl
      cases h
      cases cs' with
      | nil => have := hr.1; simp at this
      | cons c cs' =>
        have h0 : RelV φ (.int .u8 n) c := hr.2 0 _ _ rfl rfl
        have := relV_int h0; subst this
        obtain ⟨ns, e1, e2⟩ := toBytes_rel (by simpa using hr.drop 1) hl
        exact ⟨n :: ns, by simp [e1], by simp [e2]⟩
    · cases h
theorem push_foldl (f : Int → UInt8) : ∀ (ns : List Int) (s : ByteArray), (ns.foldl (fun r n => r.push (f n)) s) = ⟨(s.data.toList ++ ns.map f).toArray⟩
  | [], s => by simp
  | n :: ns, s => by
    simp only [List.foldl_cons]
    rw [push_foldl f ns]
    simp [ByteArray.push]

theorem prim_convBS {src dst e : TypeId} {len cap : Nat} {a : Option Addr} {x' : Value} {cs : List Value} {l : List UInt8} (s : Sim B W0 φ H.get? W) (h1 : P.underlying src = some (.slice e)) (h2 : P.underlying dst = some .string)
    (h3 : P.underlying e = some (.int .u8)) (hx : RelV φ (.slice a len cap) x') (hc : (match (generalizing := false) a with | none => cs = [] | some _ => sliceCells H 1 len (.slice a len cap) = some cs)) (hb : toBytes cs = some l) :
    Prim B W0 φ H W ((do pure (Next.value (← convert src dst x')) : Sem Next).run P W) (.string ⟨l.toArray⟩) H := by
  cases a with
  | none =>
    obtain ⟨rfl, rfl, rfl⟩ := relV_nils hx
    simp only at hc
    subst hc
    cases hb
    refine Prim.pure s ?_ (.str _)
    simp [run_convert_bytes_string W src dst e _ _ _ h1 h3 h2, Conv.bytesToString]
    rfl
  | some a =>
    simp only at hc
    obtain ⟨g1, g2, a', k', vs', rfl, g3, g4⟩ := sliceCells_ok (P := P) s hx (Nat.le_refl _) hc
    obtain ⟨ns, e1, e2⟩ := toBytes_rel g3 hb
    subst e1 e2
    cases a' with
    | none => cases hx
    | some a' =>
      simp only [Builtin.firstCells, Nat.mul_one] at g4
      refine Prim.pure s ?_ (.str _)
      simp only [Sem.run_bind, run_convert_bytes_string W src dst e _ _ _ h1 h3 h2, run_bytesToString W a' len k' ns g4, Result.andThen_ok, Sem.run_pure]
      rw [push_foldl]
      simp

theorem bytesWorld_eq (W : World) (e : TypeId) (sv : ByteArray) : Lib.bytesWorld W e sv = W.drew.alloc (.cells (Lib.bytesCells W e sv) e ((Lib.bytesCells W e sv).size, (Lib.bytesCells W e sv).size + 1)) := by
  have hh : (Lib.bytesWorld W e sv).heap = (W.drew.alloc (.cells (Lib.bytesCells W e sv) e ((Lib.bytesCells W e sv).size, (Lib.bytesCells W e sv).size + 1))).heap := by
    apply Array.ext_getElem?
    intro i
    rcases Nat.lt_trichotomy i W.heap.size with h | h | h
    · rw [Lib.bytesWorld_at_old _ _ _ _ h]
      show _ = (W.heap.push _)[i]?
      rw [Array.getElem?_push, if_neg (by omega)]
    · subst h
      rw [Lib.bytesWorld_at_new]
      show _ = (W.heap.push _)[W.heap.size]?
      simp
    · rw [Array.getElem?_eq_none (by rw [Lib.bytesWorld_size]; omega)]
      show _ = (W.heap.push _)[i]?
      rw [Array.getElem?_eq_none (by simp; omega)]
  have : ∀ (a b : World), a.heap = b.heap → a.tape = b.tape → a.drawn = b.drawn → a.os = b.os → a.output = b.output → a = b := by
    intro a b h1 h2 h3 h4 h5
    cases a; cases b; simp_all
  refine this _ _ hh ?_ ?_ ?_ ?_ <;> simp [Lib.bytesWorld, World.freeze, World.alloc, World.drew, -World.alloc_eq, -World.drew_eq]

theorem ofBytes_mem {sv : ByteArray} {v : Value} (h : v ∈ ofBytes sv) : ∃ n, v = .int .u8 n := by
  simp only [ofBytes, List.mem_map] at h
  obtain ⟨b, _, rfl⟩ := h
  exact ⟨_, rfl⟩
theorem ofBytes_one (sv : ByteArray) : (ofBytes sv).all one = true := by
  rw [List.all_eq_true]
  intro v hv
  obtain ⟨n, rfl⟩ := ofBytes_mem hv
  rfl
theorem ofBytes_rel {φ : Emb} (sv : ByteArray) : RelL φ (ofBytes sv) (ofBytes sv) := RelL.plain (by
  rw [List.all_eq_true]
  intro v hv
  obtain ⟨n, rfl⟩ := ofBytes_mem hv
  rfl)
theorem ofBytes_length (sv : ByteArray) : (ofBytes sv).length = sv.size := by
  simp only [ofBytes, List.length_map, Array.length_toList]; rfl
theorem alloc_at (W : World) (ob : Obj) : (W.alloc ob).heap[W.heap.size]? = some ob := by
  show (W.heap.push ob)[W.heap.size]? = _
  simp
theorem alloc_cell (W : World) (c : Array Value) (e : TypeId) (fz : Nat × Nat) (i : Nat) : (W.alloc (.cells c e fz)).cell? ⟨W.heap.size, i, none⟩ = c[i]? := by
  simp only [World.cell?, alloc_at]; rfl
theorem alloc_frozen (W : World) (c : Array Value) (e : TypeId) (lo hi : Nat) (i : Nat) : (W.alloc (.cells c e (lo, hi))).frozen? ⟨W.heap.size, i, none⟩ = (decide (lo ≤ i) && decide (i < hi)) := by
  simp only [World.frozen?, alloc_at]

theorem prim_convSB {src dst e : TypeId} {sv : ByteArray} {x' : Value} (s : Sim B W0 φ H.get? W) (free : Free φ H (H.push (.loose 1 (ofBytes sv)))) (h1 : P.underlying src = some .string) (h2 : P.underlying dst = some (.slice e))
    (h3 : P.underlying e = some (.int .u8)) (hx : RelV φ (.string sv) x') :
    Prim B W0 φ H W ((do pure (Next.value (← convert src dst x')) : Sem Next).run P W) (.slice (some ⟨H.n, 0, none⟩) sv.size sv.size) (H.push (.loose 1 (ofBytes sv))) := by
  have := relV_str hx; subst this
  have hn : φ H.n = none := free H.n (Nat.le_refl _) (by simp)
  have hsize : (Lib.bytesCells W e sv).size = sv.size + (grownCap W sv.size 0 e - sv.size) := by simp only [Lib.bytesCells, Array.size_append, Array.size_map, Array.size_replicate]; rfl
  have hg : sv.size ≤ grownCap W sv.size 0 e := by
    unfold grownCap
    simp only [Question.cut]
    omega
  obtain ⟨s', x'⟩ := s.drew.allocLoose (cs := ofBytes sv) (ar := Lib.bytesCells W e sv) (e := e) (esz := 1) (ob := .cells (Lib.bytesCells W e sv) e ((Lib.bytesCells W e sv).size, (Lib.bytesCells W e sv).size + 1)) hn (ofBytes_one sv)
    ⟨ofBytes sv, ofBytes_rel sv, fun i u hu => by
      have hi : i < (ofBytes sv).length := by
        rcases Nat.lt_or_ge i (ofBytes sv).length with g | g
        · exact g
        · rw [List.getElem?_eq_none g] at hu; cases hu
      rw [Lib.bytesCells, Array.getElem?_append_left (by simpa [ofBytes] using hi)]
      simpa [ofBytes] using hu⟩ (by omega) (by rw [ofBytes_length, hsize]; omega)
    (fun i => alloc_cell W.drew _ _ _ i)
    (fun i hi => (alloc_frozen W.drew _ _ _ _ i).trans (by simp; intro; omega))
  refine ⟨_, .slice (some ⟨W.heap.size, 0, none⟩) sv.size (grownCap W sv.size 0 e), _, .inl ?_, RelV.sl (c := H.n) (o := 0) Emb.add_same (.inr ⟨_, rfl, ?_, hg, ?_⟩) (Nat.le_refl _), s', Ext.drew.trans x' free⟩
  · simp only [Sem.run_bind, Lib.run_convert_string_bytes W src dst e sv h1 h2 h3, Result.andThen_ok, Sem.run_pure, bytesWorld_eq]
  · simp [ofBytes_length]
  · simp only [hsize]; omega

theorem prim_ixS {t : TypeId} {sv : ByteArray} {b : UInt8} {k : IntKind} {n : Int} {x' : Value} (s : Sim B W0 φ H.get? W) (ht : P.underlying t = some .string) (hx : RelV φ (.string sv) x') (h0 : 0 ≤ n) (hb : sv[n.toNat]? = some b) :
    Prim B W0 φ H W ((do pure (Next.value (← Instr.index t x' (.int k n))) : Sem Next).run P W) (.int .u8 b.toNat) H := by
  have := relV_str hx; subst this
  exact Prim.pure s (by simp [Instr.index, asIntOf, run_un ht, h0, hb]) (.int _ _)

theorem prim_ixG {t e : TypeId} {len sz : Nat} {ag : Bool} {cs : Array Value} {k : IntKind} {n : Int} {x' : Value} (s : Sim B W0 φ H.get? W) (ht : P.underlying t = some (.array len e)) (hs : sizeT P e = some sz) (ha : aggT P e = some ag)
    (hx : RelV φ (.agg cs) x') (h0 : 0 ≤ n) (h1 : n < len) (hv : (if ag then some (Value.agg (cs.extract (n.toNat * sz) (n.toNat * sz + sz))) else cs[n.toNat * sz]?) = some v) :
    Prim B W0 φ H W ((do pure (Next.value (← Instr.index t x' (.int k n))) : Sem Next).run P W) v H := by
  obtain ⟨cs', rfl, ho, hr⟩ := relV_agg_left hx
  have hi : (0 ≤ n ∧ n < (len : Int)) := ⟨h0, h1⟩
  cases ag with
  | true =>
    simp only [if_true, Option.some.injEq] at hv
    subst hv
    refine Prim.pure (v' := .agg (cs'.extract (n.toNat * sz) (n.toNat * sz + sz))) s ?_ (relV_agg.2 ⟨?_, ?_⟩)
    · simp [Instr.index, asIntOf, run_un ht, hi, run_sz hs, part, run_ag ha]
    · rw [List.all_eq_true] at *
      intro v hv
      simp only [Array.toList_extract, List.extract_eq_take_drop] at hv
      exact ho v (List.mem_of_mem_drop (List.mem_of_mem_take hv))
    · simp only [Array.toList_extract, List.extract_eq_take_drop]
      exact (hr.drop _).take _
  | false =>
    simp only [Bool.false_eq_true, if_false] at hv
    obtain ⟨v', p, q⟩ := hr.get (i := n.toNat * sz) (v := v) (by simpa using hv)
    have p' : cs'[n.toNat * sz]? = some v' := by simpa using p
    exact Prim.pure s (by simp [Instr.index, asIntOf, run_un ht, hi, run_sz hs, part, run_ag ha, p']) q

theorem prim_ext {vs : Array Value} {i : Nat} {x' : Value} (s : Sim B W0 φ H.get? W) (hx : RelV φ (.tuple vs) x') (hv : vs[i]? = some v) :
    Prim B W0 φ H W ((do pure (Next.value (← Instr.extract x' i)) : Sem Next).run P W) v H := by
  obtain ⟨b, rfl, hr⟩ := relV_tuple hx
  obtain ⟨v', p, q⟩ := hr.get (i := i) (v := v) (by simpa using hv)
  have p' : b[i]? = some v' := by simpa using p
  exact Prim.pure s (by simp [Instr.extract, p']) q

theorem prim_tyA {t xt : TypeId} {z x x' : Value} {ok : Bool} (s : Sim B W0 φ H.get? W) {d : TypeDesc} (ht : P.underlying t = some d) (hd : ∀ ms, d ≠ .interface ms) (hz : zeroOf P t = some z) (hx : RelV φ x x')
    (hv : (match (generalizing := false) x with
      | .nilIface => if ok then some (Value.tuple #[z, .bool false], H) else none
      | .iface u v => if u = t then some (if ok then .tuple #[v, .bool true] else v, H) else if ok then some (.tuple #[z, .bool false], H) else none
      | _ => none) = some (v, H')) :
    Prim B W0 φ H W ((do pure (Next.value (← Instr.typeAssert x' xt t ok)) : Sem Next).run P W) v H' := by
  obtain ⟨hr, hp⟩ := run_zv (W := W) hz
  have rel2 : ∀ {a a' : Value} (c : Bool), RelV φ a a' → RelV φ (.tuple #[a, .bool c]) (.tuple #[a', .bool c]) := fun c h => relV_tuple_mk (RelL.cons h (RelL.cons (.bool c) .nil))
  cases x with
  | nilIface =>
    have := relV_nili hx; subst this
    cases ok with
    | false => simp at hv
    | true =>
      simp only [if_true, Option.some.injEq, Prod.mk.injEq] at hv
      obtain ⟨rfl, rfl⟩ := hv
      refine Prim.pure s ?_ (rel2 false (.plain hp))
      cases d <;> simp [Instr.typeAssert, run_un ht, hr]
      all_goals exact absurd rfl (hd _)
  | iface u w =>
    obtain ⟨w', rfl, hw⟩ := relV_iface hx
    simp only at hv
    by_cases hu : u = t
    · rw [if_pos hu] at hv
      simp only [Option.some.injEq, Prod.mk.injEq] at hv
      obtain ⟨rfl, rfl⟩ := hv
      refine Prim.pure (v' := if ok then .tuple #[w', .bool true] else w') s ?_ (by cases ok; exact hw; exact rel2 true hw)
      cases d <;> simp [Instr.typeAssert, run_un ht, hu]
      all_goals exact absurd rfl (hd _)
    · rw [if_neg hu] at hv
      cases ok with
      | false => simp at hv
      | true =>
        simp only [if_true, Option.some.injEq, Prod.mk.injEq] at hv
        obtain ⟨rfl, rfl⟩ := hv
        refine Prim.pure s ?_ (rel2 false (.plain hp))
        cases d <;> simp [Instr.typeAssert, run_un ht, hr, hu]
        all_goals exact absurd rfl (hd _)
  | _ => simp at hv

end
end Go.Cm

/- The canonical machine's primitive operations, fifth part: append and copy. Conditions: none. -/
namespace Go.Cm
open Go.RowKit
set_option linter.unusedVariables false
set_option linter.unusedSimpArgs false

section
variable {B : Nat} {W0 : World} {φ : Emb} {H H' : Heap} {W : World} {v v' : Value} {P : Program} {G : Nat} {ρ ρ' : Operand → Value}

/-- the first elements of a slice that came, in any memory with the same cells -/
theorem sliceCells_all {esz n len cap : Nat} {a : Option Addr} {x' : Value} {vs : List Value} (s : Sim B W0 φ H.get? W) (hx : RelV φ (.slice a len cap) x') (hn : n ≤ len) (h : sliceCells H esz n (.slice a len cap) = some vs) :
    vs.length = n * esz ∧ vs.all one = true ∧ ∃ a' k' vs', x' = .slice a' len k' ∧ RelL φ vs vs' ∧ ∀ w : World, (∀ a, w.cell? a = W.cell? a) → (Builtin.firstCells esz n x').run P w = .ok vs'.toArray w := by
  simp only [sliceCells] at h
  split at h
  · rename_i h0
    subst h0
    cases h
    refine ⟨by simp, rfl, ?_⟩
    cases a with
    | none => obtain ⟨rfl, rfl, rfl⟩ := relV_nils hx; exact ⟨none, 0, [], rfl, .nil, fun w _ => by simp [Builtin.firstCells]⟩
    | some a =>
      rcases relV_sl hx with ⟨c, o, lc, k', rfl, hl, hk, hn', rfl⟩ | ⟨c, o, a', k', rfl, rfl, rfl, rfl⟩
      · exact ⟨_, _, [], rfl, .nil, fun w _ => by simp [Builtin.firstCells, loadCells, loadCellsFrom]⟩
      · exact ⟨_, _, [], rfl, .nil, fun w _ => by simp [Builtin.firstCells, loadCells, loadCellsFrom]⟩
  · cases a with
    | none => cases h
    | some a =>
      simp only [hn, if_true] at h
      rcases relV_sl hx with ⟨c, o, lc, k', rfl, hl, hk, hn', rfl⟩ | ⟨c, o, a', k', rfl, rfl, rfl, rfl⟩
      · obtain ⟨g1, g2, vs', g3, g4⟩ := s.rdN hl h
        exact ⟨g1, g2, _, _, vs', rfl, g3, fun w hw => by simp only [Builtin.firstCells]; exact run_loadCells_at (g3.1.symm.trans g1) (fun j u hu => by rw [hw]; exact g4 j u hu)⟩
      · omega

theorem append_room {t u ty e : TypeId} {esz n sLen sCap : Nat} {base : Option Addr} {y' : Value} {vs' : List Value} (ht : P.underlying t = some (.slice e)) {du : TypeDesc} (hu : P.underlying u = some du) (hdu : ∀ k, du ≠ .int k)
    (hs : sizeT P e = some esz) (hlen : (Builtin.lenOf y').run P W = .ok n W) (hnew : (Builtin.firstCells esz n y').run P W = .ok vs'.toArray W) (hroom : sLen + n ≤ sCap) :
    (Builtin.append_ #[t, u] ty #[.slice base sLen sCap, y']).run P W = match base with
      | none => .ok (.slice none (sLen + n) sCap) W
      | some a => ((storeCells (a.add (sLen * esz)) vs').run P W).andThen fun _ w => .ok (.slice (some a) (sLen + n) sCap) w := by
  have hz : (match du with | .int _ => true | _ => false) = false := by
    cases du <;> first | rfl | exact absurd rfl (hdu _)
  simp only [Builtin.append_]
  simp [run_un ht, run_sz hs, run_un hu, hz, hlen, hroom, hnew]
  cases base <;> simp

theorem append_more {t u ty e : TypeId} {esz bytes n sLen sCap : Nat} {base : Option Addr} {y' z : Value} {old' vs' : List Value} (ht : P.underlying t = some (.slice e)) {du : TypeDesc} (hu : P.underlying u = some du) (hdu : ∀ k, du ≠ .int k)
    (hs : sizeT P e = some esz) (hb : bytesT P e = some bytes) (hz : zeroOf P e = some z) (hlen : (Builtin.lenOf y').run P W = .ok n W)
    (hnew : ∀ w : World, (∀ a, w.cell? a = W.cell? a) → (Builtin.firstCells esz n y').run P w = .ok vs'.toArray w)
    (hold : ∀ w : World, (∀ a, w.cell? a = W.cell? a) → (Builtin.firstCells esz sLen (.slice base sLen sCap)).run P w = .ok old'.toArray w)
    (hroom : ¬ sLen + n ≤ sCap) (hbytes : (sLen + n) * bytes ≤ 140737488355328) (hb0 : 0 < bytes) :
    ∃ c, sLen + n ≤ c ∧ (Builtin.append_ #[t, u] ty #[.slice base sLen sCap, y']).run P W =
      .ok (.slice (some ⟨W.heap.size, 0, none⟩) (sLen + n) c) (W.drew.alloc (.cells (old'.toArray ++ (vs'.toArray ++ Builtin.zeroCells z.cells (c - (sLen + n)))) e)) := by
  have hdz : (match du with | .int _ => true | _ => false) = false := by
    cases du <;> first | rfl | exact absurd rfl (hdu _)
  obtain ⟨i, hi, hib⟩ := run_by hb
  have hfit := growslice_fits (need := sLen + n) (old := sCap) (bytes := bytes) (by omega) hbytes
  have hle : sLen + n ≤ 140737488355328 := Nat.le_trans (Nat.le_mul_of_pos_right _ hb0) hbytes
  have hnm : ¬ (((sLen + n : Nat) : Int) > 9223372036854775807 ∧ i.bytes = 0) := by rw [hib]; omega
  refine ⟨(Question.appendCap (sLen + n) sCap e).cut (W.tape W.drawn (Question.appendCap (sLen + n) sCap e)), by simp [Question.cut], ?_⟩
  have hn' := hnew W.drew (fun a => rfl)
  have ho' := hold W.drew (fun a => rfl)
  have hmaxf : ¬ (9223372036854775807 < ((sLen : Nat) : Int) + (n : Int) ∧ i.bytes = 0) := by
    intro h
    exact hnm ⟨by have := h.1; omega, h.2⟩
  have hbig : ¬ (281474976710656 < Builtin.nextslicecap (sLen + n) sCap * i.bytes) := by rw [hib]; omega
  have hfo : (Question.appendCap (sLen + n) sCap e).forced = false := rfl
  simp only [Builtin.append_]
  simp only [List.getElem?_toArray, Sem.run_bind, run_un ht, Result.andThen_ok]
  simp [run_un ht, run_sz hs, run_un hu, hdz, hlen, hroom, run_ti hi, (run_zv (P := P) hz).1, hn', ho', newRow, hmaxf, hbig, hfo]

theorem zeroCells_size (z : Array Value) (n : Nat) : (Builtin.zeroCells z n).size = n * z.size := by simp [Builtin.zeroCells]

theorem Sim.kill {c : Nat} {l : Loc} {ob : CObj} (s : Sim B W0 φ H.get? W) (hl : φ c = some l) (hg : H.get? c = some ob) :
    Sim B W0 φ (H.set c .dead).get? W ∧ Ext φ φ H (H.set c .dead) W W := by
  have hc := Heap.get?_lt hg
  have back : ∀ d od, (H.set c .dead).get? d = some od → od.excl = true → H.get? d = some od := by
    intro d od hd he
    by_cases hdc : d = c
    · subst hdc; rw [Heap.get?_set_same hg] at hd; cases hd; cases he
    · rwa [Heap.get?_set_other hc hdc] at hd
  refine ⟨⟨s.below, s.inB, s.lt, ?_, ?_⟩, ⟨fun _ _ h => h, fun _ _ h h' => (by rw [h] at h'; cases h'), fun _ _ h h' => (by rw [h] at h'; cases h'), fun _ _ _ => rfl, ?_, ?_, Nat.le_refl _, Nat.le_refl _⟩⟩
  · intro d k o h h'
    by_cases hdc : d = c
    · subst hdc; rw [Heap.get?_set_same hg] at h'; cases h'; trivial
    · rw [Heap.get?_set_other hc hdc] at h'; exact s.obj d k o h h'
  · intro c1 c2 l1 l2 o1 o2 g1 g2 h1 h2 e1 e2 e
    exact s.inj c1 c2 l1 l2 o1 o2 g1 g2 (back _ _ h1 e1) (back _ _ h2 e2) e1 e2 e
  · intro d _ hd
    exact Heap.get?_set_other hc fun e => by subst e; rw [hl] at hd; cases hd
  · intro d o _ hd he
    exact ⟨o, back d o hd he, he⟩

/-- an append that grows into the room behind its block: the block goes on under a new number -/
theorem Sim.regrow {c o esz m n k' : Nat} {l : Loc} {cs old vs vs' : List Value} {lo : Lo} (s : Sim B W0 φ H.get? W) (hn : φ H.n = none) (hl : φ c = some l) (hg : H.get? c = some (.loose esz cs)) (hlo : l.lo = some lo)
    (hold : H.rdN ⟨c, o, none⟩ (m * esz) = some old) (hvl : vs.length = n * esz) (ho : vs.all one = true) (hr : RelL φ vs vs') (hk : m + n ≤ k') (htot : l.base + o + k' * esz ≤ lo.tot) :
    (∀ j, j < vs'.length → (W.cell? ⟨l.b, l.base + o + m * esz + j, none⟩).isSome = true) ∧ (∀ j, j < vs'.length → W.frozen? ⟨l.b, l.base + o + m * esz + j, none⟩ = false) ∧
    Sim B W0 (φ.add H.n ⟨l.b, l.base + o, some ⟨(m + n) * esz, esz, lo.tot⟩⟩) ((H.set c .dead).push (.loose esz (old ++ vs))).get? (storeAll W l.b (l.base + o + m * esz) vs') ∧
    Ext φ (φ.add H.n ⟨l.b, l.base + o, some ⟨(m + n) * esz, esz, lo.tot⟩⟩) H ((H.set c .dead).push (.loose esz (old ++ vs))) W (storeAll W l.b (l.base + o + m * esz) vs') := by
  have hc := Heap.get?_lt hg
  obtain ⟨hB, lo', hlo', h3, h4, h5, h6, h7, h8, h9⟩ := s.obj c l _ hl hg
  rw [hlo] at hlo'; cases hlo'
  have hvl' : vs'.length = n * esz := hr.1.symm.trans hvl
  have hmn : m * esz + n * esz ≤ k' * esz := by rw [← Nat.add_mul]; exact Nat.mul_le_mul_right _ hk
  obtain ⟨hol, hoo, old', hro, hoc⟩ := s.rdN hl hold
  have hol' : old'.length = m * esz := hro.1.symm.trans hol
  have hsome : ∀ j, j < vs'.length → (W.cell? ⟨l.b, l.base + o + m * esz + j, none⟩).isSome = true := fun j hj => h9 _ (by omega) (by omega)
  have hfz : ∀ j, j < vs'.length → W.frozen? ⟨l.b, l.base + o + m * esz + j, none⟩ = false := fun j hj => h8 _ (by omega) (by omega)
  have hother : ∀ k, k ≠ l.b → (storeAll W l.b (l.base + o + m * esz) vs').heap[k]? = W.heap[k]? := fun k hk => storeAll_other hk
  have hget : ∀ d, d ≠ c → d < H.n → ((H.set c .dead).push (.loose esz (old ++ vs))).get? d = H.get? d := fun d h1 h2 => by
    rw [Heap.get?_push_old (by simpa using h2), Heap.get?_set_other hc h1]
  have hgetc : ((H.set c .dead).push (.loose esz (old ++ vs))).get? c = some .dead := by
    rw [Heap.get?_push_old (by simpa using hc), Heap.get?_set_same hg]
  have hgetn : ((H.set c .dead).push (.loose esz (old ++ vs))).get? H.n = some (.loose esz (old ++ vs)) := by
    have := Heap.get?_push_new (H := H.set c .dead) (o := .loose esz (old ++ vs)); simpa using this
  have hnew : ObjRel B (φ.add H.n ⟨l.b, l.base + o, some ⟨(m + n) * esz, esz, lo.tot⟩⟩) (storeAll W l.b (l.base + o + m * esz) vs') ⟨l.b, l.base + o, some ⟨(m + n) * esz, esz, lo.tot⟩⟩ (.loose esz (old ++ vs)) := by
    refine ⟨hB, _, rfl, ?_, rfl, h5, ?_, ?_, ?_, ?_⟩
    · show (m + n) * esz = (old ++ vs).length
      rw [List.length_append, hol, hvl, Nat.add_mul]
    · show l.base + o + (old ++ vs).length ≤ lo.tot
      rw [List.length_append, hol, hvl]; omega
    · intro i v hv
      by_cases hi : i < old.length
      · rw [List.getElem?_append_left hi] at hv
        refine ⟨by rw [List.all_eq_true] at hoo; exact hoo v (List.mem_of_getElem? hv), ?_⟩
        obtain ⟨v', p, q⟩ := hro.get hv
        refine ⟨v', ?_, q.mono (Emb.sub_add hn)⟩
        show (storeAll W l.b (l.base + o + m * esz) vs').cell? ⟨l.b, l.base + o + i, none⟩ = some v'
        rw [storeAll_cell hsome, if_neg (by omega)]
        exact hoc i v' p
      · rw [List.getElem?_append_right (by omega)] at hv
        refine ⟨by rw [List.all_eq_true] at ho; exact ho v (List.mem_of_getElem? hv), ?_⟩
        have hilt : i - old.length < vs.length := by
          rcases Nat.lt_or_ge (i - old.length) vs.length with g | g
          · exact g
          · rw [List.getElem?_eq_none g] at hv; cases hv
        obtain ⟨v', p, q⟩ := hr.get hv
        refine ⟨v', ?_, q.mono (Emb.sub_add hn)⟩
        show (storeAll W l.b (l.base + o + m * esz) vs').cell? ⟨l.b, l.base + o + i, none⟩ = some v'
        rw [storeAll_cell hsome, if_pos (by omega)]
        rw [show l.base + o + i - (l.base + o + m * esz) = i - old.length from by omega]
        exact p
    · intro j p q; rw [storeAll_frozen]; exact h8 j (by have : l.base + o ≤ j := p; omega) q
    · intro j p q
      have p' : l.base + o ≤ j := p
      have q' : j < lo.tot := q
      show ((storeAll W l.b (l.base + o + m * esz) vs').cell? ⟨l.b, j, none⟩).isSome = true
      rw [storeAll_cell hsome]
      split
      · rw [List.getElem?_eq_getElem (by omega)]; rfl
      · exact h9 j (by omega) q'
  refine ⟨hsome, hfz, ⟨storeAll_below hB s.below, by rw [storeAll_size]; exact s.inB, ?_, ?_, ?_⟩, ⟨Emb.sub_add hn, ?_, ?_, ?_, ?_, ?_, by rw [storeAll_size]; exact Nat.le_refl _, by simp⟩⟩
  · intro d k h
    rw [storeAll_size]
    by_cases hd : d = H.n
    · subst hd; rw [Emb.add_same] at h; cases h; exact s.lt c l hl
    · rw [Emb.add_other hd] at h; exact s.lt d k h
  · intro d k ob h h'
    by_cases hd : d = H.n
    · subst hd; rw [Emb.add_same] at h; cases h; rw [hgetn] at h'; cases h'; exact hnew
    · rw [Emb.add_other hd] at h
      by_cases hdc : d = c
      · subst hdc; rw [hgetc] at h'; cases h'; trivial
      · have hlt : d < H.n := by have := Heap.get?_lt h'; simp at this; omega
        rw [hget d hdc hlt] at h'
        have old := s.obj d k ob h h'
        by_cases hb : k.b = l.b
        · cases ob with
          | dead => trivial
          | ro cs' => have := old.1; omega
          | rw cs' => exact absurd (s.inj d c k l _ _ h hl h' hg rfl rfl hb) hdc
          | loose e cs' => exact absurd (s.inj d c k l _ _ h hl h' hg rfl rfl hb) hdc
          | map es q => exact absurd (s.inj d c k l _ _ h hl h' hg rfl rfl hb) hdc
        · exact old.keep (Emb.sub_add hn) (hother _ hb)
  · intro c1 c2 l1 l2 o1 o2 g1 g2 p1 p2 e1 e2 e
    have back : ∀ d k od, φ.add H.n ⟨l.b, l.base + o, some ⟨(m + n) * esz, esz, lo.tot⟩⟩ d = some k → ((H.set c .dead).push (.loose esz (old ++ vs))).get? d = some od → od.excl = true →
        (d = H.n ∧ k.b = l.b) ∨ (d ≠ H.n ∧ d ≠ c ∧ φ d = some k ∧ H.get? d = some od) := by
      intro d k od gk gd ge
      by_cases hd : d = H.n
      · subst hd; rw [Emb.add_same] at gk; cases gk; exact .inl ⟨rfl, rfl⟩
      · rw [Emb.add_other hd] at gk
        by_cases hdc : d = c
        · subst hdc; rw [hgetc] at gd; cases gd; cases ge
        · have hlt : d < H.n := by have := Heap.get?_lt gd; simp at this; omega
          rw [hget d hdc hlt] at gd
          exact .inr ⟨hd, hdc, gk, gd⟩
    rcases back c1 l1 o1 g1 p1 e1 with ⟨a1, b1⟩ | ⟨a1, b1, d1, f1⟩ <;> rcases back c2 l2 o2 g2 p2 e2 with ⟨a2, b2⟩ | ⟨a2, b2, d2, f2⟩
    · rw [a1, a2]
    · exact absurd (s.inj c2 c l2 l _ _ d2 hl f2 hg e2 rfl (by omega)) b2
    · exact absurd (s.inj c1 c l1 l _ _ d1 hl f1 hg e1 rfl (by omega)) b1
    · exact s.inj c1 c2 l1 l2 _ _ d1 d2 f1 f2 e1 e2 e
  · intro d k h h'
    by_cases hd : d = H.n
    · subst hd; simp
    · rw [Emb.add_other hd, h] at h'; cases h'
  · intro d k h h'
    by_cases hd : d = H.n
    · subst hd; rw [Emb.add_same] at h'; cases h'; exact .inr ⟨c, l, _, hl, hg, rfl, rfl⟩
    · rw [Emb.add_other hd, h] at h'; cases h'
  · intro b _ hno
    exact hother b fun e => hno c l _ hl hg rfl e.symm
  · intro d hd hn'
    exact hget d (fun e => by subst e; rw [hl] at hn'; cases hn') hd
  · intro d ob hd hgd he
    by_cases hdc : d = c
    · subst hdc; rw [hgetc] at hgd; cases hgd; cases he
    · rw [hget d hdc hd] at hgd; exact ⟨ob, hgd, he⟩

/-- a canonical append, and the model's -/
theorem append_ok {t u ty e : TypeId} {esz bytes n : Nat} {x x' y' z : Value} {vs vs' : List Value} {res : Value} (s : Sim B W0 φ H.get? W) (free : Free φ H H') (ht : P.underlying t = some (.slice e)) {du : TypeDesc} (hu : P.underlying u = some du)
    (hdu : ∀ k, du ≠ .int k) (hs : sizeT P e = some esz) (hb : bytesT P e = some bytes) (hz : zeroOf P e = some z) (hzs : z.cells.size = esz) (he0 : 0 < esz) (hb0 : 0 < bytes) (hx : RelV φ x x')
    (hlen : (Builtin.lenOf y').run P W = .ok n W) (hnew : ∀ w : World, (∀ a, w.cell? a = W.cell? a) → (Builtin.firstCells esz n y').run P w = .ok vs'.toArray w)
    (ho : vs.all one = true) (hr : RelL φ vs vs') (h : appendTo H esz bytes x n vs = some (res, H')) :
    ∃ φ' v' W', (Builtin.append_ #[t, u] ty #[x', y']).run P W = .ok v' W' ∧ RelV φ' res v' ∧ Sim B W0 φ' H'.get? W' ∧ Ext φ φ' H H' W W' := by
  cases x with
  | slice base sLen sCap =>
    simp only [appendTo] at h
    split at h
    · cases h
    rename_i hcond
    have hvl : vs.length = n * esz := by
      rcases Nat.decEq vs.length (n * esz) with g | g
      · exact absurd (Or.inl g) hcond
      · exact g
    have hbytes : (sLen + n) * bytes ≤ 140737488355328 := by
      rcases Nat.lt_or_ge 140737488355328 ((sLen + n) * bytes) with g | g
      · exact absurd (Or.inr g) hcond
      · exact g
    have hone' : ∀ v ∈ vs', v.oneCell' = true := by
      intro v hv
      obtain ⟨i, hi⟩ := List.getElem?_of_mem hv
      obtain ⟨w, p, q⟩ := hr.get' hi
      rw [List.all_eq_true] at ho
      exact q.one (ho w (List.mem_of_getElem? p))
    have hvl' : vs'.length = n * esz := hr.1.symm.trans hvl
    -- a fresh block
    have fresh : ∀ (old old' : List Value) (H1 : Heap) (base' : Option Addr) (sC : Nat), old.length = sLen * esz → old.all one = true → RelL φ old old' →
        (∀ w : World, (∀ a, w.cell? a = W.cell? a) → (Builtin.firstCells esz sLen (.slice base' sLen sC)).run P w = .ok old'.toArray w) → ¬ sLen + n ≤ sC →
        Sim B W0 φ H1.get? W → H1.n = H.n → φ H.n = none → Ext φ φ H H1 W W → H' = H1.push (.loose esz (old ++ vs)) →
        ∃ φ' v' W', (Builtin.append_ #[t, u] ty #[.slice base' sLen sC, y']).run P W = .ok v' W' ∧ RelV φ' (.slice (some ⟨H.n, 0, none⟩) (sLen + n) (sLen + n)) v' ∧ Sim B W0 φ' H'.get? W' ∧ Ext φ φ' H H' W W' := by
      intro old old' H1 base' sC hol hoo hro hold hroom s1 hn1 hn x1 hH'
      obtain ⟨c, hc1, hc2⟩ := append_more (P := P) (W := W) (ty := ty) (t := t) (u := u) ht hu hdu hs hb hz hlen hnew hold hroom hbytes hb0
      have hol' : old'.length = sLen * esz := hro.1.symm.trans hol
      have hsz : (old'.toArray ++ (vs'.toArray ++ Builtin.zeroCells z.cells (c - (sLen + n)))).size = c * esz := by
        simp only [Array.size_append, List.size_toArray, zeroCells_size, hol', hvl', hzs]
        rw [← Nat.add_assoc, ← Nat.add_mul, ← Nat.add_mul]
        congr 1
        omega
      obtain ⟨s', x'⟩ := s1.drew.allocLoose (cs := old ++ vs) (ar := old'.toArray ++ (vs'.toArray ++ Builtin.zeroCells z.cells (c - (sLen + n)))) (e := e) (esz := esz)
        (ob := .cells (old'.toArray ++ (vs'.toArray ++ Builtin.zeroCells z.cells (c - (sLen + n)))) e) (by rw [hn1]; exact hn) (by rw [List.all_append, hoo, ho]; rfl)
        ⟨old' ++ vs', hro.append hr, fun i u hu => by
          have hi : i < (old' ++ vs').length := by
            rcases Nat.lt_or_ge i (old' ++ vs').length with g | g
            · exact g
            · rw [List.getElem?_eq_none g] at hu; cases hu
          rw [← Array.append_assoc, Array.getElem?_append_left (by simpa using hi)]
          simpa using hu⟩ he0
        (by rw [hsz, List.length_append, hol, hvl, ← Nat.add_mul]; exact Nat.mul_le_mul_right _ hc1)
        (fun i => alloc_cell W.drew _ _ _ i)
        (fun i _ => World.frozen?_alloc_new ..)
      subst hH'
      refine ⟨_, .slice (some ⟨W.heap.size, 0, none⟩) (sLen + n) c, _, hc2, ?_, s', ?_⟩
      · refine RelV.sl (c := H.n) (o := 0) (l := ⟨W.heap.size, 0, some ⟨(old ++ vs).length, esz, _⟩⟩) (by rw [← hn1]; exact Emb.add_same) (.inr ⟨_, rfl, ?_, hc1, ?_⟩) (Nat.le_refl _)
        · show 0 + (sLen + n) * esz = (old ++ vs).length
          rw [List.length_append, hol, hvl, Nat.add_mul]; omega
        · show 0 + 0 + c * esz ≤ Array.size _
          rw [hsz]; omega
      · exact (x1.trans (Ext.drew.trans x' (fun c _ _ => by rw [show (H1.push (CObj.loose esz (old ++ vs))).n = H1.n + 1 from rfl] at *; exact free c (by omega) (by simpa using ‹_›))) free)
    split at h
    · rename_i hroom
      cases base with
      | none =>
        obtain ⟨rfl, rfl, rfl⟩ := relV_nils hx
        simp only [Option.some.injEq, Prod.mk.injEq] at h
        obtain ⟨rfl, rfl⟩ := h
        obtain rfl : n = 0 := by omega
        refine ⟨φ, .slice none 0 0, W, ?_, .nils, s, .refl⟩
        rw [append_room (P := P) (W := W) (ty := ty) ht hu hdu hs hlen (hnew W fun _ => rfl) (by omega)]
      | some a =>
        simp only at h
        rcases relV_sl hx with ⟨c, o, l, k', rfl, hl, hk, hn, rfl⟩ | ⟨c, o, a', k', rfl, rfl, rfl, rfl⟩
        · have hle : sCap ≤ k' := by
            rcases hk with h | ⟨_, _, _, h, _⟩
            · omega
            · exact h
          by_cases hn0 : n = 0
          · subst hn0
            rw [if_pos rfl] at h
            simp only [Option.some.injEq, Prod.mk.injEq] at h
            obtain ⟨rfl, rfl⟩ := h
            refine ⟨φ, _, W, ?_, hx, s, .refl⟩
            rw [append_room (P := P) (W := W) (ty := ty) ht hu hdu hs hlen (hnew W fun _ => rfl) (by omega)]
            have : vs' = [] := List.length_eq_zero_iff.1 (by omega)
            subst this
            simp [storeCells]
          · rw [if_neg hn0] at h
            split at h
            · rename_i H2 hw
              simp only [Option.some.injEq, Prod.mk.injEq] at h
              obtain ⟨rfl, rfl⟩ := h
              obtain ⟨h1, h2, s', x'⟩ := s.write hl hw hr ho
              refine ⟨φ, .slice (some ⟨l.b, l.base + o, none⟩) (sLen + n) k', _, ?_, RelV.sl hl hk hroom, s', x'⟩
              rw [append_room (P := P) (W := W) (ty := ty) ht hu hdu hs hlen (hnew W fun _ => rfl) (by omega)]
              simp only [Addr.add_at, Nat.add_assoc]
              rw [run_storeCells (P := P) (b := l.b) (o := l.base + (o + sLen * esz)) (vs := vs') (W := W) (i := 0) (by simpa using h1) (by simpa using h2) hone']
              rfl
            · cases h
        · by_cases hn0 : n = 0
          · subst hn0
            rw [if_pos rfl] at h
            simp only [Option.some.injEq, Prod.mk.injEq] at h
            obtain ⟨rfl, rfl⟩ := h
            refine ⟨φ, _, W, ?_, hx, s, .refl⟩
            rw [append_room (P := P) (W := W) (ty := ty) ht hu hdu hs hlen (hnew W fun _ => rfl) (by omega)]
            have : vs' = [] := List.length_eq_zero_iff.1 (by omega)
            subst this
            simp [storeCells]
          · omega
    · rename_i hroom
      cases base with
      | none =>
        obtain ⟨rfl, rfl, rfl⟩ := relV_nils hx
        simp only [Option.some.injEq, Prod.mk.injEq] at h
        obtain ⟨rfl, rfl⟩ := h
        have := fresh [] [] H none 0 (by simp) rfl .nil (fun w _ => by simp [Builtin.firstCells]) hroom s rfl (free H.n (Nat.le_refl _) (by simp)) .refl rfl
        simpa using this
      | some a =>
        simp only at h
        rcases relV_sl hx with ⟨c, o, l, k', rfl, hl, hk, hn, rfl⟩ | ⟨c, o, a', k', rfl, rfl, rfl, rfl⟩
        · cases hrd : H.rdN ⟨c, o, none⟩ (sLen * esz) with
          | none => rw [hrd] at h; cases h
          | some old =>
            rw [hrd] at h
            simp only at h
            obtain ⟨hol, hoo, old', hro, hoc⟩ := s.rdN hl hrd
            have hold : ∀ w : World, (∀ a, w.cell? a = W.cell? a) → (Builtin.firstCells esz sLen (.slice (some ⟨l.b, l.base + o, none⟩) sLen k')).run P w = .ok old'.toArray w := fun w hw => by
              simp only [Builtin.firstCells]; exact run_loadCells_at (hro.1.symm.trans hol) (fun j u hu => by rw [hw]; exact hoc j u hu)
            have hnH : H'.n = H.n + 1 := by
              split at h
              · split at h
                · split at h
                  · cases h; rfl
                  · cases h
                · cases h; rfl
              · cases h; rfl
            have hn0 : φ H.n = none := free H.n (Nat.le_refl _) (by omega)
            have plain : k' = sCap → some (Value.slice (some ⟨H.n, 0, none⟩) (sLen + n) (sLen + n), H.push (.loose esz (old ++ vs))) = some (res, H') →
                ∃ φ' v' W', (Builtin.append_ #[t, u] ty #[.slice (some ⟨l.b, l.base + o, none⟩) sLen k', y']).run P W = .ok v' W' ∧ RelV φ' res v' ∧ Sim B W0 φ' H'.get? W' ∧ Ext φ φ' H H' W W' := by
              rintro rfl h
              simp only [Option.some.injEq, Prod.mk.injEq] at h
              obtain ⟨rfl, rfl⟩ := h
              exact fresh old old' H _ _ hol hoo hro hold hroom s rfl hn0 .refl rfl
            split at h
            · rename_i e' cs hg
              obtain ⟨hB, lo, hlo, h3, h4, h5, h6, h7, h8, h9⟩ := s.obj c l _ hl hg
              split at h
              · rename_i hend
                split at h
                · rename_i hee
                  subst hee
                  simp only [Option.some.injEq, Prod.mk.injEq] at h
                  obtain ⟨rfl, rfl⟩ := h
                  by_cases hin : sLen + n ≤ k'
                  · have htot : l.base + o + k' * e' ≤ lo.tot := by
                      rcases hk with h | ⟨q, g1, g2, g3, g4⟩
                      · subst h; omega
                      · rw [hlo] at g1; cases g1; rw [h4] at g4; exact g4
                    obtain ⟨h1, h2, s', x'⟩ := s.regrow hn0 hl hg hlo hrd hvl ho hr hin htot
                    refine ⟨_, .slice (some ⟨l.b, l.base + o, none⟩) (sLen + n) k', _, ?_, RelV.sl (c := H.n) (o := 0) Emb.add_same (.inr ⟨_, rfl, ?_, hin, ?_⟩) (Nat.le_refl _), s', x'⟩
                    · rw [append_room (P := P) (W := W) (ty := ty) ht hu hdu hs hlen (hnew W fun _ => rfl) hin]
                      simp only [Addr.add_at]
                      rw [run_storeCells (P := P) (b := l.b) (o := l.base + o + sLen * e') (vs := vs') (W := W) (i := 0) (by simpa using h1) (by simpa using h2) hone']
                      rfl
                    · show 0 + (sLen + n) * e' = (sLen + n) * e'
                      omega
                    · show l.base + o + 0 + k' * e' ≤ lo.tot
                      omega
                  · obtain ⟨s1, x1⟩ := s.kill hl hg
                    exact fresh old old' (H.set c .dead) _ _ hol hoo hro hold hin s1 rfl hn0 x1 rfl
                · cases h
              · rename_i hend
                refine plain ?_ h
                rcases hk with h | ⟨q, g1, g2, g3, g4⟩
                · exact h
                · rw [hlo] at g1; cases g1; rw [h4, h3] at g2; exact absurd g2 hend
            · rename_i hnl
              refine plain ?_ h
              have : (∃ cs, H.get? c = some (.ro cs)) ∨ (∃ cs, H.get? c = some (.rw cs)) := by
                simp only [Heap.rdN, Option.isSome_none, Bool.false_eq_true, if_false, Heap.cells] at hrd
                cases hg : H.get? c with
                | none => rw [hg] at hrd; cases hrd
                | some ob =>
                  cases ob with
                  | ro cs => exact .inl ⟨cs, rfl⟩
                  | rw cs => exact .inr ⟨cs, rfl⟩
                  | loose e cs => exact absurd hg (hnl _ _)
                  | dead => rw [hg] at hrd; cases hrd
                  | map es q => rw [hg] at hrd; cases hrd
              exact s.tight hl this hk
        · simp [Heap.rdN] at h
  | _ => simp [appendTo] at h

end
end Go.Cm

/- The canonical machine's primitive operations, sixth part: lengths, copies, comparisons, maps. Conditions: none. -/
namespace Go.Cm
open Go.RowKit
set_option linter.unusedVariables false
set_option linter.unusedSimpArgs false

section
variable {B : Nat} {W0 : World} {φ : Emb} {H H' : Heap} {W : World} {v v' : Value} {P : Program} {G : Nat} {ρ ρ' : Operand → Value}

theorem prim_app {t u ty e e2 : TypeId} {esz bytes len cap : Nat} {a : Option Addr} {x x' y' z : Value} {vs : List Value} {cs : Array Bool} (s : Sim B W0 φ H.get? W) (free : Free φ H H') (ht : P.underlying t = some (.slice e)) (hu : P.underlying u = some (.slice e2))
    (hs : sizeT P e = some esz) (hb : bytesT P e = some bytes) (hz : zeroOf P e = some z) (hzs : z.cells.size = esz) (he0 : 0 < esz) (hb0 : 0 < bytes) (hx : RelV φ x x') (hy : RelV φ (.slice a len cap) y')
    (hv : sliceCells H esz len (.slice a len cap) = some vs) (h : appendTo H esz bytes x len vs = some (v, H')) :
    Prim B W0 φ H W ((builtin .append #[t, u] ty cs #[x', y']).run P W) v H' := by
  obtain ⟨g1, g2, a', k', vs', rfl, g3, g4⟩ := sliceCells_all (P := P) s hy (Nat.le_refl _) hv
  obtain ⟨φ', v', W', r1, r2, r3, r4⟩ := append_ok (P := P) (ty := ty) (y' := .slice a' len k') s free ht hu (by simp) hs hb hz hzs he0 hb0 hx (by simp [Builtin.lenOf]) g4 g2 g3 h
  exact ⟨φ', v', W', .inl (by simp [builtin, r1]), r2, r3, r4⟩

theorem prim_appS {t u ty e : TypeId} {sv : ByteArray} {x x' y' z : Value} {cs : Array Bool} (s : Sim B W0 φ H.get? W) (free : Free φ H H') (ht : P.underlying t = some (.slice e)) (hu : P.underlying u = some .string)
    (hs : sizeT P e = some 1) (hb : bytesT P e = some 1) (hz : zeroOf P e = some z) (hzs : z.cells.size = 1) (hx : RelV φ x x') (hy : RelV φ (.string sv) y')
    (h : appendTo H 1 1 x sv.size (ofBytes sv) = some (v, H')) :
    Prim B W0 φ H W ((builtin .append #[t, u] ty cs #[x', y']).run P W) v H' := by
  have := relV_str hy; subst this
  obtain ⟨φ', v', W', r1, r2, r3, r4⟩ := append_ok (P := P) (ty := ty) (y' := .string sv) (vs' := ofBytes sv) s free ht hu (by simp) hs hb hz hzs (by omega) (by omega) hx (by simp [Builtin.lenOf]) (fun w _ => by
    have : sv.extract 0 sv.size = sv := by apply ByteArray.ext; simp
    simp only [Builtin.firstCells, this, Sem.run_pure]
    congr 1
    apply Array.ext'
    simp [ofBytes]) (ofBytes_one sv) (ofBytes_rel sv) h
  exact ⟨φ', v', W', .inl (by simp [builtin, r1]), r2, r3, r4⟩

theorem copy_core {t u ty e : TypeId} {esz n dl k' : Nat} {l : Loc} {c o : Nat} {y' : Value} {vs vs' : List Value} {H2 : Heap} (s : Sim B W0 φ H.get? W) (ht : P.underlying t = some (.slice e)) (hs : sizeT P e = some esz) {m : Nat} (hlen : (Builtin.lenOf y').run P W = .ok m W) (hn : Nat.min m dl = n)
    (hnew : (Builtin.firstCells esz n y').run P W = .ok vs'.toArray W) (ho : vs.all one = true) (hr : RelL φ vs vs') (hl : φ c = some l) (hw : H.wr ⟨c, o, none⟩ vs = some H2) :
    ∃ W', (Builtin.copy_ #[t, u] ty #[.slice (some ⟨l.b, l.base + o, none⟩) dl k', y']).run P W = .ok (.int .i64 n) W' ∧ Sim B W0 φ H2.get? W' ∧ Ext φ φ H H2 W W' := by
  have hone' : ∀ v ∈ vs', v.oneCell' = true := by
    intro v hv
    obtain ⟨i, hi⟩ := List.getElem?_of_mem hv
    obtain ⟨w, p, q⟩ := hr.get' hi
    rw [List.all_eq_true] at ho
    exact q.one (ho w (List.mem_of_getElem? p))
  obtain ⟨h1, h2, s', x'⟩ := s.write hl hw hr ho
  refine ⟨_, ?_, s', x'⟩
  have := run_storeCells (P := P) (b := l.b) (o := l.base + o) (vs := vs') (W := W) (i := 0) (by simpa using h1) (by simpa using h2) hone'
  simp only [Nat.add_zero] at this
  simp only [Builtin.copy_]
  simp [run_un ht, run_sz hs, hlen, hn, hnew, this, goInt]

theorem copy_none {t u ty e : TypeId} {esz dl k' m : Nat} {d : Option Addr} {y' : Value} (ht : P.underlying t = some (.slice e)) (hs : sizeT P e = some esz) (hlen : (Builtin.lenOf y').run P W = .ok m W) (hn : Nat.min m dl = 0)
    (hnew : (Builtin.firstCells esz 0 y').run P W = .ok #[] W) :
    (Builtin.copy_ #[t, u] ty #[.slice d dl k', y']).run P W = .ok (.int .i64 0) W := by
  simp only [Builtin.copy_]
  simp [run_un ht, run_sz hs, hlen, hn, hnew, goInt]
  cases d <;> simp [storeCells]

theorem prim_copyV {t u ty e : TypeId} {esz dl dc sl c : Nat} {d a : Option Addr} {x' y' : Value} {cs : Array Bool} (s : Sim B W0 φ H.get? W) (ht : P.underlying t = some (.slice e)) (hs : sizeT P e = some esz)
    (hx : RelV φ (.slice d dl dc) x') (hy : RelV φ (.slice a sl c) y')
    (h : (if min sl dl = 0 then some (Value.int .i64 0, H) else (match (generalizing := false) sliceCells H esz (min sl dl) (.slice a sl c), d with
      | some vs, some a => (match H.wr a vs with | some h' => some (.int .i64 (min sl dl : Nat), h') | none => none)
      | _, _ => none)) = some (v, H')) :
    Prim B W0 φ H W ((builtin .copy #[t, u] ty cs #[x', y']).run P W) v H' := by
  have hylen : ∃ a' k', y' = .slice a' sl k' := by
    cases a with
    | none => obtain ⟨rfl, rfl, rfl⟩ := relV_nils hy; exact ⟨_, _, rfl⟩
    | some a => rcases relV_sl hy with ⟨_, _, _, k', _, _, _, _, rfl⟩ | ⟨_, _, a', k', _, rfl, _, rfl⟩ <;> exact ⟨_, _, rfl⟩
  have hxlen : ∃ a' k', x' = .slice a' dl k' := by
    cases d with
    | none => obtain ⟨rfl, rfl, rfl⟩ := relV_nils hx; exact ⟨_, _, rfl⟩
    | some a => rcases relV_sl hx with ⟨_, _, _, k', _, _, _, _, rfl⟩ | ⟨_, _, a', k', _, rfl, _, rfl⟩ <;> exact ⟨_, _, rfl⟩
  by_cases h0 : min sl dl = 0
  · rw [if_pos h0] at h
    simp only [Option.some.injEq, Prod.mk.injEq] at h
    obtain ⟨rfl, rfl⟩ := h
    obtain ⟨a', k', rfl⟩ := hylen
    obtain ⟨d', kd, rfl⟩ := hxlen
    refine Prim.pure s ?_ (.int _ _)
    have := copy_none (P := P) (W := W) (u := u) (ty := ty) (d := d') (k' := kd) (y' := .slice a' sl k') ht hs (m := sl) (dl := dl) (by simp [Builtin.lenOf]) h0 (by cases a' <;> simp [Builtin.firstCells, loadCells, loadCellsFrom])
    simp [builtin, this]
  · rw [if_neg h0] at h
    cases hsc : sliceCells H esz (min sl dl) (.slice a sl c) with
    | none => rw [hsc] at h; simp at h
    | some vs =>
      rw [hsc] at h
      cases d with
      | none => simp at h
      | some d =>
        simp only at h
        split at h
        · rename_i H2 hw
          simp only [Option.some.injEq, Prod.mk.injEq] at h
          obtain ⟨rfl, rfl⟩ := h
          obtain ⟨g1, g2, a', k', vs', rfl, g3, g4⟩ := sliceCells_ok (P := P) s hy (Nat.min_le_left _ _) hsc
          rcases relV_sl hx with ⟨cd, o, l, kd, rfl, hl, hk, hn, rfl⟩ | ⟨_, _, _, _, _, rfl, _, _⟩
          · obtain ⟨W', r1, r2, r3⟩ := copy_core (P := P) (u := u) (ty := ty) (k' := kd) (dl := dl) (y' := .slice a' sl k') s ht hs (m := sl) (by simp [Builtin.lenOf]) rfl g4 g2 g3 hl hw
            exact ⟨φ, _, W', .inl (by simp only [builtin, Sem.run_bind, r1, Result.andThen_ok, Sem.run_pure]), .int _ _, r2, r3⟩
          · simp at h0
        · cases h

theorem prim_copyS {t u ty e : TypeId} {dl dc : Nat} {d : Option Addr} {sv : ByteArray} {x' y' : Value} {cs : Array Bool} (s : Sim B W0 φ H.get? W) (ht : P.underlying t = some (.slice e)) (hs : sizeT P e = some 1)
    (hx : RelV φ (.slice d dl dc) x') (hy : RelV φ (.string sv) y')
    (h : (if min sv.size dl = 0 then some (Value.int .i64 0, H) else (match (generalizing := false) d with
      | some a => (match H.wr a ((ofBytes sv).take dl) with | some h' => some (.int .i64 (min sv.size dl : Nat), h') | none => none)
      | none => none)) = some (v, H')) :
    Prim B W0 φ H W ((builtin .copy #[t, u] ty cs #[x', y']).run P W) v H' := by
  have := relV_str hy; subst this
  have hxlen : ∃ a' k', x' = .slice a' dl k' := by
    cases d with
    | none => obtain ⟨rfl, rfl, rfl⟩ := relV_nils hx; exact ⟨_, _, rfl⟩
    | some a => rcases relV_sl hx with ⟨_, _, _, k', _, _, _, _, rfl⟩ | ⟨_, _, a', k', _, rfl, _, rfl⟩ <;> exact ⟨_, _, rfl⟩
  have hfc : ∀ n, (Builtin.firstCells 1 n (.string sv)).run P W = .ok ((ofBytes sv).take n).toArray W := by
    intro n
    simp only [Builtin.firstCells, Sem.run_pure]
    congr 1
    apply Array.ext'
    simp [ofBytes, List.map_take]
  by_cases h0 : min sv.size dl = 0
  · rw [if_pos h0] at h
    simp only [Option.some.injEq, Prod.mk.injEq] at h
    obtain ⟨rfl, rfl⟩ := h
    obtain ⟨d', kd, rfl⟩ := hxlen
    refine Prim.pure s ?_ (.int _ _)
    have := copy_none (P := P) (W := W) (u := u) (ty := ty) (d := d') (k' := kd) (y' := .string sv) ht hs (m := sv.size) (dl := dl) (by simp [Builtin.lenOf]) h0 (by simpa using hfc 0)
    simp [builtin, this]
  · rw [if_neg h0] at h
    cases d with
    | none => simp at h
    | some d =>
      simp only at h
      split at h
      · rename_i H2 hw
        simp only [Option.some.injEq, Prod.mk.injEq] at h
        obtain ⟨rfl, rfl⟩ := h
        rcases relV_sl hx with ⟨cd, o, l, kd, rfl, hl, hk, hn, rfl⟩ | ⟨_, _, _, _, _, rfl, _, _⟩
        · have e1 : (ofBytes sv).take (min sv.size dl) = (ofBytes sv).take dl := by
            rw [← List.take_take, List.take_of_length_le (i := sv.size) (l := (ofBytes sv).take dl)]
            simp [ofBytes_length]; omega
          obtain ⟨W', r1, r2, r3⟩ := copy_core (P := P) (u := u) (ty := ty) (k' := kd) (dl := dl) (y' := .string sv) s ht hs (m := sv.size) (by simp [Builtin.lenOf]) rfl (by rw [show Nat.min sv.size dl = min sv.size dl from rfl, hfc, e1])
            (by rw [List.all_eq_true]; intro v hv; obtain ⟨n, rfl⟩ := ofBytes_mem (List.mem_of_mem_take hv); rfl) ((ofBytes_rel sv).take dl) hl hw
          exact ⟨φ, _, W', .inl (by simp only [builtin, Sem.run_bind, r1, Result.andThen_ok, Sem.run_pure]), .int _ _, r2, r3⟩
        · simp at h0
      · cases h

/-! ### comparisons -/

/-- the type that a comparison is made at -/
def EqTy (P : Program) (ty : TypeId) (ox oy : Operand) : EqT → Prop
  | .bool => P.underlying ty = some .bool
  | .ptr => ∃ e, P.underlying ty = some (.pointer e)
  | .slice => ∃ e, P.underlying ty = some (.slice e)
  | .map => ∃ k e, P.underlying ty = some (.map k e)
  | .func => ∃ a b c, P.underlying ty = some (.func a b c)
  | .iface => ∃ ms, P.underlying ty = some (.interface ms)
  | .ifaceC => (∃ ms, P.underlying ty = some (.interface ms)) ∧ (nilC ox || nilC oy) = true
  | .plain _ => False

theorem eqVal_sound {t : EqT} {x y x' y' : Value} {b : Bool} {ty : TypeId} {op : BinOp} {ox oy : Operand} (hx : RelV φ x x') (hy : RelV φ y y') (h : eqVal t x y = some b) (hty : EqTy P ty ox oy t) :
    (eqGuard op ty ox oy x' y').run P W = .ok () W ∧ (Op.equal ty x' y').run P W = .ok b W ∧ (∀ k n, x' ≠ .int k n) ∧ (∀ s, x' ≠ .string s) ∧ (∀ k n, x' ≠ .float k n) ∧ (∀ k n m, x' ≠ .complex k n m) := by
  have e1 : Op.equal ty x' y' = Op.equalIn (9999 + 1) ty x' y' := rfl
  rw [e1]
  generalize 9999 = d
  unfold eqVal at h
  split at h
  · cases h
    have := relV_bool hx; subst this; have := relV_bool hy; subst this
    have hty : P.underlying ty = some .bool := hty
    exact ⟨by rw [eqGuard_at_bool]; rfl, by simp [Op.equalIn, run_un hty], by simp, by simp, by simp, by simp⟩
  · cases h
    have := relV_nilp hx; subst this
    obtain ⟨e, hty⟩ := hty
    cases hy <;> exact ⟨by rw [eqGuard_at_pointer]; rfl, by simp [Op.equalIn, run_un hty], by simp, by simp, by simp, by simp⟩
  · cases h
    obtain ⟨_, _, _, _, _, rfl⟩ := relV_ptr hx
    have := relV_nilp hy; subst this
    obtain ⟨e, hty⟩ := hty
    exact ⟨by rw [eqGuard_at_pointer]; rfl, by simp [Op.equalIn, run_un hty], by simp, by simp, by simp, by simp⟩
  · cases h
    obtain ⟨_, _, rfl⟩ := relV_nils hx
    obtain ⟨e, hty⟩ := hty
    cases hy <;> exact ⟨by rw [eqGuard_at_slice]; rfl, by simp [Op.equalIn, run_un hty], by simp, by simp, by simp, by simp⟩
  · cases h
    obtain ⟨_, _, rfl⟩ := relV_nils hy
    obtain ⟨e, hty⟩ := hty
    rcases relV_sl hx with ⟨_, _, _, _, _, _, _, _, rfl⟩ | ⟨_, _, _, _, _, _, _, rfl⟩ <;> exact ⟨by rw [eqGuard_at_slice]; rfl, by simp [Op.equalIn, run_un hty], by simp, by simp, by simp, by simp⟩
  · cases h
    have := relV_nilm hx; subst this
    obtain ⟨k, e, hty⟩ := hty
    cases hy <;> exact ⟨by rw [eqGuard_at_map]; rfl, by simp [Op.equalIn, run_un hty], by simp, by simp, by simp, by simp⟩
  · cases h
    obtain ⟨_, _, _, rfl⟩ := relV_map hx
    have := relV_nilm hy; subst this
    obtain ⟨k, e, hty⟩ := hty
    exact ⟨by rw [eqGuard_at_map]; rfl, by simp [Op.equalIn, run_un hty], by simp, by simp, by simp, by simp⟩
  · cases h
    have := relV_nili hx; subst this
    obtain ⟨_, rfl, _⟩ := relV_iface hy
    obtain ⟨ms, hty⟩ := hty
    exact ⟨by rw [eqGuard_nil_iface]; rfl, by simp [Op.equalIn, run_un hty], by simp, by simp, by simp, by simp⟩
  · cases h
    have := relV_nili hy; subst this
    obtain ⟨_, rfl, _⟩ := relV_iface hx
    obtain ⟨ms, hty⟩ := hty
    exact ⟨by rw [eqGuard_at_iface]; rfl, by simp [Op.equalIn, run_un hty], by simp, by simp, by simp, by simp⟩
  · cases h
    have := relV_nili hx; subst this
    obtain ⟨_, rfl, _⟩ := relV_iface hy
    obtain ⟨⟨ms, hty⟩, _⟩ := hty
    exact ⟨by rw [eqGuard_nil_iface]; rfl, by simp [Op.equalIn, run_un hty], by simp, by simp, by simp, by simp⟩
  · cases h
    have := relV_nili hy; subst this
    obtain ⟨_, rfl, _⟩ := relV_iface hx
    obtain ⟨⟨ms, hty⟩, _⟩ := hty
    exact ⟨by rw [eqGuard_at_iface]; rfl, by simp [Op.equalIn, run_un hty], by simp, by simp, by simp, by simp⟩
  · cases h
    have := relV_nili hx; subst this
    have := relV_nili hy; subst this
    obtain ⟨⟨ms, hty⟩, hn⟩ := hty
    refine ⟨?_, by simp [Op.equalIn, run_un hty], by simp, by simp, by simp, by simp⟩
    simp only [Bool.or_eq_true] at hn
    rcases hn with hn | hn
    · cases ox with
      | const c => rw [eqGuard_nil_constL]; rfl
      | _ => simp [nilC] at hn
    · cases oy with
      | const c => rw [eqGuard_nil_constR]; rfl
      | _ => simp [nilC] at hn
  · cases h
    have := relV_nilf hx; subst this
    obtain ⟨a, b, c, hty⟩ := hty
    cases hy with
    | func => exact ⟨by rw [eqGuard_at_nilFunc]; rfl, by simp [Op.equalIn, run_un hty], by simp, by simp, by simp, by simp⟩
  · cases h
    have := relV_nilf hy; subst this
    obtain ⟨a, b, c, hty⟩ := hty
    cases hx with
    | func => exact ⟨by rw [eqGuard_at_func]; rfl, by simp [Op.equalIn, run_un hty], by simp, by simp, by simp, by simp⟩
  · cases h
    have := relV_nilf hx; subst this
    have := relV_nilf hy; subst this
    obtain ⟨a, b, c, hty⟩ := hty
    exact ⟨by rw [eqGuard_at_nilFunc]; rfl, by simp [Op.equalIn, run_un hty], by simp, by simp, by simp, by simp⟩
  · exact hty.elim
  · cases h

end
end Go.Cm

/- The canonical machine's primitive operations, seventh part: plain comparisons and maps. Conditions: none. -/
namespace Go.Cm
open Go.RowKit
set_option linter.unusedVariables false
set_option linter.unusedSimpArgs false

section
variable {B : Nat} {W0 : World} {φ : Emb} {H H' : Heap} {W : World} {v v' : Value} {P : Program} {G : Nat} {ρ ρ' : Operand → Value}

/-- a part of a struct's cells, canonical -/
def partC (agg : Bool) (off size : Nat) (xs : Array Value) : Value := if agg then .agg (xs.extract off (off + size)) else xs.getD off unk

theorem part_ok {t : TypeId} {agg : Bool} {off size : Nat} {xs xs' : Array Value} (ha : aggT P t = some agg) (hs : sizeT P t = some size) (ho : xs.toList.all one = true) (hr : RelL φ xs.toList xs'.toList)
    (hne : agg = false → off < xs.size) : ∃ v', (part t xs' off).run P W = .ok v' W ∧ RelV φ (partC agg off size xs) v' := by
  cases agg with
  | true =>
    refine ⟨.agg (xs'.extract off (off + size)), by simp [part, run_ag ha, run_sz hs], ?_⟩
    simp only [partC, if_true]
    refine relV_agg.2 ⟨?_, ?_⟩
    · rw [List.all_eq_true] at *
      intro v hv
      simp only [Array.toList_extract, List.extract_eq_take_drop] at hv
      exact ho v (List.mem_of_mem_drop (List.mem_of_mem_take hv))
    · simp only [Array.toList_extract, List.extract_eq_take_drop]
      exact (hr.drop _).take _
  | false =>
    have hlt := hne rfl
    obtain ⟨v', p, q⟩ := hr.get (i := off) (v := xs[off]) (by simp [hlt])
    have p' : xs'[off]? = some v' := by simpa using p
    refine ⟨v', by simp [part, run_ag ha, p'], ?_⟩
    simp only [partC, Bool.false_eq_true, if_false, Array.getD, hlt, dite_true]
    exact q

theorem eqPT_unk {p : PT} {y : Value} : eqPT p unk y = none := by cases p <;> simp [eqPT, unk]
theorem partC_in {p : PT} {agg : Bool} {off size : Nat} {xs : Array Value} {y : Value} (h : (eqPT p (partC agg off size xs) y).isSome = true) : agg = false → off < xs.size := by
  intro ha
  subst ha
  rcases Nat.lt_or_ge off xs.size with g | g
  · exact g
  · simp only [partC, Bool.false_eq_true, if_false, Array.getD, show ¬ off < xs.size from by omega, dite_false, eqPT_unk] at h
    cases h
theorem partC_in' {p : PT} {agg : Bool} {off size : Nat} {xs : Array Value} {y : Value} (h : (eqPT p y (partC agg off size xs)).isSome = true) : agg = false → off < xs.size := by
  intro ha
  subst ha
  rcases Nat.lt_or_ge off xs.size with g | g
  · exact g
  · simp only [partC, Bool.false_eq_true, if_false, Array.getD, show ¬ off < xs.size from by omega, dite_false] at h
    cases p <;> cases y <;> simp [eqPT, unk] at h

theorem eqPTs_cons {off size : Nat} {agg : Bool} {p : PT} {fs : List (Nat × Nat × Bool × PT)} {xs ys : Array Value} {b : Bool} (h : eqPTs ((off, size, agg, p) :: fs) xs ys = some b) :
    ∃ b1, eqPT p (partC agg off size xs) (partC agg off size ys) = some b1 ∧ (b1 = false → b = false) ∧ ∃ b2, eqPTs fs xs ys = some b2 ∧ (b1 = true → b = b2) := by
  simp only [eqPTs] at h
  cases hq : eqPT p (if agg = true then .agg (xs.extract off (off + size)) else xs.getD off unk) (if agg = true then .agg (ys.extract off (off + size)) else ys.getD off unk) with
  | none => rw [hq] at h; cases h
  | some b1 =>
    rw [hq] at h
    cases b1 with
    | true => exact ⟨true, hq, by simp, b, h, fun _ => rfl⟩
    | false =>
      simp only at h
      split at h
      · rename_i hs
        cases h
        obtain ⟨b2, hb2⟩ := Option.isSome_iff_exists.1 hs
        exact ⟨false, hq, fun _ => rfl, b2, hb2, by simp⟩
      · cases h

theorem eqPT_sound : ∀ (d : Nat) {t : TypeId} {p : PT} {x y x' y' : Value} {b : Bool} (k : Nat), d ≤ k → ptOf P d t = some p → eqPT p x y = some b → RelV φ x x' → RelV φ y y' →
    (Op.equalIn k t x' y').run P W = .ok b W := by
  intro d
  induction d with
  | zero => intro t p x y x' y' b k _ h; simp [ptOf] at h
  | succ d ih =>
    intro t p x y x' y' b k hk h he hx hy
    obtain ⟨k, rfl⟩ : ∃ m, k = m + 1 := ⟨k - 1, by omega⟩
    have hk' : d ≤ k := by omega
    simp only [ptOf] at h
    split at h
    · rename_i ik hu
      cases h
      cases x <;> cases y <;> simp only [eqPT] at he <;> first | (cases he; done) | skip
      have := relV_int hx; subst this; have := relV_int hy; subst this
      split at he
      · rename_i hkk
        cases he
        subst hkk
        simp [Op.equalIn, run_un hu]
      · cases he
    · rename_i hu
      cases h
      cases x <;> cases y <;> simp only [eqPT] at he <;> first | (cases he; done) | skip
      have := relV_bool hx; subst this; have := relV_bool hy; subst this
      cases he
      simp [Op.equalIn, run_un hu]
    · rename_i hu
      cases h
      cases x <;> cases y <;> simp only [eqPT] at he <;> first | (cases he; done) | skip
      have := relV_str hx; subst this; have := relV_str hy; subst this
      cases he
      simp [Op.equalIn, run_un hu]
    · rename_i fs hu
      split at h
      · cases h
      rename_i hst
      split at h
      · rename_i l hl
        cases h
        cases x <;> cases y <;> simp only [eqPT] at he <;> first | (cases he; done) | skip
        rename_i xs ys
        obtain ⟨xs', rfl, hox, hrx⟩ := relV_agg_left hx
        obtain ⟨ys', rfl, hoy, hry⟩ := relV_agg_left hy
        have hfo : P.fieldsOf t = fs := by simp [Program.fieldsOf, hu]
        rw [run_equalIn_struct W k t xs' ys' (by rw [hfo]; exact hu) (by simpa using hst), hfo]
        generalize fs.toList = fl at hl
        clear hfo hu hx hy
        induction fl generalizing l b with
        | nil =>
          simp only [ptFields, Option.some.injEq] at hl
          subst hl
          simp only [eqPTs, Option.some.injEq] at he
          subst he
          rfl
        | cons f fl ih2 =>
          simp only [ptFields] at hl
          split at hl
          · cases hl
          rename_i hname
          split at hl
          · rename_i p a n r hp ha hn hr
            cases hl
            obtain ⟨b1, h1, h2, b2, h3, h4⟩ := eqPTs_cons he
            obtain ⟨u, hu1, hu2⟩ := part_ok (P := P) (W := W) (t := f.type) (off := f.offset) ha hn hox hrx (partC_in (by rw [h1]; rfl))
            obtain ⟨w, hw1, hw2⟩ := part_ok (P := P) (W := W) (t := f.type) (off := f.offset) ha hn hoy hry (partC_in' (by rw [h1]; rfl))
            have hq := ih k hk' hp h1 hu2 hw2
            simp only [Op.eqFields, ne_eq, hname, not_false_eq_true, if_true, Sem.run_bind, hu1, hw1, hq, Result.andThen_ok]
            cases b1 with
            | true =>
              simp only [Bool.not_true, Bool.false_eq_true, if_false]
              rw [h4 rfl]
              first | exact ih2 _ h3 hr | exact ih2 _ _ h3 hr | exact ih2 _ hr _ h3 | exact ih2 _ hr h3
            | false =>
              simp only [Bool.not_false, if_true, Sem.run_pure]
              rw [h2 rfl]
          · cases hl
      · cases h
    · cases h

theorem checkKey_sound (em : Bool) : ∀ (d : Nat) {t : TypeId} {p : PT} {x x' : Value} (k : Nat), d ≤ k → ptOf P d t = some p → (eqPT p x x).isSome = true → RelV φ x x' →
    (Instr.checkKey em k t x').run P W = .ok () W := by
  intro d
  induction d with
  | zero => intro t p x x' k _ h; simp [ptOf] at h
  | succ d ih =>
    intro t p x x' k hk h he hx
    obtain ⟨k, rfl⟩ : ∃ m, k = m + 1 := ⟨k - 1, by omega⟩
    have hk' : d ≤ k := by omega
    simp only [ptOf] at h
    split at h
    · rename_i ik hu
      cases h
      cases x <;> simp [eqPT] at he
      have := relV_int hx; subst this
      simp [Instr.checkKey, run_un hu]
    · rename_i hu
      cases h
      cases x <;> simp [eqPT] at he
      have := relV_bool hx; subst this
      simp [Instr.checkKey, run_un hu]
    · rename_i hu
      cases h
      cases x <;> simp [eqPT] at he
      have := relV_str hx; subst this
      simp [Instr.checkKey, run_un hu]
    · rename_i fs hu
      split at h
      · cases h
      split at h
      · rename_i l hl
        cases h
        cases x <;> simp only [eqPT] at he <;> first | (cases he; done) | skip
        rename_i xs
        obtain ⟨xs', rfl, hox, hrx⟩ := relV_agg_left hx
        obtain ⟨b, hb⟩ := Option.isSome_iff_exists.1 he
        simp only [Instr.checkKey, Sem.run_bind, run_un hu, Result.andThen_ok]
        rw [← Array.forIn_toList]
        generalize fs.toList = fl at hl
        clear hu hx he
        induction fl generalizing l b with
        | nil => rfl
        | cons f fl ih2 =>
          simp only [ptFields] at hl
          split at hl
          · cases hl
          rename_i hname
          split at hl
          · rename_i p a n r hp ha hn hr
            cases hl
            obtain ⟨b1, h1, h2, b2, h3, h4⟩ := eqPTs_cons hb
            obtain ⟨u, hu1, hu2⟩ := part_ok (P := P) (W := W) (t := f.type) (off := f.offset) ha hn hox hrx (partC_in (by rw [h1]; rfl))
            have hq := ih k hk' hp (by rw [h1]; rfl) hu2
            have hrest := (by first | exact ih2 _ hr _ h3 | exact ih2 _ _ h3 hr | exact ih2 _ h3 hr : _)
            simp only [List.forIn_cons, ne_eq, hname, not_false_eq_true, if_true, Sem.run_bind, hu1, hq, Result.andThen_ok, Sem.run_pure]
            exact hrest
          · cases hl
      · cases h
    · cases h

theorem ptOf_kind {d : Nat} {t : TypeId} {p : PT} (h : ptOf P d t = some p) : ∃ u, P.underlying t = some u ∧
    ((p = .int ∧ ∃ k, u = .int k) ∨ (p = .bool ∧ u = .bool) ∨ (p = .str ∧ u = .string) ∨ ((∃ l, p = .st l) ∧ ∃ fs, u = .struct fs)) := by
  cases d with
  | zero => simp [ptOf] at h
  | succ d =>
    simp only [ptOf] at h
    split at h
    · rename_i k hu; cases h; exact ⟨_, hu, .inl ⟨rfl, k, rfl⟩⟩
    · rename_i hu; cases h; exact ⟨_, hu, .inr (.inl ⟨rfl, rfl⟩)⟩
    · rename_i hu; cases h; exact ⟨_, hu, .inr (.inr (.inl ⟨rfl, rfl⟩))⟩
    · rename_i fs hu
      split at h
      · cases h
      split at h
      · rename_i l hl; cases h; exact ⟨_, hu, .inr (.inr (.inr ⟨⟨l, rfl⟩, fs, rfl⟩))⟩
      · cases h
    · cases h

/-- what a search found, both ways -/
def FoundRel (φ : Emb) : Option (Nat × Value) → Option (Nat × Value) → Prop
  | none, none => True
  | some (i, v), some (j, w) => i = j ∧ RelV φ v w
  | _, _ => False

theorem findAsking_sound {kt : TypeId} {p : PT} (hp : ptOf P 20 kt = some p) {k k' : Value} (hk : RelV φ k k') : ∀ {es : List (Value × Value × Nat)} {es' : List MapEntry} {i : Nat} {r : Option (Nat × Value)}, EntRel φ es es' → findE p k es i = some r →
    ∃ r', (Instr.findAsking kt k' es' i).run P W = .ok r' W ∧ FoundRel φ r r'
  | [], [], i, r, _, h => by cases h; exact ⟨none, rfl, trivial⟩
  | (x, v, n) :: es, e :: es', i, r, hr, h => by
    simp only [findE] at h
    cases hq : eqPT p k x with
    | none => rw [hq] at h; cases h
    | some b =>
      rw [hq] at h
      have hs := eqPT_sound (P := P) (W := W) 20 10000 (by omega) hp hq hk hr.1
      have hs' : (Op.equal kt k' e.key).run P W = .ok b W := hs
      simp only [Instr.findAsking, Sem.run_bind, hs', Result.andThen_ok]
      cases b with
      | true => cases h; exact ⟨_, rfl, rfl, hr.2.1⟩
      | false =>
        simp only [Bool.false_eq_true, if_false]
        exact findAsking_sound hp hk hr.2.2.2 h
  | [], _ :: _, _, _, hr, _ => hr.elim
  | _ :: _, [], _, _, hr, _ => hr.elim

theorem findNow_some {u : TypeDesc} {p : PT} (hk : (p = .int ∧ ∃ k, u = .int k) ∨ (p = .bool ∧ u = .bool) ∨ (p = .str ∧ u = .string)) {k k' : Value} (hkr : RelV φ k k') : ∀ {es : List (Value × Value × Nat)} {es' : List MapEntry} {i : Nat} {r : Option (Nat × Value)},
    EntRel φ es es' → findE p k es i = some r → ∃ r', Instr.findNow u k' es' i = some r' ∧ FoundRel φ r r'
  | [], [], i, r, _, h => by cases h; exact ⟨none, rfl, trivial⟩
  | (x, v, n) :: es, e :: es', i, r, hr, h => by
    simp only [findE] at h
    cases hq : eqPT p k x with
    | none => rw [hq] at h; cases h
    | some b =>
      rw [hq] at h
      have hsame : Instr.sameNow u k' e.key = some b := by
        have hx := hr.1
        rcases hk with ⟨rfl, kk, rfl⟩ | ⟨rfl, rfl⟩ | ⟨rfl, rfl⟩
        · cases k <;> cases x <;> simp only [eqPT] at hq <;> first | (cases hq; done) | skip
          have := relV_int hkr; subst this
          have := relV_int hx
          rw [this]
          split at hq
          · rename_i hkk; cases hq; simp [Instr.sameNow, hkk]
          · cases hq
        · cases k <;> cases x <;> simp only [eqPT] at hq <;> first | (cases hq; done) | skip
          have := relV_bool hkr; subst this
          have := relV_bool hx
          rw [this]
          cases hq; rfl
        · cases k <;> cases x <;> simp only [eqPT] at hq <;> first | (cases hq; done) | skip
          have := relV_str hkr; subst this
          have := relV_str hx
          rw [this]
          cases hq; rfl
      simp only [Instr.findNow, hsame]
      cases b with
      | true => cases h; exact ⟨_, rfl, rfl, hr.2.1⟩
      | false => exact findNow_some hk hkr hr.2.2.2 h
  | [], _ :: _, _, _, hr, _ => hr.elim
  | _ :: _, [], _, _, hr, _ => hr.elim

theorem findKey_sound {kt : TypeId} {p : PT} (hp : ptOf P 20 kt = some p) {k k' : Value} (hkr : RelV φ k k') {es : List (Value × Value × Nat)} {es' : List MapEntry} {r : Option (Nat × Value)} (hr : EntRel φ es es') (h : findE p k es 0 = some r) :
    ∃ r', (Instr.findKey kt k' es').run P W = .ok r' W ∧ FoundRel φ r r' := by
  obtain ⟨u, hu, hkind⟩ := ptOf_kind hp
  simp only [Instr.findKey, Sem.run_bind, run_un hu, Result.andThen_ok]
  by_cases h3 : (p = .int ∧ ∃ k, u = .int k) ∨ (p = .bool ∧ u = .bool) ∨ (p = .str ∧ u = .string)
  · obtain ⟨r', g1, g2⟩ := findNow_some h3 hkr hr h
    exact ⟨r', by rw [g1]; rfl, g2⟩
  · have hst : ∃ fs, u = .struct fs := by
      rcases hkind with g | g | g | ⟨_, g⟩
      · exact absurd (.inl g) h3
      · exact absurd (.inr (.inl g)) h3
      · exact absurd (.inr (.inr g)) h3
      · exact g
    obtain ⟨fs, rfl⟩ := hst
    cases es' with
    | nil =>
      cases es with
      | nil => cases h; exact ⟨none, rfl, trivial⟩
      | cons x es => exact hr.elim
    | cons e es' =>
      have hn : Instr.findNow (.struct fs) k' (e :: es') 0 = none := by
        simp [Instr.findNow, Instr.sameNow]
      rw [hn]
      exact findAsking_sound hp hkr hr h

theorem getMap {c : Nat} {l : Loc} {es : List (Value × Value × Nat)} {ck : Nat} (s : Sim B W0 φ H.get? W) (hl : φ c = some l) (hg : H.get? c = some (.map es ck)) :
    ∃ es', W.heap[l.b]? = some (.map es' ck) ∧ EntRel φ es es'.toList ∧ (getObj l.b).run P W = .ok (.map es' ck) W := by
  obtain ⟨h1, h2, h3, es', h4, h5⟩ := s.obj c l _ hl hg
  exact ⟨es', h4, h5, by simp [getObj, Sem.run, h4]⟩

theorem EntRel.length {φ : Emb} : ∀ {es : List (Value × Value × Nat)} {es' : List MapEntry}, EntRel φ es es' → es.length = es'.length
  | [], [], _ => rfl
  | (k, v, n) :: es, e :: es', h => by simp [EntRel.length h.2.2.2]
  | [], _ :: _, h => h.elim
  | _ :: _, [], h => h.elim

theorem prim_look {t kt e : TypeId} {p : PT} {z x x' k k' : Value} {ok : Bool} (s : Sim B W0 φ H.get? W) (ht : P.underlying t = some (.map kt e)) (hp : ptOf P 20 kt = some p) (hz : zeroOf P e = some z) (hx : RelV φ x x') (hk : RelV φ k k')
    (hks : (eqPT p k k).isSome = true)
    (h : (match (generalizing := false) x with
      | .map none => some (if ok then Value.tuple #[z, .bool false] else z, H)
      | .map (some c) => (match H.get? c with
        | some (.map es _) => (match findE p k es 0 with
          | some (some (_, v)) => some (if ok then .tuple #[v, .bool true] else v, H)
          | some none => some (if ok then .tuple #[z, .bool false] else z, H)
          | none => none)
        | _ => none)
      | _ => none) = some (v, H')) :
    Prim B W0 φ H W ((do pure (Next.value (← Instr.lookup t x' k' ok)) : Sem Next).run P W) v H' := by
  obtain ⟨hr, hpz⟩ := run_zv (W := W) hz
  have rel2 : ∀ {a a' : Value} (c : Bool), RelV φ a a' → RelV φ (if ok then .tuple #[a, .bool c] else a) (if ok then .tuple #[a', .bool c] else a') := fun c hv0 => by
    clear h
    cases ok
    · exact hv0
    · exact relV_tuple_mk (RelL.cons hv0 (RelL.cons (.bool c) .nil))
  have hck : ∀ em, (Instr.checkKey em 10000 kt k').run P W = .ok () W := fun em => checkKey_sound em 20 10000 (by omega) hp hks hk
  cases x with
  | map r =>
    cases r with
    | none =>
      have := relV_nilm hx; subst this
      simp only [Option.some.injEq, Prod.mk.injEq] at h
      obtain ⟨rfl, rfl⟩ := h
      obtain ⟨r', g1, g2⟩ := findKey_sound (P := P) (W := W) hp hk (es := []) (es' := []) trivial (r := none) rfl
      cases r' with
      | some q => exact g2.elim
      | none =>
        refine Prim.pure s ?_ (rel2 false (.plain hpz))
        simp only [Instr.lookup, Sem.run_bind, run_un ht, Result.andThen_ok, Sem.run_pure, hck, g1, hr]
    | some c =>
      obtain ⟨l, hl, hb, rfl⟩ := relV_map hx
      simp only at h
      split at h
      · rename_i es ck hg
        obtain ⟨es', h4, h5, h6⟩ := getMap (P := P) s hl hg
        cases hf : findE p k es 0 with
        | none => rw [hf] at h; cases h
        | some r =>
          rw [hf] at h
          obtain ⟨r', g1, g2⟩ := findKey_sound (P := P) (W := W) hp hk h5 hf
          cases r with
          | none =>
            simp only [Option.some.injEq, Prod.mk.injEq] at h
            obtain ⟨rfl, rfl⟩ := h
            cases r' with
            | some q => exact g2.elim
            | none =>
              refine Prim.pure s ?_ (rel2 false (.plain hpz))
              simp only [Instr.lookup, Sem.run_bind, run_un ht, h6, Result.andThen_ok, Sem.run_pure, hck, g1, hr]
          | some q =>
            obtain ⟨i, u⟩ := q
            simp only [Option.some.injEq, Prod.mk.injEq] at h
            obtain ⟨rfl, rfl⟩ := h
            cases r' with
            | none => exact g2.elim
            | some q' =>
              obtain ⟨j, u'⟩ := q'
              refine Prim.pure s ?_ (rel2 true g2.2)
              simp only [Instr.lookup, Sem.run_bind, run_un ht, h6, Result.andThen_ok, Sem.run_pure, hck, g1]
      · cases h
  | _ => simp at h


theorem beqL_sound {n : Nat} (h : ∀ a b, beqV n a b = true → a = b) : ∀ aS bs, beqL n aS bs = true → aS = bs
  | [], [], _ => rfl
  | a :: aS, b :: bs, g => by
    simp only [beqL, Bool.and_eq_true] at g
    rw [h a b g.1, beqL_sound h aS bs g.2]
  | [], _ :: _, g => by simp [beqL] at g
  | _ :: _, [], g => by simp [beqL] at g
theorem bytes_eq {a b : ByteArray} (h : (a == b) = true) : a = b := by
  rw [beq_toListBytes] at h
  simp only [beq_iff_eq, ByteArray.toList_eq] at h
  exact ByteArray.ext (Array.ext' h)
theorem bytes_refl (a : ByteArray) : (a == a) = true := by rw [beq_toListBytes]; simp
theorem beqV_sound : ∀ (n : Nat) (a b : Value), beqV n a b = true → a = b
  | 0, a, b, h => by simp [beqV] at h
  | n + 1, .bool a, b, h => by cases b <;> simp [beqV] at h; rw [h]
  | n + 1, .int k a, b, h => by cases b <;> simp [beqV] at h; rw [h.1, h.2]
  | n + 1, .string a, b, h => by
    cases b <;> simp only [beqV] at h <;> first | (cases h; done) | skip
    rw [bytes_eq h]
  | n + 1, .pointer a, b, h => by cases b <;> simp [beqV] at h; rw [h]
  | n + 1, .slice a i j, b, h => by cases b <;> simp [beqV] at h; rw [h.1.1, h.1.2, h.2]
  | n + 1, .map a, b, h => by cases b <;> simp [beqV] at h; rw [h]
  | n + 1, .nilFunc, b, h => by cases b <;> simp [beqV] at h; rfl
  | n + 1, .nilIface, b, h => by cases b <;> simp [beqV] at h; rfl
  | n + 1, .iface t v, b, h => by
    cases b <;> simp [beqV] at h
    rw [h.1, beqV_sound n _ _ h.2]
  | n + 1, .agg a, b, h => by
    cases b <;> simp only [beqV] at h <;> first | (cases h; done) | skip
    rename_i ys
    have := beqL_sound (beqV_sound n) _ _ h
    rw [show a = ys from Array.ext' this]
  | n + 1, .float _ _, b, h => by cases b <;> simp [beqV] at h
  | n + 1, .complex _ _ _, b, h => by cases b <;> simp [beqV] at h
  | n + 1, .chan _, b, h => by cases b <;> simp [beqV] at h
  | n + 1, .func _ _ _, b, h => by cases b <;> simp [beqV] at h
  | n + 1, .tuple _, b, h => by cases b <;> simp [beqV] at h

theorem rel_plain1 {v v' : Value} (h : plain1 v = true) (r : RelV φ v v') : v' = v := by
  cases r <;> first | rfl | (simp [plain1, unk] at h)
theorem rel_plain {v v' : Value} (h : plainV v = true) (r : RelV φ v v') : v' = v := by
  cases v with
  | agg cs =>
    obtain ⟨b, rfl, ho, hr⟩ := relV_agg_left r
    congr 1
    apply Array.ext'
    apply List.ext_getElem?
    intro i
    have hall : cs.toList.all plain1 = true := h
    rw [List.all_eq_true] at hall
    cases hc : cs.toList[i]? with
    | none =>
      rw [List.getElem?_eq_none_iff] at hc ⊢
      rw [← hr.1]; exact hc
    | some v =>
      obtain ⟨w, p, q⟩ := hr.get hc
      rw [p, rel_plain1 (hall v (List.mem_of_getElem? hc)) q]
  | _ => exact rel_plain1 h r
theorem plain1_of_key1 {v : Value} (h : key1 v = true) : plain1 v = true := by cases v <;> simp_all [key1, plain1]
theorem plainV_of_keyV {v : Value} (h : keyV v = true) : plainV v = true := by
  cases v with
  | agg cs =>
    have h' : cs.toList.all key1 = true := h
    show cs.toList.all plain1 = true
    rw [List.all_eq_true] at *
    exact fun v hv => plain1_of_key1 (h' v hv)
  | _ => first | (cases h; done) | rfl
theorem sameBits_key1 (n : Nat) {v : Value} (h : key1 v = true) : Instr.sameBits n v v = true := by
  cases v with
  | bool b => cases n <;> simp [Instr.sameBits]
  | int k m => cases n <;> simp [Instr.sameBits]
  | string b => cases n <;> simp only [Instr.sameBits] <;> exact bytes_refl b
  | _ => simp [key1] at h
theorem sameBits_key {k : Value} (h : keyV k = true) : Instr.sameBits 10000 k k = true := by
  generalize hn : 9999 = n
  have e : 10000 = n + 1 := by omega
  rw [e]
  cases k with
  | agg cs =>
    have h' : cs.toList.all key1 = true := h
    simp only [Instr.sameBits, beq_self_eq_true, Bool.true_and]
    rw [List.all_eq_true] at *
    rintro ⟨x, y⟩ hxy
    obtain ⟨i, hi⟩ := List.getElem?_of_mem hxy
    rw [List.getElem?_zip_eq_some] at hi
    have hx : x = y := by have := hi.1.symm.trans hi.2; simpa using this
    subst hx
    exact sameBits_key1 n (h' x (List.mem_of_getElem? hi.1))
  | _ => exact sameBits_key1 _ h

theorem Sim.setMap {c : Nat} {l : Loc} {es es2 : List (Value × Value × Nat)} {ck ck2 : Nat} {es2' : Array MapEntry} (s : Sim B W0 φ H.get? W) (hl : φ c = some l) (hg : H.get? c = some (.map es ck)) (he : EntRel φ es2 es2'.toList) :
    Sim B W0 φ (H.set c (.map es2 ck2)).get? { W with heap := W.heap.setIfInBounds l.b (.map es2' ck2) } ∧ Ext φ φ H (H.set c (.map es2 ck2)) W { W with heap := W.heap.setIfInBounds l.b (.map es2' ck2) } := by
  have hcd := Heap.get?_lt hg
  obtain ⟨h1, h2, h3, es', h4, h5⟩ := s.obj c l _ hl hg
  have hlt := s.lt c l hl
  have hother : ∀ k, k ≠ l.b → (W.heap.setIfInBounds l.b (.map es2' ck2))[k]? = W.heap[k]? := fun k hk => by
    rw [Array.getElem?_setIfInBounds_ne (by omega)]
  refine ⟨⟨?_, by simp; exact s.inB, fun c' l' h => by simp; exact s.lt c' l' h, ?_, ?_⟩,
    ⟨fun _ _ h => h, fun c' l' h h' => (by rw [h] at h'; cases h'), fun c' l' h h' => (by rw [h] at h'; cases h'), ?_, ?_, ?_, by simp, Nat.le_refl _⟩⟩
  · exact s.below.trans ⟨rfl, rfl, rfl, by simp, fun k hk => hother k (by omega)⟩
  · intro c' l' o' h h'
    by_cases hc : c' = c
    · subst hc
      rw [hl] at h; cases h
      rw [Heap.get?_set_same hg] at h'; cases h'
      exact ⟨h1, h2, h3, es2', by simp [hlt], he⟩
    · rw [Heap.get?_set_other hcd hc] at h'
      by_cases hb : l'.b = l.b
      · have old := s.obj c' l' o' h h'
        cases o' with
        | dead => trivial
        | ro cs' => have := old.1; omega
        | rw cs' => exact absurd (s.inj c' c l' l _ _ h hl h' hg rfl rfl hb) hc
        | loose e cs' => exact absurd (s.inj c' c l' l _ _ h hl h' hg rfl rfl hb) hc
        | map es k => exact absurd (s.inj c' c l' l _ _ h hl h' hg rfl rfl hb) hc
      · exact (s.obj c' l' o' h h').keep (fun _ _ h => h) (hother _ hb)
  · intro c1 c2 l1 l2 o1 o2 g1 g2 p1 p2 e1 e2 e
    have back : ∀ d od, (H.set c (.map es2 ck2)).get? d = some od → od.excl = true → ∃ od', H.get? d = some od' ∧ od'.excl = true := by
      intro d od hd he
      by_cases hdc : d = c
      · subst hdc; exact ⟨_, hg, rfl⟩
      · rw [Heap.get?_set_other hcd hdc] at hd; exact ⟨od, hd, he⟩
    obtain ⟨o1', q1, r1⟩ := back c1 o1 p1 e1
    obtain ⟨o2', q2, r2⟩ := back c2 o2 p2 e2
    exact s.inj c1 c2 l1 l2 o1' o2' g1 g2 q1 q2 r1 r2 e
  · intro b _ hno
    exact hother b fun e => hno c l _ hl hg rfl e.symm
  · intro c' _ hn
    exact Heap.get?_set_other hcd fun e => by subst e; rw [hl] at hn; cases hn
  · intro c' o' _ h e
    by_cases hc : c' = c
    · subst hc; exact ⟨_, hg, rfl⟩
    · rw [Heap.get?_set_other hcd hc] at h; exact ⟨o', h, e⟩

theorem EntRel.get {φ : Emb} : ∀ {es : List (Value × Value × Nat)} {es' : List MapEntry} {i : Nat} {x v : Value} {n : Nat}, EntRel φ es es' → es[i]? = some (x, v, n) → ∃ e, es'[i]? = some e ∧ RelV φ x e.key ∧ RelV φ v e.val ∧ e.born = n
  | (k, v, n) :: es, e :: es', 0, x, w, m, h, g => by simp at g; obtain ⟨rfl, rfl, rfl⟩ := g; exact ⟨e, rfl, h.1, h.2.1, h.2.2.1⟩
  | (k, v, n) :: es, e :: es', i + 1, x, w, m, h, g => by simp at g; simpa using EntRel.get h.2.2.2 g
  | [], [], _, _, _, _, _, g => by simp at g
  | [], _ :: _, _, _, _, _, h, _ => h.elim
  | _ :: _, [], _, _, _, _, h, _ => h.elim
theorem EntRel.modify {φ : Emb} {u u' : Value} (hu : RelV φ u u') (key : Value) : ∀ {es : List (Value × Value × Nat)} {es' : List MapEntry} {i : Nat}, EntRel φ es es' → (∀ e, es'[i]? = some e → key = e.key) →
    EntRel φ (es.modify i fun e => (e.1, u, e.2.2)) (es'.modify i fun e => { e with key := key, val := u' })
  | [], [], i, _, _ => by simp [EntRel]
  | (k, v, n) :: es, e :: es', 0, h, hk => by
    simp only [List.modify_zero_cons]
    have := hk e rfl
    subst this
    exact ⟨h.1, hu, h.2.2.1, h.2.2.2⟩
  | (k, v, n) :: es, e :: es', i + 1, h, hk => by
    simp only [List.modify_succ_cons]
    exact ⟨h.1, h.2.1, h.2.2.1, EntRel.modify hu key h.2.2.2 (fun e' he => hk e' (by simpa using he))⟩
  | [], _ :: _, _, h, _ => h.elim
  | _ :: _, [], _, h, _ => h.elim
theorem EntRel.snoc {φ : Emb} {k k' v v' : Value} {n : Nat} (hk : RelV φ k k') (hv : RelV φ v v') : ∀ {es : List (Value × Value × Nat)} {es' : List MapEntry}, EntRel φ es es' → EntRel φ (es ++ [(k, v, n)]) (es' ++ [{ key := k', val := v', born := n }])
  | [], [], _ => ⟨hk, hv, rfl, trivial⟩
  | (a, b, m) :: es, e :: es', h => ⟨h.1, h.2.1, h.2.2.1, EntRel.snoc hk hv h.2.2.2⟩
  | [], _ :: _, h => h.elim
  | _ :: _, [], h => h.elim

theorem prim_mset {t kt e : TypeId} {p : PT} {c ck : Nat} {x' k k' u u' : Value} {es : List (Value × Value × Nat)} (s : Sim B W0 φ H.get? W) (ht : P.underlying t = some (.map kt e)) (hp : ptOf P 20 kt = some p)
    (hx : RelV φ (.map (some c)) x') (hk : RelV φ k k') (hu : RelV φ u u') (hks : (eqPT p k k).isSome = true) (hg : H.get? c = some (.map es ck))
    (h : (match findE p k es 0 with
          | some (some (i, _)) => (match es[i]? with
            | some (x, _, _) => if keyV x && beqV 9 x k then some (undef, H.set c (.map (es.modify i fun e => (e.1, u, e.2.2)) ck)) else none
            | none => none)
          | some none => some (undef, H.set c (.map (es ++ [(k, u, ck)]) (ck + 1)))
          | none => none) = some (v, H')) :
    Prim B W0 φ H W ((do Instr.mapUpdate t x' k' u'; pure Next.skip : Sem Next).run P W) v H' := by
  obtain ⟨l, hl, hb, rfl⟩ := relV_map hx
  obtain ⟨es', h4, h5, h6⟩ := getMap (P := P) s hl hg
  have hck : (Instr.checkKey false 10000 kt k').run P W = .ok () W := checkKey_sound false 20 10000 (by omega) hp hks hk
  have hset : ∀ o, (setObj l.b o).run P W = .ok () { W with heap := W.heap.setIfInBounds l.b o } := fun o => by simp [setObj, Sem.run, h4]
  cases hf : findE p k es 0 with
  | none => rw [hf] at h; cases h
  | some r =>
    rw [hf] at h
    obtain ⟨r', g1, g2⟩ := findKey_sound (P := P) (W := W) hp hk h5 hf
    cases r with
    | none =>
      simp only [Option.some.injEq, Prod.mk.injEq] at h
      obtain ⟨rfl, rfl⟩ := h
      cases r' with
      | some q => exact g2.elim
      | none =>
        obtain ⟨s', x'⟩ := s.setMap (es2 := es ++ [(k, u, ck)]) (ck2 := ck + 1) (es2' := es'.push { key := k', val := u', born := ck }) hl hg (by simpa using EntRel.snoc hk hu h5)
        refine ⟨φ, undef, _, .inr ⟨?_, rfl⟩, relV_undef, s', x'⟩
        simp only [Instr.mapUpdate, Sem.run_bind, run_un ht, Result.andThen_ok, h6, hck, g1, hset, Sem.run_pure]
    | some q =>
      obtain ⟨i, w⟩ := q
      simp only at h
      cases hi : es[i]? with
      | none => rw [hi] at h; cases h
      | some q =>
        obtain ⟨x, w0, m⟩ := q
        rw [hi] at h
        simp only at h
        split at h
        · rename_i hcond
          simp only [Option.some.injEq, Prod.mk.injEq] at h
          obtain ⟨rfl, rfl⟩ := h
          simp only [Bool.and_eq_true] at hcond
          have hxk := beqV_sound _ _ _ hcond.2
          subst hxk
          cases r' with
          | none => exact g2.elim
          | some q' =>
            obtain ⟨j, w'⟩ := q'
            obtain ⟨rfl, hw⟩ := g2
            obtain ⟨en, he1, he2, he3, he4⟩ := EntRel.get h5 hi
            have hp1 := plainV_of_keyV hcond.1
            have hk1 := rel_plain hp1 hk
            have hk2 := rel_plain hp1 he2
            subst hk1
            have hkeep : (Instr.keyThatStays (((es'[i]?).map (·.key)).getD k') k').run P W = .ok k' W := by
              have : es'[i]? = some en := by simpa using he1
              rw [this]
              simp only [Option.map_some, Option.getD_some, hk2, Instr.keyThatStays, sameBits_key hcond.1, if_true, Sem.run_pure]
            obtain ⟨s', x'⟩ := s.setMap (es2 := es.modify i fun e => (e.1, u, e.2.2)) (ck2 := ck) (es2' := es'.modify i fun e => { e with key := k', val := u' }) hl hg (by
              rw [Array.toList_modify]
              exact EntRel.modify hu k' h5 (fun e he => by rw [he1] at he; cases he; exact hk2.symm))
            refine ⟨φ, undef, _, .inr ⟨?_, rfl⟩, relV_undef, s', x'⟩
            simp only [Instr.mapUpdate, Sem.run_bind, run_un ht, Result.andThen_ok, h6, hck, g1, hkeep, hset, Sem.run_pure]
        · cases h

end
end Go.Cm

/- The canonical machine's primitive operations: every one that is resolved and succeeds is a step of the model's. Conditions: none. -/
namespace Go.Cm
open Go.RowKit
set_option linter.unusedVariables false
set_option linter.unusedSimpArgs false

section
variable {B : Nat} {W0 : World} {φ : Emb} {H H' : Heap} {W : World} {v v' : Value} {P : Program} {G : Nat} {ρ ρ' : Operand → Value}

theorem run_builtin {b : Builtin} {c : Call} {o : Oper} (hc : c.callee = .builtin b) : (do let d ← resolve ρ' c o.type; invoke d.target d.args : Sem Next).run P W =
    (builtin b c.argTypes o.type (c.args.map fun | .const _ => true | _ => false) (c.args.map ρ')).run P W := by
  simp [resolve, hc, invoke]
  rfl

theorem binOp_eq_run {t : TypeId} {b : Bool} : ∀ (x y : Value), (Op.equal t x y).run P W = .ok b W → (∀ k n, x ≠ .int k n) → (∀ q, x ≠ .string q) → (∀ k n, x ≠ .float k n) → (∀ k n m, x ≠ .complex k n m) →
    (binOp .eql t x y).run P W = .ok (.bool b) W ∧ (binOp .neq t x y).run P W = .ok (.bool !b) W
  | .int k n, _, _, h, _, _, _ => absurd rfl (h k n)
  | .string q, _, _, _, h, _, _ => absurd rfl (h q)
  | .float k n, _, _, _, _, h, _ => absurd rfl (h k n)
  | .complex k n m, _, _, _, _, _, h => absurd rfl (h k n m)
  | .bool a, y, h, _, _, _, _ => by cases y <;> simp [binOp, h]
  | .pointer a, y, h, _, _, _, _ => by cases y <;> simp [binOp, h]
  | .slice a i j, y, h, _, _, _, _ => by cases y <;> simp [binOp, h]
  | .map a, y, h, _, _, _, _ => by cases y <;> simp [binOp, h]
  | .chan a, y, h, _, _, _, _ => by cases y <;> simp [binOp, h]
  | .func a i j, y, h, _, _, _, _ => by cases y <;> simp [binOp, h]
  | .nilFunc, y, h, _, _, _, _ => by cases y <;> simp [binOp, h]
  | .iface a i, y, h, _, _, _, _ => by cases y <;> simp [binOp, h]
  | .nilIface, y, h, _, _, _, _ => by cases y <;> simp [binOp, h]
  | .agg a, y, h, _, _, _, _ => by cases y <;> simp [binOp, h]
  | .tuple a, y, h, _, _, _, _ => by cases y <;> simp [binOp, h]

theorem optRel {x : Option Operand} (hρ : ∀ x, okX G x = true → RelV φ (ρ x) (ρ' x)) (h : ∀ y, x = some y → okX G y = true) : ∀ y, x = some y → RelV φ (ρ y) (ρ' y) := fun y hy => hρ y (h y hy)

set_option maxHeartbeats 1000000 in
theorem prim_sound {o : Oper} (s : Sim B W0 φ H.get? W) (hρ : ∀ x ∈ o.op.operands.toList, RelV φ (ρ x) (ρ' x)) (hc : cop ρ H (resOp P G o.op) = some (v, H')) (free : Free φ H H') :
    Prim B W0 φ H W ((execOp ρ' o).run P W) v H' := by
  unfold resOp at hc
  split at hc
  rotate_left
  · simp [cop] at hc
  rename_i hok
  rw [List.all_eq_true] at hok
  obtain ⟨dst, op, type, pos, after, guard⟩ := o
  cases op with
  | move x =>
    have hx := hρ x (by simp [Op.operands])
    simp only [resO, cop, Option.some.injEq, Prod.mk.injEq] at hc
    obtain ⟨rfl, rfl⟩ := hc
    exact Prim.pure s rfl hx
  | assign x =>
    have hx := hρ x (by simp [Op.operands])
    simp only [resO, cop, Option.some.injEq, Prod.mk.injEq] at hc
    obtain ⟨rfl, rfl⟩ := hc
    exact Prim.pure s rfl hx
  | pick c a b =>
    have h1 := hρ c (by simp [Op.operands])
    have h2 := hρ a (by simp [Op.operands])
    have h3 := hρ b (by simp [Op.operands])
    simp only [resO, cop] at hc
    split at hc
    · rename_i t ht
      simp only [Option.some.injEq, Prod.mk.injEq] at hc
      obtain ⟨rfl, rfl⟩ := hc
      rw [ht] at h1
      have hb := relV_bool h1
      refine Prim.pure (v' := if t then ρ' a else ρ' b) s ?_ (by cases t; exact h3; exact h2)
      simp [execOp, hb, asBool]
    · cases hc
  | alloc e =>
    simp only [resO] at hc
    split at hc
    · rename_i z hz
      simp only [cop, Option.some.injEq, Prod.mk.injEq] at hc
      obtain ⟨rfl, rfl⟩ := hc
      exact prim_new s free hz
    · simp [cop] at hc
  | box e x =>
    have hx := hρ x (by simp [Op.operands])
    simp only [resO, cop] at hc
    split at hc
    · rename_i cs hcs
      simp only [Option.some.injEq, Prod.mk.injEq] at hc
      obtain ⟨rfl, rfl⟩ := hc
      exact prim_box s free hx hcs
    · cases hc
  | build t ps =>
    have hps : ∀ p ∈ ps.toList, RelV φ (ρ p.2) (ρ' p.2) := fun p hp => hρ _ (by simp [Op.operands]; exact ⟨_, by simpa using hp⟩)
    simp only [resO] at hc
    split at hc
    · rename_i fs z ht hz
      split at hc
      · simp [cop] at hc
      rename_i ha
      split at hc
      · rename_i l hl
        simp only [cop] at hc
        split at hc
        · rename_i cs hcs
          simp only [Option.some.injEq, Prod.mk.injEq] at hc
          obtain ⟨rfl, rfl⟩ := hc
          exact prim_buildSt s ht hz (by simpa using ha) hl hps hcs
        · cases hc
      · simp [cop] at hc
    · rename_i n e z ht hz
      split at hc
      · rename_i sz hs
        simp only [cop] at hc
        split at hc
        · rename_i cs hcs
          simp only [Option.some.injEq, Prod.mk.injEq] at hc
          obtain ⟨rfl, rfl⟩ := hc
          exact prim_buildAr s ht hz hs hps hcs
        · cases hc
      · simp [cop] at hc
    · simp [cop] at hc
  | buildSlice t len ps =>
    have hps : ∀ p ∈ ps.toList, RelV φ (ρ p.2) (ρ' p.2) := fun p hp => hρ _ (by simp [Op.operands]; exact ⟨_, by simpa using hp⟩)
    simp only [resO] at hc
    split at hc
    · rename_i e ht
      split at hc
      · rename_i sz z hs hz
        split at hc
        · rename_i hcond
          simp only [cop] at hc
          split at hc
          · rename_i cs hcs
            simp only [Option.some.injEq, Prod.mk.injEq] at hc
            obtain ⟨rfl, rfl⟩ := hc
            exact prim_buildSlice s free ht hz hs hcond.1 hcond.2.1 hcond.2.2 hps hcs
          · cases hc
        · simp [cop] at hc
      · simp [cop] at hc
    · simp [cop] at hc
  | load t x =>
    have hx := hρ x (by simp [Op.operands])
    simp only [resO] at hc
    split at hc
    · rename_i n ha hn
      simp only [cop] at hc
      split at hc
      · rename_i a hxa
        rw [hxa] at hx
        split at hc
        · rename_i vs hvs
          simp only [Option.some.injEq, Prod.mk.injEq] at hc
          obtain ⟨rfl, rfl⟩ := hc
          exact prim_loadN s hx ha hn hvs
        · cases hc
      · cases hc
    · rename_i n ha hn
      simp only [cop] at hc
      split at hc
      · rename_i a hxa
        rw [hxa] at hx
        split at hc
        · rename_i vs hvs
          simp only [Option.some.injEq, Prod.mk.injEq] at hc
          obtain ⟨rfl, rfl⟩ := hc
          exact prim_load1 s hx ha hvs
        · cases hc
      · cases hc
    · simp [cop] at hc
  | store t x u =>
    have hx := hρ x (by simp [Op.operands])
    have hu := hρ u (by simp [Op.operands])
    simp only [resO] at hc
    split at hc
    · rename_i n hn
      simp only [cop] at hc
      split at hc
      · rename_i a vs hxa hvs
        rw [hxa] at hx
        split at hc
        · rename_i hlen
          split at hc
          · rename_i H2 hw
            simp only [Option.some.injEq, Prod.mk.injEq] at hc
            obtain ⟨rfl, rfl⟩ := hc
            exact prim_store s hx hu hn hvs hlen hw
          · cases hc
        · cases hc
      · cases hc
    · simp [cop] at hc
  | nilCheck x =>
    have hx := hρ x (by simp [Op.operands])
    simp only [resO, cop] at hc
    split at hc
    · rename_i a hxa
      simp only [Option.some.injEq, Prod.mk.injEq] at hc
      obtain ⟨rfl, rfl⟩ := hc
      rw [hxa] at hx
      obtain ⟨c, o, l, rfl, hl, he⟩ := relV_ptr hx
      exact Prim.pure (v' := ρ' x) s (by simp [execOp, he]) hx
    · rename_i f a b hxa
      simp only [Option.some.injEq, Prod.mk.injEq] at hc
      obtain ⟨rfl, rfl⟩ := hc
      rw [hxa] at hx
      obtain ⟨b', d', he, _, _⟩ := relV_func hx
      exact Prim.pure (v' := ρ' x) s (by simp [execOp, he]) hx
    · cases hc
  | binOp op t x y yt =>
    have hx := hρ x (by simp [Op.operands])
    have hy := hρ y (by simp [Op.operands])
    have har : ∀ {w : Value} {H2 : Heap}, cop ρ H (.ar op x y) = some (w, H2) → Prim B W0 φ H W ((execOp ρ' ⟨dst, .binOp op t x y yt, type, pos, after, guard⟩).run P W) w H2 := by
      intro w H2 h
      simp only [cop] at h
      split at h
      · rename_i u hu
        simp only [Option.some.injEq, Prod.mk.injEq] at h
        obtain ⟨rfl, rfl⟩ := h
        exact prim_ar s hx hy hu
      · cases h
    have heq : ∀ (neg : Bool), op = (if neg then .neq else .eql) → cop ρ H (resEq P neg op t x y) = some (v, H') → Prim B W0 φ H W ((execOp ρ' ⟨dst, .binOp op t x y yt, type, pos, after, guard⟩).run P W) v H' := by
      intro neg hop h
      have fin : ∀ {b : Bool}, (eqGuard op t x y (ρ' x) (ρ' y)).run P W = .ok () W → (Op.equal t (ρ' x) (ρ' y)).run P W = .ok b W → (∀ k n, ρ' x ≠ .int k n) → (∀ q, ρ' x ≠ .string q) → (∀ k n, ρ' x ≠ .float k n) → (∀ k n m, ρ' x ≠ .complex k n m) →
          (some (Value.bool (if neg then !b else b), H) = some (v, H')) → Prim B W0 φ H W ((execOp ρ' ⟨dst, .binOp op t x y yt, type, pos, after, guard⟩).run P W) v H' := by
        intro b g1 g2 g3 g4 g5 g6 g7
        simp only [Option.some.injEq, Prod.mk.injEq] at g7
        obtain ⟨rfl, rfl⟩ := g7
        refine Prim.pure s ?_ (.bool _)
        obtain ⟨e1, e2⟩ := binOp_eq_run _ _ g2 g3 g4 g5 g6
        subst hop
        cases neg with
        | true =>
          simp only [if_true] at g1 ⊢
          simp [execOp, g1, e2]
        | false =>
          simp only [Bool.false_eq_true, if_false] at g1 ⊢
          simp [execOp, g1, e1]
      have plain : cop ρ H (.ar op x y) = some (v, H') → Prim B W0 φ H W ((execOp ρ' ⟨dst, .binOp op t x y yt, type, pos, after, guard⟩).run P W) v H' := har
      have viaEq : ∀ (et : EqT), EqTy P t x y et → cop ρ H (.eq neg et x y) = some (v, H') → Prim B W0 φ H W ((execOp ρ' ⟨dst, .binOp op t x y yt, type, pos, after, guard⟩).run P W) v H' := by
        intro et hty h
        simp only [cop] at h
        split at h
        · rename_i b hb
          obtain ⟨q1, q2, q3, q4, q5, q6⟩ := eqVal_sound (P := P) (W := W) (ty := t) (op := op) (ox := x) (oy := y) hx hy hb hty
          exact fin q1 q2 q3 q4 q5 q6 h
        · cases h
      unfold resEq at h
      split at h
      · exact har h
      · exact har h
      · rename_i hu; exact viaEq .bool hu h
      · rename_i e hu; exact viaEq .ptr ⟨e, hu⟩ h
      · rename_i e hu; exact viaEq .slice ⟨e, hu⟩ h
      · rename_i k e hu; exact viaEq .map ⟨k, e, hu⟩ h
      · rename_i a b c hu; exact viaEq .func ⟨a, b, c, hu⟩ h
      · rename_i ms hu
        by_cases hn : (nilC x || nilC y) = true
        · rw [if_pos hn] at h; exact viaEq .ifaceC ⟨⟨ms, hu⟩, hn⟩ h
        · rw [if_neg hn] at h; exact viaEq .iface ⟨ms, hu⟩ h
      · rename_i fs hu
        split at h
        · simp [cop] at h
        rename_i hgt
        split at h
        · rename_i p hp
          simp only [cop] at h
          split at h
          · rename_i b hb
            have hb' : eqPT p (ρ x) (ρ y) = some b := hb
            have hs := eqPT_sound (P := P) (W := W) 20 10000 (by omega) hp hb' hx hy
            obtain ⟨u, hu2, hk⟩ := ptOf_kind hp
            rw [hu] at hu2
            cases hu2
            have hst : ∃ l, p = .st l := by
              rcases hk with ⟨_, _, g⟩ | ⟨_, g⟩ | ⟨_, g⟩ | ⟨g, _⟩ <;> first | (cases g; done) | exact g
            obtain ⟨l, rfl⟩ := hst
            cases hX : ρ x with
            | agg xs =>
              cases hY : ρ y with
              | agg ys =>
                rw [hX] at hx; rw [hY] at hy
                obtain ⟨xs', e1, _, _⟩ := relV_agg_left hx
                obtain ⟨ys', e2, _, _⟩ := relV_agg_left hy
                refine fin ?_ hs (by rw [e1]; simp) (by rw [e1]; simp) (by rw [e1]; simp) (by rw [e1]; simp) h
                rw [e1, e2]
                exact run_eqGuard_agg W op t x y xs' ys' (by simpa using hgt)
              | _ => rw [hX, hY] at hb'; simp [eqPT] at hb'
            | _ => rw [hX] at hb'; simp [eqPT] at hb'
          · cases h
        · simp [cop] at h
      · simp [cop] at h
    simp only [resO] at hc
    split at hc
    · exact heq false rfl hc
    · exact heq true rfl hc
    · exact har hc
  | unOp op t x =>
    have hx := hρ x (by simp [Op.operands])
    simp only [resO, cop] at hc
    split at hc
    · rename_i u hu
      simp only [Option.some.injEq, Prod.mk.injEq] at hc
      obtain ⟨rfl, rfl⟩ := hc
      exact prim_un s hx hu
    · cases hc
  | convert sr ds x =>
    have hx := hρ x (by simp [Op.operands])
    simp only [resO] at hc
    split at hc
    · rename_i k0 k h1 h2
      simp only [cop] at hc
      split at hc
      · rename_i kk n hxn
        rw [hxn] at hx
        simp only [Option.some.injEq, Prod.mk.injEq] at hc
        obtain ⟨rfl, rfl⟩ := hc
        exact prim_conv s h1 h2 hx
      · cases hc
    · rename_i e h1 h2
      split at hc
      · rename_i h3
        simp only [cop] at hc
        split at hc
        · rename_i len cap hxn
          rw [hxn] at hx
          simp only [Option.some.injEq, Prod.mk.injEq] at hc
          obtain ⟨rfl, rfl⟩ := hc
          exact prim_convBS (a := none) (cs := []) (l := []) s h1 h2 h3 hx rfl rfl
        · rename_i a len cap hxn
          rw [hxn] at hx
          split at hc
          · rename_i cs hcs
            split at hc
            · rename_i l hl
              simp only [Option.some.injEq, Prod.mk.injEq] at hc
              obtain ⟨rfl, rfl⟩ := hc
              exact prim_convBS (a := some a) s h1 h2 h3 hx hcs hl
            · cases hc
          · cases hc
        · cases hc
      · simp [cop] at hc
    · rename_i e h1 h2
      split at hc
      · rename_i h3
        simp only [cop] at hc
        split at hc
        · rename_i sv hxn
          rw [hxn] at hx
          simp only [Option.some.injEq, Prod.mk.injEq] at hc
          obtain ⟨rfl, rfl⟩ := hc
          exact prim_convSB s free h1 h2 h3 hx
        · cases hc
      · simp [cop] at hc
    · simp [cop] at hc
  | makeInterface t x =>
    have hx := hρ x (by simp [Op.operands])
    simp only [resO] at hc
    split at hc
    · simp [cop] at hc
    · rename_i d hni hd
      simp only [cop] at hc
      split at hc
      · cases hc
      · rename_i u hu
        simp only [Option.some.injEq, Prod.mk.injEq] at hc
        obtain ⟨rfl, rfl⟩ := hc
        refine Prim.pure (v' := .iface t (ρ' x)) s ?_ (.iface hx)
        cases d with
        | interface ms => exact absurd rfl (hni ms)
        | _ => simp [execOp, Instr.makeInterface, run_un hd]
    · simp [cop] at hc
  | makeFunc fn first caps =>
    cases fn with
    | func f =>
      simp only [resO, cop, Option.some.injEq, Prod.mk.injEq] at hc
      obtain ⟨rfl, rfl⟩ := hc
      have rel : ∀ (l : Array Operand), (∀ x ∈ l, RelV φ (ρ x) (ρ' x)) → RelL φ (l.toList.map ρ).toArray.toList (l.map ρ').toList := by
        intro l hl
        refine ⟨by simp, fun i a b p q => ?_⟩
        simp only [List.getElem?_map, Array.toList_map] at p q
        cases hi : l.toList[i]? with
        | none => rw [hi] at p; cases p
        | some x =>
          rw [hi] at p q
          cases p; cases q
          exact hl x (by have := List.mem_of_getElem? hi; simpa using this)
      refine Prim.pure (v' := .func (.func f) (first.map ρ') (caps.map ρ')) s rfl (relV_func_mk (rel first ?_) (rel caps ?_))
      · intro x hx; exact hρ x (by simp [Op.operands, hx])
      · intro x hx; exact hρ x (by simp [Op.operands, hx])
    | _ => simp [resO, cop] at hc
  | makeMap t r =>
    cases r with
    | none =>
      simp only [resO, cop, Option.some.injEq, Prod.mk.injEq] at hc
      obtain ⟨rfl, rfl⟩ := hc
      exact prim_mkMap s free
    | some r => simp [resO, cop] at hc
  | makeSlice t l c =>
    have hl := hρ l (by simp [Op.operands])
    have hcc := hρ c (by simp [Op.operands])
    simp only [resO] at hc
    split at hc
    · rename_i e ht
      split at hc
      · rename_i sz z b hs hz hb
        split at hc
        · rename_i hcond
          simp only [cop] at hc
          split at hc
          · rename_i kl nl kc nc h1 h2
            rw [h1] at hl; rw [h2] at hcc
            split at hc
            · rename_i hcond2
              simp only [Option.some.injEq, Prod.mk.injEq] at hc
              obtain ⟨rfl, rfl⟩ := hc
              have e1 := relV_int hl
              have e2 := relV_int hcc
              simp only [execOp, e1, e2]
              exact prim_mkSl s free ht hz hs hb hcond.1 hcond.2 hcond2.1 hcond2.2.1 hcond2.2.2.1 hcond2.2.2.2
            · cases hc
          · cases hc
        · simp [cop] at hc
      · simp [cop] at hc
    · simp [cop] at hc
  | slice t x lo hi mx =>
    have hx := hρ x (by simp [Op.operands])
    have hlo : ∀ y, lo = some y → RelV φ (ρ y) (ρ' y) := fun y hy => hρ y (by simp [Op.operands, hy])
    have hhi : ∀ y, hi = some y → RelV φ (ρ y) (ρ' y) := fun y hy => hρ y (by simp [Op.operands, hy])
    have hmx : ∀ y, mx = some y → RelV φ (ρ y) (ρ' y) := fun y hy => hρ y (by simp [Op.operands, hy])
    simp only [resO] at hc
    split at hc
    · rename_i ht
      split at hc
      · simp [cop] at hc
      rename_i hmn
      have hmn : mx = none := by cases mx <;> simp_all
      subst hmn
      simp only [cop] at hc
      split at hc
      · rename_i sv hsv
        rw [hsv] at hx
        split at hc
        · rename_i l e m hb
          simp only [Option.some.injEq, Prod.mk.injEq] at hc
          obtain ⟨rfl, rfl⟩ := hc
          exact prim_slS s ht hx hlo hhi hb
        · cases hc
      · cases hc
    · rename_i el ht
      split at hc
      · rename_i sz hs
        simp only [cop] at hc
        split at hc
        · rename_i a len cap ha
          rw [ha] at hx
          split at hc
          · rename_i l e m hb
            exact prim_slV s ht hs hx hlo hhi hmx hb hc
          · cases hc
        · cases hc
      · simp [cop] at hc
    · rename_i n el ht
      split at hc
      · rename_i sz hs
        split at hc
        · simp [cop] at hc
        rename_i hmn
        have hmn : mx = none := by cases mx <;> simp_all
        subst hmn
        simp only [cop] at hc
        split at hc
        · rename_i a ha
          rw [ha] at hx
          split at hc
          · rename_i l e m hb
            simp only [Option.some.injEq, Prod.mk.injEq] at hc
            obtain ⟨rfl, rfl⟩ := hc
            exact prim_slA s ht hs hx hlo hhi hb
          · cases hc
        · cases hc
      · simp [cop] at hc
    · simp [cop] at hc
  | fieldAddr st x f =>
    have hx := hρ x (by simp [Op.operands])
    simp only [resO] at hc
    split at hc
    · rename_i fs ht
      split at hc
      · rename_i fd hf
        split at hc
        · rename_i n hn
          split at hc
          · simp [cop] at hc
          rename_i hn0
          simp only [cop] at hc
          split at hc
          · rename_i a ha
            rw [ha] at hx
            simp only [Option.some.injEq, Prod.mk.injEq] at hc
            obtain ⟨rfl, rfl⟩ := hc
            exact prim_fld s hx ht hf hn hn0
          · cases hc
        · simp [cop] at hc
      · simp [cop] at hc
    · simp [cop] at hc
  | indexAddr t x ix =>
    have hx := hρ x (by simp [Op.operands])
    have hi := hρ ix (by simp [Op.operands])
    simp only [resO] at hc
    split at hc
    · rename_i e ht
      split at hc
      · rename_i sz hs
        simp only [cop] at hc
        split at hc
        · rename_i a len cap k n h1 h2
          rw [h1] at hx; rw [h2] at hi
          split at hc
          · rename_i hcond
            simp only [Option.some.injEq, Prod.mk.injEq] at hc
            obtain ⟨rfl, rfl⟩ := hc
            have e1 := relV_int hi
            simp only [execOp, e1]
            exact prim_ixV s hx ht hs hcond.1 hcond.2
          · cases hc
        · cases hc
      · simp [cop] at hc
    · rename_i n e ht
      split at hc
      · rename_i sz hs
        simp only [cop] at hc
        split at hc
        · rename_i a k n h1 h2
          rw [h1] at hx; rw [h2] at hi
          split at hc
          · rename_i hcond
            simp only [Option.some.injEq, Prod.mk.injEq] at hc
            obtain ⟨rfl, rfl⟩ := hc
            have e1 := relV_int hi
            simp only [execOp, e1]
            exact prim_ixA s hx ht hs hcond.1 hcond.2
          · cases hc
        · cases hc
      · simp [cop] at hc
    · simp [cop] at hc
  | index t x ix =>
    have hx := hρ x (by simp [Op.operands])
    have hi := hρ ix (by simp [Op.operands])
    simp only [resO] at hc
    split at hc
    · rename_i ht
      simp only [cop] at hc
      split at hc
      · rename_i sv k n h1 h2
        rw [h1] at hx; rw [h2] at hi
        split at hc
        · rename_i h0
          split at hc
          · rename_i b hb
            simp only [Option.some.injEq, Prod.mk.injEq] at hc
            obtain ⟨rfl, rfl⟩ := hc
            have e1 := relV_int hi
            simp only [execOp, e1]
            exact prim_ixS s ht hx h0 hb
          · cases hc
        · cases hc
      · cases hc
    · rename_i n e ht
      split at hc
      · rename_i sz ag hs ha
        simp only [cop] at hc
        split at hc
        · rename_i cs k n h1 h2
          rw [h1] at hx; rw [h2] at hi
          have e1 := relV_int hi
          split at hc
          · rename_i hcond
            split at hc
            · rename_i hag
              simp only [Option.some.injEq, Prod.mk.injEq] at hc
              obtain ⟨rfl, rfl⟩ := hc
              simp only [execOp, e1]
              exact prim_ixG s ht hs ha hx hcond.1 hcond.2 (by rw [if_pos hag])
            · rename_i hag
              split at hc
              · rename_i u hu
                simp only [Option.some.injEq, Prod.mk.injEq] at hc
                obtain ⟨rfl, rfl⟩ := hc
                simp only [execOp, e1]
                exact prim_ixG s ht hs ha hx hcond.1 hcond.2 (by rw [if_neg hag]; exact hu)
              · cases hc
          · cases hc
        · cases hc
      · simp [cop] at hc
    · simp [cop] at hc
  | lookup t x k ok =>
    have hx := hρ x (by simp [Op.operands])
    have hk := hρ k (by simp [Op.operands])
    simp only [resO] at hc
    split at hc
    · rename_i kt e ht
      split at hc
      · rename_i p z hp hz
        simp only [cop] at hc
        split at hc
        · cases hc
        rename_i hks
        refine prim_look s ht hp hz hx hk (by cases hq : eqPT p (ρ k) (ρ k) <;> simp_all) ?_
        exact hc
      · simp [cop] at hc
    · simp [cop] at hc
  | mapUpdate t m k u =>
    have hm := hρ m (by simp [Op.operands])
    have hk := hρ k (by simp [Op.operands])
    have hu := hρ u (by simp [Op.operands])
    simp only [resO] at hc
    split at hc
    · rename_i kt e ht
      split at hc
      · rename_i p hp
        simp only [cop] at hc
        split at hc
        · cases hc
        rename_i hks
        split at hc
        · rename_i c hmc
          rw [hmc] at hm
          split at hc
          · rename_i es ck hg
            split at hc
            · exact prim_mset s ht hp hm hk hu (by cases hq : eqPT p (ρ k) (ρ k) <;> simp_all) hg hc
            · cases hc
          · cases hc
        · cases hc
      · simp [cop] at hc
    · simp [cop] at hc
  | typeAssert x xt t ok =>
    have hx := hρ x (by simp [Op.operands])
    simp only [resO] at hc
    split at hc
    · simp [cop] at hc
    · rename_i d z hni hd hz
      refine prim_tyA s hd (fun ms e => hni ms e) hz hx ?_
      simp only [cop] at hc
      exact hc
    · simp [cop] at hc
  | extract x i =>
    have hx := hρ x (by simp [Op.operands])
    simp only [resO, cop] at hc
    split at hc
    · rename_i vs hvs
      rw [hvs] at hx
      split at hc
      · rename_i u hu
        simp only [Option.some.injEq, Prod.mk.injEq] at hc
        obtain ⟨rfl, rfl⟩ := hc
        exact prim_ext s hx hu
      · cases hc
    · cases hc
  | call c =>
    obtain ⟨callee, args, argTypes⟩ := c
    cases callee with
    | value f => cases f <;> simp [resO, cop] at hc
    | invoke r m => simp [resO, cop] at hc
    | builtin b =>
      have hargs : ∀ x ∈ args.toList, RelV φ (ρ x) (ρ' x) := fun x hx => hρ x (by simp [Op.operands, Call.operands]; simpa using hx)
      have key : ∀ {r : Result Next}, (builtin b argTypes type (args.map fun | .const _ => true | _ => false) (args.map ρ')).run P W = r → Prim B W0 φ H W r v H' →
          Prim B W0 φ H W ((execOp ρ' ⟨dst, .call ⟨.builtin b, args, argTypes⟩, type, pos, after, guard⟩).run P W) v H' := by
        intro r h1 h2
        have : (execOp ρ' ⟨dst, .call ⟨.builtin b, args, argTypes⟩, type, pos, after, guard⟩).run P W = r := by
          rw [← h1]
          exact run_builtin (P := P) (W := W) (ρ' := ρ') (b := b) (c := ⟨.builtin b, args, argTypes⟩) (o := ⟨dst, .call ⟨.builtin b, args, argTypes⟩, type, pos, after, guard⟩) rfl
        rw [this]; exact h2
      simp only [resO] at hc
      unfold resBuiltin at hc
      have hm2 : ∀ {x y : Operand}, (#[x, y] : Array Operand).map ρ' = #[ρ' x, ρ' y] := by simp
      have one_ : ∀ {x : Operand} {t : TypeId}, argTypes.toList = [t] → args.toList = [x] → argTypes = #[t] ∧ args = #[x] ∧ RelV φ (ρ x) (ρ' x) := by
        intro x t h1 h2
        exact ⟨Array.ext' h1, Array.ext' h2, hargs x (by rw [h2]; simp)⟩
      have two_ : ∀ {x y : Operand} {t u : TypeId}, argTypes.toList = [t, u] → args.toList = [x, y] → argTypes = #[t, u] ∧ args = #[x, y] ∧ RelV φ (ρ x) (ρ' x) ∧ RelV φ (ρ y) (ρ' y) := by
        intro x y t u h1 h2
        exact ⟨Array.ext' h1, Array.ext' h2, hargs x (by rw [h2]; simp), hargs y (by rw [h2]; simp)⟩
      split at hc
      · rename_i t x h1 h2
        obtain ⟨rfl, rfl, hx⟩ := one_ h1 h2
        split at hc
        · rename_i ht
          simp only [cop] at hc
          split at hc
          · rename_i sv hsv
            rw [hsv] at hx
            simp only [Option.some.injEq, Prod.mk.injEq] at hc
            obtain ⟨rfl, rfl⟩ := hc
            have e := relV_str hx
            exact key rfl (Prim.pure s (by simp [builtin, Builtin.len_, run_un ht, e, goInt]) (.int _ _))
          · cases hc
        · rename_i el ht
          simp only [cop] at hc
          split at hc
          · rename_i a n k hsv
            rw [hsv] at hx
            simp only [Option.some.injEq, Prod.mk.injEq] at hc
            obtain ⟨rfl, rfl⟩ := hc
            have e : ∃ a' k', ρ' x = .slice a' n k' := by
              cases a with
              | none => obtain ⟨rfl, rfl, e⟩ := relV_nils hx; exact ⟨_, _, e⟩
              | some a => rcases relV_sl hx with ⟨_, _, _, k', _, _, _, _, e⟩ | ⟨_, _, a', k', _, rfl, _, e⟩ <;> exact ⟨_, _, e⟩
            obtain ⟨a', k', e⟩ := e
            exact key rfl (Prim.pure s (by simp [builtin, Builtin.len_, run_un ht, e, goInt]) (.int _ _))
          · cases hc
        · rename_i kt el ht
          simp only [cop] at hc
          split at hc
          · rename_i hsv
            rw [hsv] at hx
            simp only [Option.some.injEq, Prod.mk.injEq] at hc
            obtain ⟨rfl, rfl⟩ := hc
            have e := relV_nilm hx
            exact key rfl (Prim.pure s (by simp [builtin, Builtin.len_, run_un ht, e, goInt]) (.int _ _))
          · rename_i c hsv
            rw [hsv] at hx
            split at hc
            · rename_i es ck hg
              simp only [Option.some.injEq, Prod.mk.injEq] at hc
              obtain ⟨rfl, rfl⟩ := hc
              obtain ⟨l, hl, hb, e⟩ := relV_map hx
              obtain ⟨es', h4, h5, h6⟩ := getMap (P := P) s hl hg
              refine key rfl (Prim.pure (v' := .int .i64 es'.size) s (by simp [builtin, Builtin.len_, run_un ht, e, goInt, h6]) ?_)
              rw [h5.length, Array.length_toList]
              exact .int _ _
            · cases hc
          · cases hc
        · rename_i n el ht
          simp only [cop, Option.some.injEq, Prod.mk.injEq] at hc
          obtain ⟨rfl, rfl⟩ := hc
          exact key rfl (Prim.pure s (by simp [builtin, Builtin.len_, run_un ht, goInt]) (.int _ _))
        · simp [cop] at hc
      · rename_i t x h1 h2
        obtain ⟨rfl, rfl, hx⟩ := one_ h1 h2
        split at hc
        · rename_i el ht
          simp only [cop] at hc
          split at hc
          · rename_i n k hsv
            rw [hsv] at hx
            simp only [Option.some.injEq, Prod.mk.injEq] at hc
            obtain ⟨rfl, rfl⟩ := hc
            obtain ⟨rfl, rfl, e⟩ := relV_nils hx
            exact key rfl (Prim.pure s (by simp [builtin, Builtin.cap_, run_un ht, e, goInt]) (.int _ _))
          · rename_i a n k hsv
            rw [hsv] at hx
            have tight_ : a.spot = none → ((∃ cs, H.get? a.block = some (.ro cs)) ∨ (∃ cs, H.get? a.block = some (.rw cs))) → some (Value.int .i64 k, H) = some (v, H') →
                Prim B W0 φ H W ((execOp ρ' ⟨dst, .call ⟨.builtin .cap, #[x], #[t]⟩, type, pos, after, guard⟩).run P W) v H' := by
              intro hsp hg hc
              simp only [Option.some.injEq, Prod.mk.injEq] at hc
              obtain ⟨rfl, rfl⟩ := hc
              rcases relV_sl hx with ⟨c, o, l, k', rfl, hl, hk, _, e⟩ | ⟨c, o, a', k', rfl, rfl, rfl, e⟩
              · have := s.tight hl hg hk
                subst this
                exact key rfl (Prim.pure s (by simp [builtin, Builtin.cap_, run_un ht, e, goInt]) (.int _ _))
              · cases hsp
            split at hc
            · cases hc
            rename_i hsp
            split at hc
            · rename_i cs hg; exact tight_ (by simpa using hsp) (.inr ⟨cs, hg⟩) hc
            · rename_i cs hg; exact tight_ (by simpa using hsp) (.inl ⟨cs, hg⟩) hc
            · cases hc
          · cases hc
        · simp [cop] at hc
      · rename_i t u x y h1 h2
        obtain ⟨rfl, rfl, hx, hy⟩ := two_ h1 h2
        split at hc
        · rename_i e e2 ht hu
          split at hc
          · rename_i sz b z hs hb hz
            split at hc
            · rename_i hcond
              simp only [cop] at hc
              split at hc
              · rename_i a len cap hya
                rw [hya] at hy
                split at hc
                · rename_i vs hvs
                  exact key rfl (by rw [hm2]; exact prim_app s free ht hu hs hb hz hcond.2.2 hcond.1 hcond.2.1 hx hy hvs hc)
                · cases hc
              · cases hc
            · simp [cop] at hc
          · simp [cop] at hc
        · rename_i e ht hu
          split at hc
          · rename_i sz b z hs hb hz
            split at hc
            · rename_i hcond
              obtain ⟨rfl, rfl, hzs⟩ := hcond
              simp only [cop] at hc
              split at hc
              · rename_i sv hya
                rw [hya] at hy
                exact key rfl (by rw [hm2]; exact prim_appS s free ht hu hs hb hz hzs hx hy hc)
              · cases hc
            · simp [cop] at hc
          · simp [cop] at hc
        · simp [cop] at hc
      · rename_i t u x y h1 h2
        obtain ⟨rfl, rfl, hx, hy⟩ := two_ h1 h2
        split at hc
        · rename_i e e2 ht hu
          split at hc
          · rename_i sz hs
            simp only [cop] at hc
            split at hc
            · rename_i d dl dc a sl c hxa hya
              rw [hxa] at hx; rw [hya] at hy
              exact key rfl (by rw [hm2]; exact prim_copyV s ht hs hx hy hc)
            · cases hc
          · simp [cop] at hc
        · rename_i e ht hu
          split at hc
          · rename_i sz hs
            split at hc
            · rename_i h1s
              subst h1s
              simp only [cop] at hc
              split at hc
              · rename_i d dl dc sv hxa hya
                rw [hxa] at hx; rw [hya] at hy
                exact key rfl (by rw [hm2]; exact prim_copyS s ht hs hx hy hc)
              · cases hc
            · simp [cop] at hc
          · simp [cop] at hc
        · simp [cop] at hc
      · rename_i t u x y h1 h2
        obtain ⟨rfl, rfl, hx, hy⟩ := two_ h1 h2
        simp only [cop] at hc
        split at hc
        · rename_i k a k2 b hxa hya
          rw [hxa] at hx; rw [hya] at hy
          have e1 := relV_int hx
          have e2 := relV_int hy
          simp only [if_true, Option.some.injEq, Prod.mk.injEq] at hc
          obtain ⟨rfl, rfl⟩ := hc
          exact key rfl (Prim.pure s (by simp [builtin, Builtin.max_, Builtin.max2, e1, e2]) (.int _ _))
        · cases hc
      · rename_i t u x y h1 h2
        obtain ⟨rfl, rfl, hx, hy⟩ := two_ h1 h2
        simp only [cop] at hc
        split at hc
        · rename_i k a k2 b hxa hya
          rw [hxa] at hx; rw [hya] at hy
          have e1 := relV_int hx
          have e2 := relV_int hy
          simp only [Bool.false_eq_true, if_false, Option.some.injEq, Prod.mk.injEq] at hc
          obtain ⟨rfl, rfl⟩ := hc
          exact key rfl (Prim.pure s (by simp [builtin, Builtin.min_, Builtin.min2, e1, e2]) (.int _ _))
        · cases hc
      · simp [cop] at hc
  | entryStore => simp [resO, cop] at hc
  | _ => simp [resO, cop] at hc

end
end Go.Cm

/- The canonical machine: calls and single operations aS steps of the model's; regions in the order of the text. Conditions: none. -/
namespace Go.Cm
open Go.RowKit
set_option linter.unusedVariables false
set_option linter.unusedSimpArgs false

section
variable (P : Program) (G B : Nat) (W0 : World)

/-- a function that the model enters when it is called -/
def Callable (g : FuncId) : Prop := ∃ fn, P.funcs[g]? = some fn ∧ (fn.name == "runtime.NumGoroutine") = false ∧ fn.body.isSome = true

def GoodCall (g : FuncId) (args : List Value) (h : Heap) (v : Value) (h' : Heap) : Prop :=
  Callable P g ∧ ∀ (φ : Emb) (W : World) (args' : Array Value), Sim B W0 φ h.get? W → Glob G φ → RelL φ args args'.toList → Free φ h h' →
    Calls P g args' W fun e W' => ∃ φ' v', e = .returned v' ∧ RelV φ' v v' ∧ Sim B W0 φ' h'.get? W' ∧ Ext φ φ' h h' W W'

def isCall : MOp → Bool
  | .call .. | .callV .. => true
  | _ => false

def GoodOp (o : MOp) (f : Fr) (h : Heap) (v : Value) (h' : Heap) : Prop :=
  o ≠ .bad ∧ (isCall o = false → cop f.ev h o = some (v, h')) ∧ ∀ (op : Oper), resOp P G op.op = o → ∀ (φ : Emb) (W : World) (a : Act), Sim B W0 φ h.get? W → Glob G φ → (∀ x ∈ op.op.operands.toList, RelV φ (f.ev x) (a.eval x)) → Free φ h h' →
    ∀ (next : Act → World → Prop) (Q : Exit → Act → World → Prop), (∀ φ' v' W', RelV φ' v v' → Sim B W0 φ' h'.get? W' → Ext φ φ' h h' W W' → next (a.put op.dst v') W') → op.wp P a W next Q

variable {P G B W0}

theorem goodOp_prim {o : MOp} {f : Fr} {h h' : Heap} {v : Value} (hc : cop f.ev h o = some (v, h')) : GoodOp P G B W0 o f h v h' := by
  refine ⟨fun e => by subst e; simp [cop] at hc, fun _ => hc, fun op hres φ W a s gl hx free next Q hn => ?_⟩
  obtain ⟨φ', v', W', hr, hv, s', x'⟩ := prim_sound (P := P) (G := G) (o := op) (ρ := f.ev) (ρ' := a.eval) s hx (by rw [hres]; exact hc) free
  unfold Oper.wp
  rcases hr with hr | ⟨hr, rfl⟩
  · rw [hr]; exact hn φ' v' W' hv s' x'
  · rw [hr]; exact hn φ' undef W' hv s' x'

theorem resEq_noCall {neg : Bool} {op : BinOp} {t : TypeId} {x y : Operand} : isCall (resEq P neg op t x y) = false := by
  unfold resEq
  repeat' split
  all_goals rfl
theorem resBuiltin_noCall {b : Builtin} {ts : Array TypeId} {args : List Operand} : isCall (resBuiltin P b ts args) = false := by
  unfold resBuiltin
  repeat' split
  all_goals rfl
theorem resO_call {op : Op} (h : isCall (resO P op) = true) : ∃ x args ts, op = .call ⟨.value x, args, ts⟩ := by
  cases op with
  | call c =>
    obtain ⟨callee, args, ts⟩ := c
    cases callee with
    | value x => exact ⟨x, args, ts, rfl⟩
    | invoke r m => simp [resO, isCall] at h
    | builtin b => simp only [resO] at h; rw [resBuiltin_noCall] at h; cases h
  | binOp op t x y yt =>
    simp only [resO] at h
    split at h
    · rw [resEq_noCall] at h; cases h
    · rw [resEq_noCall] at h; cases h
    · cases h
  | makeFunc fn a b => cases fn <;> cases h
  | makeMap t r => cases r <;> cases h
  | _ =>
    exfalso
    revert h
    simp only [resO]
    repeat' split
    all_goals simp [isCall]

theorem run_callFunc {g : FuncId} (hc : Callable P g) (args : Array Value) (W : World) : (callFunc g args).run P W = .ok (.enter g args) W := by
  obtain ⟨fn, h1, h2, h3⟩ := hc
  have h4 : fn.body.isNone = false := by cases hb : fn.body <;> simp_all
  simp only [callFunc, Sem.run_bind, run_program, Result.andThen_ok, h1, h2, h4, Bool.false_eq_true, if_false, Sem.run_pure]

theorem relL_map {φ : Emb} {f : Fr} {a : Act} {l : Array Operand} (h : ∀ x ∈ l, RelV φ (f.ev x) (a.eval x)) : RelL φ (l.toList.map f.ev) (l.map a.eval).toList := by
  refine ⟨by simp, fun i u w p q => ?_⟩
  simp only [List.getElem?_map, Array.toList_map] at p q
  cases hi : l.toList[i]? with
  | none => rw [hi] at p; cases p
  | some x =>
    rw [hi] at p q
    cases p; cases q
    exact h x (by have := List.mem_of_getElem? hi; simpa using this)

theorem goodOp_enter {op : Oper} {g : FuncId} {f : Fr} {h h' : Heap} {v : Value} {args : List Value} {args' : Array Value} {φ : Emb} {W : World} {a : Act} (hg : GoodCall P G B W0 g args h v h')
    (s : Sim B W0 φ h.get? W) (gl : Glob G φ) (hr : RelL φ args args'.toList) (free : Free φ h h') (hrun : (execOp a.eval op).run P W = .ok (.enter g args') W)
    {next : Act → World → Prop} {Q : Exit → Act → World → Prop} (hn : ∀ φ' v' W', RelV φ' v v' → Sim B W0 φ' h'.get? W' → Ext φ φ' h h' W W' → next (a.put op.dst v') W') : op.wp P a W next Q := by
  unfold Oper.wp
  rw [hrun, Oper.upon_enter]
  refine (hg.2 φ W args' s gl hr free).mono ?_
  rintro e W' ⟨φ', v', rfl, hv, s', x'⟩
  exact hn φ' v' W' hv s' x'

theorem goodOp_call {g : FuncId} {args : List Operand} {f : Fr} {h h' : Heap} {v : Value} (hg : GoodCall P G B W0 g (args.map f.ev) h v h') : GoodOp P G B W0 (.call g args) f h v h' := by
  refine ⟨by simp, fun e => (by cases e), fun op hres φ W a s gl hx free next Q hn => ?_⟩
  unfold resOp at hres
  split at hres
  rotate_left
  · cases hres
  obtain ⟨x, aS, ts, ho⟩ := resO_call (P := P) (op := op.op) (by rw [hres]; rfl)
  rw [ho] at hres hx
  cases x with
  | func k =>
    simp only [resO, MOp.call.injEq] at hres
    obtain ⟨rfl, rfl⟩ := hres
    refine goodOp_enter (f := f) hg s gl (relL_map (f := f) (a := a) fun x hxm => hx x (by simp [Op.operands, Call.operands]; exact .inr hxm)) free ?_ hn
    obtain ⟨dst, opo, type, pos, after, guard⟩ := op
    simp only at ho
    subst ho
    simp [execOp, resolve, Deferred.ofValue, invoke, Act.eval, run_callFunc hg.1]
  | tmp t => simp [resO] at hres
  | const c => simp [resO] at hres
  | global c => simp [resO] at hres

theorem goodOp_callV {x : Operand} {g : FuncId} {args : List Operand} {first caps : Array Value} {f : Fr} {h h' : Heap} {v : Value} (hxv : f.ev x = .func (.func g) first caps)
    (hg : GoodCall P G B W0 g (first.toList ++ args.map f.ev ++ caps.toList) h v h') : GoodOp P G B W0 (.callV x args) f h v h' := by
  refine ⟨by simp, fun e => (by cases e), fun op hres φ W a s gl hx free next Q hn => ?_⟩
  unfold resOp at hres
  split at hres
  rotate_left
  · cases hres
  obtain ⟨y, aS, ts, ho⟩ := resO_call (P := P) (op := op.op) (by rw [hres]; rfl)
  rw [ho] at hres hx
  have hy : y = x ∧ aS.toList = args := by
    cases y <;> simp only [resO, MOp.callV.injEq] at hres <;> first | exact hres | cases hres
  obtain ⟨rfl, rfl⟩ := hy
  have hv := hx y (by simp [Op.operands, Call.operands])
  rw [hxv] at hv
  obtain ⟨b, d, he, h1, h2⟩ := relV_func hv
  refine goodOp_enter (f := f) (args' := b ++ aS.map a.eval ++ d) hg s gl ?_ free ?_ hn
  · simp only [Array.toList_append]
    exact (h1.append (relL_map (f := f) (a := a) fun x hxm => hx x (by simp [Op.operands, Call.operands]; exact .inr hxm))).append h2
  · obtain ⟨dst, opo, type, pos, after, guard⟩ := op
    simp only at ho
    subst ho
    simp [execOp, resolve, Deferred.ofValue, invoke, he, run_callFunc hg.1]

/-! ### a region's operations -/

/-- what is known of a region's run, operation by operation -/
def Chain (P : Program) (G B : Nat) (W0 : World) : List MO → Fr → Heap → List Tr → Fr → Heap → Prop
  | [], f, h, [], f', h' => f' = f ∧ h' = h
  | o :: r, f, h, t :: trs, f', h' => t.f = f ∧ t.h = h ∧ ((t.ran = true ∧ wantedC f o.guard = some true ∧ GoodOp P G B W0 o.op f h t.v t.h') ∨ (t.ran = false ∧ wantedC f o.guard = some false ∧ t.h' = h ∧ t.v = undef)) ∧
      h.n ≤ t.h'.n ∧ Chain P G B W0 r (f.put o.dst t.v) t.h' trs f' h'
  | _, _, _, _, _, _ => False

theorem wanted_ok {nt : Nat} {ops : Array Oper} {o : Oper} {φ : Emb} {f : Fr} {tmps : Array Value} {g : Option (Nat × Bool)} {b : Bool} (hg : resGuard ops o.guard = some g)
    (hr : ∀ t want, g = some (t, want) → RelV φ (f.get t) (tmps.getD t undef)) (hw : wantedC f g = some b) : Region.wanted o (yielded ops tmps) = b := by
  unfold resGuard at hg
  split at hg
  · rename_i hn
    cases hg
    simp only [wantedC, Option.some.injEq] at hw
    subst hw
    simp [Region.wanted, hn]
  · rename_i j want hn
    split at hg
    · rename_i t ht
      cases hg
      have hrel := hr t want rfl
      simp only [wantedC] at hw
      simp only [Region.wanted, hn, yielded, ht, Option.bind_some]
      split at hw
      · rename_i c hc
        rw [hc] at hrel
        have := relV_bool hrel
        cases hw
        have hget : tmps[t]? = some (.bool c) := by
          cases hq : tmps[t]? with
          | none => simp [Array.getD_eq_getD_getElem?, hq, undef] at this
          | some w => simp [Array.getD_eq_getD_getElem?, hq] at this; rw [this]
        rw [hget]
        cases c <;> cases want <;> rfl
      · rename_i vs hc
        split at hw
        rotate_left
        · cases hw
        rename_i hsz
        have hvs : vs = #[] := Array.size_eq_zero_iff.1 hsz
        subst hvs
        rw [hc] at hrel
        have := relV_undef' hrel
        cases hw
        cases hq : tmps[t]? with
        | none => simp
        | some w => simp [Array.getD_eq_getD_getElem?, hq] at this; rw [this]; simp [undef]
      · cases hw
    · cases hg

theorem RelF.put {φ : Emb} {f : Fr} {a : Act} {d : Option Nat} {v v' : Value} (r : RelF φ f a.tmps) (hv : RelV φ v v') (hd : ∀ t, d = some t → t < a.tmps.size) : RelF φ (f.put d v) (a.put d v').tmps := by
  cases d with
  | none => exact r
  | some t =>
    intro s
    have ht := hd t rfl
    simp only [Fr.put, Fr.get, Act.put]
    by_cases hs : s = t
    · subst hs
      simp [Array.getD_eq_getD_getElem?, ht, hv]
    · rw [if_neg hs]
      have := r s
      simpa [Array.getD_eq_getD_getElem?, Array.getElem?_setIfInBounds_ne (Ne.symm hs)] using this
theorem put_size {a : Act} {d : Option Nat} {v : Value} : (a.put d v).tmps.size = a.tmps.size := by cases d <;> simp [Act.put]
theorem put_defers {a : Act} {d : Option Nat} {v : Value} : (a.put d v).defers = a.defers := by cases d <;> rfl

theorem resMO_inv {nt : Nat} {ops : Array Oper} {o : Oper} (h : (resMO P G nt ops o).op ≠ .bad ∨ (resMO P G nt ops o).guard ≠ none) : ∃ g, resGuard ops o.guard = some g ∧ (∀ t, o.dst = some t → t < nt) ∧ resMO P G nt ops o = ⟨o.dst, resOp P G o.op, g⟩ := by
  unfold resMO at h ⊢
  cases hg : resGuard ops o.guard with
  | none => rw [hg] at h; simp at h
  | some g =>
    rw [hg] at h
    simp only at h ⊢
    by_cases hd : dstOK nt o.dst = true
    · rw [if_pos hd]
      refine ⟨g, rfl, fun t ht => ?_, rfl⟩
      rw [ht] at hd
      simpa [dstOK] using hd
    · rw [if_neg hd] at h; simp at h

theorem resOp_ok {op : Op} (h : resOp P G op ≠ .bad) : ∀ x ∈ op.operands.toList, okX G x = true := by
  unfold resOp at h
  split at h
  · rename_i hk; rwa [List.all_eq_true] at hk
  · simp at h

/-- the state's relation -/
structure St (B : Nat) (W0 : World) (G nt : Nat) (φ : Emb) (f : Fr) (h : Heap) (a : Act) (W : World) : Prop where
  sim : Sim B W0 φ h.get? W
  glob : Glob G φ
  rel : RelF φ f a.tmps
  size : a.tmps.size = nt

theorem chain_text {nt : Nat} {ops : Array Oper} {Q : Exit → Act → World → Prop} : ∀ {l : List MO} {f : Fr} {h : Heap} {trs : List Tr} {f' : Fr} {h' : Heap} {i : Nat} {φ : Emb} {a : Act} {W : World},
    Chain P G B W0 l f h trs f' h' → l = (ops.toList.drop i).map (resMO P G nt ops) → St B W0 G nt φ f h a W → Free φ h h' →
    (∀ φ' a' W', St B W0 G nt φ' f' h' a' W' → Ext φ φ' h h' W W' → a'.defers = a.defers → Q .normal a' W') → wpOps P ops Q (List.range' i (ops.size - i)) a W
  | [], f, h, [], f', h', i, φ, a, W, hc, hl, st, free, hq => by
    obtain ⟨rfl, rfl⟩ := hc
    have hlen : ops.size - i = 0 := by
      have := congrArg List.length hl
      simp at this; omega
    rw [hlen]
    exact hq φ a W st .refl rfl
  | [], _, _, _ :: _, _, _, _, _, _, _, hc, _, _, _, _ => hc.elim
  | _ :: _, _, _, [], _, _, _, _, _, _, hc, _, _, _, _ => hc.elim
  | o :: r, f, h, t :: trs, f', h', i, φ, a, W, hc, hl, st, free, hq => by
    obtain ⟨h1, h2, h3, hle, h4⟩ := hc
    have hi : i < ops.size := by
      rcases Nat.lt_or_ge i ops.size with g | g
      · exact g
      · rw [List.drop_eq_nil_of_le (by simpa using g)] at hl; cases hl
    have hdrop : ops.toList.drop i = ops[i] :: ops.toList.drop (i + 1) := by
      rw [List.drop_eq_getElem_cons (by simpa using hi)]; simp
    rw [hdrop, List.map_cons, List.cons.injEq] at hl
    obtain ⟨ho, hr⟩ := hl
    have hrange : List.range' i (ops.size - i) = i :: List.range' (i + 1) (ops.size - (i + 1)) := by
      rw [show ops.size - i = (ops.size - (i + 1)) + 1 from by omega, List.range'_succ]
    have hget : ops[i]? = some ops[i] := Array.getElem?_eq_getElem hi
    have hchainle : t.h'.n ≤ h'.n := by
      have : ∀ {l : List MO} {f : Fr} {h : Heap} {trs : List Tr} {f' : Fr} {h' : Heap}, Chain P G B W0 l f h trs f' h' → h.n ≤ h'.n := by
        intro l
        induction l with
        | nil => intro f h trs f' h' hc; cases trs with
          | nil => obtain ⟨_, rfl⟩ := hc; exact Nat.le_refl _
          | cons _ _ => exact hc.elim
        | cons o r ih => intro f h trs f' h' hc; cases trs with
          | nil => exact hc.elim
          | cons t trs => obtain ⟨_, _, _, q, hc⟩ := hc; exact Nat.le_trans q (ih hc)
      exact this h4
    rw [hrange]
    simp only [wpOps, hget]
    have hinv : ∃ g, resGuard ops ops[i].guard = some g ∧ (∀ t, ops[i].dst = some t → t < nt) ∧ o = ⟨ops[i].dst, resOp P G ops[i].op, g⟩ := by
      rw [ho]
      refine resMO_inv ?_
      rcases h3 with ⟨_, _, hg⟩ | ⟨_, hw, _⟩
      · left; rw [← ho]; exact hg.1
      · right; rw [← ho]; intro e; rw [e] at hw; simp [wantedC] at hw
    obtain ⟨g, hg1, hg2, rfl⟩ := hinv
    have hdst : ∀ t, ops[i].dst = some t → t < a.tmps.size := fun t ht => by rw [st.size]; exact hg2 t ht
    rcases h3 with ⟨e1, hw, hgood⟩ | ⟨e1, hw, e3, e4⟩
    · rw [if_pos (wanted_ok (nt := nt) hg1 (fun t _ _ => st.rel t) hw)]
      left
      refine hgood.2.2 ops[i] rfl φ W a st.sim st.glob (fun x hx => st.rel.ev st.glob (resOp_ok hgood.1 x hx)) (free.left hchainle) _ Q ?_
      intro φ' v' W' hv s' x'
      refine chain_text h4 hr ⟨s', st.glob.mono x'.sub, (st.rel.mono x'.sub).put hv hdst, put_size.trans st.size⟩ (free.right x') ?_
      intro φ2 a2 W2 st2 x2 hd2
      exact hq φ2 a2 W2 st2 (x'.trans x2 free) (hd2.trans put_defers)
    · rw [if_neg (by rw [wanted_ok (nt := nt) hg1 (fun t _ _ => st.rel t) hw]; simp)]
      rw [e4, e3] at h4
      refine chain_text h4 hr ⟨st.sim, st.glob, st.rel.put relV_undef hdst, put_size.trans st.size⟩ free ?_
      intro φ2 a2 W2 st2 x2 hd2
      exact hq φ2 a2 W2 st2 x2 (hd2.trans put_defers)

end
end Go.Cm
