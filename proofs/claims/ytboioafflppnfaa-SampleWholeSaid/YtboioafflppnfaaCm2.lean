/- The canonical machine: how a loaded program's functions are resolved into micro-operations. Conditions: none. -/
import Derived.Test.YtboioafflppnfaaCm1
namespace Go.Cm
open Go.RowKit

def okX (G : Nat) : Operand → Bool
  | .tmp _ => true
  | .const v => plainV v
  | .global g => g < G
  | .func _ => true

variable (P : Program) (G : Nat)

def aggT (t : TypeId) : Option Bool :=
  match P.underlying t with
  | some (.struct _) | some (.array _ _) => some true
  | some _ => some false
  | none => none
def zeroOf (t : TypeId) : Option Value :=
  match P.info? t with
  | some i => (match i.zero with | some v => if plainV v then some v else none | none => none)
  | none => none
def sizeT (t : TypeId) : Option Nat := (P.info? t).map (·.size)
def bytesT (t : TypeId) : Option Nat := (P.info? t).map (·.bytes)

def ptFields (pt : TypeId → Option PT) : List Field → Option (List (Nat × Nat × Bool × PT))
  | [] => some []
  | f :: fs =>
    if f.name = "_" then none else
    match pt f.type, aggT P f.type, sizeT P f.type, ptFields pt fs with
    | some p, some a, some n, some r => some ((f.offset, n, a, p) :: r)
    | _, _, _, _ => none
def ptOf : Nat → TypeId → Option PT
  | 0, _ => none
  | d + 1, t =>
    match P.underlying t with
    | some (.int _) => some .int
    | some .bool => some .bool
    | some .string => some .str
    | some (.struct fs) => if P.stoodInHeld t then none else (match ptFields P (ptOf d) fs.toList with | some l => some (.st l) | none => none)
    | _ => none

def resParts (fields : Array Field) : List (Nat × Operand) → Option (List (Nat × Nat × Operand))
  | [] => some []
  | (i, x) :: r =>
    match fields[i]?, resParts fields r with
    | some f, some l => (match sizeT P f.type with | some n => some ((f.offset, n, x) :: l) | none => none)
    | _, _ => none

def nilC : Operand → Bool
  | .const .nilIface => true
  | _ => false

def resEq (neg : Bool) (op : BinOp) (t : TypeId) (x y : Operand) : MOp :=
  match P.underlying t with
  | some (.int _) | some .string => .ar op x y
  | some .bool => .eq neg .bool x y
  | some (.pointer _) => .eq neg .ptr x y
  | some (.slice _) => .eq neg .slice x y
  | some (.map _ _) => .eq neg .map x y
  | some (.func _ _ _) => .eq neg .func x y
  | some (.interface _) => .eq neg (if nilC x || nilC y then .ifaceC else .iface) x y
  | some (.struct _) => if P.eqGuardType P.depth t then .bad else (match ptOf P 20 t with | some p => .eq neg (.plain p) x y | none => .bad)
  | _ => .bad

def resBuiltin (b : Builtin) (ts : Array TypeId) (args : List Operand) : MOp :=
  match b, ts.toList, args with
  | .len, [t], [x] =>
    (match P.underlying t with
    | some .string => .lenS x
    | some (.slice _) => .lenV x
    | some (.map _ _) => .lenM x
    | some (.array n _) => .lenC n
    | _ => .bad)
  | .cap, [t], [x] => (match P.underlying t with | some (.slice _) => .capV x | _ => .bad)
  | .append, [t, u], [x, y] =>
    (match P.underlying t, P.underlying u with
    | some (.slice e), some (.slice _) => (match sizeT P e, bytesT P e, zeroOf P e with | some s, some b, some z => if 0 < s ∧ 0 < b ∧ z.cells.size = s then .app s b x y else .bad | _, _, _ => .bad)
    | some (.slice e), some .string => (match sizeT P e, bytesT P e, zeroOf P e with | some s, some b, some z => if s = 1 ∧ b = 1 ∧ z.cells.size = s then .appS x y else .bad | _, _, _ => .bad)
    | _, _ => .bad)
  | .copy, [t, u], [x, y] =>
    (match P.underlying t, P.underlying u with
    | some (.slice e), some (.slice _) => (match sizeT P e with | some s => .copyV s x y | _ => .bad)
    | some (.slice e), some .string => (match sizeT P e with | some s => if s = 1 then .copyS x y else .bad | _ => .bad)
    | _, _ => .bad)
  | .max, [_, _], [x, y] => .minmax true x y
  | .min, [_, _], [x, y] => .minmax false x y
  | _, _, _ => .bad

def allSizes (fs : Array Field) : Bool := fs.toList.all fun f => (sizeT P f.type).isSome

def resO (o : Op) : MOp :=
  match o with
  | .move x | .assign x => .mv x
  | .pick c a b => .pick c a b
  | .alloc e => (match zeroOf P e with | some z => .new z.cells.toList | none => .bad)
  | .box _ x => .box x
  | .build t ps =>
    (match P.underlying t, zeroOf P t with
    | some (.struct fs), some z => if !(allSizes P fs) then .bad else (match resParts P fs ps.toList with | some l => .build z.cells.toList l | none => .bad)
    | some (.array _ e), some z => (match sizeT P e with | some s => .build z.cells.toList (ps.toList.map fun (i, x) => (i * s, s, x)) | none => .bad)
    | _, _ => .bad)
  | .buildSlice t len ps =>
    (match P.underlying t with
    | some (.slice e) => (match sizeT P e, zeroOf P e with
      | some s, some z => if len * s ≤ 16777216 ∧ z.cells.size = s ∧ 0 < s then .buildSlice (repL z.cells.toList len) len (ps.toList.map fun (i, x) => (i * s, s, x)) else .bad
      | _, _ => .bad)
    | _ => .bad)
  | .load t x => (match aggT P t, sizeT P t with | some true, some n => .loadN n x | some false, some _ => .load1 x | _, _ => .bad)
  | .store t x v => (match sizeT P t with | some n => .store n x v | none => .bad)
  | .nilCheck x => .nilCheck x
  | .binOp op t x y _ =>
    (match op with
    | .eql => resEq P false op t x y
    | .neq => resEq P true op t x y
    | _ => .ar op x y)
  | .unOp op _ x => .un op x
  | .convert s d x =>
    (match P.underlying s, P.underlying d with
    | some (.int _), some (.int k) => .conv k x
    | some (.slice e), some .string => (match P.underlying e with | some (.int .u8) => .convBS x | _ => .bad)
    | some .string, some (.slice e) => (match P.underlying e with | some (.int .u8) => .convSB x | _ => .bad)
    | _, _ => .bad)
  | .makeInterface t x => (match P.underlying t with | some (.interface _) => .bad | some _ => .toI t x | none => .bad)
  | .makeFunc (.func f) first caps => .mkF f first.toList caps.toList
  | .makeMap _ none => .mkMap
  | .makeSlice t l c =>
    (match P.underlying t with
    | some (.slice e) => (match sizeT P e, zeroOf P e, bytesT P e with
      | some s, some z, some b => if z.cells.size = s ∧ 0 < s then .mkSl b z.cells.toList l c else .bad
      | _, _, _ => .bad)
    | _ => .bad)
  | .slice t x lo hi mx =>
    (match P.underlying t with
    | some .string => if mx.isSome then .bad else .slS x lo hi
    | some (.slice e) => (match sizeT P e with | some s => .slV s x lo hi mx | none => .bad)
    | some (.array n e) => (match sizeT P e with | some s => if mx.isSome then .bad else .slA s n x lo hi | none => .bad)
    | _ => .bad)
  | .fieldAddr s x f =>
    (match P.underlying s with
    | some (.struct fs) => (match fs[f]? with | some fd => (match sizeT P fd.type with | some n => if n = 0 then .bad else .fld fd.offset x | none => .bad) | none => .bad)
    | _ => .bad)
  | .indexAddr t x i =>
    (match P.underlying t with
    | some (.slice e) => (match sizeT P e with | some s => .ixV s x i | none => .bad)
    | some (.array n e) => (match sizeT P e with | some s => .ixA s n x i | none => .bad)
    | _ => .bad)
  | .index t x i =>
    (match P.underlying t with
    | some .string => .ixS x i
    | some (.array n e) => (match sizeT P e, aggT P e with | some s, some a => .ixG s n a x i | _, _ => .bad)
    | _ => .bad)
  | .lookup t x k ok =>
    (match P.underlying t with
    | some (.map kt e) => (match ptOf P 20 kt, zeroOf P e with | some p, some z => .look p z ok x k | _, _ => .bad)
    | _ => .bad)
  | .mapUpdate t m k v =>
    (match P.underlying t with
    | some (.map kt _) => (match ptOf P 20 kt with | some p => .mset p m k v | _ => .bad)
    | _ => .bad)
  | .typeAssert x _ t ok =>
    (match P.underlying t, zeroOf P t with
    | some (.interface _), _ => .bad
    | some _, some z => .tyA t z ok x
    | _, _ => .bad)
  | .extract x i => .ext x i
  | .call { callee := .value (.func f), args, .. } => .call f args.toList
  | .call { callee := .value x, args, .. } => .callV x args.toList
  | .call { callee := .builtin b, args, argTypes } => resBuiltin P b argTypes args.toList
  | _ => .bad

def resOp (o : Op) : MOp := if o.operands.toList.all (okX G) then resO P o else .bad

/-- what an operation does to memory: 0 nothing, 1 it makes a block, 2 it reads by address and can be read again, 3 it reads otherwise, 4 it writes or calls -/
def kindOf : MOp → Nat
  | .new _ | .box _ | .buildSlice .. | .convSB _ | .mkMap | .mkSl .. => 1
  | .load1 _ | .loadN .. | .convBS _ | .slV .. => 2
  | .lenM _ | .capV _ | .look .. => 3
  | .store .. | .app .. | .appS .. | .copyV .. | .copyS .. | .mset .. | .call .. | .callV .. => 4
  | _ => 0

def tmpsOf (xs : List Operand) : List Nat := xs.filterMap fun | .tmp t => some t | _ => none

/-- the temporaries that an operation names: those that it looks at, and its own -/
def looks (ops : Array Oper) (o : Oper) : List Nat :=
  tmpsOf o.op.operands.toList ++ (match o.guard with | some (j, _) => ((ops[j]?).bind (·.dst)).toList | none => [])

/-- are two operations (i < j) that are not ordered free of each other? -/
def freePair (ops : Array Oper) (ki kj : Nat) (oi oj : Oper) : Bool :=
  (match oi.dst with | some d => !(looks ops oj).contains d && oj.dst != some d | none => true) &&
  (match oj.dst with | some d => !(looks ops oi).contains d | none => true) &&
  !(ki == 4 && kj == 4) && !(ki == 4 && kj == 3) && !(ki == 3 && kj == 4)

def drawOK (ops : Array Oper) (ms : List MOp) (b : Array Nat) : Bool :=
  (List.range ops.size).all fun j => (List.range j).all fun i => (b.getD j 0).testBit i ||
    freePair ops (kindOf (ms.getD i .bad)) (kindOf (ms.getD j .bad)) (ops.getD i default) (ops.getD j default)

def edgesOK (ops : Array Oper) : Bool :=
  (List.range ops.size).all fun i => (ops.getD i default).after.toList.all fun e => !Region.binds .any e || e.on < i

def crossesOf (ops : Array Oper) (ms : List MOp) (b : Array Nat) : List (Nat × Nat) :=
  (List.range ops.size).flatMap fun j => (List.range j).filterMap fun i =>
    if (b.getD j 0).testBit i then none else
    if kindOf (ms.getD i .bad) = 2 ∧ kindOf (ms.getD j .bad) = 4 then some (i, j)
    else if kindOf (ms.getD i .bad) = 4 ∧ kindOf (ms.getD j .bad) = 2 then some (j, i) else none

def resGuard (ops : Array Oper) : Option (Nat × Bool) → Option (Option (Nat × Bool))
  | none => some none
  | some (j, want) => match (ops[j]?).bind (·.dst) with | some t => some (some (t, want)) | none => none

def dstOK (nt : Nat) : Option Nat → Bool
  | some d => decide (d < nt)
  | none => true

def resMO (P : Program) (G : Nat) (nt : Nat) (ops : Array Oper) (o : Oper) : MO :=
  match resGuard ops o.guard with
  | some g => if dstOK nt o.dst then ⟨o.dst, resOp P G o.op, g⟩ else ⟨none, .bad, none⟩
  | none => ⟨none, .bad, none⟩

def resRegion (P : Program) (G : Nat) (nt : Nat) (ops : Array Oper) (draw : Bool) : MCode :=
  if draw then
    if edgesOK ops && drawOK ops (ops.toList.map (resOp P G ·.op)) (Region.before ops) then
      .region (ops.toList.map (resMO P G nt ops)) (crossesOf ops (ops.toList.map (resOp P G ·.op)) (Region.before ops))
    else .bad
  else .region (ops.toList.map (resMO P G nt ops)) []

/-- 'lives': for each loop, in the order of the text, what is kept at its head; what is left of them comes back -/
def resCode (P : Program) (G : Nat) (nt : Nat) : Code → List (List Nat) → MCode × List (List Nat)
  | .skip, l => (.skip, l)
  | .region _ ops d, l => (resRegion P G nt ops d, l)
  | .seq a b, l => let (x, l1) := resCode P G nt a l; let (y, l2) := resCode P G nt b l1; (.seq x y, l2)
  | .cond c a b, l => let (x, l1) := resCode P G nt a l; let (y, l2) := resCode P G nt b l1; (if okX G c then .cond c x y else .bad, l2)
  | .block i b, l => let (x, l1) := resCode P G nt b l; (.block i x, l1)
  | .loop b, l => match l with
    | [] => (.bad, [])
    | v :: l1 => let (x, l2) := resCode P G nt b l1; (.loop v x, l2)
  | .exit i, l => (.exit i, l)
  | .ret, l => (.ret, l)
  | _, l => (.bad, l)

def resRes : List ResultVar → Option (List MRes)
  | [] => some []
  | .tmp t :: r => match resRes r with | some l => some (.tmp t :: l) | none => none
  | .cell a t :: r => match aggT P t, sizeT P t, resRes r with
    | some true, some n, some l => some (.cellN a n :: l)
    | some false, some _, some l => some (.cell1 a :: l)
    | _, _, _ => none

def resFun (lives : List (List Nat)) (fn : Func) : Option MFun :=
  if fn.name == "runtime.NumGoroutine" then none else
  if fn.params.size + fn.nfree > fn.ntmps then none else
  match fn.body, resRes P fn.results.toList with
  | some c, some r => some ⟨fn.params.size + fn.nfree, (resCode P G fn.ntmps c lives).1, r⟩
  | _, _ => none

end Go.Cm
