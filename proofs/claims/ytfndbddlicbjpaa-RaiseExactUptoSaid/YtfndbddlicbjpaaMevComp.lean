/- From the model's code to the evaluator's: what operations ask of types is laid in; ghost steps and loops' carried slots come of an annotation. -/
import Derived.Test.YtfndbddlicbjpaaMevCode
import Derived.Orders
import Derived.Laws.Sem

set_option linter.unusedVariables false
namespace Mev
open Go (IntKind Value Operand Op Oper Code Program TypeId FuncId Tmp BinOp UnOp Builtin TypeDesc Field Func)

structure Ann where
  pre : FuncId → Nat → Nat → List Gh
  mat : FuncId → Nat → Nat → List (Nat × Nat)
  live : FuncId → Nat → Option (List Tmp)

def leaf : Value → V
  | .int k n => .int k n
  | .bool b => .bool b
  | .string s => .str s.data.toList
  | .pointer none => .nilp
  | .slice none 0 0 => .nils
  | .nilFunc => .nilf
  | .nilIface => .nili
  | .map none => .nilm
  | _ => .un
def ofConst : Value → V
  | .agg cs => if cs.all Value.oneCell' then .agg (cs.toList.map leaf) else .un
  | v => leaf v

def compOd : Operand → Option Od
  | .tmp t => some (.t t)
  | .const v => some (.c (ofConst v))
  | .func f => some (.c (.fn f []))
  | .global _ => none

def aggOf (P : Program) (t : TypeId) : Option Bool :=
  match P.underlying t with
  | some (.struct _) | some (.array _ _) => some true
  | some _ => some false
  | none => none
def zeroRow (P : Program) (t : TypeId) : Option (List V) :=
  match P.info? t with
  | some i => match i.zero with
    | some z => if z.cells.size = i.size ∧ 0 < i.size ∧ z.cells.all Value.oneCell' = true then some (z.cells.toList.map leaf) else none
    | none => none
  | none => none
def sizeOf (P : Program) (t : TypeId) : Option Nat := (P.info? t).map (·.size)
def bytesOf (P : Program) (t : TypeId) : Option Nat := (P.info? t).map (·.bytes)
def elemOf (P : Program) (t : TypeId) : Option TypeId :=
  match P.underlying t with
  | some (.slice e) => some e
  | _ => none
/-- a field's place, size, and whether it is an aggregate -/
def fieldOf (P : Program) (t : TypeId) (f : Nat) : Option (Nat × Nat × Bool) :=
  match P.underlying t with
  | some (.struct fs) => match fs[f]? with
    | some fd => match sizeOf P fd.type, aggOf P fd.type with
      | some n, some ag => some (fd.offset, n, ag)
      | _, _ => none
    | none => none
  | _ => none
/-- the parts' places and sizes -/
def placesOf (P : Program) (t : TypeId) : Option (Nat → Option (Nat × Nat)) :=
  match P.underlying t with
  | some (.struct fs) => (fs.toList.mapM fun f => (P.info? f.type).map fun i => (f.offset, i.size)).map fun l i => l[i]?
  | some (.array _ e) => (P.info? e).map fun n i => some (i * n.size, n.size)
  | _ => none
def compParts (place : Nat → Option (Nat × Nat)) : List (Nat × Operand) → Option (List (Nat × Nat × Od))
  | [] => some []
  | (i, x) :: r => match place i, compOd x, compParts place r with
    | some (o, n), some y, some r' => some ((o, n, y) :: r')
    | _, _, _ => none
def compRows : List (Nat × Operand) → Option (List (Nat × Od))
  | [] => some []
  | (i, x) :: r => match compOd x, compRows r with
    | some y, some r' => some ((i, y) :: r')
    | _, _ => none
def kindOf (P : Program) (t : TypeId) : Option IntKind :=
  match P.underlying t with
  | some (.int k) => some k
  | _ => none
def isStr (P : Program) (t : TypeId) : Bool :=
  match P.underlying t with
  | some .string => true
  | _ => false
/-- a slice's or a text's type -/
def isRow (P : Program) (t : TypeId) : Bool :=
  match P.underlying t with
  | some (.slice _) | some .string => true
  | _ => false
def leafK (P : Program) (t : TypeId) : Option LK :=
  match P.underlying t with
  | some .bool => some .bool
  | some (.int _) => some .int
  | some .string => some .str
  | _ => none
/-- fields of numbers, bools and texts alone, a cell a field, each compared: their kinds -/
def flatKs (P : Program) : Nat → List Field → Option (List LK)
  | _, [] => some []
  | i, f :: r => if f.name ≠ "_" ∧ f.offset = i then do pure ((← leafK P f.type) :: (← flatKs P (i + 1) r)) else none
def eqKOf (P : Program) (t : TypeId) : EqK :=
  match P.underlying t with
  | some .bool => .bool
  | some (.pointer _) => .ptr
  | some (.slice _) => .sl
  | some (.interface _) => .iface
  | some (.func ..) => .fn
  | some (.struct fs) => match flatKs P 0 fs.toList with
    | some ks => if P.stoodInHeld t = false ∧ P.eqGuardType P.depth t = false then .flat ks else .no
    | none => .no
  | _ => .no
/-- what is cut: a text, or a slice of elements of so many cells -/
def cutOf (P : Program) (t : TypeId) : Option (Option Nat) :=
  match P.underlying t with
  | some .string => some none
  | some (.slice e) => (sizeOf P e).map some
  | _ => none
def lenKOf (P : Program) (t : TypeId) : Option LenK :=
  match P.underlying t with
  | some .string => some .str
  | some (.slice _) => some .sl
  | some (.map _ _) => some .mp
  | _ => none
/-- a map's key is of numbers or texts; what is found where nothing is -/
def mapOf (P : Program) (t : TypeId) : Option (LK × V) :=
  match P.underlying t with
  | some (.map kt e) =>
    match P.underlying kt with
    | some (.int _) => (P.info? e).bind fun i => i.zero.map fun z => (.int, ofConst z)
    | some .string => (P.info? e).bind fun i => i.zero.map fun z => (.str, ofConst z)
    | _ => none
  | _ => none

def compOds (l : List Operand) : Option (List Od) := l.mapM compOd
def compO (x : Option Operand) : Option (Option Od) :=
  match x with
  | none => some none
  | some x => (compOd x).map some

def compOp (P : Program) : Op → Option CO
  | .move x | .assign x => (compOd x).map .mv
  | .pick c a b => do pure (.pick (← compOd c) (← compOd a) (← compOd b))
  | .alloc t => (zeroRow P t).map .alloc
  | .box t x => do pure (.box (← sizeOf P t) (← compOd x))
  | .build t ps => match zeroRow P t, placesOf P t with
    | some z, some place => (compParts place ps.toList).map (.build z)
    | _, _ => none
  | .buildSlice t n ps => do
    let z ← (elemOf P t).bind (zeroRow P)
    if n * z.length ≤ 16777216 then pure (.bslice z n (← compRows ps.toList)) else none
  | .load t p => do pure (.load (← aggOf P t) (← sizeOf P t) (← compOd p))
  | .store t p x => do pure (.store (← sizeOf P t) (← compOd p) (← compOd x))
  | .nilCheck x => (compOd x).map .nilchk
  | .binOp op t x y _ => do pure (.bin op (eqKOf P t) (← compOd x) (← compOd y))
  | .unOp op _ x => (compOd x).map (.una op)
  | .convert s d x => match kindOf P s, kindOf P d with
    | some _, some k => (compOd x).map (.conv k)
    | _, _ => if isStr P s && isStr P d then (compOd x).map .convS else none
  | .makeFunc (.func f) first cap => if first.size = 0 then (compOds cap.toList).map (.mkfn f) else none
  | .makeMap _ none => some .mkmap
  | .makeSlice t l c => do
    let e ← elemOf P t
    pure (.mkslice (← zeroRow P e) (← bytesOf P e) (← compOd l) (← compOd c))
  | .slice t x lo hi none => match cutOf P t with
    | some q => do pure (.slice q (← compOd x) (← compO lo) (← compO hi))
    | none => none
  | .fieldAddr t x f => do
    let (o, n, _) ← fieldOf P t f
    if n = 0 then none else pure (.faddr o (← compOd x))
  | .field t x f => do
    let (o, n, ag) ← fieldOf P t f
    pure (.field ag o n (← compOd x))
  | .indexAddr t x i => do
    let n ← (elemOf P t).bind (sizeOf P)
    pure (.iaddr n (← compOd x) (← compOd i))
  | .index t x i => if isStr P t then do pure (.index (← compOd x) (← compOd i)) else none
  | .extract x i => (compOd x).map (.extr · i)
  | .mapUpdate t m k x => do
    let (q, _) ← mapOf P t
    pure (.mapput q (← compOd m) (← compOd k) (← compOd x))
  | .call { callee := .builtin .len, args := args, argTypes := ts } => match args.toList, ts.toList with
    | [x], [t] => do pure (.len (← lenKOf P t) (← compOd x))
    | _, _ => none
  | .call { callee := .builtin .max, args := args, .. } => (compOds args.toList).map .max
  | .call { callee := .builtin .min, args := args, .. } => (compOds args.toList).map .min
  | .call { callee := .builtin .append, args := args, argTypes := ts } => match args.toList, ts.toList with
    | [s, x], [st, xt] => do
      let e ← elemOf P st
      let z ← zeroRow P e
      let b ← bytesOf P e
      if 0 < b ∧ isRow P xt = true ∧ (isStr P xt = false ∨ z.length = 1) then pure (.append z.length b (isStr P xt) (← compOd s) (← compOd x)) else none
    | _, _ => none
  | .call { callee := .value f, args := args, .. } => do pure (.call (← compOd f) (← compOds args.toList))
  | .panic x => (compOd x).map .panic
  | _ => none

/-! ### a region that draws its order -/
def readsOf (o : Oper) : List Tmp := o.op.operands.toList.filterMap fun | .tmp t => some t | _ => none
def guardT (ops : Array Oper) (o : Oper) : List Tmp :=
  match o.guard with
  | some (g, _) => ((ops[g]?).bind (·.dst)).toList
  | none => []
def looksOf (ops : Array Oper) (o : Oper) : List Tmp := guardT ops o ++ readsOf o
def namesOf (ops : Array Oper) (o : Oper) : List Tmp := o.dst.toList ++ looksOf ops o

def befores (ops : Array Oper) (i j : Nat) : Bool := ((Go.Region.before ops).getD j 0).testBit i

/-- the places of the effects, in the text's order -/
def effsOf (P : Program) (ops : Array Oper) : List Nat :=
  (List.range ops.size).filter fun i => (ops[i]?).any fun o => match compOp P o.op with | some c => clsOf c == .eff | none => true

def chained (ops : Array Oper) : List Nat → Bool
  | i :: j :: r => befores ops i j && chained ops (j :: r)
  | _ => true

/-- may this region's text be run in its own order? -/
def drawOk (P : Program) (ops : Array Oper) : Bool :=
  chained ops (effsOf P ops) &&
  (List.range ops.size).all (fun j => match ops[j]? with
    | none => false
    | some o =>
      (match o.guard with | some (g, _) => g < j && befores ops g j && ((ops[g]?).bind (·.dst)).isSome | none => true) &&
      (o.after.toList.all fun e => !Go.Region.binds .any e || decide (e.on < j)) &&
      (List.range j).all fun i => match ops[i]? with
        | none => false
        | some q => befores ops i j || ((match q.dst with | some d => !(namesOf ops o).contains d | none => true) && (match o.dst with | some d => !(namesOf ops q).contains d | none => true)))

def loOf (P : Program) (ops : Array Oper) (j : Nat) : Nat := ((effsOf P ops).filter fun e => befores ops e j).length
def hiOf (P : Program) (ops : Array Oper) (j : Nat) : Nat := ((effsOf P ops).takeWhile fun e => !befores ops j e).length

def guardOf (ops : Array Oper) (o : Oper) : Option (Option (Tmp × Bool)) :=
  match o.guard with
  | none => some none
  | some (j, b) => match (ops[j]?).bind (·.dst) with
    | some t => some (some (t, b))
    | none => none

def compPlain (P : Program) (A : Ann) (f : FuncId) (id : Nat) (ops : Array Oper) : Nat → List Oper → Option (List COper)
  | _, [] => some []
  | i, o :: r => do
    pure (⟨o.dst, ← guardOf ops o, ← compOp P o.op, A.pre f id i, A.mat f id i, 0, 0, []⟩ :: (← compPlain P A f id ops (i + 1) r))
def compDraw (P : Program) (ops : Array Oper) : Nat → List Oper → Option (List COper)
  | _, [] => some []
  | i, o :: r => do
    pure (⟨o.dst, ← guardOf ops o, ← compOp P o.op, [], [], loOf P ops i, hiOf P ops i, readsOf o⟩ :: (← compDraw P ops (i + 1) r))

def compC (P : Program) (A : Ann) (f : FuncId) : Code → Option (List Tmp) → Option CC
  | .skip, _ => some .skip
  | .region id ops draw, _ =>
    if draw then (if drawOk P ops then (compDraw P ops 0 ops.toList).map .drw else none)
    else (compPlain P A f id ops 0 ops.toList).map .reg
  | .seq a b, _ => do pure (.seq (← compC P A f a none) (← compC P A f b none))
  | .cond c a b, _ => do pure (.cond (← compOd c) (← compC P A f a none) (← compC P A f b none))
  | .block id c, _ => (compC P A f c (A.live f id)).map (.block id)
  | .loop c, lv => (compC P A f c none).map (.loop lv)
  | .exit id, _ => some (.exit id)
  | .ret, _ => some .ret
  | _, _ => none

def compRes (P : Program) : Go.ResultVar → Option CRes
  | .tmp t => some (.t t)
  | .cell a t => do pure (.cell a (← aggOf P t) (← sizeOf P t))

def compFn (P : Program) (A : Ann) (f : FuncId) : Option CFn :=
  match P.funcs[f]? with
  | none => none
  | some fn => match fn.body with
    | none => none
    | some c => if fn.name = "runtime.NumGoroutine" then none else do pure ⟨fn.ntmps, ← fn.results.toList.mapM (compRes P), ← compC P A f c none⟩

def table (P : Program) (A : Ann) : Table := compFn P A

end Mev
