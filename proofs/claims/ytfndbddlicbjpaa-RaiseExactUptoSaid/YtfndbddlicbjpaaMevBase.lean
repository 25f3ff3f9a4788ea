/- An evaluator of the model's code over abstract values: definitions. -/
import GoSem.Core.Code
import GoSem.Op.IntArith
import GoSem.Op.IntDiv
import GoSem.Op.String

set_option linter.unusedVariables false
namespace Mev
open Go (IntKind TypeId FuncId Tmp BinOp UnOp)

/-- Abstract values. -/
inductive V where
  | int (k : IntKind) (n : Int)
  | bool (b : Bool)
  | str (s : List UInt8)
  | nilp
  | ptr (id gen sz idx off : Nat)
  | rp (row : List V) (off : Nat)
  | nils
  | sl (id gen sz off len : Nat)
  | rs (sz : Nat) (rows : List (List V)) (len : Nat)
  | agg (cs : List V)
  | tup (vs : List V)
  | fn (f : FuncId) (cap : List V)
  | nilf
  | ifc (t : TypeId) (v : V)
  | nili
  | mp (id : Nat)
  | nilm
  | un

instance : Inhabited V := ⟨.un⟩

mutual
/-- all blocks that a value names lie below this one -/
def V.kb : V → Nat
  | .ptr id _ _ _ _ => id + 1
  | .sl id _ _ _ _ => id + 1
  | .mp id => id + 1
  | .agg cs => kbL cs
  | .tup vs => kbL vs
  | .fn _ cs => kbL cs
  | .ifc _ v => v.kb
  | _ => 0
def kbL : List V → Nat
  | [] => 0
  | v :: vs => max v.kb (kbL vs)
end
def kbLL : List (List V) → Nat
  | [] => 0
  | r :: rs => max (kbL r) (kbLL rs)

inductive Blk where
  | cells (sz : Nat) (rows : List (List V)) (gen lo : Nat)
  | map (es : List (V × V))
  | dead

/-- The blocks, the youngest first; no block below 'pin' is ever dropped. -/
structure St where
  bs : List Blk
  pin : Nat

def St.top (S : St) : Nat := S.bs.length
def St.get (S : St) (i : Nat) : Option Blk := if i < S.bs.length then S.bs[S.bs.length - 1 - i]? else none
def St.put (S : St) (i : Nat) (b : Blk) : St := if i < S.bs.length then { S with bs := S.bs.set (S.bs.length - 1 - i) b } else S
def St.push (S : St) (b : Blk) : St := { S with bs := b :: S.bs }
/-- drop the blocks from k on -/
def St.trunc (S : St) (k : Nat) : St := { S with bs := S.bs.drop (S.bs.length - k) }
def St.pinTo (S : St) (k : Nat) : St := { S with pin := max S.pin k }

/-- A frame's slots: how many, and what was written, the latest first. -/
structure Env where
  n : Nat
  l : List (Tmp × V)

def look (t : Tmp) : List (Tmp × V) → V
  | [] => .un
  | (u, v) :: r => if t = u then v else look t r
def Env.get (T : Env) (t : Tmp) : V := look t T.l
def Env.set (T : Env) (t : Tmp) (v : V) : Option Env := if t < T.n then some { T with l := (t, v) :: T.l } else none
def Env.keep (T : Env) (ts : List Tmp) : Env := { T with l := ts.map fun t => (t, T.get t) }
def Env.kb (T : Env) : List Tmp → Nat
  | [] => 0
  | t :: ts => max (T.get t).kb (T.kb ts)

/-- An operand: a slot, or a value. -/
inductive Od where
  | t (n : Nat)
  | c (v : V)

def opd (T : Env) : Od → V
  | .t n => T.get n
  | .c v => v

/-- the cells that a value takes in memory -/
def vcells : V → Option (List V)
  | .agg cs => some cs
  | .tup _ => none
  | .un => none
  | v => some [v]

def setAt (row : List V) (off : Nat) (cs : List V) : List V := row.take off ++ cs ++ row.drop (off + cs.length)

/-! ### memory -/
def loadS (S : St) (agg : Bool) (n : Nat) (p : V) : Option V :=
  let part (row : List V) (off : Nat) : Option V :=
    if agg then (if off + n ≤ row.length then some (.agg ((row.drop off).take n)) else none) else row[off]?
  match p with
  | .rp row off => part row off
  | .ptr id g sz idx off =>
    match S.get id with
    | some (.cells sz' rows gen lo) => if sz = sz' ∧ lo ≤ g ∧ g ≤ gen then (rows[idx]?).bind (part · off) else none
    | _ => none
  | _ => none

def storeS (S : St) (n : Nat) (p x : V) : Option St :=
  match p, vcells x with
  | .ptr id g sz' idx off, some cs =>
    match S.get id with
    | some (.cells sz rows gen lo) =>
      if sz' = sz ∧ g = gen ∧ lo ≤ gen ∧ cs.length = n then
        match rows[idx]? with
        | some row => if off + n ≤ row.length then some ((S.put id (.cells sz (rows.set idx (setAt row off cs)) gen gen)).pinTo (if kbL cs ≤ id then 0 else kbL cs)) else none
        | none => none
      else none
    | _ => none
  | _, _ => none

def newVar (S : St) (row : List V) : V × St := (.ptr S.top 0 row.length 0 0, S.push (.cells row.length [row] 0 0) |>.pinTo (if kbL row ≤ S.top then 0 else kbL row))
def newRows (S : St) (sz : Nat) (rows : List (List V)) : V × St :=
  (.sl S.top 0 sz 0 rows.length, S.push (.cells sz rows 0 0) |>.pinTo (if kbLL rows ≤ S.top then 0 else kbLL rows))

/-- the rows that a slice shows -/
def rowsOf (S : St) : V → Option (List (List V))
  | .nils => some []
  | .rs _ rows len => if len ≤ rows.length then some (rows.take len) else none
  | .sl id g sz off len =>
    match S.get id with
    | some (.cells sz' rows gen lo) => if sz = sz' ∧ lo ≤ g ∧ g ≤ gen ∧ off + len ≤ rows.length then some ((rows.drop off).take len) else none
    | _ => none
  | _ => none
def textRows : V → Option (List (List V))
  | .str s => some (s.map fun b => [.int .u8 b.toNat])
  | _ => none

def appendS (S : St) (sz bytes : Nat) (str : Bool) (base x : V) : Option (V × St) :=
  match (if str then textRows x else rowsOf S x) with
  | none => none
  | some new =>
    if new.any (fun r => r.length != sz) then none else
    match base with
    | .nils =>
      if new.length * bytes ≤ 140737488355328 then
        if new.length = 0 then some (.nils, S) else some (newRows S sz new)
      else none
    | .sl id g sz' off len =>
      match S.get id with
      | some (.cells sz'' rows gen lo) =>
        if g = gen ∧ lo ≤ g ∧ sz = sz' ∧ sz = sz'' ∧ (off + len + new.length) * bytes ≤ 140737488355328 then
          if new.length = 0 then (if off + len ≤ rows.length then some (base, S) else none)
          else if off + len = rows.length then
            if off = 0 then
              some (.sl id (gen + 1) sz off (len + new.length), (S.put id (.cells sz (rows ++ new) (gen + 1) lo)).pinTo (if kbLL new ≤ id then 0 else kbLL new))
            else none
          else if off = 0 ∧ len < rows.length then
            some (.sl id (gen + 1) sz 0 (len + new.length), (S.put id (.cells sz (rows.take len ++ new) (gen + 1) (gen + 1))).pinTo (if kbLL new ≤ id then 0 else kbLL new))
          else none
        else none
      | _ => none
    | _ => none

/-! ### numbers, texts -/
def intOp (op : BinOp) (k : IntKind) (a b : Int) : Option V :=
  match op with
  | .add => some (.int k (k.wrap (a + b)))
  | .sub => some (.int k (k.wrap (a - b)))
  | .mul => some (.int k (k.wrap (a * b)))
  | .quo => if b = 0 then none else some (.int k (k.wrap (a.tdiv b)))
  | .rem => if b = 0 then none else some (.int k (a.tmod b))
  | .and => some (.int k (k.wrap (BitVec.ofInt k.bits a &&& BitVec.ofInt k.bits b).toNat))
  | .or => some (.int k (k.wrap (BitVec.ofInt k.bits a ||| BitVec.ofInt k.bits b).toNat))
  | .xor => some (.int k (k.wrap (BitVec.ofInt k.bits a ^^^ BitVec.ofInt k.bits b).toNat))
  | .andNot => some (.int k (k.wrap (BitVec.ofInt k.bits a &&& ~~~(BitVec.ofInt k.bits b)).toNat))
  | .eql => some (.bool (decide (a = b)))
  | .neq => some (.bool (!decide (a = b)))
  | .lss => some (.bool (a < b))
  | .leq => some (.bool (a ≤ b))
  | .gtr => some (.bool (a > b))
  | .geq => some (.bool (a ≥ b))
  | _ => none
def shiftOp (op : BinOp) (k : IntKind) (a b : Int) : Option V :=
  if b < 0 then none else
  match op with
  | .shl => some (.int k (k.wrap (a * 2 ^ (min b.toNat k.bits))))
  | .shr => some (.int k (a.fdiv (2 ^ (min b.toNat k.bits))))
  | _ => none
def strOp (op : BinOp) (a b : List UInt8) : Option V :=
  match op with
  | .add => if a.length + b.length ≤ 4611686018427387904 then some (.str (a ++ b)) else none
  | .eql => some (.bool (decide (a = b)))
  | .neq => some (.bool (!decide (a = b)))
  | .lss => some (.bool (Go.Op.bytesLess a b))
  | .leq => some (.bool (Go.Op.bytesLess a b || decide (a = b)))
  | .gtr => some (.bool (!(Go.Op.bytesLess a b || decide (a = b))))
  | .geq => some (.bool (!Go.Op.bytesLess a b))
  | _ => none

def leafEq : V → V → Option Bool
  | .int k a, .int k' b => if k = k' then some (decide (a = b)) else none
  | .bool a, .bool b => some (decide (a = b))
  | .str a, .str b => some (decide (a = b))
  | _, _ => none
/-- what a field of a struct that is held against another holds -/
inductive LK where
  | int | bool | str
  deriving DecidableEq
def leafEqK : LK → V → V → Option Bool
  | .int, .int k a, .int k' b => if k = k' then some (decide (a = b)) else none
  | .bool, .bool a, .bool b => some (decide (a = b))
  | .str, .str a, .str b => some (decide (a = b))
  | _, _, _ => none
def cellsEq : List LK → List V → List V → Option Bool
  | [], [], [] => some true
  | k :: ks, a :: as, b :: bs => match leafEqK k a b with
    | some t => (cellsEq ks as bs).map fun r => t && r
    | none => none
  | _, _, _ => none

/-- what kind of values is held against one another -/
inductive EqK where
  | no | flat (ks : List LK) | bool | ptr | sl | iface | fn
  deriving DecidableEq

def eqlOp (q : EqK) (x y : V) : Option Bool :=
  match q with
  | .no => none
  /- a struct of numbers, bools and texts alone -/
  | .flat ks => match x, y with
    | .agg a, .agg b => cellsEq ks a b
    | _, _ => none
  | .bool => match x, y with
    | .bool a, .bool b => some (decide (a = b))
    | _, _ => none
  | .ptr => match x, y with
    | .nilp, .nilp => some true
    | .nilp, .ptr .. | .ptr .., .nilp | .nilp, .rp .. | .rp .., .nilp => some false
    | _, _ => none
  | .sl => match x, y with
    | .nils, .nils => some true
    | _, _ => none
  | .iface => match x, y with
    | .nili, .ifc .. | .ifc .., .nili => some false
    | _, _ => none
  | .fn => match x, y with
    | .nilf, .nilf => some true
    | .nilf, .fn .. | .fn .., .nilf => some false
    | _, _ => none

def binOp (op : BinOp) (q : EqK) (x y : V) : Option V :=
  match x, y with
  | .int k a, .int k' b =>
    match op with
    | .shl | .shr => shiftOp op k a b
    | _ => if k = k' then intOp op k a b else none
  | .str a, .str b => strOp op a b
  | x, y => match op with
    | .eql => (eqlOp q x y).map .bool
    | .neq => (eqlOp q x y).map fun b => .bool (!b)
    | _ => none
def unOp (op : UnOp) (x : V) : Option V :=
  match op, x with
  | .neg, .int k n => intOp .sub k 0 n
  | .xor, .int k n => intOp .xor k (if k.signed then -1 else k.max) n
  | .not, .bool b => some (.bool (!b))
  | _, _ => none

def asI : V → Option Int
  | .int _ n => some n
  | _ => none

def maxV : V → V → Option V
  | .int k x, .int k' y => if k = k' then some (.int k (if y > x then y else x)) else none
  | _, _ => none
def minV : V → V → Option V
  | .int k x, .int k' y => if k = k' then some (.int k (if y < x then y else x)) else none
  | _, _ => none
def foldV (f : V → V → Option V) : V → List V → Option V
  | x, [] => some x
  | x, y :: r => match f x y with
    | some z => foldV f z r
    | none => none

/-! ### what is cut out -/
def sliceT (x : V) (lo hi : Option Int) : Option V :=
  match x with
  | .str s =>
    let h := hi.getD s.length
    let l := lo.getD 0
    if 0 ≤ l ∧ l ≤ h ∧ h ≤ s.length then some (.str ((s.take h.toNat).drop l.toNat)) else none
  | _ => none
def sliceS (S : St) (sz0 : Nat) (x : V) (lo hi : Option Int) : Option V :=
  match x with
  | .nils => if lo.getD 0 = 0 ∧ hi.getD 0 = 0 then some .nils else none
  | .rs sz rows len =>
    let h := hi.getD len
    let l := lo.getD 0
    if sz0 = sz ∧ 0 ≤ l ∧ l ≤ h ∧ h ≤ rows.length then some (.rs sz (rows.drop l.toNat) (h - l).toNat) else none
  | .sl id g sz off len =>
    if sz0 = sz ∧ 0 ≤ lo.getD 0 ∧ lo.getD 0 ≤ hi.getD len ∧ hi.getD len ≤ len then some (.sl id g sz (off + (lo.getD 0).toNat) (hi.getD len - lo.getD 0).toNat) else
    match S.get id with
    | some (.cells sz' rows gen lo') =>
      let h := hi.getD len
      let l := lo.getD 0
      if sz0 = sz ∧ sz = sz' ∧ g = gen ∧ lo' ≤ g ∧ 0 ≤ l ∧ l ≤ h ∧ off + h ≤ rows.length then some (.sl id g sz (off + l.toNat) (h - l).toNat) else none
    | _ => none
  | _ => none

def cutS (S : St) (q : Option Nat) (x : V) (lo hi : Option Int) : Option V :=
  match q with
  | none => sliceT x lo hi
  | some sz => sliceS S sz x lo hi

def idxAddr (sz : Nat) (x : V) (i : Int) : Option V :=
  match x with
  | .sl id g sz' off len => if sz = sz' ∧ 0 ≤ i ∧ i < len then some (.ptr id g sz (off + i.toNat) 0) else none
  | .rs sz' rows len => if sz = sz' ∧ 0 ≤ i ∧ i < len then (rows[i.toNat]?).map (.rp · 0) else none
  | _ => none

inductive LenK where
  | str | sl | mp
  deriving DecidableEq
def lenOf (S : St) (q : LenK) (v : V) : Option Nat :=
  match q with
  | .str => match v with
    | .str s => some s.length
    | _ => none
  | .sl => match v with
    | .nils => some 0
    | .sl _ _ _ _ len => some len
    | .rs _ _ len => some len
    | _ => none
  | .mp => match v with
    | .nilm => some 0
    | .mp id => match S.get id with
      | some (.map es) => some es.length
      | _ => none
    | _ => none

/-! ### maps -/
def keyOk : V → Bool
  | .int .. | .str _ => true
  | _ => false
def keyOkK : LK → V → Bool
  | .int, .int .. => true
  | .str, .str _ => true
  | _, _ => false
def findE (k : V) : List (V × V) → Option (Option V)
  | [] => some none
  | (k', v) :: r => match leafEq k k' with
    | some true => some (some v)
    | some false => findE k r
    | none => none
def putE (k v : V) : List (V × V) → List (V × V)
  | [] => [(k, v)]
  | (k', w) :: r => match leafEq k k' with
    | some true => (k, v) :: r
    | _ => (k', w) :: putE k v r

/-- parts of a struct or an array at their places -/
def fillS : List (Nat × List V) → List V → Option (List V)
  | [], row => some row
  | (off, cs) :: r, row => if off + cs.length ≤ row.length then fillS r (setAt row off cs) else none

def partsOf (T : Env) : List (Nat × Nat × Od) → Option (List (Nat × List V))
  | [] => some []
  | (off, n, x) :: r =>
    match vcells (opd T x), partsOf T r with
    | some cs, some r' => if cs.length = n then some ((off, cs) :: r') else none
    | _, _ => none

def rowsParts (sz : Nat) (T : Env) : List (Nat × Od) → List (List V) → Option (List (List V))
  | [], rows => some rows
  | (i, x) :: r, rows =>
    match vcells (opd T x) with
    | some cs => if cs.length = sz ∧ i < rows.length then rowsParts sz T r (rows.set i cs) else none
    | none => none

/-- Operations, what they ask of types laid in. -/
inductive CO where
  | mv (x : Od)
  | pick (c a b : Od)
  | alloc (z : List V)
  | box (n : Nat) (x : Od)
  | build (z : List V) (ps : List (Nat × Nat × Od))
  | bslice (z : List V) (n : Nat) (ps : List (Nat × Od))
  | load (ag : Bool) (n : Nat) (p : Od)
  | store (n : Nat) (p x : Od)
  | nilchk (x : Od)
  | bin (op : BinOp) (q : EqK) (x y : Od)
  | una (op : UnOp) (x : Od)
  | conv (k : IntKind) (x : Od)
  | convS (x : Od)
  | mkfn (f : FuncId) (cap : List Od)
  | mkmap
  | mkslice (z : List V) (bytes : Nat) (l c : Od)
  /-- of a text; of a slice whose elements have so many cells -/
  | slice (q : Option Nat) (x : Od) (lo hi : Option Od)
  | faddr (off : Nat) (x : Od)
  | field (ag : Bool) (off n : Nat) (x : Od)
  | iaddr (sz : Nat) (x i : Od)
  | index (x i : Od)
  | extr (x : Od) (i : Nat)
  | lookup (q : LK) (z : V) (m k : Od) (ok : Bool)
  | mapput (q : LK) (m k x : Od)
  | len (q : LenK) (x : Od)
  | max (xs : List Od)
  | min (xs : List Od)
  | append (n bytes : Nat) (str : Bool) (s x : Od)
  | call (f : Od) (args : List Od)
  | panic (x : Od)

/-- an optional bound: absent, a number, or no number -/
def bound (T : Env) : Option Od → Option (Option Int)
  | none => some none
  | some x => (asI (opd T x)).map some

/-- The operations that call nothing. -/
def evOp (T : Env) (S : St) : CO → Option (V × St)
  | .mv x => some (opd T x, S)
  | .pick c a b => match opd T c with
    | .bool t => some (if t then opd T a else opd T b, S)
    | _ => none
  | .alloc z => some (newVar S z)
  | .box n x => match vcells (opd T x) with
    | some cs => if cs.length = n then some (newVar S cs) else none
    | none => none
  | .build z ps => match partsOf T ps with
    | some l => (fillS l z).map fun r => (.agg r, S)
    | none => none
  | .bslice z n ps => (rowsParts z.length T ps (List.replicate n z)).map (newRows S z.length ·)
  | .load ag n p => (loadS S ag n (opd T p)).map fun v => (v, S)
  | .store n p x => (storeS S n (opd T p) (opd T x)).map fun S' => (.un, S')
  | .nilchk x => match opd T x with
    | .ptr id g sz idx off => some (.ptr id g sz idx off, S)
    | .rp row off => some (.rp row off, S)
    | .fn f c => some (.fn f c, S)
    | _ => none
  | .bin op q x y => (binOp op q (opd T x) (opd T y)).map fun v => (v, S)
  | .una op x => (unOp op (opd T x)).map fun v => (v, S)
  | .conv k x => match opd T x with
    | .int _ n => some (.int k (k.wrap n), S)
    | _ => none
  | .convS x => match opd T x with
    | .str l => some (.str l, S)
    | _ => none
  | .mkfn f cap => some (.fn f (cap.map (opd T)), S)
  | .mkmap => some (.mp S.top, S.push (.map []))
  | .mkslice z b l c => match opd T l, opd T c with
    | .int .i64 n, .int .i64 m => if 0 ≤ n ∧ n ≤ m ∧ m * b ≤ 140737488355328 ∧ m ≤ 140737488355328 then some (newRows S z.length (List.replicate n.toNat z)) else none
    | _, _ => none
  | .slice q x lo hi => match bound T lo, bound T hi with
    | some l, some h => (cutS S q (opd T x) l h).map fun v => (v, S)
    | _, _ => none
  | .faddr o x => match opd T x with
    | .ptr id g sz idx off => some (.ptr id g sz idx (off + o), S)
    | .rp row off => some (.rp row (off + o), S)
    | _ => none
  | .field ag off n x => match opd T x with
    | .agg cs => if ag then (if off + n ≤ cs.length then some (.agg ((cs.drop off).take n), S) else none) else (cs[off]?).map fun v => (v, S)
    | _ => none
  | .iaddr sz x i => match asI (opd T i) with
    | some n => (idxAddr sz (opd T x) n).map fun v => (v, S)
    | none => none
  | .index x i => match opd T x, asI (opd T i) with
    | .str s, some n => if 0 ≤ n then (s[n.toNat]?).map fun b => (.int .u8 b.toNat, S) else none
    | _, _ => none
  | .extr x i => match opd T x with
    | .tup vs => (vs[i]?).map fun v => (v, S)
    | _ => none
  | .lookup q z m k ok => match opd T m with
    | .mp id => match S.get id with
      | some (.map es) => match findE (opd T k) es with
        | some r => if keyOkK q (opd T k) then some (if ok then .tup [r.getD z, .bool r.isSome] else r.getD z, S) else none
        | none => none
      | _ => none
    | _ => none
  | .mapput q m k x => match opd T m with
    | .mp id => match S.get id with
      | some (.map es) =>
        if keyOkK q (opd T k) && (findE (opd T k) es).isSome then
          some (.un, (S.put id (.map (putE (opd T k) (opd T x) es))).pinTo (if Nat.max (opd T k).kb (opd T x).kb ≤ id then 0 else Nat.max (opd T k).kb (opd T x).kb))
        else none
      | _ => none
    | _ => none
  | .len q x => (lenOf S q (opd T x)).map fun n => (.int .i64 n, S)
  | .max xs => match xs with
    | [] => none
    | x :: r => (foldV maxV (opd T x) (r.map (opd T))).map fun v => (v, S)
  | .min xs => match xs with
    | [] => none
    | x :: r => (foldV minV (opd T x) (r.map (opd T))).map fun v => (v, S)
  | .append n b q s x => appendS S n b q (opd T s) (opd T x)
  | .call .. => none
  | .panic _ => none

end Mev
