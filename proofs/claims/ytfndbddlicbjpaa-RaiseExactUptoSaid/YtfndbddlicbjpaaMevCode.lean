/- An evaluator over abstract values: regions, statements, functions. -/
import Derived.Test.YtfndbddlicbjpaaMevBase

set_option linter.unusedVariables false
namespace Mev
open Go (IntKind TypeId FuncId Tmp BinOp UnOp)

inductive Ex where
  | norm
  | exit (id : Nat)
  | goto (l : Nat)
  | ret
  | pan (v : V)

inductive Out where
  | ret (v : V)
  | pan (v : V)

abbrev Oracle := FuncId → List V → St → Option (Out × St)

/-- Ghost steps ahead of an operation: a slice (or a cell of an aggregate) is read by value from now on; spare room is forgotten. -/
inductive Gh where
  | freeze (t : Tmp) (pos : Option Nat) (sz : Nat)
  | trim (t : Tmp)

def freezeV (S : St) (sz : Nat) (v : V) : Option (V × St) :=
  match v with
  | .nils => some (.rs sz [] 0, S)
  | .rs a b c => some (.rs a b c, S)
  | .sl id g sz' off len =>
    match S.get id with
    | some (.cells sz'' rows gen lo) =>
      if sz' = sz ∧ sz'' = sz ∧ g = gen ∧ lo ≤ g ∧ kbLL rows = 0 ∧ off + len ≤ rows.length then some (.rs sz (rows.drop off) len, S.put id .dead) else none
    | _ => none
  | _ => none

mutual
def trimV : V → V
  | .rs sz rows len => .rs sz (trimLL len rows) len
  | .agg cs => .agg (trimL cs)
  | v => v
def trimL : List V → List V
  | [] => []
  | v :: r => trimV v :: trimL r
def trimLL : Nat → List (List V) → List (List V)
  | _, [] => []
  | 0, _ => []
  | n + 1, r :: rs => trimL r :: trimLL n rs
end

def ghost (g : Gh) (T : Env) (S : St) : Option (Env × St) :=
  match g with
  | .trim t => (T.set t (trimV (T.get t))).map fun T' => (T', S)
  | .freeze t none sz => match freezeV S sz (T.get t) with
    | some (v, S') => (T.set t v).map fun T' => (T', S')
    | none => none
  | .freeze t (some p) sz => match T.get t with
    | .agg cs => match cs[p]? with
      | some c => match freezeV S sz c with
        | some (v, S') => (T.set t (.agg (cs.set p v))).map fun T' => (T', S')
        | none => none
      | none => none
    | _ => none
def ghosts : List Gh → Env → St → Option (Env × St)
  | [], T, S => some (T, S)
  | g :: r, T, S => match ghost g T S with
    | some (T', S') => ghosts r T' S'
    | none => none

/-- a nil slice becomes an empty slice of a block of its own that has no memory yet -/
def matRow : List (Nat × Nat) → List V → St → Option (List V × St)
  | [], cs, S => some (cs, S)
  | (p, sz) :: r, cs, S => match cs[p]? with
    | some .nils => matRow r (cs.set p (.sl S.top 0 sz 0 0)) (S.push (.cells sz [] 0 0))
    | _ => none
def matV (l : List (Nat × Nat)) (v : V) (S : St) : Option (V × St) :=
  match l with
  | [] => some (v, S)
  | l => match v with
    | .agg cs => (matRow l cs S).map fun (cs', S') => (.agg cs', S')
    | .nils => match l with
      | [(0, sz)] => some (.sl S.top 0 sz 0 0, S.push (.cells sz [] 0 0))
      | _ => none
    | _ => none

/-- An operation in its place. -/
structure COper where
  d : Option Tmp
  g : Option (Tmp × Bool)
  op : CO
  pre : List Gh
  mat : List (Nat × Nat)
  /-- in a region that draws its order: how many effects must have been ahead, behind how many it may come -/
  lo : Nat
  hi : Nat
  /-- there too: the slots that it reads -/
  nm : List Tmp

def evOper (C : Oracle) (T : Env) (S : St) (mt : List (Nat × Nat)) (o : CO) : Option (Out × St) :=
  match o with
  | .call f args => match opd T f with
    | .fn g cap => C g (args.map (opd T) ++ cap) S
    | _ => none
  | .panic x => match opd T x with
    | .ifc t v => some (.pan (.ifc t v), S)
    | _ => none
  | .alloc z => (matRow mt z S).map fun (z', S') => (.ret (newVar S' z').1, (newVar S' z').2)
  | op => match evOp T S op with
    | some (v, S') => (matV mt v S').map fun (v', S'') => (.ret v', S'')
    | none => none

def Env.setO (T : Env) (d : Option Tmp) (v : V) : Option Env :=
  match d with
  | none => some T
  | some d => T.set d v

/-- is an operation wanted, by what its guard yielded? -/
def wantedE (T : Env) (g : Option (Tmp × Bool)) : Option Bool :=
  match g with
  | none => some true
  | some (t, b) => match T.get t with
    | .bool c => some (c == b)
    | .tup [] => some false
    | _ => none

def evOps (C : Oracle) : List COper → Env → St → Option (Ex × Env × St)
  | [], T, S => some (.norm, T, S)
  | o :: r, T, S =>
    match ghosts o.pre T S with
    | none => none
    | some (T, S) =>
      match wantedE T o.g with
      | none => none
      | some false => match T.setO o.d (.tup []) with
        | some T' => evOps C r T' S
        | none => none
      | some true => match evOper C T S o.mat o.op with
        | some (.ret v, S') => match T.setO o.d v with
          | some T' => evOps C r T' S'
          | none => none
        | some (.pan v, S') => some (.pan v, T, S')
        | none => none

/-! ### a region that draws its order -/
inductive Cls where
  | pure | alloc | load | eff
  deriving DecidableEq

def clsOf : CO → Cls
  | .mv _ | .pick .. | .build .. | .nilchk _ | .bin .. | .una .. | .conv .. | .convS _ | .mkfn .. | .slice .. | .faddr .. | .field ..
  | .iaddr .. | .index .. | .extr .. | .len .. | .max _ | .min _ => .pure
  | .alloc _ | .box .. | .bslice .. | .mkslice .. => .alloc
  | .load .. => .load
  | .mkmap | .store .. | .lookup .. | .mapput .. | .append .. | .call .. | .panic _ => .eff

/-- what must hold behind each effect up to one -/
structure Pend where
  hi : Nat
  ok : St → Prop

open Classical in
noncomputable def pendOk (pend : List Pend) (n : Nat) (S : St) : Bool := pend.all fun q => decide (q.hi < n) || decide (q.ok S)
open Classical in
noncomputable def logOk (log : List St) (lo : Nat) (ok : St → Prop) : Bool := (log.take (log.length - lo)).all fun S => decide (ok S)

/-- is the newest block made of nothing newer? -/
def freshOk (S S' : St) : Bool :=
  match S'.get S.top with
  | some (.cells _ rows 0 0) => decide (kbLL rows ≤ S.top)
  | _ => false

/-- 'log': the states behind each effect, the latest first, the region's begin last. -/
noncomputable def evDraw (C : Oracle) : List COper → List St → List Pend → Env → St → Option (Ex × Env × St)
  | [], _, _, T, S => some (.norm, T, S)
  | o :: r, log, pend, T, S =>
    match wantedE T o.g with
    | none => none
    | some false => match T.setO o.d (.tup []) with
      | some T' => match clsOf o.op with
        | .eff => if pendOk pend log.length S then evDraw C r (S :: log) pend T' S else none
        | _ => evDraw C r log pend T' S
      | none => none
    | some true =>
      match clsOf o.op with
      | .pure => match evOp (T.keep o.nm) ⟨[], 0⟩ o.op with
        | some (v, _) => match T.setO o.d v with
          | some T' => evDraw C r log pend T' S
          | none => none
        | none => none
      | .alloc => match evOp (T.keep o.nm) S o.op with
        | some (v, S') => match T.setO o.d v with
          | some T' => if freshOk S S' then evDraw C r log (⟨o.hi, fun S'' => S''.get S.top = S'.get S.top⟩ :: pend) T' S' else none
          | none => none
        | none => none
      | .load => match o.op with
        | .load ag n p => match loadS S ag n (opd (T.keep o.nm) p) with
          | some v => match T.setO o.d v with
            | some T' =>
              if logOk log o.lo fun S' => loadS S' ag n (opd (T.keep o.nm) p) = some v then
                evDraw C r log (⟨o.hi, fun S' => loadS S' ag n (opd (T.keep o.nm) p) = some v⟩ :: pend) T' S
              else none
            | none => none
          | none => none
        | _ => none
      | .eff => match evOper C (T.keep o.nm) S [] o.op with
        | some (.ret v, S') => match T.setO o.d v with
          | some T' => if decide ((T.keep o.nm).kb o.nm ≤ S.top) && (decide (S.top ≤ S'.top) && pendOk pend log.length S') then evDraw C r (S' :: log) pend T' S' else none
          | none => none
        | some (.pan v, S') => some (.pan v, { T with l := [] }, S')
        | none => none

/-! ### statements -/
inductive CC where
  | skip
  | reg (ops : List COper)
  | drw (ops : List COper)
  | seq (a b : CC)
  | cond (c : Od) (a b : CC)
  | block (id : Nat) (c : CC)
  /-- 'lv': what is carried from round to round -/
  | loop (lv : Option (List Tmp)) (body : CC)
  | exit (id : Nat)
  | ret

/-- at a loop's head: what is not carried is forgotten; blocks of the round go -/
def settle (lv : Option (List Tmp)) (k : Nat × Nat) (T : Env) (S : St) : Env × St :=
  match lv with
  | none => (T, S)
  | some ts => (T.keep ts, if T.kb ts ≤ k.1 ∧ S.pin = k.2 ∧ k.1 ≤ S.top then S.trunc k.1 else S)

/-- 'k': the blocks, and the pin, at the loop's begin. -/
def loopN (lv : Option (List Tmp)) (k : Nat × Nat) (f : Env → St → Option (Ex × Env × St)) : Nat → Env → St → Option (Ex × Env × St)
  | 0, _, _ => none
  | n + 1, T, S =>
    match f T S with
    | some (.norm, T', S') => loopN lv k f n (settle lv k T' S').1 (settle lv k T' S').2
    | r => r

def blockEx (id : Nat) : Option (Ex × Env × St) → Option (Ex × Env × St)
  | some (.exit i, T, S) => if i = id then some (.norm, T, S) else some (.exit i, T, S)
  | r => r

def seqEx (r : Option (Ex × Env × St)) (k : Env → St → Option (Ex × Env × St)) : Option (Ex × Env × St) :=
  match r with
  | some (.norm, T, S) => k T S
  | r => r

abbrev Looper := Option (List Tmp) → Nat × Nat → (Env → St → Option (Ex × Env × St)) → Env → St → Option (Ex × Env × St)

def keepO (lv : Option (List Tmp)) (T : Env) : Env :=
  match lv with
  | none => T
  | some ts => T.keep ts

noncomputable def evC (C : Oracle) (L : Looper) : CC → Env → St → Option (Ex × Env × St)
  | .skip, T, S => some (.norm, T, S)
  | .reg ops, T, S => evOps C ops T S
  | .drw ops, T, S => evDraw C ops [S] [] T S
  | .seq a b, T, S => seqEx (evC C L a T S) (evC C L b)
  | .cond c a b, T, S => match opd T c with
    | .bool true => evC C L a T S
    | .bool false => evC C L b T S
    | _ => none
  | .block id c, T, S => blockEx id (evC C L c T S)
  | .loop lv body, T, S => L lv (S.top, S.pin) (evC C L body) (keepO lv T) S
  | .exit id, T, S => some (.exit id, T, S)
  | .ret, T, S => some (.ret, T, S)

/-! ### functions -/
inductive CRes where
  | t (n : Tmp)
  | cell (a : Tmp) (ag : Bool) (n : Nat)

structure CFn where
  n : Nat
  res : List CRes
  body : CC

def resOf (T : Env) (S : St) : List CRes → Option (List V)
  | [] => some []
  | .t t :: r => (resOf T S r).map (T.get t :: ·)
  | .cell a ag n :: r => match loadS S ag n (T.get a), resOf T S r with
    | some v, some vs => some (v :: vs)
    | _, _ => none

def oneOrTup : List V → V
  | [v] => v
  | vs => .tup vs

def leave (k : Nat × Nat) (v : V) (S : St) : St := if v.kb ≤ k.1 ∧ S.pin = k.2 ∧ k.1 ≤ S.top then S.trunc k.1 else S

def argsEnv : Nat → List V → List (Tmp × V)
  | _, [] => []
  | i, v :: r => (i, v) :: argsEnv (i + 1) r

noncomputable def evFn (C : Oracle) (L : Looper) (fn : CFn) (args : List V) (S : St) : Option (Out × St) :=
  if fn.n < args.length then none else
  match evC C L fn.body ⟨fn.n, argsEnv 0 args⟩ S with
  | some (.norm, T, S') | some (.ret, T, S') => (resOf T S' fn.res).map fun vs => (.ret (oneOrTup vs), leave (S.top, S.pin) (oneOrTup vs) S')
  | some (.pan v, _, S') => some (.pan v, leave (S.top, S.pin) v S')
  | _ => none

abbrev Table := FuncId → Option CFn

noncomputable def evBody (Q : Table) (C : Oracle) (L : Looper) (f : FuncId) (args : List V) (S : St) : Option (Out × St) :=
  match Q f with
  | none => none
  | some fn => evFn C L fn args S

def loopK (n : Nat) : Looper := fun lv k f T S => loopN lv k f n T S

/-- The fuel bounds the calls' depth and each loop's rounds. -/
noncomputable def evF (Q : Table) : Nat → Oracle
  | 0 => fun _ _ _ => none
  | n + 1 => evBody Q (evF Q n) (loopK n)

end Mev
