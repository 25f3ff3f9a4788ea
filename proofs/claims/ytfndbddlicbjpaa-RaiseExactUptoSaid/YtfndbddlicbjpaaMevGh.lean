/- How the evaluator steps where a slice is frozen, or a nil slice gets a block. -/
import Derived.Test.YtfndbddlicbjpaaMevStep

set_option linter.unusedVariables false
namespace Mev
open Go (IntKind TypeId FuncId Tmp BinOp UnOp)

def kP (C : Oracle) (r : List COper) : Env → St → R := fun T S => evOps C r T S
def preK (r : Option (Env × St)) (k : Env → St → R) : R := match r with | some (T, S) => k T S | none => none
@[simp] theorem preK_some (T : Env) (S : St) (C : Oracle) (r : List COper) : preK (some (T, S)) (kP C r) = evOps C r T S := rfl
section
variable (C : Oracle) (T : Env) (S : St)
@[simp] theorem evOps_m {n d : Nat} (h : d < n) (l : List (Tmp × V)) (op : CO) (p : Nat × Nat) (m : List (Nat × Nat)) (a b : Nat) (nm : List Tmp) (r : List COper) :
    evOps C (⟨some d, none, op, [], p :: m, a, b, nm⟩ :: r) ⟨n, l⟩ S = retK (evOper C ⟨n, l⟩ S (p :: m) op) (kO C r n l d) (pO n l) := by
  simp only [evOps, ghosts, wantedE, Env.setO, Env.set, retK, kO, pO]
  rcases evOper C ⟨n, l⟩ S (p :: m) op with _ | ⟨_ | _, _⟩ <;> simp [h]
@[simp] theorem evOps_pre (d : Option Tmp) (op : CO) (gh : Gh) (ps : List Gh) (m : List (Nat × Nat)) (a b : Nat) (nm : List Tmp) (r : List COper) :
    evOps C (⟨d, none, op, gh :: ps, m, a, b, nm⟩ :: r) T S = preK (ghost gh T S) (kP C (⟨d, none, op, ps, m, a, b, nm⟩ :: r)) := by
  simp only [evOps, ghosts, wantedE, preK, kP]
  cases ghost gh T S with
  | none => rfl
  | some x => rfl
@[simp] theorem evOper_mvM (y : Od) (p : Nat × Nat) (m : List (Nat × Nat)) : evOper C T S (p :: m) (.mv y) = stK (matV (p :: m) (opd T y) S) := by
  simp only [evOper, evOp, stK]
  try (cases matV (p :: m) (opd T y) S with
  | none => rfl
  | some x => rfl)
@[simp] theorem evOper_allocM (z : List V) (p : Nat × Nat) (m : List (Nat × Nat)) : evOper C T S (p :: m) (.alloc z) = (matRow (p :: m) z S).map fun (z', S') => (.ret (newVar S' z').1, (newVar S' z').2) := rfl
def matK (r : Option V) (m : List (Nat × Nat)) (S : St) : Option (Out × St) := match r with | some v => stK (matV m v S) | none => none
@[simp] theorem matK_some (v : V) (m : List (Nat × Nat)) (S : St) : matK (some v) m S = stK (matV m v S) := rfl
@[simp] theorem evOper_buildM (z : List V) (ps : List (Nat × Nat × Od)) (p : Nat × Nat) (m : List (Nat × Nat)) : evOper C T S (p :: m) (.build z ps) = matK ((partsOf T ps).bind fun l => (fillS l z).map .agg) (p :: m) S := by
  simp only [evOper, evOp, stK]
  cases partsOf T ps with
  | none => rfl
  | some l =>
    simp only [Option.bind_some]
    cases fillS l z with
    | none => rfl
    | some w =>
      simp only [Option.map_some, matK, stK]
end
attribute [simp] matV matRow freezeV
end Mev
