/- Steps of regions that draw their order, under a guard. -/
import Derived.Test.YtfndbddlicbjpaaMevStep

set_option maxRecDepth 100000
namespace Mev
open Go (IntKind TypeId FuncId Tmp BinOp UnOp)

section
variable (S : St) (C : Oracle) (r : List COper) (log : List St) (pend : List Pend) {n : Nat} (l : List (Tmp × V)) {d : Tmp} (h : d < n) (lo hi : Nat) (nm : List Tmp) (op : CO) (hc : clsOf op ≠ .eff) (t : Tmp)
include h hc
theorem evDraw_skips (b : Bool) (hb : look t l = .tup []) : evDraw C (⟨some d, some (t, b), op, [], [], lo, hi, nm⟩ :: r) log pend ⟨n, l⟩ S = evDraw C r log pend ⟨n, (d, .tup []) :: l⟩ S := by
  have h1 : wantedE ⟨n, l⟩ (some (t, b)) = some false := by simp only [wantedE, get_mk, hb]
  conv => lhs; unfold evDraw
  simp only [h1, Env.setO, Env.set, h, if_true]
  try (cases hk : clsOf op <;> first | exact absurd hk hc | rfl)
theorem evDraw_skip (b : Bool) (hb : look t l = .bool (!b)) : evDraw C (⟨some d, some (t, b), op, [], [], lo, hi, nm⟩ :: r) log pend ⟨n, l⟩ S = evDraw C r log pend ⟨n, (d, .tup []) :: l⟩ S := by
  have h1 : wantedE ⟨n, l⟩ (some (t, b)) = some false := by simp only [wantedE, get_mk, hb]; cases b <;> rfl
  conv => lhs; unfold evDraw
  simp only [h1, Env.setO, Env.set, h, if_true]
  try (cases hk : clsOf op <;> first | exact absurd hk hc | rfl)
omit h hc in
theorem evDraw_take (b : Bool) (hb : look t l = .bool b) : evDraw C (⟨some d, some (t, b), op, [], [], lo, hi, nm⟩ :: r) log pend ⟨n, l⟩ S = evDraw C (⟨some d, none, op, [], [], lo, hi, nm⟩ :: r) log pend ⟨n, l⟩ S := by
  have h1 : wantedE ⟨n, l⟩ (some (t, b)) = some true := by simp only [wantedE, get_mk, hb]; cases b <;> rfl
  have h2 : wantedE ⟨n, l⟩ none = some true := rfl
  conv => lhs; unfold evDraw
  conv => rhs; unfold evDraw
  simp only [h1, h2]
omit h hc in
theorem evDraw_none (b : Bool) (hb : ∀ c, look t l ≠ .bool c) (hs : look t l ≠ .tup []) : evDraw C (⟨some d, some (t, b), op, [], [], lo, hi, nm⟩ :: r) log pend ⟨n, l⟩ S = none := by
  have h1 : wantedE ⟨n, l⟩ (some (t, b)) = none := by
    simp only [wantedE, get_mk]
  conv => lhs; unfold evDraw
  simp only [h1]
theorem evDraw_gt0 : evDraw C (⟨some d, some (t, true), op, [], [], lo, hi, nm⟩ :: r) log pend ⟨n, l⟩ S =
    grdT (look t l) (wDraw C (⟨some d, none, op, [], [], lo, hi, nm⟩ :: r) log pend ⟨n, l⟩ S) (wDraw C r log pend ⟨n, (d, .tup []) :: l⟩ S) := by
  unfold wDraw grdT
  cases hx : look t l <;> try exact evDraw_none S C r log pend l lo hi nm op t true (fun c hh => by rw [hx] at hh; cases hh) (fun hh => by rw [hx] at hh; cases hh)
  · rename_i c
    cases c with
    | false => exact evDraw_skip S C r log pend l h lo hi nm op hc t true hx
    | true => exact evDraw_take S C r log pend l lo hi nm op t true hx
  · rename_i c
    cases c with
    | nil => exact evDraw_skips S C r log pend l h lo hi nm op hc t true hx
    | cons _ _ => exact evDraw_none S C r log pend l lo hi nm op t true (fun c hh => by rw [hx] at hh; cases hh) (fun hh => by rw [hx] at hh; cases hh)
theorem evDraw_gf0 : evDraw C (⟨some d, some (t, false), op, [], [], lo, hi, nm⟩ :: r) log pend ⟨n, l⟩ S =
    grdF (look t l) (wDraw C r log pend ⟨n, (d, .tup []) :: l⟩ S) (wDraw C (⟨some d, none, op, [], [], lo, hi, nm⟩ :: r) log pend ⟨n, l⟩ S) := by
  unfold wDraw grdF
  cases hx : look t l <;> try exact evDraw_none S C r log pend l lo hi nm op t false (fun c hh => by rw [hx] at hh; cases hh) (fun hh => by rw [hx] at hh; cases hh)
  · rename_i c
    cases c with
    | false => exact evDraw_take S C r log pend l lo hi nm op t false hx
    | true => exact evDraw_skip S C r log pend l h lo hi nm op hc t false hx
  · rename_i c
    cases c with
    | nil => exact evDraw_skips S C r log pend l h lo hi nm op hc t false hx
    | cons _ _ => exact evDraw_none S C r log pend l lo hi nm op t false (fun c hh => by rw [hx] at hh; cases hh) (fun hh => by rw [hx] at hh; cases hh)
end
section
variable (S : St) (C : Oracle) (r : List COper) (log : List St) (pend : List Pend) {n : Nat} (l : List (Tmp × V)) {d : Tmp} (h : d < n) (lo hi : Nat) (nm : List Tmp) (op : CO) (hc : decide (clsOf op = .eff) = false) (t : Tmp)
include h hc
@[simp] theorem evDraw_gt : evDraw C (⟨some d, some (t, true), op, [], [], lo, hi, nm⟩ :: r) log pend ⟨n, l⟩ S =
    grdT (look t l) (wDraw C (⟨some d, none, op, [], [], lo, hi, nm⟩ :: r) log pend ⟨n, l⟩ S) (wDraw C r log pend ⟨n, (d, .tup []) :: l⟩ S) := evDraw_gt0 _ _ _ _ _ _ h _ _ _ _ (of_decide_eq_false hc) _
@[simp] theorem evDraw_gf : evDraw C (⟨some d, some (t, false), op, [], [], lo, hi, nm⟩ :: r) log pend ⟨n, l⟩ S =
    grdF (look t l) (wDraw C r log pend ⟨n, (d, .tup []) :: l⟩ S) (wDraw C (⟨some d, none, op, [], [], lo, hi, nm⟩ :: r) log pend ⟨n, l⟩ S) := evDraw_gf0 _ _ _ _ _ _ h _ _ _ _ (of_decide_eq_false hc) _
end
end Mev
