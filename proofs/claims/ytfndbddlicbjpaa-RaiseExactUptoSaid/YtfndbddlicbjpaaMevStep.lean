/- How the evaluator steps: equations for simp. -/
import Derived.Test.YtfndbddlicbjpaaMevLim

set_option linter.unusedVariables false
namespace Mev
open Go (IntKind TypeId FuncId Tmp BinOp UnOp)

@[reducible] def o (d : Tmp) (op : CO) : COper := ⟨some d, none, op, [], [], 0, 0, []⟩
@[reducible] def x (op : CO) : COper := ⟨none, none, op, [], [], 0, 0, []⟩
@[reducible] def g (d : Option Tmp) (t : Tmp) (b : Bool) (op : CO) : COper := ⟨d, some (t, b), op, [], [], 0, 0, []⟩

/-! ### blocks -/
section
variable (S : St) (b c : Blk) (i j k : Nat)
@[simp] theorem top_push : (S.push b).top = S.top + 1 := rfl
@[simp] theorem top_put : (S.put i b).top = S.top := by unfold St.put St.top; split <;> simp
@[simp] theorem top_pinTo : (S.pinTo k).top = S.top := rfl
theorem wrap64 {x : Int} (h : -9223372036854775808 ≤ x) (h' : x ≤ 9223372036854775807) : IntKind.i64.wrap x = x := by
  unfold IntKind.wrap; simp [IntKind.signed, IntKind.bits]; omega
theorem top_trunc (h : k ≤ S.top) : (S.trunc k).top = k := by unfold St.top St.trunc at *; simp; omega
@[simp] theorem pin_push : (S.push b).pin = S.pin := rfl
@[simp] theorem pin_put : (S.put i b).pin = S.pin := by unfold St.put; split <;> rfl
@[simp] theorem pin_trunc : (S.trunc k).pin = S.pin := rfl
@[simp] theorem pinTo_zero : S.pinTo 0 = S := by unfold St.pinTo; simp
@[simp] theorem get_pinTo : (S.pinTo k).get i = S.get i := rfl
theorem push_get_top : (S.push b).get S.top = some b := by unfold St.get St.push St.top; simp
theorem push_get (h : i < S.top) : (S.push b).get i = S.get i := by
  unfold St.get St.push St.top at *
  simp only [List.length_cons, h, if_true]
  rw [if_pos (by omega)]
  have : S.bs.length + 1 - 1 - i = (S.bs.length - 1 - i) + 1 := by omega
  rw [this, List.getElem?_cons_succ]
theorem get_ge (h : S.top ≤ i) : S.get i = none := by
  unfold St.get St.top at *
  rw [if_neg (by omega)]
@[simp] theorem push_get_if : (S.push b).get i = if i = S.top then some b else S.get i := by
  split
  · rename_i h; subst h; exact push_get_top S b
  · rename_i h
    by_cases hl : i < S.top
    · exact push_get S b i hl
    · rw [get_ge (S := S) (i := i) (by omega), get_ge (S := S.push b) (i := i) (by simp; omega)]
theorem get_lt {b : Blk} (h : S.get i = some b) : i < S.top := by
  unfold St.get at h
  split at h
  · assumption
  · cases h
theorem put_get (h : i < S.top) : (S.put i b).get i = some b := by
  unfold St.put St.get St.top at *
  simp only [h, if_true, List.length_set]
  rw [List.getElem?_set_self (by omega)]
theorem put_get_ne (h : i ≠ j) : (S.put i b).get j = S.get j := by
  unfold St.put
  split
  · rename_i hi
    unfold St.get
    simp only [List.length_set]
    split
    · rw [List.getElem?_set_ne (by omega)]
    · rfl
  · rfl
@[simp] theorem put_get_if : (S.put i b).get j = if i = j ∧ i < S.top then some b else S.get j := by
  split
  · rename_i h; obtain ⟨rfl, h⟩ := h; exact put_get S b i h
  · rename_i h
    by_cases e : i = j
    · subst e
      have hn : ¬ i < S.bs.length := by unfold St.top at h; omega
      unfold St.put
      rw [if_neg hn]
    · exact put_get_ne S b i j e
theorem push_put_top : (S.push b).put S.top c = S.push c := by
  unfold St.put St.push St.top; simp
theorem push_put (h : i < S.top) : (S.push b).put i c = (S.put i c).push b := by
  unfold St.put St.push St.top at *
  simp only [List.length_cons, h, if_true]
  rw [if_pos (by omega)]
  have : S.bs.length + 1 - 1 - i = (S.bs.length - 1 - i) + 1 := by omega
  rw [this, List.set_cons_succ]
@[simp] theorem push_put_if : (S.push b).put i c = if i = S.top then S.push c else (S.put i c).push b := by
  split
  · rename_i h; subst h; exact push_put_top S b c
  · rename_i h
    by_cases hl : i < S.top
    · exact push_put S b c i hl
    · unfold St.put St.push St.top at *
      simp only [List.length_cons]
      rw [if_neg (by omega), if_neg (by omega)]
@[simp] theorem put_put : (S.put i b).put i c = S.put i c := by
  by_cases h : i < S.bs.length
  · unfold St.put; simp [h]
  · unfold St.put; simp [h]
theorem put_comm (h : i ≠ j) : (S.put i b).put j c = (S.put j c).put i b := by
  unfold St.put
  by_cases hi : i < S.bs.length <;> by_cases hj : j < S.bs.length <;> simp [hi, hj]
  rw [List.set_comm]
  omega
theorem put_self {b : Blk} (h : S.get i = some b) : S.put i b = S := by
  unfold St.get at h
  unfold St.put
  split at h
  · rename_i hi
    rw [if_pos hi]
    have : S.bs.set (S.bs.length - 1 - i) b = S.bs := by
      apply List.ext_getElem?
      intro n
      by_cases hn : n = S.bs.length - 1 - i
      · subst hn; rw [List.getElem?_set_self (by omega), h]
      · rw [List.getElem?_set_ne (by omega)]
    rw [this]
  · cases h
@[simp] theorem trunc_top : S.trunc S.top = S := by unfold St.trunc St.top; simp
theorem trunc_push (h : k ≤ S.top) : (S.push b).trunc k = S.trunc k := by
  unfold St.trunc St.push St.top at *
  simp only [List.length_cons]
  have : S.bs.length + 1 - k = (S.bs.length - k) + 1 := by omega
  rw [this, List.drop_succ_cons]
@[simp] theorem trunc_push_if : (S.push b).trunc k = if k ≤ S.top then S.trunc k else S.push b := by
  split
  · rename_i h; exact trunc_push S b k h
  · rename_i h
    unfold St.trunc St.push St.top at *
    simp only [List.length_cons]
    have : S.bs.length + 1 - k = 0 := by omega
    rw [this]; rfl
theorem trunc_put_ge (h : k ≤ i) : (S.put i b).trunc k = S.trunc k := by
  unfold St.put
  split
  · unfold St.trunc
    simp only [List.length_set]
    rw [List.drop_set_of_lt (by omega)]
  · rfl
theorem trunc_put_lt (h : i < k) (hk : k ≤ S.top) : (S.put i b).trunc k = (S.trunc k).put i b := by
  unfold St.put St.trunc St.top at *
  rw [if_pos (by omega)]
  simp only [List.length_set, List.length_drop]
  rw [if_pos (by omega), List.drop_set]
  rw [if_neg (by omega)]
  congr 2
  omega
theorem put_ge (h : S.top ≤ i) : S.put i b = S := by
  unfold St.put St.top at *
  rw [if_neg (by omega)]
@[simp] theorem top_trunc_min : (S.trunc k).top = min k S.top := by unfold St.top St.trunc; simp; omega
@[simp] theorem trunc_put_all : (S.put i b).trunc k = (S.trunc k).put i b := by
  by_cases hk : k ≤ S.top
  · by_cases hi : i < k
    · exact trunc_put_lt S b i k hi hk
    · rw [trunc_put_ge S b i k (by omega), put_ge (S.trunc k) b i (by rw [top_trunc_min]; omega)]
  · have : ∀ S : St, ¬ k ≤ S.top → S.trunc k = S := by
      intro S h
      unfold St.trunc St.top at *
      have : S.bs.length - k = 0 := by omega
      rw [this]; rfl
    rw [this _ hk, this _ (by simpa using hk)]
theorem trunc_get (h : i < k) (hk : k ≤ S.top) : (S.trunc k).get i = S.get i := by
  unfold St.get St.trunc St.top at *
  simp only [List.length_drop, List.getElem?_drop]
  rw [if_pos (by omega), if_pos (by omega)]
  congr 1
  omega
theorem trunc_trunc (h : i ≤ k) (hk : k ≤ S.top) : (S.trunc k).trunc i = S.trunc i := by
  unfold St.trunc St.top at *
  simp only [List.length_drop, List.drop_drop]
  congr 2
  omega
@[simp] theorem pin_pinTo : (S.pinTo k).pin = max S.pin k := rfl
end

/-- what a number below a bound says to simp -/
theorem below {i t : Nat} (h : i < t) : (i = t) = False ∧ (t = i) = False ∧ (∀ k, (i = t + k) = False) ∧ (∀ k, (t + k = i) = False) ∧ (i < t) = True ∧ (∀ k, (i < t + k) = True) ∧ (i ≤ t) = True ∧
    (∀ k, (i ≤ t + k) = True) ∧ (t ≤ i) = False ∧ (∀ k, (t + k ≤ i) = False) ∧ (i + 1 ≤ t) = True ∧ (∀ k, (i + 1 ≤ t + k) = True) := by
  refine ⟨?_, ?_, ?_, ?_, ?_, ?_, ?_, ?_, ?_, ?_, ?_, ?_⟩ <;> (try intro k) <;> simp <;> omega

/-! ### slots -/
@[simp] theorem look_same (t : Tmp) (v : V) (r : List (Tmp × V)) : look t ((t, v) :: r) = v := by simp [look]
theorem look_ne {t u : Tmp} (h : t ≠ u) (v : V) (r : List (Tmp × V)) : look t ((u, v) :: r) = look t r := by simp [look, h]
@[simp] theorem get_mk (n : Nat) (l : List (Tmp × V)) (t : Tmp) : Env.get ⟨n, l⟩ t = look t l := rfl
@[simp] theorem opd_t (T : Env) (t : Tmp) : opd T (.t t) = T.get t := rfl
@[simp] theorem opd_c (T : Env) (v : V) : opd T (.c v) = v := rfl
theorem set_mk {n t : Nat} (h : t < n) (l : List (Tmp × V)) (v : V) : Env.set ⟨n, l⟩ t v = some ⟨n, (t, v) :: l⟩ := by simp [Env.set, h]

/-! ### steps -/
abbrev R := Option (Ex × Env × St)
/-- what an operation comes to, and how it goes on -/
def retK (r : Option (Out × St)) (k : V → St → R) (p : V → St → R) : R :=
  match r with
  | some (.ret v, S) => k v S
  | some (.pan v, S) => p v S
  | none => none
/-- going on behind an operation: a name, so that simp reckons nothing there before the operation is done -/
def kO (C : Oracle) (r : List COper) (n : Nat) (l : List (Tmp × V)) (d : Tmp) : V → St → R := fun v S => evOps C r ⟨n, (d, v) :: l⟩ S
def kX (C : Oracle) (r : List COper) (n : Nat) (l : List (Tmp × V)) : V → St → R := fun _ S => evOps C r ⟨n, l⟩ S
def pO (n : Nat) (l : List (Tmp × V)) : V → St → R := fun v S => some (.pan v, ⟨n, l⟩, S)
/-- ways that wait -/
def wOps (C : Oracle) (r : List COper) (T : Env) (S : St) : R := evOps C r T S
def wRet (C : Oracle) (r : List COper) (n : Nat) (l : List (Tmp × V)) (d : Tmp) (S : St) (op : CO) : R := retK (evOper C ⟨n, l⟩ S [] op) (kO C r n l d) (pO n l)
noncomputable def wC (C : Oracle) (L : Looper) (c : CC) (T : Env) (S : St) : R := evC C L c T S
@[simp] theorem retK_kO (v : V) (S : St) (C : Oracle) (r : List COper) (n : Nat) (l : List (Tmp × V)) (d : Tmp) (p : V → St → R) :
    retK (some (.ret v, S)) (kO C r n l d) p = evOps C r ⟨n, (d, v) :: l⟩ S := rfl
@[simp] theorem retK_kX (v : V) (S : St) (C : Oracle) (r : List COper) (n : Nat) (l : List (Tmp × V)) (p : V → St → R) :
    retK (some (.ret v, S)) (kX C r n l) p = evOps C r ⟨n, l⟩ S := rfl
@[simp] theorem retK_pan (v : V) (S : St) (k : V → St → R) (n : Nat) (l : List (Tmp × V)) : retK (some (.pan v, S)) k (pO n l) = some (.pan v, ⟨n, l⟩, S) := rfl

/-- a way that is not decided yet -/
def ifK (t : Bool) (a b : R) : R := if t = true then a else b
@[simp] theorem ifK_wO (C : Oracle) (r : List COper) (T : Env) (S : St) (b : R) : ifK true (wOps C r T S) b = evOps C r T S := rfl
@[simp] theorem ifK_wO' (C : Oracle) (r : List COper) (T : Env) (S : St) (a : R) : ifK false a (wOps C r T S) = evOps C r T S := rfl
@[simp] theorem ifK_wR (C : Oracle) (r : List COper) (n : Nat) (l : List (Tmp × V)) (d : Tmp) (S : St) (op : CO) (b : R) :
    ifK true (wRet C r n l d S op) b = retK (evOper C ⟨n, l⟩ S [] op) (kO C r n l d) (pO n l) := rfl
@[simp] theorem ifK_wR' (C : Oracle) (r : List COper) (n : Nat) (l : List (Tmp × V)) (d : Tmp) (S : St) (op : CO) (a : R) :
    ifK false a (wRet C r n l d S op) = retK (evOper C ⟨n, l⟩ S [] op) (kO C r n l d) (pO n l) := rfl
@[simp] theorem ifK_wC (C : Oracle) (L : Looper) (c : CC) (T : Env) (S : St) (b : R) : ifK true (wC C L c T S) b = evC C L c T S := rfl
@[simp] theorem ifK_wC' (C : Oracle) (L : Looper) (c : CC) (T : Env) (S : St) (a : R) : ifK false a (wC C L c T S) = evC C L c T S := rfl
@[simp] theorem ifK_not (t : Bool) (a b : R) : ifK (!t) a b = ifK t b a := by cases t <;> rfl

def condK (v : V) (a b : R) : R :=
  match v with
  | .bool t => if t = true then a else b
  | _ => none
@[simp] theorem condK_bool (t : Bool) (a b : R) : condK (.bool t) a b = ifK t a b := rfl
/-- a guard: what was skipped itself is not wanted -/
def grdT (v : V) (a b : R) : R :=
  match v with
  | .bool t => if t = true then a else b
  | .tup [] => b
  | _ => none
def grdF (v : V) (a b : R) : R :=
  match v with
  | .bool t => if t = true then a else b
  | .tup [] => a
  | _ => none
@[simp] theorem grdT_bool (t : Bool) (a b : R) : grdT (.bool t) a b = ifK t a b := rfl
@[simp] theorem grdF_bool (t : Bool) (a b : R) : grdF (.bool t) a b = ifK t a b := rfl
@[simp] theorem grdT_skip (a b : R) : grdT (.tup []) a b = ifK false a b := rfl
@[simp] theorem grdF_skip (a b : R) : grdF (.tup []) a b = ifK true a b := rfl

noncomputable def kC (C : Oracle) (L : Looper) (c : CC) : Env → St → R := fun T S => evC C L c T S
@[simp] theorem seqEx_norm (T : Env) (S : St) (C : Oracle) (L : Looper) (c : CC) : seqEx (some (.norm, T, S)) (kC C L c) = evC C L c T S := rfl
@[simp] theorem seqEx_exit (i : Nat) (T : Env) (S : St) (k : Env → St → R) : seqEx (some (.exit i, T, S)) k = some (.exit i, T, S) := rfl
@[simp] theorem seqEx_ret (T : Env) (S : St) (k : Env → St → R) : seqEx (some (.ret, T, S)) k = some (.ret, T, S) := rfl
@[simp] theorem seqEx_pan (v : V) (T : Env) (S : St) (k : Env → St → R) : seqEx (some (.pan v, T, S)) k = some (.pan v, T, S) := rfl
@[simp] theorem blockEx_norm (id : Nat) (T : Env) (S : St) : blockEx id (some (.norm, T, S)) = some (.norm, T, S) := rfl
@[simp] theorem blockEx_exit (id i : Nat) (T : Env) (S : St) : blockEx id (some (.exit i, T, S)) = if i = id then some (.norm, T, S) else some (.exit i, T, S) := rfl
@[simp] theorem blockEx_ret (id : Nat) (T : Env) (S : St) : blockEx id (some (.ret, T, S)) = some (.ret, T, S) := rfl
@[simp] theorem blockEx_pan (id : Nat) (v : V) (T : Env) (S : St) : blockEx id (some (.pan v, T, S)) = some (.pan v, T, S) := rfl

section
variable (C : Oracle) (L : Looper) (T : Env) (S : St)
@[simp] theorem evC_skip : evC C L .skip T S = some (.norm, T, S) := rfl
@[simp] theorem evC_exit (id : Nat) : evC C L (.exit id) T S = some (.exit id, T, S) := rfl
@[simp] theorem evC_ret : evC C L .ret T S = some (.ret, T, S) := rfl
@[simp] theorem evC_reg (ops : List COper) : evC C L (.reg ops) T S = evOps C ops T S := rfl
@[simp] theorem evC_drw (ops : List COper) : evC C L (.drw ops) T S = evDraw C ops [S] [] T S := rfl
@[simp] theorem evC_seq (a b : CC) : evC C L (.seq a b) T S = seqEx (evC C L a T S) (kC C L b) := rfl
@[simp] theorem evC_cond (c : Od) (a b : CC) : evC C L (.cond c a b) T S = condK (opd T c) (wC C L a T S) (wC C L b T S) := by
  simp only [evC, wC]
  unfold condK
  cases opd T c <;> try rfl
  rename_i b; cases b <;> rfl
@[simp] theorem evC_block (id : Nat) (c : CC) : evC C L (.block id c) T S = blockEx id (evC C L c T S) := rfl
@[simp] theorem evC_loop (lv : List Tmp) (body : CC) : evC C L (.loop (some lv) body) T S = L (some lv) (S.top, S.pin) (kC C L body) (T.keep lv) S := rfl
@[simp] theorem evC_loop_none (body : CC) : evC C L (.loop none body) T S = L none (S.top, S.pin) (kC C L body) T S := rfl

@[simp] theorem evOps_nil : evOps C [] T S = some (.norm, T, S) := rfl
@[simp] theorem evOps_o {n d : Nat} (h : d < n) (l : List (Tmp × V)) (op : CO) (r : List COper) :
    evOps C (o d op :: r) ⟨n, l⟩ S = retK (evOper C ⟨n, l⟩ S [] op) (kO C r n l d) (pO n l) := by
  simp only [evOps, ghosts, wantedE, Env.setO, Env.set, retK, kO, pO]
  rcases evOper C ⟨n, l⟩ S [] op with _ | ⟨_ | _, _⟩ <;> simp [h]
@[simp] theorem evOps_x {n : Nat} (l : List (Tmp × V)) (op : CO) (r : List COper) :
    evOps C (x op :: r) ⟨n, l⟩ S = retK (evOper C ⟨n, l⟩ S [] op) (kX C r n l) (pO n l) := by
  simp only [evOps, ghosts, wantedE, Env.setO, retK, kX, pO]
  rcases evOper C ⟨n, l⟩ S [] op with _ | ⟨_ | _, _⟩ <;> rfl
@[simp] theorem evOps_gt {n d : Nat} (h : d < n) (t : Tmp) (l : List (Tmp × V)) (op : CO) (r : List COper) :
    evOps C (g (some d) t true op :: r) ⟨n, l⟩ S = grdT (look t l) (wRet C r n l d S op) (wOps C r ⟨n, (d, .tup []) :: l⟩ S) := by
  simp only [evOps, ghosts, wantedE, Env.setO, Env.set, retK, grdT, get_mk, wRet, wOps, kO, pO]
  cases look t l <;> try rfl
  · rename_i c
    rcases evOper C ⟨n, l⟩ S [] op with _ | ⟨_ | _, _⟩ <;> cases c <;> simp [h]
  · rename_i c
    cases c <;> simp [h]
@[simp] theorem evOps_gf {n d : Nat} (h : d < n) (t : Tmp) (l : List (Tmp × V)) (op : CO) (r : List COper) :
    evOps C (g (some d) t false op :: r) ⟨n, l⟩ S = grdF (look t l) (wOps C r ⟨n, (d, .tup []) :: l⟩ S) (wRet C r n l d S op) := by
  simp only [evOps, ghosts, wantedE, Env.setO, Env.set, retK, grdF, get_mk, wRet, wOps, kO, pO]
  cases look t l <;> try rfl
  · rename_i c
    rcases evOper C ⟨n, l⟩ S [] op with _ | ⟨_ | _, _⟩ <;> cases c <;> simp [h]
  · rename_i c
    cases c <;> simp [h]
end

/-! ### operations -/
def valK (r : Option V) (S : St) : Option (Out × St) := r.map fun v => (.ret v, S)
@[simp] theorem valK_some (v : V) (S : St) : valK (some v) S = some (.ret v, S) := rfl
def stK (r : Option (V × St)) : Option (Out × St) := r.map fun (v, S) => (.ret v, S)
@[simp] theorem stK_some (v : V) (S : St) : stK (some (v, S)) = some (.ret v, S) := rfl
section
variable (C : Oracle) (T : Env) (S : St)
theorem evOper_val {op : CO} {r : Option V} (h1 : ∀ f a, op ≠ .call f a) (h2 : ∀ a, op ≠ .panic a) (h3 : ∀ z, op ≠ .alloc z) (h : evOp T S op = r.map fun v => (v, S)) : evOper C T S [] op = valK r S := by
  unfold evOper
  split
  · exact absurd rfl (h1 _ _)
  · exact absurd rfl (h2 _)
  · exact absurd rfl (h3 _)
  · rw [h]
    cases r <;> rfl
theorem evOper_st {op : CO} {r : Option (V × St)} (h1 : ∀ f a, op ≠ .call f a) (h2 : ∀ a, op ≠ .panic a) (h3 : ∀ z, op ≠ .alloc z) (h : evOp T S op = r) : evOper C T S [] op = stK r := by
  unfold evOper
  split
  · exact absurd rfl (h1 _ _)
  · exact absurd rfl (h2 _)
  · exact absurd rfl (h3 _)
  · rw [h]
    cases r with
    | none => rfl
    | some x => rfl
@[simp] theorem evOper_mv (y : Od) : evOper C T S [] (.mv y) = some (.ret (opd T y), S) := rfl
def pickV (c a b : V) : Option V := match c with | .bool t => some (if t then a else b) | _ => none
@[simp] theorem pickV_bool (t : Bool) (a b : V) : pickV (.bool t) a b = some (if t then a else b) := rfl
@[simp] theorem evOper_pick (c a b : Od) : evOper C T S [] (.pick c a b) = valK (pickV (opd T c) (opd T a) (opd T b)) S := by
  refine evOper_val C T S (by simp) (by simp) (by simp) ?_
  simp only [evOp, pickV]; cases opd T c <;> rfl
@[simp] theorem evOper_alloc (z : List V) : evOper C T S [] (.alloc z) = some (.ret (newVar S z).1, (newVar S z).2) := rfl
@[simp] theorem evOper_box (n : Nat) (y : Od) : evOper C T S [] (.box n y) = stK (match vcells (opd T y) with | some cs => if cs.length = n then some (newVar S cs) else none | none => none) :=
  evOper_st C T S (by simp) (by simp) (by simp) rfl
@[simp] theorem evOper_build (z : List V) (ps : List (Nat × Nat × Od)) : evOper C T S [] (.build z ps) = valK ((partsOf T ps).bind fun l => (fillS l z).map .agg) S := by
  refine evOper_val C T S (by simp) (by simp) (by simp) ?_
  simp only [evOp]; cases partsOf T ps <;> simp [Option.map_map]; rfl
@[simp] theorem evOper_bslice (z : List V) (n : Nat) (ps : List (Nat × Od)) : evOper C T S [] (.bslice z n ps) = stK ((rowsParts z.length T ps (List.replicate n z)).map (newRows S z.length ·)) :=
  evOper_st C T S (by simp) (by simp) (by simp) rfl
@[simp] theorem evOper_load (ag : Bool) (n : Nat) (p : Od) : evOper C T S [] (.load ag n p) = valK (loadS S ag n (opd T p)) S := evOper_val C T S (by simp) (by simp) (by simp) rfl
@[simp] theorem evOper_store (n : Nat) (p y : Od) : evOper C T S [] (.store n p y) = stK ((storeS S n (opd T p) (opd T y)).map fun S' => (.un, S')) :=
  evOper_st C T S (by simp) (by simp) (by simp) rfl
def nilchkV (v : V) : Option V := match v with | .ptr id g sz idx off => some (.ptr id g sz idx off) | .rp row off => some (.rp row off) | .fn f c => some (.fn f c) | _ => none
@[simp] theorem nilchkV_ptr (id g sz idx off : Nat) : nilchkV (.ptr id g sz idx off) = some (.ptr id g sz idx off) := rfl
@[simp] theorem nilchkV_rp (r : List V) (off : Nat) : nilchkV (.rp r off) = some (.rp r off) := rfl
@[simp] theorem nilchkV_fn (f : FuncId) (c : List V) : nilchkV (.fn f c) = some (.fn f c) := rfl
@[simp] theorem evOper_nilchk (y : Od) : evOper C T S [] (.nilchk y) = valK (nilchkV (opd T y)) S := by
  refine evOper_val C T S (by simp) (by simp) (by simp) ?_
  simp only [evOp, nilchkV]; cases opd T y <;> rfl
@[simp] theorem evOper_bin (op : BinOp) (q : EqK) (y z : Od) : evOper C T S [] (.bin op q y z) = valK (binOp op q (opd T y) (opd T z)) S := evOper_val C T S (by simp) (by simp) (by simp) rfl
@[simp] theorem evOper_una (op : UnOp) (y : Od) : evOper C T S [] (.una op y) = valK (unOp op (opd T y)) S := evOper_val C T S (by simp) (by simp) (by simp) rfl
def convV (k : IntKind) (v : V) : Option V := match v with | .int _ n => some (.int k (k.wrap n)) | _ => none
@[simp] theorem convV_int (k j : IntKind) (n : Int) : convV k (.int j n) = some (.int k (k.wrap n)) := rfl
@[simp] theorem evOper_conv (k : IntKind) (y : Od) : evOper C T S [] (.conv k y) = valK (convV k (opd T y)) S := by
  refine evOper_val C T S (by simp) (by simp) (by simp) ?_
  simp only [evOp, convV]; cases opd T y <;> rfl
def convSV (v : V) : Option V := match v with | .str l => some (.str l) | _ => none
@[simp] theorem convSV_str (l : List UInt8) : convSV (.str l) = some (.str l) := rfl
@[simp] theorem evOper_convS (y : Od) : evOper C T S [] (.convS y) = valK (convSV (opd T y)) S := by
  refine evOper_val C T S (by simp) (by simp) (by simp) ?_
  simp only [evOp, convSV]; cases opd T y <;> rfl
@[simp] theorem evOper_mkfn (f : FuncId) (cap : List Od) : evOper C T S [] (.mkfn f cap) = some (.ret (.fn f (cap.map (opd T))), S) := rfl
@[simp] theorem evOper_mkmap : evOper C T S [] .mkmap = some (.ret (.mp S.top), S.push (.map [])) := rfl
def mksliceV (S : St) (z : List V) (b : Nat) (l c : V) : Option (V × St) :=
  match l, c with
  | .int .i64 n, .int .i64 m => if 0 ≤ n ∧ n ≤ m ∧ m * b ≤ 140737488355328 ∧ m ≤ 140737488355328 then some (newRows S z.length (List.replicate n.toNat z)) else none
  | _, _ => none
@[simp] theorem mksliceV_int (S : St) (z : List V) (b : Nat) (n m : Int) : mksliceV S z b (.int .i64 n) (.int .i64 m) = if 0 ≤ n ∧ n ≤ m ∧ m * b ≤ 140737488355328 ∧ m ≤ 140737488355328 then some (newRows S z.length (List.replicate n.toNat z)) else none := rfl
@[simp] theorem evOper_mkslice (z : List V) (b : Nat) (l c : Od) : evOper C T S [] (.mkslice z b l c) = stK (mksliceV S z b (opd T l) (opd T c)) := evOper_st C T S (by simp) (by simp) (by simp) rfl
@[simp] theorem evOper_slice (q : Option Nat) (y : Od) (lo hi : Option Od) : evOper C T S [] (.slice q y lo hi) = valK ((bound T lo).bind fun l => (bound T hi).bind fun h => cutS S q (opd T y) l h) S := by
  refine evOper_val C T S (by simp) (by simp) (by simp) ?_
  simp only [evOp]; cases bound T lo <;> simp; cases bound T hi <;> simp
def faddrV (o : Nat) (v : V) : Option V := match v with | .ptr id g sz idx off => some (.ptr id g sz idx (off + o)) | .rp row off => some (.rp row (off + o)) | _ => none
@[simp] theorem faddrV_ptr (o id g sz idx off : Nat) : faddrV o (.ptr id g sz idx off) = some (.ptr id g sz idx (off + o)) := rfl
@[simp] theorem faddrV_rp (o : Nat) (row : List V) (off : Nat) : faddrV o (.rp row off) = some (.rp row (off + o)) := rfl
@[simp] theorem evOper_faddr (o : Nat) (y : Od) : evOper C T S [] (.faddr o y) = valK (faddrV o (opd T y)) S := by
  refine evOper_val C T S (by simp) (by simp) (by simp) ?_
  simp only [evOp, faddrV]; cases opd T y <;> rfl
def fieldV (ag : Bool) (off n : Nat) (v : V) : Option V := match v with | .agg cs => if ag then (if off + n ≤ cs.length then some (.agg ((cs.drop off).take n)) else none) else cs[off]? | _ => none
@[simp] theorem fieldV_agg (ag : Bool) (off n : Nat) (cs : List V) : fieldV ag off n (.agg cs) = if ag then (if off + n ≤ cs.length then some (.agg ((cs.drop off).take n)) else none) else cs[off]? := rfl
@[simp] theorem evOper_field (ag : Bool) (off n : Nat) (y : Od) : evOper C T S [] (.field ag off n y) = valK (fieldV ag off n (opd T y)) S := by
  refine evOper_val C T S (by simp) (by simp) (by simp) ?_
  simp only [evOp, fieldV]
  cases opd T y <;> try rfl
  cases ag <;> simp
@[simp] theorem evOper_iaddr (sz : Nat) (y i : Od) : evOper C T S [] (.iaddr sz y i) = valK ((asI (opd T i)).bind fun n => idxAddr sz (opd T y) n) S := by
  refine evOper_val C T S (by simp) (by simp) (by simp) ?_
  simp only [evOp]; cases asI (opd T i) <;> simp
def indexV (v : V) (i : Option Int) : Option V := match v, i with | .str s, some n => if 0 ≤ n then (s[n.toNat]?).map fun b => .int .u8 b.toNat else none | _, _ => none
@[simp] theorem indexV_str (s : List UInt8) (n : Int) : indexV (.str s) (some n) = if 0 ≤ n then (s[n.toNat]?).map fun b => .int .u8 b.toNat else none := rfl
@[simp] theorem evOper_index (y i : Od) : evOper C T S [] (.index y i) = valK (indexV (opd T y) (asI (opd T i))) S := by
  refine evOper_val C T S (by simp) (by simp) (by simp) ?_
  simp only [evOp, indexV]
  cases opd T y <;> try rfl
  cases asI (opd T i) <;> try rfl
  simp only
  split <;> simp [Option.map_map, Function.comp_def]
def extrV (v : V) (i : Nat) : Option V := match v with | .tup vs => vs[i]? | _ => none
@[simp] theorem extrV_tup (vs : List V) (i : Nat) : extrV (.tup vs) i = vs[i]? := rfl
@[simp] theorem evOper_extr (y : Od) (i : Nat) : evOper C T S [] (.extr y i) = valK (extrV (opd T y) i) S := by
  refine evOper_val C T S (by simp) (by simp) (by simp) ?_
  simp only [evOp, extrV]; cases opd T y <;> rfl
@[simp] theorem evOper_len (q : LenK) (y : Od) : evOper C T S [] (.len q y) = valK ((lenOf S q (opd T y)).map fun n => .int .i64 n) S := by
  refine evOper_val C T S (by simp) (by simp) (by simp) ?_
  simp only [evOp]; cases lenOf S q (opd T y) <;> rfl
@[simp] theorem evOper_max (y : Od) (r : List Od) : evOper C T S [] (.max (y :: r)) = valK (foldV maxV (opd T y) (r.map (opd T))) S := evOper_val C T S (by simp) (by simp) (by simp) rfl
@[simp] theorem evOper_min (y : Od) (r : List Od) : evOper C T S [] (.min (y :: r)) = valK (foldV minV (opd T y) (r.map (opd T))) S := evOper_val C T S (by simp) (by simp) (by simp) rfl
@[simp] theorem evOper_append (n b : Nat) (q : Bool) (s y : Od) : evOper C T S [] (.append n b q s y) = stK (appendS S n b q (opd T s) (opd T y)) := evOper_st C T S (by simp) (by simp) (by simp) rfl
def callK (C : Oracle) (f : V) (args : List V) (S : St) : Option (Out × St) := match f with | .fn g cap => C g (args ++ cap) S | _ => none
@[simp] theorem callK_fn (C : Oracle) (g : FuncId) (cap args : List V) (S : St) : callK C (.fn g cap) args S = C g (args ++ cap) S := rfl
@[simp] theorem evOper_call (mt : List (Nat × Nat)) (f : Od) (args : List Od) : evOper C T S mt (.call f args) = callK C (opd T f) (args.map (opd T)) S := by
  simp only [evOper, callK]; cases opd T f <;> rfl
end

/-! ### regions that draw their order -/
noncomputable def wDraw (C : Oracle) (r : List COper) (log : List St) (pend : List Pend) (T : Env) (S : St) : R := evDraw C r log pend T S
@[simp] theorem ifK_wD (C : Oracle) (r : List COper) (log : List St) (pend : List Pend) (T : Env) (S : St) (b : R) : ifK true (wDraw C r log pend T S) b = evDraw C r log pend T S := rfl
@[simp] theorem ifK_wD' (C : Oracle) (r : List COper) (log : List St) (pend : List Pend) (T : Env) (S : St) (b : R) : ifK false b (wDraw C r log pend T S) = evDraw C r log pend T S := rfl
noncomputable def kDP (C : Oracle) (r : List COper) (log : List St) (pend : List Pend) (n : Nat) (l : List (Tmp × V)) (d : Tmp) (S : St) : V → St → R := fun v _ => evDraw C r log pend ⟨n, (d, v) :: l⟩ S
noncomputable def kDA (C : Oracle) (r : List COper) (log : List St) (pend : List Pend) (n : Nat) (l : List (Tmp × V)) (d : Tmp) (S0 : St) (hi : Nat) : V → St → R := fun v S =>
  if freshOk S0 S then evDraw C r log (⟨hi, fun S'' => S''.get S0.top = S.get S0.top⟩ :: pend) ⟨n, (d, v) :: l⟩ S else none
noncomputable def kDL (C : Oracle) (r : List COper) (log : List St) (pend : List Pend) (n : Nat) (l : List (Tmp × V)) (d : Tmp) (ag : Bool) (m : Nat) (p : V) (lo hi : Nat) : V → St → R :=
  fun v S => if logOk log lo fun S' => loadS S' ag m p = some v then evDraw C r log (⟨hi, fun S' => loadS S' ag m p = some v⟩ :: pend) ⟨n, (d, v) :: l⟩ S else none
noncomputable def kDE (C : Oracle) (r : List COper) (log : List St) (pend : List Pend) (n : Nat) (l : List (Tmp × V)) (d : Option Tmp) (S0 : St) (nm : List Tmp) : V → St → R :=
  fun v S => if decide (((⟨n, l⟩ : Env).keep nm).kb nm ≤ S0.top) && (decide (S0.top ≤ S.top) && pendOk pend log.length S) then evDraw C r (S :: log) pend ⟨n, match d with | some d => (d, v) :: l | none => l⟩ S else none
def pD (n : Nat) : V → St → R := fun v S => some (.pan v, ⟨n, []⟩, S)
section
variable (v : V) (S S' : St) (C : Oracle) (r : List COper) (log : List St) (pend : List Pend) (n : Nat) (l : List (Tmp × V)) (d : Tmp) (p : V → St → R)
@[simp] theorem retK_kDP : retK (some (.ret v, S')) (kDP C r log pend n l d S) p = evDraw C r log pend ⟨n, (d, v) :: l⟩ S := rfl
@[simp] theorem retK_kDA (S0 : St) (hi : Nat) : retK (some (.ret v, S)) (kDA C r log pend n l d S0 hi) p =
    ifK (freshOk S0 S) (wDraw C r log (⟨hi, fun S'' => S''.get S0.top = S.get S0.top⟩ :: pend) ⟨n, (d, v) :: l⟩ S) none := rfl
@[simp] theorem freshOk_push (sz : Nat) (rows : List (List V)) : freshOk S (S.push (.cells sz rows 0 0)) = decide (kbLL rows ≤ S.top) := by simp [freshOk]
@[simp] theorem retK_kDL (ag : Bool) (m : Nat) (q : V) (lo hi : Nat) : retK (some (.ret v, S)) (kDL C r log pend n l d ag m q lo hi) p =
    ifK (logOk log lo fun S' => loadS S' ag m q = some v) (wDraw C r log (⟨hi, fun S' => loadS S' ag m q = some v⟩ :: pend) ⟨n, (d, v) :: l⟩ S) none := rfl
@[simp] theorem retK_kDE (S0 : St) (nm : List Tmp) : retK (some (.ret v, S)) (kDE C r log pend n l (some d) S0 nm) p = ifK (decide (((⟨n, l⟩ : Env).keep nm).kb nm ≤ S0.top) && (decide (S0.top ≤ S.top) && pendOk pend log.length S)) (wDraw C r (S :: log) pend ⟨n, (d, v) :: l⟩ S) none := rfl
@[simp] theorem retK_kDE' (S0 : St) (nm : List Tmp) : retK (some (.ret v, S)) (kDE C r log pend n l none S0 nm) p = ifK (decide (((⟨n, l⟩ : Env).keep nm).kb nm ≤ S0.top) && (decide (S0.top ≤ S.top) && pendOk pend log.length S)) (wDraw C r (S :: log) pend ⟨n, l⟩ S) none := rfl
@[simp] theorem retK_pD (k : V → St → R) : retK (some (.pan v, S)) k (pD n) = some (.pan v, ⟨n, []⟩, S) := rfl
open Classical in
@[simp] theorem pendOk_nil (k : Nat) : pendOk [] k S = true := rfl
open Classical in
@[simp] theorem pendOk_cons (q : Pend) (ps : List Pend) (k : Nat) : pendOk (q :: ps) k S = ((decide (q.hi < k) || decide (q.ok S)) && pendOk ps k S) := rfl
open Classical in
@[simp] theorem logOk_eq (lo : Nat) (ok : St → Prop) : logOk log lo ok = (log.take (log.length - lo)).all fun S => decide (ok S) := rfl
variable {n d} (h : d < n) (op : CO) (lo hi : Nat) (nm : List Tmp)
theorem evOper_none (hc : ∀ f a, op ≠ .call f a) (hp : ∀ a, op ≠ .panic a) (T : Env) : evOper C T S [] op = (evOp T S op).map fun (v, S) => (.ret v, S) := by
  unfold evOper
  split
  · exact absurd rfl (hc _ _)
  · exact absurd rfl (hp _)
  · rfl
  · cases evOp T S _ <;> rfl
include h
theorem evDraw_pure (hc : clsOf op = .pure) : evDraw C (⟨some d, none, op, [], [], lo, hi, nm⟩ :: r) log pend ⟨n, l⟩ S = retK (evOper C (Env.keep ⟨n, l⟩ nm) ⟨[], 0⟩ [] op) (kDP C r log pend n l d S) (pD n) := by
  rw [evOper_none _ _ _ (by rintro f a rfl; cases hc) (by rintro a rfl; cases hc)]
  simp only [evDraw, wantedE, hc, Env.setO, Env.set, kDP, retK, h, if_true]
  rcases evOp (Env.keep ⟨n, l⟩ nm) ⟨[], 0⟩ op with _ | ⟨_, _⟩ <;> rfl
theorem evDraw_alloc (hc : clsOf op = .alloc) : evDraw C (⟨some d, none, op, [], [], lo, hi, nm⟩ :: r) log pend ⟨n, l⟩ S = retK (evOper C (Env.keep ⟨n, l⟩ nm) S [] op) (kDA C r log pend n l d S hi) (pD n) := by
  rw [evOper_none _ _ _ (by rintro f a rfl; cases hc) (by rintro a rfl; cases hc)]
  simp only [evDraw, wantedE, hc, Env.setO, Env.set, kDA, retK, h, if_true]
  rcases evOp (Env.keep ⟨n, l⟩ nm) S op with _ | ⟨_, _⟩ <;> rfl
@[simp] theorem evDraw_load (ag : Bool) (m : Nat) (q : Od) : evDraw C (⟨some d, none, .load ag m q, [], [], lo, hi, nm⟩ :: r) log pend ⟨n, l⟩ S =
    retK (valK (loadS S ag m (opd (Env.keep ⟨n, l⟩ nm) q)) S) (kDL C r log pend n l d ag m (opd (Env.keep ⟨n, l⟩ nm) q) lo hi) (pD n) := by
  simp only [evDraw, wantedE, clsOf, Env.setO, Env.set, kDL, retK, h, if_true]
  cases loadS S ag m (opd (Env.keep ⟨n, l⟩ nm) q) <;> rfl
theorem evDraw_eff (hc : clsOf op = .eff) : evDraw C (⟨some d, none, op, [], [], lo, hi, nm⟩ :: r) log pend ⟨n, l⟩ S = retK (evOper C (Env.keep ⟨n, l⟩ nm) S [] op) (kDE C r log pend n l (some d) S nm) (pD n) := by
  simp only [evDraw, wantedE, hc, Env.setO, Env.set, kDE, retK, h, if_true, pD]
  rcases evOper C (Env.keep ⟨n, l⟩ nm) S [] op with _ | ⟨_ | _, _⟩ <;> rfl
omit h in
theorem evDraw_effx (hc : clsOf op = .eff) : evDraw C (⟨none, none, op, [], [], lo, hi, nm⟩ :: r) log pend ⟨n, l⟩ S = retK (evOper C (Env.keep ⟨n, l⟩ nm) S [] op) (kDE C r log pend n l none S nm) (pD n) := by
  simp only [evDraw, wantedE, hc, Env.setO, kDE, retK, pD]
  rcases evOper C (Env.keep ⟨n, l⟩ nm) S [] op with _ | ⟨_ | _, _⟩ <;> rfl
end
section
variable (S : St) (C : Oracle) (r : List COper) (log : List St) (pend : List Pend) {n : Nat} (l : List (Tmp × V)) {d : Tmp} (h : d < n) (lo hi : Nat) (nm : List Tmp)
@[simp] theorem evDraw_x (q y : Od) (m : Nat) : evDraw C (⟨none, none, .store m q y, [], [], lo, hi, nm⟩ :: r) log pend ⟨n, l⟩ S = retK (evOper C (Env.keep ⟨n, l⟩ nm) S [] (.store m q y)) (kDE C r log pend n l none S nm) (pD n) := evDraw_effx _ _ _ _ _ _ _ _ _ _ rfl
@[simp] theorem evDraw_mapput (q : LK) (m k y : Od) : evDraw C (⟨none, none, .mapput q m k y, [], [], lo, hi, nm⟩ :: r) log pend ⟨n, l⟩ S = retK (evOper C (Env.keep ⟨n, l⟩ nm) S [] (.mapput q m k y)) (kDE C r log pend n l none S nm) (pD n) := evDraw_effx _ _ _ _ _ _ _ _ _ _ rfl
@[simp] theorem evDraw_callx (f : Od) (args : List Od) : evDraw C (⟨none, none, .call f args, [], [], lo, hi, nm⟩ :: r) log pend ⟨n, l⟩ S = retK (evOper C (Env.keep ⟨n, l⟩ nm) S [] (.call f args)) (kDE C r log pend n l none S nm) (pD n) := evDraw_effx _ _ _ _ _ _ _ _ _ _ rfl
include h
@[simp] theorem evDraw_p_mv (y : Od) : evDraw C (⟨some d, none, .mv y, [], [], lo, hi, nm⟩ :: r) log pend ⟨n, l⟩ S = retK (evOper C (Env.keep ⟨n, l⟩ nm) ⟨[], 0⟩ [] (.mv y)) (kDP C r log pend n l d S) (pD n) := evDraw_pure _ _ _ _ _ _ h _ _ _ _ rfl
@[simp] theorem evDraw_p_pick (a b c : Od) : evDraw C (⟨some d, none, .pick a b c, [], [], lo, hi, nm⟩ :: r) log pend ⟨n, l⟩ S = retK (evOper C (Env.keep ⟨n, l⟩ nm) ⟨[], 0⟩ [] (.pick a b c)) (kDP C r log pend n l d S) (pD n) := evDraw_pure _ _ _ _ _ _ h _ _ _ _ rfl
@[simp] theorem evDraw_p_build (z : List V) (ps : List (Nat × Nat × Od)) : evDraw C (⟨some d, none, .build z ps, [], [], lo, hi, nm⟩ :: r) log pend ⟨n, l⟩ S = retK (evOper C (Env.keep ⟨n, l⟩ nm) ⟨[], 0⟩ [] (.build z ps)) (kDP C r log pend n l d S) (pD n) := evDraw_pure _ _ _ _ _ _ h _ _ _ _ rfl
@[simp] theorem evDraw_p_nilchk (y : Od) : evDraw C (⟨some d, none, .nilchk y, [], [], lo, hi, nm⟩ :: r) log pend ⟨n, l⟩ S = retK (evOper C (Env.keep ⟨n, l⟩ nm) ⟨[], 0⟩ [] (.nilchk y)) (kDP C r log pend n l d S) (pD n) := evDraw_pure _ _ _ _ _ _ h _ _ _ _ rfl
@[simp] theorem evDraw_p_bin (op : BinOp) (q : EqK) (y z : Od) : evDraw C (⟨some d, none, .bin op q y z, [], [], lo, hi, nm⟩ :: r) log pend ⟨n, l⟩ S = retK (evOper C (Env.keep ⟨n, l⟩ nm) ⟨[], 0⟩ [] (.bin op q y z)) (kDP C r log pend n l d S) (pD n) := evDraw_pure _ _ _ _ _ _ h _ _ _ _ rfl
@[simp] theorem evDraw_p_una (op : UnOp) (y : Od) : evDraw C (⟨some d, none, .una op y, [], [], lo, hi, nm⟩ :: r) log pend ⟨n, l⟩ S = retK (evOper C (Env.keep ⟨n, l⟩ nm) ⟨[], 0⟩ [] (.una op y)) (kDP C r log pend n l d S) (pD n) := evDraw_pure _ _ _ _ _ _ h _ _ _ _ rfl
@[simp] theorem evDraw_p_conv (k : IntKind) (y : Od) : evDraw C (⟨some d, none, .conv k y, [], [], lo, hi, nm⟩ :: r) log pend ⟨n, l⟩ S = retK (evOper C (Env.keep ⟨n, l⟩ nm) ⟨[], 0⟩ [] (.conv k y)) (kDP C r log pend n l d S) (pD n) := evDraw_pure _ _ _ _ _ _ h _ _ _ _ rfl
@[simp] theorem evDraw_p_convS (y : Od) : evDraw C (⟨some d, none, .convS y, [], [], lo, hi, nm⟩ :: r) log pend ⟨n, l⟩ S = retK (evOper C (Env.keep ⟨n, l⟩ nm) ⟨[], 0⟩ [] (.convS y)) (kDP C r log pend n l d S) (pD n) := evDraw_pure _ _ _ _ _ _ h _ _ _ _ rfl
@[simp] theorem evDraw_p_mkfn (f : FuncId) (cap : List Od) : evDraw C (⟨some d, none, .mkfn f cap, [], [], lo, hi, nm⟩ :: r) log pend ⟨n, l⟩ S = retK (evOper C (Env.keep ⟨n, l⟩ nm) ⟨[], 0⟩ [] (.mkfn f cap)) (kDP C r log pend n l d S) (pD n) := evDraw_pure _ _ _ _ _ _ h _ _ _ _ rfl
@[simp] theorem evDraw_p_slice (q : Option Nat) (y : Od) (a b : Option Od) : evDraw C (⟨some d, none, .slice q y a b, [], [], lo, hi, nm⟩ :: r) log pend ⟨n, l⟩ S = retK (evOper C (Env.keep ⟨n, l⟩ nm) ⟨[], 0⟩ [] (.slice q y a b)) (kDP C r log pend n l d S) (pD n) := evDraw_pure _ _ _ _ _ _ h _ _ _ _ rfl
@[simp] theorem evDraw_p_faddr (o : Nat) (y : Od) : evDraw C (⟨some d, none, .faddr o y, [], [], lo, hi, nm⟩ :: r) log pend ⟨n, l⟩ S = retK (evOper C (Env.keep ⟨n, l⟩ nm) ⟨[], 0⟩ [] (.faddr o y)) (kDP C r log pend n l d S) (pD n) := evDraw_pure _ _ _ _ _ _ h _ _ _ _ rfl
@[simp] theorem evDraw_p_field (ag : Bool) (o m : Nat) (y : Od) : evDraw C (⟨some d, none, .field ag o m y, [], [], lo, hi, nm⟩ :: r) log pend ⟨n, l⟩ S = retK (evOper C (Env.keep ⟨n, l⟩ nm) ⟨[], 0⟩ [] (.field ag o m y)) (kDP C r log pend n l d S) (pD n) := evDraw_pure _ _ _ _ _ _ h _ _ _ _ rfl
@[simp] theorem evDraw_p_iaddr (sz : Nat) (y i : Od) : evDraw C (⟨some d, none, .iaddr sz y i, [], [], lo, hi, nm⟩ :: r) log pend ⟨n, l⟩ S = retK (evOper C (Env.keep ⟨n, l⟩ nm) ⟨[], 0⟩ [] (.iaddr sz y i)) (kDP C r log pend n l d S) (pD n) := evDraw_pure _ _ _ _ _ _ h _ _ _ _ rfl
@[simp] theorem evDraw_p_index (y i : Od) : evDraw C (⟨some d, none, .index y i, [], [], lo, hi, nm⟩ :: r) log pend ⟨n, l⟩ S = retK (evOper C (Env.keep ⟨n, l⟩ nm) ⟨[], 0⟩ [] (.index y i)) (kDP C r log pend n l d S) (pD n) := evDraw_pure _ _ _ _ _ _ h _ _ _ _ rfl
@[simp] theorem evDraw_p_extr (y : Od) (i : Nat) : evDraw C (⟨some d, none, .extr y i, [], [], lo, hi, nm⟩ :: r) log pend ⟨n, l⟩ S = retK (evOper C (Env.keep ⟨n, l⟩ nm) ⟨[], 0⟩ [] (.extr y i)) (kDP C r log pend n l d S) (pD n) := evDraw_pure _ _ _ _ _ _ h _ _ _ _ rfl
@[simp] theorem evDraw_p_len (q : LenK) (y : Od) : evDraw C (⟨some d, none, .len q y, [], [], lo, hi, nm⟩ :: r) log pend ⟨n, l⟩ S = retK (evOper C (Env.keep ⟨n, l⟩ nm) ⟨[], 0⟩ [] (.len q y)) (kDP C r log pend n l d S) (pD n) := evDraw_pure _ _ _ _ _ _ h _ _ _ _ rfl
@[simp] theorem evDraw_p_max (ys : List Od) : evDraw C (⟨some d, none, .max ys, [], [], lo, hi, nm⟩ :: r) log pend ⟨n, l⟩ S = retK (evOper C (Env.keep ⟨n, l⟩ nm) ⟨[], 0⟩ [] (.max ys)) (kDP C r log pend n l d S) (pD n) := evDraw_pure _ _ _ _ _ _ h _ _ _ _ rfl
@[simp] theorem evDraw_p_min (ys : List Od) : evDraw C (⟨some d, none, .min ys, [], [], lo, hi, nm⟩ :: r) log pend ⟨n, l⟩ S = retK (evOper C (Env.keep ⟨n, l⟩ nm) ⟨[], 0⟩ [] (.min ys)) (kDP C r log pend n l d S) (pD n) := evDraw_pure _ _ _ _ _ _ h _ _ _ _ rfl
@[simp] theorem evDraw_a_alloc (z : List V) : evDraw C (⟨some d, none, .alloc z, [], [], lo, hi, nm⟩ :: r) log pend ⟨n, l⟩ S = retK (evOper C (Env.keep ⟨n, l⟩ nm) S [] (.alloc z)) (kDA C r log pend n l d S hi) (pD n) := evDraw_alloc _ _ _ _ _ _ h _ _ _ _ rfl
@[simp] theorem evDraw_a_box (m : Nat) (y : Od) : evDraw C (⟨some d, none, .box m y, [], [], lo, hi, nm⟩ :: r) log pend ⟨n, l⟩ S = retK (evOper C (Env.keep ⟨n, l⟩ nm) S [] (.box m y)) (kDA C r log pend n l d S hi) (pD n) := evDraw_alloc _ _ _ _ _ _ h _ _ _ _ rfl
@[simp] theorem evDraw_a_bslice (z : List V) (m : Nat) (ps : List (Nat × Od)) : evDraw C (⟨some d, none, .bslice z m ps, [], [], lo, hi, nm⟩ :: r) log pend ⟨n, l⟩ S = retK (evOper C (Env.keep ⟨n, l⟩ nm) S [] (.bslice z m ps)) (kDA C r log pend n l d S hi) (pD n) := evDraw_alloc _ _ _ _ _ _ h _ _ _ _ rfl
@[simp] theorem evDraw_a_mkslice (z : List V) (b : Nat) (y c : Od) : evDraw C (⟨some d, none, .mkslice z b y c, [], [], lo, hi, nm⟩ :: r) log pend ⟨n, l⟩ S = retK (evOper C (Env.keep ⟨n, l⟩ nm) S [] (.mkslice z b y c)) (kDA C r log pend n l d S hi) (pD n) := evDraw_alloc _ _ _ _ _ _ h _ _ _ _ rfl
@[simp] theorem evDraw_a_mkmap  : evDraw C (⟨some d, none, .mkmap, [], [], lo, hi, nm⟩ :: r) log pend ⟨n, l⟩ S = retK (evOper C (Env.keep ⟨n, l⟩ nm) S [] (.mkmap)) (kDE C r log pend n l (some d) S nm) (pD n) := evDraw_eff _ _ _ _ _ _ h _ _ _ _ rfl
@[simp] theorem evDraw_e_lookup (q : LK) (z : V) (m k : Od) (ok : Bool) : evDraw C (⟨some d, none, .lookup q z m k ok, [], [], lo, hi, nm⟩ :: r) log pend ⟨n, l⟩ S = retK (evOper C (Env.keep ⟨n, l⟩ nm) S [] (.lookup q z m k ok)) (kDE C r log pend n l (some d) S nm) (pD n) := evDraw_eff _ _ _ _ _ _ h _ _ _ _ rfl
@[simp] theorem evDraw_e_append (a b : Nat) (q : Bool) (s y : Od) : evDraw C (⟨some d, none, .append a b q s y, [], [], lo, hi, nm⟩ :: r) log pend ⟨n, l⟩ S = retK (evOper C (Env.keep ⟨n, l⟩ nm) S [] (.append a b q s y)) (kDE C r log pend n l (some d) S nm) (pD n) := evDraw_eff _ _ _ _ _ _ h _ _ _ _ rfl
@[simp] theorem evDraw_e_call (f : Od) (args : List Od) : evDraw C (⟨some d, none, .call f args, [], [], lo, hi, nm⟩ :: r) log pend ⟨n, l⟩ S = retK (evOper C (Env.keep ⟨n, l⟩ nm) S [] (.call f args)) (kDE C r log pend n l (some d) S nm) (pD n) := evDraw_eff _ _ _ _ _ _ h _ _ _ _ rfl
end
@[simp] theorem evDraw_nil (C : Oracle) (log : List St) (pend : List Pend) (T : Env) (S : St) : evDraw C [] log pend T S = some (.norm, T, S) := rfl
attribute [simp] clsOf

/-- how a function's end is told -/
def endK (r : R) (k0 : Nat × Nat) (res : List CRes) : Option (Out × St) :=
  match r with
  | some (.norm, T, S') | some (.ret, T, S') => (resOf T S' res).map fun vs => (.ret (oneOrTup vs), leave k0 (oneOrTup vs) S')
  | some (.pan v, _, S') => some (.pan v, leave k0 v S')
  | _ => none
@[simp] theorem endK_norm (T : Env) (S : St) (k0 : Nat × Nat) (res : List CRes) : endK (some (.norm, T, S)) k0 res = (resOf T S res).map fun vs => (.ret (oneOrTup vs), leave k0 (oneOrTup vs) S) := rfl
@[simp] theorem endK_ret (T : Env) (S : St) (k0 : Nat × Nat) (res : List CRes) : endK (some (.ret, T, S)) k0 res = (resOf T S res).map fun vs => (.ret (oneOrTup vs), leave k0 (oneOrTup vs) S) := rfl
@[simp] theorem endK_pan (v : V) (T : Env) (S : St) (k0 : Nat × Nat) (res : List CRes) : endK (some (.pan v, T, S)) k0 res = some (.pan v, leave k0 v S) := rfl

theorem evFn_eq (C : Oracle) (L : Looper) (n : Nat) (res : List CRes) (body : CC) (args : List V) (S : St) (h : args.length ≤ n) :
    evFn C L ⟨n, res, body⟩ args S = endK (evC C L body ⟨n, argsEnv 0 args⟩ S) (S.top, S.pin) res := by
  unfold evFn endK
  rw [if_neg (by simpa using h)]
  rfl

attribute [simp] Nat.add_assoc V.kb kbL kbLL argsEnv resOf oneOrTup vcells asI bound partsOf rowsParts fillS setAt newVar newRows
  binOp intOp unOp eqlOp strOp foldV maxV minV freezeV idxAddr sliceS lenOf loadS storeS appendS rowsOf textRows sliceT cutS leafEq leafEqK cellsEq findE putE keyOk ghost Env.keep Env.kb leave settle keepO look

end Mev
