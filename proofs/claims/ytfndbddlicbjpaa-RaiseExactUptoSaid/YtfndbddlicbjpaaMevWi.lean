/- The document's answer, one equation each: how deep all types lie. -/
import Derived.Test.YtfndbddlicbjpaaMevWh
import Derived.Test.YtfndbddlicbjpaaMevW6

set_option maxRecDepth 100000
namespace Mev
open Go Go.Proofs

def depS (ds : List Int) (t : Typ) : Int := depN (dOf ds) t
def depsN (ts : List Typ) : List Int := scan depS [] ts

theorem dOf_lt (ds : List Int) (d : Int) (k : Nat) (h : k < ds.length) : dOf (ds ++ [d]) k = dOf ds k := by
  simp [dOf, List.getD_eq_getElem?_getD, List.getElem?_append_left h]
theorem dOf_eq (ds : List Int) (d : Int) : dOf (ds ++ [d]) ds.length = d := by
  simp [dOf, List.getD_eq_getElem?_getD]

theorem depS_bd (ds : List Int) (t : Typ) (hw : WfT t ds.length) (hD : ∀ k, k < ds.length → 0 ≤ dOf ds k ∧ dOf ds k ≤ ds.length) : 1 ≤ depS ds t ∧ depS ds t ≤ ds.length + 1 := by
  have hfb := depFirst_bd (dOf ds) ds.length ds.length t hD (by omega) hw.elem
  have hdb := depFold_bd (dOf ds) ds.length ds.length hD t.parts _ hw.fine.2 hfb.1 hfb.2
  unfold depS depN
  omega

theorem depS_next (ds : List Int) (t : Typ) (hw : WfT t ds.length) (hD : ∀ k, k < ds.length → 0 ≤ dOf ds k ∧ dOf ds k ≤ ds.length) : ∀ k, k < (ds ++ [depS ds t]).length → 0 ≤ dOf (ds ++ [depS ds t]) k ∧ dOf (ds ++ [depS ds t]) k ≤ ((ds ++ [depS ds t]).length : Nat) := by
  intro k hk
  have hb := depS_bd ds t hw hD
  simp only [List.length_append, List.length_cons, List.length_nil] at hk ⊢
  rcases Nat.lt_or_ge k ds.length with h | h
  · rw [dOf_lt _ _ _ h]; have := hD k h; omega
  · obtain rfl : k = ds.length := by omega
    rw [dOf_eq]; omega

theorem rdep_loop (x0 c : Nat) (ts : List Typ) (sp : List (List V)) (rv : V) (hw : WfTs ts) (hn : ts.length ≤ 1073741824) (hne : x0 ≠ c) : ∀ (m : Nat) (S : St) (ds : List Int) (g : Nat), ds.length + m = ts.length → (∀ k, k < ds.length → 0 ≤ dOf ds k ∧ dOf ds k ≤ ds.length) → S.get x0 = some (.cells 2 [[tsV ts sp, rv]] 0 0) → S.get c = some (.cells 1 (dV ds) g 0) →
    ∃ g' l, loopL (some [1, 3, 4]) (S.top, S.pin) (kC (ev Q) loopL b31x0) ⟨62, [(1, .ptr x0 0 2 0 0), (3, .sl c g 1 0 ds.length), (4, .int .i64 ds.length)]⟩ S =
      some (.exit 0, ⟨62, l⟩, S.put c (.cells 1 (dV (scan depS ds (ts.drop ds.length))) g' 0)) ∧ look 3 l = .sl c g' 1 0 (scan depS ds (ts.drop ds.length)).length := by
  intro m
  induction m with
  | zero =>
    intro S ds g hl hD hx0 hc
    have h1 : ¬ ((ds.length : Int) < ts.length) := by omega
    have hp := put_self _ _ hc
    rw [List.drop_of_length_le (by omega)]
    simp only [scan]
    refine ⟨g, [(12, .bool false), (11, .int .i64 ts.length), (10, tsV ts sp), (9, .ptr x0 0 2 0 0), (8, .int .i64 ds.length), (1, .ptr x0 0 2 0 0), (3, .sl c g 1 0 ds.length), (4, .int .i64 ds.length)], ?_, rfl⟩
    rw [hp, loopL_eq]
    simp [kC, b31x0, h1, hx0, tsV]
  | succ m ih =>
    intro S ds g hl hD hx0 hc
    have hil : ds.length < ts.length := by omega
    have ht : ts[ds.length]? = some ts[ds.length] := List.getElem?_eq_getElem hil
    have hcl := get_lt _ _ hc
    have hwt := hw _ _ ht
    rw [rdep_round S x0 c g ds.length ts sp rv ts[ds.length] ds hx0 hc hne hil hn rfl ht hwt hD]
    obtain ⟨g', l, h1, h2⟩ := ih (S.put c (.cells 1 (dV (ds ++ [depS ds ts[ds.length]])) (g + 1) 0)) (ds ++ [depS ds ts[ds.length]]) (g + 1) (by simp; omega) (depS_next ds _ hwt hD) (by rw [put_get_if, if_neg (fun h => hne h.1.symm)]; exact hx0) (by rw [put_get_if, if_pos ⟨rfl, hcl⟩])
    have hlen : (ds ++ [depS ds ts[ds.length]]).length = ds.length + 1 := by simp
    have happ : scan depS (ds ++ [depS ds ts[ds.length]]) (ts.drop (ds.length + 1)) = scan depS ds (ts.drop ds.length) := by
      rw [List.drop_eq_getElem_cons hil, scan]
    rw [hlen, happ] at h1 h2
    simp only [top_put, pin_put, put_put] at h1
    refine ⟨g', l, ?_, h2⟩
    change loopL _ _ _ ⟨62, [_, (3, .sl c (g + 1) 1 0 (ds ++ [depS ds ts[ds.length]]).length), _]⟩ _ = _
    rw [hlen]
    exact h1

theorem kbLL_dV : ∀ ds : List Int, kbLL (dV ds) = 0 := by
  intro ds
  induction ds with
  | nil => rfl
  | cons d ds ih => simp only [dV, List.map_cons] at *; simp [ih]

theorem rdeps_ev (ts : List Typ) (sp : List (List V)) (hn : ts.length ≤ 1073741824) (rv : V) (hkb : rv.kb = 0) (hw : WfTs ts) :
    Pure 31 [.agg [tsV ts sp, rv]] (.rs 1 (dV (depsN ts)) ts.length) := by
  intro S
  obtain ⟨g', l, h1, h2⟩ := rdep_loop S.top (S.top + 1) ts sp rv hw hn (by omega) ts.length ((S.push (.cells 2 [[tsV ts sp, rv]] 0 0)).push (.cells 1 [] 0 0)) [] 0 (by simp) (by simp) (by simp) (by simp [dV])
  simp only [List.length_nil, List.drop_zero] at h1 h2
  have hlen : (depsN ts).length = ts.length := by simp [depsN, scan_len]
  have hsc : scan depS [] ts = depsN ts := rfl
  rw [hsc] at h1 h2
  rw [hlen] at h2
  have hk := kbLL_dV (depsN ts)
  have hVl : (dV (depsN ts)).length = ts.length := by simp [dV, hlen]
  rw [ev_eq q31, c31, evFn_eq _ _ _ _ _ _ _ (by simp)]
  generalize dV (depsN ts) = DS at *
  simp only [tsV] at h1
  simp at h1 h2
  simp [tsV, h1, h2, hkb, hk, set_mk, hVl]
end Mev

/- The document's answer, one equation each: may it be a schema: loops. -/

set_option maxRecDepth 100000
namespace Mev
open Go Go.Proofs

def badT : Nat → List Typ → Option Nat
  | _, [] => none
  | i, t :: r => if rightB t i then badT (i + 1) r else some i
def badD : Nat → List Int → Option Nat
  | _, [] => none
  | i, d :: r => if d ≤ 64 then badD (i + 1) r else some i

theorem rchk_round0 (S : St) (x y i : Nat) (ts : List Typ) (sp : List (List V)) (rv : V) (t : Typ) (hx : S.get x = some (.cells 2 [[tsV ts sp, rv]] 0 0)) (hy : S.get y = some (.cells 2 [[.int .i64 0, .int .i64 0]] 0 0)) (hxy : x < y) (ht : ts[i]? = some t) (hn : ts.length ≤ 1073741824) :
    if rightB t i then
      loopL (some [1, 2, 3]) (S.top, S.pin) (kC (ev Q) loopL b16x0) ⟨102, [(1, .ptr x 0 2 0 0), (2, .ptr y 0 2 0 0), (3, .int .i64 i)]⟩ S =
      loopL (some [1, 2, 3]) (S.top, S.pin) (kC (ev Q) loopL b16x0) ⟨102, [(1, .ptr x 0 2 0 0), (2, .ptr y 0 2 0 0), (3, .int .i64 (i + 1 : Nat))]⟩ S
    else ∃ l, loopL (some [1, 2, 3]) (S.top, S.pin) (kC (ev Q) loopL b16x0) ⟨102, [(1, .ptr x 0 2 0 0), (2, .ptr y 0 2 0 0), (3, .int .i64 i)]⟩ S =
      some (.ret, ⟨102, l⟩, S.put y (.cells 2 [[.int .i64 92, .int .i64 i]] 0 0)) ∧ look 2 l = .ptr y 0 2 0 0 := by
  have hxl := get_lt _ _ hx
  have hyl := get_lt _ _ hy
  have hi : i < ts.length := (List.getElem?_eq_some_iff.1 ht).1
  have hi' : (i : Int) < ts.length := by omega
  have w3 : IntKind.i64.wrap ((i : Int) + 1) = (i : Int) + 1 := wrap64 (by omega) (by omega)
  have hmx : max x y + 1 ≤ S.top := by omega
  have hrow : (ts.map Typ.v ++ sp)[i]? = some t.v := by
    rw [List.getElem?_append_left (by simpa using hi), List.getElem?_map, ht]; rfl
  have hC := fun S => rright_ev t i ⟨by omega, by omega⟩ S
  obtain ⟨b, hb⟩ : ∃ b, rightB t i = b := ⟨_, rfl⟩
  change ∀ S, ev Q 30 _ S = some (.ret (.bool (rightB t i)), S) at hC
  rw [hb] at hC ⊢
  simp only [tsV, Typ.v] at hx hrow hC
  rw [loopL_eq]
  generalize loopL (some [1, 2, 3]) (S.top, S.pin) (kC (ev Q) loopL b16x0) = F
  generalize ts.map Typ.v ++ sp = rows at *
  cases b with
  | true => simp [kC, b16x0, hx, hrow, hi', hC, w3, hmx]
  | false => simp [kC, b16x0, hx, hy, hrow, hi', hC, below hyl, w3, hmx]

theorem rchk_loop0 (ts : List Typ) (sp : List (List V)) (rv : V) (hn : ts.length ≤ 1073741824) (x y : Nat) (hxy : x < y) (S : St) (hx : S.get x = some (.cells 2 [[tsV ts sp, rv]] 0 0)) (hy : S.get y = some (.cells 2 [[.int .i64 0, .int .i64 0]] 0 0)) : ∀ (m i : Nat), i + m = ts.length →
    ∃ r l S', loopL (some [1, 2, 3]) (S.top, S.pin) (kC (ev Q) loopL b16x0) ⟨102, [(1, .ptr x 0 2 0 0), (2, .ptr y 0 2 0 0), (3, .int .i64 i)]⟩ S = some (r, ⟨102, l⟩, S') ∧ look 2 l = .ptr y 0 2 0 0 ∧
      match badT i (ts.drop i) with
      | none => r = .exit 0 ∧ S' = S ∧ look 1 l = .ptr x 0 2 0 0
      | some j => r = .ret ∧ S' = S.put y (.cells 2 [[.int .i64 92, .int .i64 j]] 0 0) := by
  intro m
  induction m with
  | zero =>
    intro i hi
    have h1 : ¬ ((i : Int) < ts.length) := by omega
    rw [List.drop_of_length_le (by omega)]
    refine ⟨.exit 0, [(13, .bool false), (12, .int .i64 ts.length), (11, tsV ts sp), (10, .ptr x 0 2 0 0), (9, .int .i64 i), (1, .ptr x 0 2 0 0), (2, .ptr y 0 2 0 0), (3, .int .i64 i)], S, ?_, by simp, rfl, rfl, by simp⟩
    rw [loopL_eq]
    simp [kC, b16x0, h1, hx, tsV]
  | succ m ih =>
    intro i hi
    have hil : i < ts.length := by omega
    have ht : ts[i]? = some ts[i] := List.getElem?_eq_getElem hil
    have hr := rchk_round0 S x y i ts sp rv ts[i] hx hy hxy ht hn
    rw [List.drop_eq_getElem_cons hil, badT]
    cases hb : rightB ts[i] i with
    | true =>
      rw [hb] at hr
      simp only [if_true] at hr ⊢
      rw [hr]
      exact ih (i + 1) (by omega)
    | false =>
      rw [hb] at hr
      simp only [Bool.false_eq_true, if_false] at hr ⊢
      obtain ⟨l, h1, h2⟩ := hr
      exact ⟨_, l, _, h1, h2, rfl, rfl⟩

theorem rchk_loop2 (ds : List Int) (n : Nat) (hn : ds.length = n) (hn2 : n ≤ 1073741824) (x y : Nat) (hxy : x < y) (S : St) (hy : S.get y = some (.cells 2 [[.int .i64 0, .int .i64 0]] 0 0)) : ∀ (m i : Nat), i + m = n →
    ∃ r l S', loopL (some [1, 2, 4, 5]) (S.top, S.pin) (kC (ev Q) loopL b16x2) ⟨102, [(1, .ptr x 0 2 0 0), (2, .ptr y 0 2 0 0), (4, .rs 1 (dV ds) n), (5, .int .i64 i)]⟩ S = some (r, ⟨102, l⟩, S') ∧ look 2 l = .ptr y 0 2 0 0 ∧
      match badD i (ds.drop i) with
      | none => r = .exit 2 ∧ S' = S ∧ look 1 l = .ptr x 0 2 0 0
      | some j => r = .ret ∧ S' = S.put y (.cells 2 [[.int .i64 83, .int .i64 j]] 0 0) := by
  have hyl := get_lt _ _ hy
  intro m
  induction m with
  | zero =>
    intro i hi
    have h1 : ¬ ((i : Int) < n) := by omega
    rw [List.drop_of_length_le (by omega)]
    refine ⟨.exit 2, [(31, .bool false), (30, .int .i64 n), (29, .rs 1 (dV ds) n), (28, .int .i64 i), (1, .ptr x 0 2 0 0), (2, .ptr y 0 2 0 0), (4, .rs 1 (dV ds) n), (5, .int .i64 i)], S, ?_, by simp, rfl, rfl, by simp⟩
    rw [loopL_eq]
    simp [kC, b16x2, h1]
  | succ m ih =>
    intro i hi
    have hil : i < ds.length := by omega
    have hiln : i < n := by omega
    have hi' : (i : Int) < n := by omega
    have hr : (dV ds)[i]? = some [.int .i64 ds[i]] := by simp [dV, List.getElem?_map, List.getElem?_eq_getElem hil]
    have w3 : IntKind.i64.wrap ((i : Int) + 1) = (i : Int) + 1 := wrap64 (by omega) (by omega)
    have hmx : max x y + 1 ≤ S.top := by omega
    have hmx2 : max x (max y 0) + 1 ≤ S.top := by omega
    rw [List.drop_eq_getElem_cons hil, badD]
    have hi2 := ih (i + 1) (by omega)
    have hk := kbLL_dV ds
    generalize ds[i] = d at *
    by_cases c : d ≤ 64
    · have c' : ¬ (64 < d) := by omega
      rw [if_pos c]
      obtain ⟨r, l, S', h1, h2⟩ := hi2
      refine ⟨r, l, S', ?_, h2⟩
      rw [← h1, loopL_eq]
      generalize loopL (some [1, 2, 4, 5]) (S.top, S.pin) (kC (ev Q) loopL b16x2) = F
      generalize dV ds = rows at *
      simp [kC, b16x2, hr, hi', hiln, c', w3, hmx, hk]
    · have c' : 64 < d := by omega
      rw [if_neg c]
      generalize dV ds = rows at *
      simp only
      have : ∃ l, loopL (some [1, 2, 4, 5]) (S.top, S.pin) (kC (ev Q) loopL b16x2) ⟨102, [(1, .ptr x 0 2 0 0), (2, .ptr y 0 2 0 0), (4, .rs 1 rows n), (5, .int .i64 i)]⟩ S = some (.ret, ⟨102, l⟩, S.put y (.cells 2 [[.int .i64 83, .int .i64 i]] 0 0)) ∧ look 2 l = .ptr y 0 2 0 0 := by
        rw [loopL_eq]
        generalize loopL (some [1, 2, 4, 5]) (S.top, S.pin) (kC (ev Q) loopL b16x2) = F
        simp [kC, b16x2, hr, hi', hiln, c', hy, below hyl, w3, hmx, hk]
      obtain ⟨l, h1, h2⟩ := this
      exact ⟨_, l, _, h1, h2, rfl, rfl⟩
end Mev

/- The document's answer, one equation each: may it be a schema: roots. -/

set_option maxRecDepth 100000
namespace Mev
open Go Go.Proofs

noncomputable def wSkp (C : Oracle) (r : List COper) (log : List St) (pend : List Pend) (n : Nat) (l : List (Tmp × V)) (d : Tmp) (S : St) : R := ifK (pendOk pend log.length S) (wDraw C r (S :: log) pend ⟨n, (d, .tup []) :: l⟩ S) none
@[simp] theorem ifK_wSkp (C : Oracle) (r : List COper) (log : List St) (pend : List Pend) (n : Nat) (l : List (Tmp × V)) (d : Tmp) (S : St) (b : R) : ifK false b (wSkp C r log pend n l d S) = ifK (pendOk pend log.length S) (wDraw C r (S :: log) pend ⟨n, (d, .tup []) :: l⟩ S) none := rfl
section
variable (S : St) (C : Oracle) (r : List COper) (log : List St) (pend : List Pend) {n : Nat} (l : List (Tmp × V)) {d : Tmp} (h : d < n) (lo hi : Nat) (nm : List Tmp) (f : Od) (args : List Od) (t : Tmp)
include h
@[simp] theorem evDraw_gtc : evDraw C (⟨some d, some (t, true), .call f args, [], [], lo, hi, nm⟩ :: r) log pend ⟨n, l⟩ S =
    grdT (look t l) (wDraw C (⟨some d, none, .call f args, [], [], lo, hi, nm⟩ :: r) log pend ⟨n, l⟩ S) (wSkp C r log pend n l d S) := by
  unfold wSkp
  have hskip : ∀ b, wantedE ⟨n, l⟩ (some (t, b)) = some false → evDraw C (⟨some d, some (t, b), .call f args, [], [], lo, hi, nm⟩ :: r) log pend ⟨n, l⟩ S = ifK (pendOk pend log.length S) (wDraw C r (S :: log) pend ⟨n, (d, .tup []) :: l⟩ S) none := by
    intro b h1
    conv => lhs; unfold evDraw
    simp only [h1, Env.setO, Env.set, h, if_true, clsOf]
    unfold ifK wDraw
    rfl
  unfold grdT
  cases hx : look t l with
  | bool c =>
    cases c with
    | false => exact hskip true (by simp only [wantedE, get_mk, hx]; rfl)
    | true => exact evDraw_take S C r log pend l lo hi nm _ t true hx
  | tup c =>
    cases c with
    | nil => exact hskip true (by simp only [wantedE, get_mk, hx])
    | cons _ _ => exact evDraw_none S C r log pend l lo hi nm _ t true (fun c hh => by rw [hx] at hh; cases hh) (fun hh => by rw [hx] at hh; cases hh)
  | _ => exact evDraw_none S C r log pend l lo hi nm _ t true (fun c hh => by rw [hx] at hh; cases hh) (fun hh => by rw [hx] at hh; cases hh)
end

def sameN (q p : List UInt8 × Int) : Bool := decide (q.1 = p.1)

theorem rrname_loop (ts : List Typ) (sp rsp : List (List V)) (rs : List (List UInt8 × Int)) (x y i : Nat) (p : List UInt8 × Int) (hp : rs[i]? = some p) (hlen : rs.length ≤ 1073741824) (S : St) (hx : S.get x = some (.cells 2 [[tsV ts sp, .rs 2 (rs.map rootV ++ rsp) rs.length]] 0 0)) (hy : y < S.top) : ∀ (m j : Nat) (b : Bool), j + m = i →
    ∃ l, loopL (some [1, 2, 6, 7, 8]) (S.top, S.pin) (kC (ev Q) loopL b16x6) ⟨102, [(1, .ptr x 0 2 0 0), (2, .ptr y 0 2 0 0), (6, .int .i64 i), (7, .bool b), (8, .int .i64 j)]⟩ S = some (.exit 6, ⟨102, l⟩, S) ∧
      look 1 l = .ptr x 0 2 0 0 ∧ look 2 l = .ptr y 0 2 0 0 ∧ look 6 l = .int .i64 i ∧ look 7 l = .bool (b && !(((rs.take i).drop j).any (sameN · p))) := by
  have hxl := get_lt _ _ hx
  have hil := (List.getElem?_eq_some_iff.1 hp).1
  have hil' : (i : Int) < rs.length := by omega
  have hrp : (rs.map rootV ++ rsp)[i]? = some (rootV p) := by
    rw [List.getElem?_append_left (by simpa using hil), List.getElem?_map, hp]; rfl
  intro m
  induction m with
  | zero =>
    intro j b hj
    have h1 : ¬ ((j : Int) < i) := by omega
    have hd : (rs.take i).drop j = [] := List.drop_of_length_le (by simp; omega)
    refine ⟨[(74, .bool false), (73, .int .i64 i), (72, .int .i64 j), (1, .ptr x 0 2 0 0), (2, .ptr y 0 2 0 0), (6, .int .i64 i), (7, .bool b), (8, .int .i64 j)], ?_, by simp, by simp, by simp, by simp [hd]⟩
    rw [loopL_eq]
    simp [kC, b16x6, h1]
  | succ m ih =>
    intro j b hj
    have hjl : j < rs.length := by omega
    have hjl' : (j : Int) < rs.length := by omega
    have hji : (j : Int) < i := by omega
    have hrj : (rs.map rootV ++ rsp)[j]? = some (rootV rs[j]) := by
      rw [List.getElem?_append_left (by simpa using hjl), List.getElem?_map, List.getElem?_eq_getElem hjl]; rfl
    have hd : (rs.take i).drop j = rs[j] :: (rs.take i).drop (j + 1) := by
      rw [List.drop_eq_getElem_cons (by simp; omega)]; simp
    obtain ⟨l, h1, h2, h3, h4, h5⟩ := ih (j + 1) (b && !(sameN rs[j] p)) (by omega)
    refine ⟨l, ?_, h2, h3, h4, ?_⟩
    · rw [← h1]
      clear h1 h2 h3 h4 h5 ih hd
      generalize rs[j] = q at *
      obtain ⟨lab, ty⟩ := p
      obtain ⟨lab2, ty2⟩ := q
      simp only [rootV] at hrp hrj
      simp only [sameN]
      have w3 : IntKind.i64.wrap ((j : Int) + 1) = (j : Int) + 1 := wrap64 (by omega) (by omega)
      have hmx : max x y + 1 ≤ S.top := by omega
      rw [loopL_eq]
      generalize loopL (some [1, 2, 6, 7, 8]) (S.top, S.pin) (kC (ev Q) loopL b16x6) = F
      generalize hR : rs.map rootV ++ rsp = rows at *
      cases b with
      | false => simp [kC, b16x6, hji, w3, hmx]
      | true =>
        by_cases c : lab2 = lab
        · subst c
          simp [kC, b16x6, hji, hx, hrp, hrj, hil', hjl', hil, hjl, w3, hmx]
        · simp [kC, b16x6, hji, hx, hrp, hrj, hil', hjl', hil, hjl, c, w3, hmx]
    · rw [h5, hd, List.any_cons]
      cases b <;> cases sameN rs[j] p <;> simp
end Mev

/- The document's answer, one equation each: may it be a schema, whole. -/

set_option maxRecDepth 100000
namespace Mev
open Go Go.Proofs

def rootR (n i : Nat) (p : List UInt8 × Int) : Bool := decide (i < 256) && nameB p.1 && (decide (0 ≤ p.2) && decide (p.2 < n))
def badR (n : Nat) : List (List UInt8 × Int) → List (List UInt8 × Int) → Option Nat
  | _, [] => none
  | pre, p :: ps => if rootR n pre.length p && !(pre.any (sameN · p)) then badR n (pre ++ [p]) ps else some pre.length

theorem rroot_round (ts : List Typ) (sp rsp : List (List V)) (rs : List (List UInt8 × Int)) (x y i : Nat) (p : List UInt8 × Int) (hp : rs[i]? = some p) (hlen : rs.length ≤ 1073741824) (hn : ts.length ≤ 1073741824) (S : St) (hx : S.get x = some (.cells 2 [[tsV ts sp, .rs 2 (rs.map rootV ++ rsp) rs.length]] 0 0)) (hy : S.get y = some (.cells 2 [[.int .i64 0, .int .i64 0]] 0 0)) (hxy : x < y) :
    if rootR ts.length i p && !((rs.take i).any (sameN · p)) then
      loopL (some [1, 2, 6]) (S.top, S.pin) (kC (ev Q) loopL b16x4) ⟨102, [(1, .ptr x 0 2 0 0), (2, .ptr y 0 2 0 0), (6, .int .i64 i)]⟩ S =
      loopL (some [1, 2, 6]) (S.top, S.pin) (kC (ev Q) loopL b16x4) ⟨102, [(1, .ptr x 0 2 0 0), (2, .ptr y 0 2 0 0), (6, .int .i64 (i + 1 : Nat))]⟩ S
    else ∃ l, loopL (some [1, 2, 6]) (S.top, S.pin) (kC (ev Q) loopL b16x4) ⟨102, [(1, .ptr x 0 2 0 0), (2, .ptr y 0 2 0 0), (6, .int .i64 i)]⟩ S =
      some (.ret, ⟨102, l⟩, S.put y (.cells 2 [[.int .i64 92, .int .i64 ((ts.length : Int) + i)]] 0 0)) ∧ look 2 l = .ptr y 0 2 0 0 := by
  have hxl := get_lt _ _ hx
  have hyl := get_lt _ _ hy
  have hil := (List.getElem?_eq_some_iff.1 hp).1
  have hil' : (i : Int) < rs.length := by omega
  have hrp : (rs.map rootV ++ rsp)[i]? = some (rootV p) := by
    rw [List.getElem?_append_left (by simpa using hil), List.getElem?_map, hp]; rfl
  have w3 : IntKind.i64.wrap ((i : Int) + 1) = (i : Int) + 1 := wrap64 (by omega) (by omega)
  have w4 : IntKind.i64.wrap ((ts.length : Int) - 1) = (ts.length : Int) - 1 := wrap64 (by omega) (by omega)
  have w5 : IntKind.i64.wrap ((ts.length : Int) + i) = (ts.length : Int) + i := wrap64 (by omega) (by omega)
  have hmx : max x y + 1 ≤ S.top := by omega
  have hin := fun n lo hi S => rin_ev n lo hi S
  have hnm := fun S => rname_ev p.1 S
  obtain ⟨l, h1, h2, h3, h4, h5⟩ := rrname_loop ts sp rsp rs x y i p hp hlen S hx hyl i 0 (rootR ts.length i p) (by omega)
  rw [List.drop_zero] at h5
  generalize (rs.take i).any (sameN · p) = any at *
  have hres : ∀ b : Bool, rootR ts.length i p = b → (if b && !any then
      loopL (some [1, 2, 6]) (S.top, S.pin) (kC (ev Q) loopL b16x4) ⟨102, [(1, .ptr x 0 2 0 0), (2, .ptr y 0 2 0 0), (6, .int .i64 i)]⟩ S =
      loopL (some [1, 2, 6]) (S.top, S.pin) (kC (ev Q) loopL b16x4) ⟨102, [(1, .ptr x 0 2 0 0), (2, .ptr y 0 2 0 0), (6, .int .i64 (i + 1 : Nat))]⟩ S
    else ∃ l, loopL (some [1, 2, 6]) (S.top, S.pin) (kC (ev Q) loopL b16x4) ⟨102, [(1, .ptr x 0 2 0 0), (2, .ptr y 0 2 0 0), (6, .int .i64 i)]⟩ S =
      some (.ret, ⟨102, l⟩, S.put y (.cells 2 [[.int .i64 92, .int .i64 ((ts.length : Int) + i)]] 0 0)) ∧ look 2 l = .ptr y 0 2 0 0) := by
    intro b hb
    rw [hb] at h1 h5
    simp at h1
    obtain ⟨lab, ty⟩ := p
    simp only [rootV] at hrp
    simp only at hnm
    simp only [tsV] at hx
    simp only [rootR] at hb
    rw [loopL_eq]
    generalize loopL (some [1, 2, 6]) (S.top, S.pin) (kC (ev Q) loopL b16x4) = F
    generalize rs.map rootV ++ rsp = rows at *
    generalize ts.map Typ.v ++ sp = trows at *
    generalize ts.length = tl at *
    by_cases c1 : i < 256
    · have c1' : (i : Int) < 256 := by omega
      obtain ⟨nb, hnb⟩ : ∃ nb, nameB lab = nb := ⟨_, rfl⟩
      rw [hnb] at hnm hb
      cases nb with
      | false =>
        simp [c1] at hb
        subst hb
        simp only [Bool.false_and, Bool.false_eq_true, if_false]
        simp [kC, b16x4, hx, hrp, hil, hil', c1', c1, hnm, h1, h2, h3, h4, h5, hy, below hyl, w3, w4, w5, hmx]
      | true =>
        have hb' : (decide (0 ≤ ty) && decide (ty < (tl : Int))) = b := by simpa [c1] using hb
        have hin' : ∀ S, ev Q 33 [.int .i64 ty, .int .i64 0, .int .i64 ((tl : Int) - 1)] S = some (.ret (.bool b), S) := by
          intro S
          have hd : decide (ty ≤ (tl : Int) - 1) = decide (ty < (tl : Int)) := by apply decide_eq_decide.2; omega
          rw [hin, hd, hb']
        cases b with
        | false =>
          simp only [Bool.false_and, Bool.false_eq_true, if_false]
          simp [kC, b16x4, hx, hrp, hil, hil', c1', c1, hnm, hin', h1, h2, h3, h4, h5, hy, below hyl, w3, w4, w5, hmx]
        | true =>
          cases any with
          | true =>
            simp only [Bool.not_true, Bool.and_false, Bool.false_eq_true, if_false]
            simp [kC, b16x4, hx, hrp, hil, hil', c1', c1, hnm, hin', h1, h2, h3, h4, h5, hy, below hyl, w3, w4, w5, hmx]
          | false =>
            simp only [Bool.not_false, Bool.and_true, if_true]
            simp [kC, b16x4, hx, hrp, hil, hil', c1', c1, hnm, hin', h1, h2, h3, h4, h5, hy, below hyl, w3, w4, w5, hmx]
    · have c1' : ¬ ((i : Int) < 256) := by omega
      simp [c1] at hb
      subst hb
      simp only [Bool.false_and, Bool.false_eq_true, if_false]
      simp [kC, b16x4, hx, hrp, hil, hil', c1', c1, h1, h2, h3, h4, h5, hy, below hyl, w3, w4, w5, hmx]
  exact hres _ rfl
end Mev

/- The document's answer, one equation each: may it be a schema, whole. -/

set_option maxRecDepth 100000
namespace Mev
open Go Go.Proofs

theorem rroots_loop (ts : List Typ) (sp rsp : List (List V)) (rs : List (List UInt8 × Int)) (x y : Nat) (hlen : rs.length ≤ 1073741824) (hn : ts.length ≤ 1073741824) (S : St) (hx : S.get x = some (.cells 2 [[tsV ts sp, .rs 2 (rs.map rootV ++ rsp) rs.length]] 0 0)) (hy : S.get y = some (.cells 2 [[.int .i64 0, .int .i64 0]] 0 0)) (hxy : x < y) : ∀ (m i : Nat), i + m = rs.length →
    ∃ r l S', loopL (some [1, 2, 6]) (S.top, S.pin) (kC (ev Q) loopL b16x4) ⟨102, [(1, .ptr x 0 2 0 0), (2, .ptr y 0 2 0 0), (6, .int .i64 i)]⟩ S = some (r, ⟨102, l⟩, S') ∧ look 2 l = .ptr y 0 2 0 0 ∧
      match badR ts.length (rs.take i) (rs.drop i) with
      | none => r = .exit 4 ∧ S' = S
      | some j => r = .ret ∧ S' = S.put y (.cells 2 [[.int .i64 92, .int .i64 ((ts.length : Int) + j)]] 0 0) := by
  intro m
  induction m with
  | zero =>
    intro i hi
    have h1 : ¬ ((i : Int) < rs.length) := by omega
    rw [List.drop_of_length_le (by omega)]
    refine ⟨.exit 4, [(45, .bool false), (44, .int .i64 rs.length), (43, .rs 2 (rs.map rootV ++ rsp) rs.length), (42, .ptr x 0 2 0 1), (41, .int .i64 i), (1, .ptr x 0 2 0 0), (2, .ptr y 0 2 0 0), (6, .int .i64 i)], S, ?_, by simp, rfl, rfl⟩
    rw [loopL_eq]
    simp [kC, b16x4, h1, hx]
  | succ m ih =>
    intro i hi
    have hil : i < rs.length := by omega
    have hp : rs[i]? = some rs[i] := List.getElem?_eq_getElem hil
    have hr := rroot_round ts sp rsp rs x y i rs[i] hp hlen hn S hx hy hxy
    rw [List.drop_eq_getElem_cons hil, badR]
    have hti : (rs.take i).length = i := by simp; omega
    rw [hti]
    have e : rs.take i ++ [rs[i]] = rs.take (i + 1) := by rw [List.take_add_one, hp]; rfl
    rw [e]
    cases hb : (rootR ts.length i rs[i] && !((rs.take i).any (sameN · rs[i]))) with
    | true =>
      rw [hb] at hr
      simp only [if_true] at hr ⊢
      rw [hr]
      exact ih (i + 1) (by omega)
    | false =>
      rw [hb] at hr
      simp only [Bool.false_eq_true, if_false] at hr ⊢
      obtain ⟨l, h1, h2⟩ := hr
      exact ⟨_, l, _, h1, h2, rfl, rfl⟩

theorem rroots_nil (x y : Nat) (rv : V) (ts : List Typ) (sp : List (List V)) (h : rv = .nils) (S : St) (hx : S.get x = some (.cells 2 [[tsV ts sp, rv]] 0 0)) : ∃ l, loopL (some [1, 2, 6]) (S.top, S.pin) (kC (ev Q) loopL b16x4) ⟨102, [(1, .ptr x 0 2 0 0), (2, .ptr y 0 2 0 0), (6, .int .i64 0)]⟩ S = some (.exit 4, ⟨102, l⟩, S) ∧ look 2 l = .ptr y 0 2 0 0 := by
  subst h
  rw [loopL_eq]
  simp [kC, b16x4, hx]

/-- what the document's check answers -/
def chkR (ts : List Typ) (rs : List (List UInt8 × Int)) : Int × Int :=
  match badT 0 ts with
  | some j => (92, j)
  | none => match badD 0 (depsN ts) with
    | some j => (83, j)
    | none => match badR ts.length [] rs with
      | some j => (92, ts.length + j)
      | none => (0, 0)

theorem badT_none : ∀ (ts : List Typ) (i : Nat), badT i ts = none → ∀ (j : Nat) (t : Typ), ts[j]? = some t → rightB t (i + j : Nat) = true := by
  intro ts
  induction ts with
  | nil => intro i _ j t h; simp at h
  | cons t ts ih =>
    intro i h j u hj
    unfold badT at h
    split at h
    · rename_i hb
      cases j with
      | zero => simp at hj; subst hj; simpa using hb
      | succ j =>
        have := ih (i + 1) h j u (by simpa using hj)
        rw [show i + 1 + j = i + (j + 1) by omega] at this
        exact this
    · cases h
theorem badT_some : ∀ (ts : List Typ) (i : Nat), (∀ (j : Nat) (t : Typ), ts[j]? = some t → rightB t (i + j : Nat) = true) → badT i ts = none := by
  intro ts
  induction ts with
  | nil => intro i _; rfl
  | cons t ts ih =>
    intro i h
    unfold badT
    have h0 := h 0 t (by simp)
    simp only [Nat.add_zero] at h0
    rw [if_pos h0]
    refine ih (i + 1) fun j u hj => ?_
    have := h (j + 1) u (by simpa using hj)
    rw [show i + (j + 1) = i + 1 + j by omega] at this
    exact this

theorem rcheck_ev (ts : List Typ) (sp : List (List V)) (hn : ts.length ≤ 1073741824) (rv : V) (rs : List (List UInt8 × Int)) (hrv : RootsV rv rs) (hrs : rs.length ≤ 1073741824) :
    Pure 16 [.agg [tsV ts sp, rv]] (.agg [.int .i64 (chkR ts rs).1, .int .i64 (chkR ts rs).2]) := by
  have hkb : rv.kb = 0 := by rcases hrv with ⟨rfl, _⟩ | ⟨_, rfl⟩ <;> simp
  intro S
  obtain ⟨r, l, S', h1, h2, h3⟩ := rchk_loop0 ts sp rv hn S.top (S.top + 1) (by omega) ((S.push (.cells 2 [[tsV ts sp, rv]] 0 0)).push (.cells 2 [[.int .i64 0, .int .i64 0]] 0 0)) (by simp) (by simp) ts.length 0 (by omega)
  rw [List.drop_zero] at h3
  unfold chkR
  cases hT : badT 0 ts with
  | some j =>
    rw [hT] at h3
    obtain ⟨rfl, rfl⟩ := h3
    simp only [tsV] at h1
    simp at h1
    rw [ev_eq q16, c16, evFn_eq _ _ _ _ _ _ _ (by simp)]
    simp [tsV, h1, h2, hkb]
  | none =>
    rw [hT] at h3
    obtain ⟨rfl, rfl, h4⟩ := h3
    have hall : allRight ts := fun j t ht => by have := badT_none ts 0 hT j t ht; simpa using this
    have hD := rdeps_ev ts sp hn rv hkb (allRight_wf hall)
    have hdl : (depsN ts).length = ts.length := by simp [depsN, scan_len]
    obtain ⟨r, l2, S', h5, h6, h7⟩ := rchk_loop2 (depsN ts) ts.length hdl hn S.top (S.top + 1) (by omega) ((S.push (.cells 2 [[tsV ts sp, rv]] 0 0)).push (.cells 2 [[.int .i64 0, .int .i64 0]] 0 0)) (by simp) ts.length 0 (by omega)
    rw [List.drop_zero] at h7
    have hkd := kbLL_dV (depsN ts)
    simp only
    cases hDD : badD 0 (depsN ts) with
    | some j =>
      rw [hDD] at h7
      obtain ⟨rfl, rfl⟩ := h7
      generalize dV (depsN ts) = DS at *
      simp only [tsV] at h1 hD h5
      simp at h1 h5
      rw [ev_eq q16, c16, evFn_eq _ _ _ _ _ _ _ (by simp)]
      simp [tsV, h1, h2, h4, h5, h6, hD _, hkb, hkd]
    | none =>
      rw [hDD] at h7
      obtain ⟨rfl, rfl, h8⟩ := h7
      simp only
      rcases hrv with ⟨hnil, rfl⟩ | ⟨rsp, hrv⟩
      · obtain ⟨l3, h9, h10⟩ := rroots_nil S.top (S.top + 1) rv ts sp hnil ((S.push (.cells 2 [[tsV ts sp, rv]] 0 0)).push (.cells 2 [[.int .i64 0, .int .i64 0]] 0 0)) (by simp)
        subst hnil
        generalize dV (depsN ts) = DS at *
        simp only [tsV] at h1 hD h5 h9
        simp at h1 h5 h9
        rw [ev_eq q16, c16, evFn_eq _ _ _ _ _ _ _ (by simp)]
        simp [tsV, h1, h2, h4, h5, h6, h8, h9, h10, hD _, hkd, badR]
      · obtain ⟨r, l3, S', h9, h10, h11⟩ := rroots_loop ts sp rsp rs S.top (S.top + 1) hrs hn ((S.push (.cells 2 [[tsV ts sp, rv]] 0 0)).push (.cells 2 [[.int .i64 0, .int .i64 0]] 0 0)) (by simp [hrv]) (by simp) (by omega) rs.length 0 (by omega)
        simp only [List.take_zero, List.drop_zero] at h11
        cases hR : badR ts.length [] rs with
        | some j =>
          rw [hR] at h11
          obtain ⟨rfl, rfl⟩ := h11
          subst hrv
          generalize dV (depsN ts) = DS at *
          simp only [tsV] at h1 hD h5 h9
          simp at h1 h5 h9
          rw [ev_eq q16, c16, evFn_eq _ _ _ _ _ _ _ (by simp)]
          simp [tsV, h1, h2, h4, h5, h6, h8, h9, h10, hD _, hkd]
        | none =>
          rw [hR] at h11
          obtain ⟨rfl, rfl⟩ := h11
          subst hrv
          generalize dV (depsN ts) = DS at *
          simp only [tsV] at h1 hD h5 h9
          simp at h1 h5 h9
          rw [ev_eq q16, c16, evFn_eq _ _ _ _ _ _ _ (by simp)]
          simp [tsV, h1, h2, h4, h5, h6, h8, h9, h10, hD _, hkd]
end Mev

/- The plain law: the document's check and the program's say OK of the same schemas. -/

set_option maxRecDepth 100000
namespace Mev
open Go Go.Proofs

theorem scan_mem {α : Type} (f : List α → Typ → α) : ∀ (ts : List Typ) (es : List α) (x : α), x ∈ es → x ∈ scan f es ts := by
  intro ts
  induction ts with
  | nil => intro es x h; exact h
  | cons t ts ih => intro es x h; exact ih _ x (List.mem_append_left _ h)

theorem deep_iff : ∀ (ts : List Typ) (ds : List Int), (∀ d ∈ ds, d ≤ 64) → ((deepN ds ts).1 = 0 ↔ ∀ d ∈ scan depS ds ts, d ≤ 64) := by
  intro ts
  induction ts with
  | nil => intro ds h; exact ⟨fun _ => h, fun _ => rfl⟩
  | cons t ts ih =>
    intro ds h
    simp only [deepN, scan]
    by_cases c : depN (dOf ds) t ≤ 64
    · rw [if_pos c]
      refine ih (ds ++ [depS ds t]) fun d hd => ?_
      rcases List.mem_append.1 hd with hd | hd
      · exact h d hd
      · simp at hd; rw [hd]; exact c
    · rw [if_neg c]
      refine ⟨fun h => (by cases h), fun h2 => ?_⟩
      exact absurd (h2 (depS ds t) (scan_mem _ _ _ _ (by simp))) c

theorem badD_iff : ∀ (ds : List Int) (i : Nat), badD i ds = none ↔ ∀ d ∈ ds, d ≤ 64 := by
  intro ds
  induction ds with
  | nil => intro i; simp [badD]
  | cons d ds ih =>
    intro i
    unfold badD
    by_cases c : d ≤ 64
    · rw [if_pos c, ih]; simp [c]
    · rw [if_neg c]; simp [c]

theorem roots_iff (n : Nat) : ∀ (ps pre : List (List UInt8 × Int)) (L : List (V × V)), L.map (·.1) = pre.map (fun p => V.str p.1) → (rootsE n pre.length L ps = 0 ↔ badR n pre ps = none) := by
  intro ps
  induction ps with
  | nil => intro pre L _; simp [rootsE, badR]
  | cons p ps ih =>
    intro pre L hL
    have hk : strK L := by
      intro e he
      have : e.1 ∈ L.map (·.1) := List.mem_map_of_mem he
      rw [hL] at this
      obtain ⟨q, _, hq⟩ := List.mem_map.1 this
      exact ⟨q.1, hq.symm⟩
    have hlen : L.length = pre.length := by have := congrArg List.length hL; simpa using this
    simp only [rootsE, badR]
    obtain ⟨lab, ty⟩ := p
    by_cases hx : ∃ e ∈ L, e.1 = .str lab
    · have hlen2 := put_old_s lab (.int .i64 (pre.length : Int)) L hk hx
      have hany : pre.any (sameN · (lab, ty)) = true := by
        obtain ⟨e, he, h3⟩ := hx
        have : e.1 ∈ L.map (·.1) := List.mem_map_of_mem he
        rw [hL] at this
        obtain ⟨q, hq, hq2⟩ := List.mem_map.1 this
        rw [h3] at hq2
        rw [List.any_eq_true]
        refine ⟨q, hq, ?_⟩
        simp only [V.str.injEq] at hq2
        simp [sameN, hq2]
      have hno : rootOk n (lab, ty) pre.length L = false := by
        have : ¬ (((putE (.str lab) (.int .i64 (pre.length : Int)) L).length : Int) = (pre.length : Int) + 1) := by rw [hlen2, hlen]; omega
        simp [rootOk, this]
      rw [hno, hany]
      simp
    · have hx' : ∀ e ∈ L, e.1 ≠ .str lab := fun e he h => hx ⟨e, he, h⟩
      have hput := put_new_s lab (.int .i64 (pre.length : Int)) L hk hx'
      have hany : pre.any (sameN · (lab, ty)) = false := by
        rw [List.any_eq_false]
        intro q hq h
        simp [sameN] at h
        have : V.str q.1 ∈ L.map (·.1) := by rw [hL]; exact List.mem_map_of_mem (f := fun p : List UInt8 × Int => V.str p.1) hq
        obtain ⟨e, he, h5⟩ := List.mem_map.1 this
        exact hx' e he (by rw [h5, h])
      have hok : rootOk n (lab, ty) pre.length L = rootR n pre.length (lab, ty) := by
        have h1 : ((putE (.str lab) (.int .i64 (pre.length : Int)) L).length : Int) = (pre.length : Int) + 1 := by rw [hput]; simp [hlen]
        have h2 : decide ((pre.length : Int) < 256) = decide (pre.length < 256) := by apply decide_eq_decide.2; omega
        simp only [rootOk, rootR, h1, h2]
        cases nameB lab <;> cases decide (0 ≤ ty) <;> cases decide (ty < (n : Int)) <;> cases decide (pre.length < 256) <;> simp
      rw [hok, hany, hput]
      have := ih (pre ++ [(lab, ty)]) (L ++ [(.str lab, .int .i64 (pre.length : Int))]) (by simp [hL])
      simp only [List.length_append, List.length_cons, List.length_nil] at this
      cases hr : rootR n pre.length (lab, ty) with
      | true => simpa using this
      | false => simp

theorem chk_iff (ts : List Typ) (rs : List (List UInt8 × Int)) : (chkR ts rs).1 = 0 ↔ allRight ts ∧ (deepN [] ts).1 = 0 ∧ rootsE ts.length 0 [] rs = 0 := by
  have hd := deep_iff ts [] (by simp)
  have hb := badD_iff (depsN ts) 0
  have hr := roots_iff ts.length rs [] [] rfl
  simp only [List.length_nil] at hr
  unfold chkR
  cases hT : badT 0 ts with
  | some j =>
    refine ⟨fun h => (by cases h), fun h => ?_⟩
    have := badT_some ts 0 (fun j t ht => by have := h.1 j t ht; simpa using this)
    rw [hT] at this; cases this
  | none =>
    have hall : allRight ts := fun j t ht => by have := badT_none ts 0 hT j t ht; simpa using this
    simp only
    cases hDD : badD 0 (depsN ts) with
    | some j =>
      refine ⟨fun h => (by cases h), fun h => ?_⟩
      have := hb.2 (hd.1 h.2.1)
      rw [hDD] at this; cases this
    | none =>
      have h2 := hd.2 (hb.1 hDD)
      simp only
      cases hR : badR ts.length [] rs with
      | some j =>
        refine ⟨fun h => (by cases h), fun h => ?_⟩
        have := hr.1 h.2.2
        rw [hR] at this; cases this
      | none => exact ⟨fun _ => ⟨hall, h2, hr.2 hR⟩, fun _ => rfl⟩
theorem chk_zero (ts : List Typ) (rs : List (List UInt8 × Int)) (h : (chkR ts rs).1 = 0) : (chkR ts rs).2 = 0 := by
  unfold chkR at *
  cases hT : badT 0 ts with
  | some j => rw [hT] at h; cases h
  | none =>
    rw [hT] at h
    simp only at h ⊢
    cases hDD : badD 0 (depsN ts) with
    | some j => rw [hDD] at h; cases h
    | none =>
      rw [hDD] at h
      simp only at h ⊢
      cases hR : badR ts.length [] rs with
      | some j => rw [hR] at h; cases h
      | none => rfl
end Mev
