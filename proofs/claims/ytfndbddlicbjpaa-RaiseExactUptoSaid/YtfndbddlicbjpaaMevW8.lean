/- The program's functions, one equation each: the raiser's instructions. -/
import Derived.Test.YtfndbddlicbjpaaMevW1
import Derived.Test.YtfndbddlicbjpaaMevW7
set_option maxRecDepth 100000
namespace Mev
open Go Go.Proofs

def insV (op a b c : Int) : List V := [.int .i64 op, .int .i64 a, .int .i64 b, .int .i64 c]
theorem lay_ev (S : St) (r c g lo : Nat) (v0 v1 v2 v3 : V) (code : List (List V)) (op a b d : Int)
    (hr : S.get r = some (.cells 5 [[v0, v1, v2, v3, .sl c g 4 0 code.length]] 0 0)) (hc : S.get c = some (.cells 4 code g lo)) (hlo : lo ≤ g) (hcr : c < r)
    (hb : (code.length + 1) * 32 ≤ 140737488355328) :
    ev Q 26 [.ptr r 0 5 0 0, .agg (insV op a b d)] S = some (.ret (.int .i64 code.length), (S.put c (.cells 4 (code ++ [insV op a b d]) (g + 1) lo)).put r (.cells 5 [[v0, v1, v2, v3, .sl c (g + 1) 4 0 (code.length + 1)]] 0 0)) := by
  have hrl := get_lt _ _ hr
  have hcl := get_lt _ _ hc
  rw [ev_eq q26, c26, evFn_eq _ _ _ _ _ _ _ (by simp)]
  simp [below hrl, below hcl, below hcr, hr, hc, insV, hlo, hb]
  refine wrap64 ?_ ?_ <;> omega
end Mev

set_option maxRecDepth 100000
namespace Mev
open Go Go.Proofs

structure Ins where
  op : Int
  a : Int
  b : Int
  c : Int
def Ins.v (x : Ins) : List V := [.int .i64 x.op, .int .i64 x.a, .int .i64 x.b, .int .i64 x.c]

/-- what a raiser knows -/
structure Kn where
  ts : List Typ
  sp : List (List V)
  rv : V
  es : List Ext'
  ls : List Lay'
def Kn.v (K : Kn) : List V := [tsV K.ts K.sp, K.rv, .rs 4 (K.es.map Ext'.v) K.es.length, .rs 2 (K.ls.map Lay'.v) K.ls.length]

/-- the blocks with a raiser and its code -/
def RS (S : St) (c r : Nat) (K : Kn) (code : List Ins) (g lo : Nat) : St :=
  (S.put c (.cells 4 (code.map Ins.v) g lo)).put r (.cells 5 [[tsV K.ts K.sp, K.rv, .rs 4 (K.es.map Ext'.v) K.es.length, .rs 2 (K.ls.map Lay'.v) K.ls.length, .sl c g 4 0 code.length]] 0 0)

section
variable (S : St) (c r : Nat) (K : Kn) (code : List Ins) (g lo : Nat)
theorem RS_top : (RS S c r K code g lo).top = S.top := by simp [RS]
theorem RS_pin : (RS S c r K code g lo).pin = S.pin := by simp [RS]
theorem RS_push (b : Blk) (hc : c < S.top) (hr : r < S.top) : (RS S c r K code g lo).push b = RS (S.push b) c r K code g lo := by
  unfold RS
  rw [push_put _ _ _ _ hc, push_put _ _ _ _ (by simpa using hr)]
theorem RS_trunc (k : Nat) : (RS S c r K code g lo).trunc k = RS (S.trunc k) c r K code g lo := by simp [RS]
theorem RS_put (i : Nat) (b : Blk) (hc : i ≠ c) (hr : i ≠ r) : (RS S c r K code g lo).put i b = RS (S.put i b) c r K code g lo := by
  unfold RS
  rw [put_comm (h := (fun h => hr h.symm)), put_comm (h := (fun h => hc h.symm))]
theorem RS_get_r (hcr : c < r) (hr : r < S.top) : (RS S c r K code g lo).get r = some (.cells 5 [[tsV K.ts K.sp, K.rv, .rs 4 (K.es.map Ext'.v) K.es.length, .rs 2 (K.ls.map Lay'.v) K.ls.length, .sl c g 4 0 code.length]] 0 0) := by
  rw [RS, put_get]; simpa using hr
theorem RS_get_c (hcr : c < r) (hr : r < S.top) : (RS S c r K code g lo).get c = some (.cells 4 (code.map Ins.v) g lo) := by
  rw [RS, put_get_ne _ _ _ _ (by omega), put_get]; omega
theorem RS_get (j : Nat) (hc : c ≠ j) (hr : r ≠ j) : (RS S c r K code g lo).get j = S.get j := by
  rw [RS, put_get_ne _ _ _ _ hr, put_get_ne _ _ _ _ hc]
theorem RS_store (hcr : c < r) (i : Nat) (x : Ins) (hi : i < code.length) : (RS S c r K code g lo).put c (.cells 4 ((code.map Ins.v).set i x.v) g g) = RS S c r K (code.set i x) g g := by
  unfold RS
  rw [put_comm (h := (by omega : r ≠ c)), put_put, List.map_set, List.length_set]

theorem lay_rs (x : Ins) (hlo : lo ≤ g) (hcr : c < r) (hr : r < S.top) (hb : code.length ≤ 1073741824) :
    ev Q 26 [.ptr r 0 5 0 0, .agg x.v] (RS S c r K code g lo) = some (.ret (.int .i64 code.length), RS S c r K (code ++ [x]) (g + 1) lo) := by
  have h := lay_ev (RS S c r K code g lo) r c g lo (tsV K.ts K.sp) K.rv (.rs 4 (K.es.map Ext'.v) K.es.length) (.rs 2 (K.ls.map Lay'.v) K.ls.length) (code.map Ins.v) x.op x.a x.b x.c
    (by rw [RS_get_r _ _ _ _ _ _ _ hcr hr]; simp) (RS_get_c _ _ _ _ _ _ _ hcr hr) hlo hcr (by simp; omega)
  simp only [List.length_map] at h
  rw [show Ins.v x = insV x.op x.a x.b x.c from rfl, h]
  congr 2
  unfold RS
  rw [put_comm (h := (by omega : r ≠ c)), put_put, put_put]
  simp [Ins.v, insV]
end

def fixI (K : Kn) (t : Nat) (p : Int) : Ins :=
  let y := K.ts.getD t ⟨0, 0, 0, [], []⟩
  if y.kind = 1 then ⟨33, p, y.n, 0⟩ else if y.kind = 2 then ⟨35, p, 0, 0⟩ else ⟨44, p, 0, t⟩
def itemI (K : Kn) (t : Nat) : Ins :=
  let y := K.ts.getD t ⟨0, 0, 0, [], []⟩
  if y.kind = 1 then ⟨33, -1, y.n, 0⟩ else if y.kind = 2 then ⟨35, -1, 0, 0⟩ else ⟨45, (K.es.getD t default).most, 0, t⟩

theorem getD_some {α : Type} {l : List α} {i : Nat} (h : i < l.length) (d : α) : l[i]? = some (l.getD i d) := by
  rw [List.getD_eq_getElem?_getD, List.getElem?_eq_getElem h]; rfl

theorem fixed_rs (S : St) (c r : Nat) (K : Kn) (code : List Ins) (g lo : Nat) (t : Nat) (p : Int) (hlo : lo ≤ g) (hcr : c < r) (hr : r < S.top) (hb : code.length ≤ 1073741824) (ht : t < K.ts.length) :
    ev Q 25 [.ptr r 0 5 0 0, .int .i64 t, .int .i64 p] (RS S c r K code g lo) = some (.ret (.tup []), RS S c r K (code ++ [fixI K t p]) (g + 1) lo) := by
  have hc : c < S.top := by omega
  have hrow : (K.ts.map Typ.v ++ K.sp)[t]? = some (K.ts.getD t ⟨0, 0, 0, [], []⟩).v := by
    rw [List.getElem?_append_left (by simpa using ht), List.getElem?_map, getD_some ht]; rfl
  have ht' : (t : Int) < K.ts.length := by omega
  unfold fixI
  generalize K.ts.getD t ⟨0, 0, 0, [], []⟩ = y at hrow ⊢
  have hl := fun b op a x y => lay_rs (S.push b) c r K code g lo ⟨op, a, x, y⟩ hlo hcr (by simp; omega) hb
  rw [ev_eq q25, c25, evFn_eq _ _ _ _ _ _ _ (by simp)]
  have hg := RS_get_r S c r K code g lo hcr hr
  simp only [Typ.v, Ins.v] at hrow hl
  simp only [tsV] at hg
  by_cases k1 : y.kind = 1
  · simp [hg, RS_top, RS_pin, RS_push, RS_trunc, RS_put, RS_get, ht', hrow, k1, below hr, below hc, hl]
  · by_cases k2 : y.kind = 2
    · simp [hg, RS_top, RS_pin, RS_push, RS_trunc, RS_put, RS_get, ht', hrow, k1, k2, below hr, below hc, hl]
    · simp [hg, RS_top, RS_pin, RS_push, RS_trunc, RS_put, RS_get, ht', hrow, k1, k2, below hr, below hc, hl]

theorem item_rs (S : St) (c r : Nat) (K : Kn) (code : List Ins) (g lo : Nat) (t : Nat) (hlo : lo ≤ g) (hcr : c < r) (hr : r < S.top) (hb : code.length ≤ 1073741824) (ht : t < K.ts.length) (he : t < K.es.length) :
    ev Q 51 [.ptr r 0 5 0 0, .int .i64 t] (RS S c r K code g lo) = some (.ret (.int .i64 code.length), RS S c r K (code ++ [itemI K t]) (g + 1) lo) := by
  have hc : c < S.top := by omega
  have hrow : (K.ts.map Typ.v ++ K.sp)[t]? = some (K.ts.getD t ⟨0, 0, 0, [], []⟩).v := by
    rw [List.getElem?_append_left (by simpa using ht), List.getElem?_map, getD_some ht]; rfl
  have hex : (K.es.map Ext'.v)[t]? = some (K.es.getD t default).v := by
    rw [List.getElem?_map, getD_some he]; rfl
  have ht' : (t : Int) < K.ts.length := by omega
  have he' : (t : Int) < K.es.length := by omega
  unfold itemI
  generalize K.ts.getD t ⟨0, 0, 0, [], []⟩ = y at hrow ⊢
  generalize K.es.getD t default = z at hex ⊢
  have hl := fun b op a x y => lay_rs (S.push b) c r K code g lo ⟨op, a, x, y⟩ hlo hcr (by simp; omega) hb
  rw [ev_eq q51, c51, evFn_eq _ _ _ _ _ _ _ (by simp)]
  have hg := RS_get_r S c r K code g lo hcr hr
  have hg2 := fun b => RS_get_r (S.push b) c r K code g lo hcr (by simp; omega)
  generalize hE : K.es.map Ext'.v = E at hg hg2 hex
  simp only [Typ.v, Ins.v, Ext'.v] at hrow hl hex
  simp only [tsV] at hg hg2
  by_cases k1 : y.kind = 1
  · simp [hg, RS_top, RS_pin, RS_push, RS_trunc, RS_put, RS_get, ht', hrow, k1, below hr, below hc, hl]
  · by_cases k2 : y.kind = 2
    · simp [hg, RS_top, RS_pin, RS_push, RS_trunc, RS_put, RS_get, ht', hrow, k1, k2, below hr, below hc, hl]
    · simp [hg, hg2, RS_top, RS_pin, RS_push, RS_trunc, RS_put, RS_get, ht', he', hrow, hex, k1, k2, below hr, below hc, hl]

end Mev

/- The program's functions, one equation each: the raiser's loops of items. -/

set_option maxRecDepth 100000
namespace Mev
open Go Go.Proofs

def setB (code : List Ins) (i : Nat) (b : Int) : List Ins := code.set i ⟨(code.getD i ⟨0, 0, 0, 0⟩).op, (code.getD i ⟨0, 0, 0, 0⟩).a, b, (code.getD i ⟨0, 0, 0, 0⟩).c⟩
theorem setB_app (code l : List Ins) (k : Nat) (b : Int) : setB (code ++ l) (code.length + k) b = code ++ setB l k b := by
  unfold setB
  rw [List.set_append_right _ _ (by omega)]
  simp [List.getD_eq_getElem?_getD, List.getElem?_append_right]
theorem setB_app0 (code l : List Ins) (b : Int) : setB (code ++ l) code.length b = code ++ setB l 0 b := setB_app code l 0 b
@[simp] theorem setB_zero (x : Ins) (l : List Ins) (b : Int) : setB (x :: l) 0 b = ⟨x.op, x.a, b, x.c⟩ :: l := rfl
@[simp] theorem setB_succ (x : Ins) (l : List Ins) (i : Nat) (b : Int) : setB (x :: l) (i + 1) b = x :: setB l i b := rfl
@[simp] theorem setB_one (x y : Ins) (l : List Ins) (b : Int) : setB (x :: y :: l) 1 b = x :: ⟨y.op, y.a, b, y.c⟩ :: l := rfl
theorem setB_len (code : List Ins) (i : Nat) (b : Int) : (setB code i b).length = code.length := by simp [setB]
theorem storeRS {S : St} {c r : Nat} {K : Kn} {code : List Ins} {g lo i : Nat} {b : Int} (hcr : c < r) (hr : r < S.top) (hlo : lo ≤ g) (hi : i < code.length) :
    storeS (RS S c r K code g lo) 1 (.ptr c g 4 i 2) (.int .i64 b) = some (RS S c r K (setB code i b) g g) := by
  have hx : code[i]? = some (code.getD i ⟨0, 0, 0, 0⟩) := getD_some hi _
  have h := RS_store S c r K code g lo hcr i ⟨(code.getD i ⟨0, 0, 0, 0⟩).op, (code.getD i ⟨0, 0, 0, 0⟩).a, b, (code.getD i ⟨0, 0, 0, 0⟩).c⟩ hi
  have hget := RS_get_c S c r K code g lo hcr hr
  have hrow : (code.map Ins.v)[i]? = some (code.getD i ⟨0, 0, 0, 0⟩).v := by rw [List.getElem?_map, hx]; rfl
  simp only [storeS, vcells, hget, hlo, hrow, Ins.v, and_self, if_true]
  simp
  unfold setB
  rw [← h]
  simp [Ins.v, setAt]

def itemsI (K : Kn) (t : Nat) (list : Bool) (n : Int) : List Ins :=
  match (K.es.getD t default).fixed, list with
  | false, true => [⟨42, -1, 0, 0⟩, ⟨19, 0, n + 4, 0⟩, ⟨43, -1, 0, 0⟩, ⟨46, 0, 0, t⟩, ⟨47, 0, n + 2, 0⟩]
  | false, false => [⟨42, -1, 0, 0⟩, ⟨43, -1, 0, 0⟩, ⟨46, 0, 0, t⟩, ⟨47, 0, n + 1, 0⟩]
  | true, true => [⟨19, 0, n + 2, 0⟩, itemI K t, ⟨47, 0, n + 1, 0⟩]
  | true, false => [itemI K t, ⟨47, 0, n, 0⟩]

theorem items_rs (S : St) (c r : Nat) (K : Kn) (code : List Ins) (g lo : Nat) (t : Nat) (list : Bool) (hlo : lo ≤ g) (hcr : c < r) (hr : r < S.top) (hb : code.length ≤ 1073741000) (ht : t < K.ts.length) (he : t < K.es.length) :
    ∃ g' lo', lo' ≤ g' ∧ ev Q 27 [.ptr r 0 5 0 0, .int .i64 t, .bool list] (RS S c r K code g lo) = some (.ret (.tup []), RS S c r K (code ++ itemsI K t list code.length) g' lo') := by
  have hc : c < S.top := by omega
  have hex : (K.es.map Ext'.v)[t]? = some (K.es.getD t default).v := by
    rw [List.getElem?_map, getD_some he]; rfl
  have he' : (t : Int) < K.es.length := by omega
  have hg := fun code g lo => RS_get_r S c r K code g lo hcr hr
  have hgc := fun code g lo => RS_get_c S c r K code g lo hcr hr
  have hput := fun code g lo i x hi => RS_store S c r K code g lo hcr i x hi
  have hl := fun (k : List Ins) (hk : k.length ≤ 1073741824) g lo (h : lo ≤ g) op a x y => lay_rs S c r K k g lo ⟨op, a, x, y⟩ h hcr hr hk
  have hi := fun (k : List Ins) (hk : k.length ≤ 1073741824) g lo (h : lo ≤ g) => item_rs S c r K k g lo t h hcr hr hk ht he
  unfold itemsI
  generalize hE : K.es.map Ext'.v = E at hg hex
  generalize itemI K t = it at hi ⊢
  obtain ⟨ex, hz⟩ : ∃ ex, K.es.getD t default = ex := ⟨_, rfl⟩
  obtain ⟨fx, x1, x2, x3⟩ := ex
  rw [hz] at hex ⊢
  simp only [Ins.v, Ext'.v] at hl hex hput
  simp only [tsV] at hg
  have hn1 : 0 ≤ (code.length : Int) + 1 := by omega
  have hn3 : (code.length : Int) < code.length + 3 := by omega
  have hlo' : ∀ k, lo ≤ g + k := fun k => by omega
  cases fx with
  | false => cases list with
    | true =>
      have e1 := hl (code) (by first | omega | (simp; omega)) (g) lo (by omega)
      have e2 := hl (code ++ [⟨42, -1, 0, 0⟩]) (by first | omega | (simp; omega)) (g + 1) lo (by omega)
      have e3 := hl (code ++ [⟨42, -1, 0, 0⟩] ++ [⟨19, 0, 0, 0⟩]) (by first | omega | (simp; omega)) (g + 1 + 1) lo (by omega)
      have e4 := hl (code ++ [⟨42, -1, 0, 0⟩] ++ [⟨19, 0, 0, 0⟩] ++ [⟨43, -1, 0, 0⟩]) (by first | omega | (simp; omega)) (g + 1 + 1 + 1) lo (by omega)
      have e5 := hl (code ++ [⟨42, -1, 0, 0⟩] ++ [⟨19, 0, 0, 0⟩] ++ [⟨43, -1, 0, 0⟩] ++ [⟨46, 0, 0, t⟩]) (by first | omega | (simp; omega)) (g + 1 + 1 + 1 + 1) lo (by omega)
      refine ⟨g + 1 + 1 + 1 + 1 + 1, g + 1 + 1 + 1 + 1 + 1, by omega, ?_⟩
      rw [ev_eq q27, c27, evFn_eq _ _ _ _ _ _ _ (by simp)]
      simp at e1 e2 e3 e4 e5
      simp [-storeS, storeRS, hg, hgc, hex, he', e1, e2, e3, e4, e5, hn1, hn3, hcr, hr, hlo', setB_app, setB_app0, RS_top, RS_pin, RS_trunc]
    | false =>
      have e1 := hl (code) (by first | omega | (simp; omega)) (g) lo (by omega)
      have e2 := hl (code ++ [⟨42, -1, 0, 0⟩]) (by first | omega | (simp; omega)) (g + 1) lo (by omega)
      have e3 := hl (code ++ [⟨42, -1, 0, 0⟩] ++ [⟨43, -1, 0, 0⟩]) (by first | omega | (simp; omega)) (g + 1 + 1) lo (by omega)
      have e4 := hl (code ++ [⟨42, -1, 0, 0⟩] ++ [⟨43, -1, 0, 0⟩] ++ [⟨46, 0, 0, t⟩]) (by first | omega | (simp; omega)) (g + 1 + 1 + 1) lo (by omega)
      refine ⟨g + 1 + 1 + 1 + 1, lo, by omega, ?_⟩
      rw [ev_eq q27, c27, evFn_eq _ _ _ _ _ _ _ (by simp)]
      simp at e1 e2 e3 e4
      simp [-storeS, storeRS, hg, hgc, hex, he', e1, e2, e3, e4, hn1, hn3, hcr, hr, hlo', setB_app, setB_app0, RS_top, RS_pin, RS_trunc]
  | true => cases list with
    | true =>
      have e1 := hl (code) (by first | omega | (simp; omega)) (g) lo (by omega)
      have e2 := hi (code ++ [⟨19, 0, 0, 0⟩]) (by first | omega | (simp; omega)) (g + 1) lo (by omega)
      have e3 := hl (code ++ [⟨19, 0, 0, 0⟩] ++ [it]) (by first | omega | (simp; omega)) (g + 1 + 1) lo (by omega)
      refine ⟨g + 1 + 1 + 1, g + 1 + 1 + 1, by omega, ?_⟩
      rw [ev_eq q27, c27, evFn_eq _ _ _ _ _ _ _ (by simp)]
      simp at e1 e2 e3
      simp [-storeS, storeRS, hg, hgc, hex, he', e1, e2, e3, hn1, hn3, hcr, hr, hlo', setB_app, setB_app0, RS_top, RS_pin, RS_trunc]
    | false =>
      have e1 := hi (code) (by first | omega | (simp; omega)) (g) lo (by omega)
      have e2 := hl (code ++ [it]) (by first | omega | (simp; omega)) (g + 1) lo (by omega)
      refine ⟨g + 1 + 1, lo, by omega, ?_⟩
      rw [ev_eq q27, c27, evFn_eq _ _ _ _ _ _ _ (by simp)]
      simp at e1 e2
      simp [-storeS, storeRS, hg, hgc, hex, he', e1, e2, hn1, hn3, hcr, hr, hlo', setB_app, setB_app0, RS_top, RS_pin, RS_trunc]
end Mev

/- The program's functions, one equation each: the raiser's arms. -/

set_option maxRecDepth 100000
namespace Mev
open Go Go.Proofs

theorem storeLoc {S : St} {c r : Nat} {K : Kn} {code : List Ins} {g lo n : Nat} {row cs : List V} (hc : c < S.top) (hr : r < S.top) (h1 : cs.length = n) (h2 : row.length = n) (hk : kbL cs ≤ S.top) :
    storeS (RS (S.push (.cells n [row] 0 0)) c r K code g lo) n (.ptr S.top 0 n 0 0) (.agg cs) = some (RS (S.push (.cells n [cs] 0 0)) c r K code g lo) := by
  have hg := RS_get (S.push (.cells n [row] 0 0)) c r K code g lo S.top (by omega) (by omega)
  rw [push_get_top] at hg
  have hp := RS_put (S.push (.cells n [row] 0 0)) c r K code g lo S.top (.cells n [cs] 0 0) (by omega) (by omega)
  rw [push_put_top] at hp
  simp only [storeS, vcells, hg, h1, Nat.le_refl, and_self, if_true, List.getElem?_cons_zero, h2, Nat.zero_add, hk, pinTo_zero]
  rw [← hp]
  have h3 : row.drop n = [] := List.drop_of_length_le (by omega)
  simp [setAt, h1, h3]

theorem arms1_round (S : St) (c r y : Nat) (K : Kn) (code : List Ins) (g lo : Nat) (first : Int) (rows : List (List V)) (len i : Nat) (p : List UInt8 × Int × Int) (hlo : lo ≤ g) (hcr : c < r) (hr : r < S.top) (hy : y < S.top) (hb : code.length ≤ 1073741824)
    (hrow : rows[i]? = some (partV p)) (hi : i < len) (hlen : len ≤ 1073741824) :
    loopL (some [0, 3, 4, 22, 23, 24]) (S.top, S.pin) (kC (ev Q) loopL b28x0) ⟨67, [(0, .ptr r 0 5 0 0), (3, .ptr y 0 4 0 0), (4, .int .i64 first), (22, .rs 3 rows len), (23, .int .i64 len), (24, .int .i64 i)]⟩ (RS S c r K code g lo) =
    loopL (some [0, 3, 4, 22, 23, 24]) (S.top, S.pin) (kC (ev Q) loopL b28x0) ⟨67, [(0, .ptr r 0 5 0 0), (3, .ptr y 0 4 0 0), (4, .int .i64 first), (22, .rs 3 rows len), (23, .int .i64 len), (24, .int .i64 (i + 1 : Nat))]⟩ (RS S c r K (code ++ [⟨9, p.2.1, 0, 0⟩]) (g + 1) lo) := by
  have hc : c < S.top := by omega
  have hi' : (i : Int) < len := by omega
  have w3 : IntKind.i64.wrap ((i : Int) + 1) = (i : Int) + 1 := wrap64 (by omega) (by omega)
  have hmx : max r y + 1 ≤ S.top := by omega
  have hl := fun b op a x y => lay_rs (S.push b) c r K code g lo ⟨op, a, x, y⟩ hlo hcr (by simp; omega) hb
  obtain ⟨lab, tag, ty⟩ := p
  simp only [partV] at hrow
  simp only [Ins.v] at hl
  rw [loopL_eq]
  generalize loopL (some [0, 3, 4, 22, 23, 24]) (S.top, S.pin) (kC (ev Q) loopL b28x0) = F
  simp [kC, b28x0, hi', hrow, RS_top, RS_pin, RS_push, RS_trunc, RS_put, RS_get, below hr, below hc, hl, w3, hmx]

theorem arms1_loop (c r y : Nat) (K : Kn) (lo : Nat) (first : Int) (t : Typ) (hcr : c < r) (hpl : t.parts.length ≤ 64) : ∀ (m i : Nat) (S : St) (code : List Ins) (g : Nat), i + m = t.parts.length → lo ≤ g → r < S.top → y < S.top → code.length + m ≤ 1073741824 →
    ∃ g' l, lo ≤ g' ∧ loopL (some [0, 3, 4, 22, 23, 24]) (S.top, S.pin) (kC (ev Q) loopL b28x0) ⟨67, [(0, .ptr r 0 5 0 0), (3, .ptr y 0 4 0 0), (4, .int .i64 first), (22, .rs 3 (t.parts.map partV ++ t.spare) t.parts.length), (23, .int .i64 t.parts.length), (24, .int .i64 i)]⟩ (RS S c r K code g lo) =
      some (.exit 0, ⟨67, l⟩, RS S c r K (code ++ (t.parts.drop i).map fun p => ⟨9, p.2.1, 0, 0⟩) g' lo) ∧ look 0 l = .ptr r 0 5 0 0 ∧ look 3 l = .ptr y 0 4 0 0 ∧ look 4 l = .int .i64 first := by
  intro m
  induction m with
  | zero =>
    intro i S code g hi hlo hr hy hb
    have h1 : ¬ ((i : Int) < t.parts.length) := by omega
    rw [List.drop_of_length_le (by omega)]
    refine ⟨g, [(25, .bool false), (0, .ptr r 0 5 0 0), (3, .ptr y 0 4 0 0), (4, .int .i64 first), (22, .rs 3 (t.parts.map partV ++ t.spare) t.parts.length), (23, .int .i64 t.parts.length), (24, .int .i64 i)], hlo, ?_, by simp, by simp, by simp⟩
    rw [loopL_eq]
    simp [kC, b28x0, h1]
  | succ m ih =>
    intro i S code g hi hlo hr hy hb
    have hil : i < t.parts.length := by omega
    have hp : t.parts[i]? = some t.parts[i] := List.getElem?_eq_getElem hil
    have hrow : (t.parts.map partV ++ t.spare)[i]? = some (partV t.parts[i]) := by
      rw [List.getElem?_append_left (by simpa using hil), List.getElem?_map, hp]; rfl
    rw [arms1_round S c r y K code g lo first _ _ i t.parts[i] hlo hcr hr hy (by omega) hrow hil (by omega)]
    obtain ⟨g', l, h1, h2, h3⟩ := ih (i + 1) S (code ++ [⟨9, t.parts[i].2.1, 0, 0⟩]) (g + 1) (by omega) (by omega) hr hy (by simp; omega)
    refine ⟨g', l, h1, ?_, h3⟩
    rw [h2, List.drop_eq_getElem_cons hil, List.map_cons, List.append_assoc]
    rfl

theorem arms2_round (S : St) (c r y : Nat) (K : Kn) (code : List Ins) (g lo first : Nat) (t : Typ) (i : Nat) (p : List UInt8 × Int × Int) (hlo : lo ≤ g) (hcr : c < r) (hr : r < S.top) (hry : r < y) (hy : S.get y = some (.cells 4 [t.v] 0 0)) (hb : code.length ≤ 1073741000)
    (hrow : (t.parts.map partV ++ t.spare)[i]? = some (partV p)) (hi : i < t.parts.length) (hlen : t.parts.length ≤ 64) (hf : first + i < code.length) :
    ∃ g' lo', lo' ≤ g' ∧ loopL (some [0, 3, 4, 35, 36, 37]) (S.top, S.pin) (kC (ev Q) loopL b28x2) ⟨67, [(0, .ptr r 0 5 0 0), (3, .ptr y 0 4 0 0), (4, .int .i64 first), (35, .rs 3 (t.parts.map partV ++ t.spare) t.parts.length), (36, .int .i64 t.parts.length), (37, .int .i64 i)]⟩ (RS S c r K code g lo) =
    loopL (some [0, 3, 4, 35, 36, 37]) (S.top, S.pin) (kC (ev Q) loopL b28x2) ⟨67, [(0, .ptr r 0 5 0 0), (3, .ptr y 0 4 0 0), (4, .int .i64 first), (35, .rs 3 (t.parts.map partV ++ t.spare) t.parts.length), (36, .int .i64 t.parts.length), (37, .int .i64 (i + 1 : Nat))]⟩
      (RS S c r K (setB (code ++ [⟨46, 0, 0, p.2.2⟩]) (first + i) code.length ++ if i + 1 < t.parts.length then [⟨20, 0, 0, 0⟩] else []) g' lo') := by
  have hc : c < S.top := by omega
  have hyl := get_lt _ _ hy
  have hcy : c < y := by omega
  have hi' : (i : Int) < t.parts.length := by omega
  have w3 : IntKind.i64.wrap ((i : Int) + 1) = (i : Int) + 1 := wrap64 (by omega) (by omega)
  have w4 : IntKind.i64.wrap ((first : Int) + i) = ((first + i : Nat) : Int) := by rw [wrap64 (by omega) (by omega)]; omega
  have hmx : max r y + 1 ≤ S.top := by omega
  have hl := fun b op a x y => lay_rs (S.push b) c r K code g lo ⟨op, a, x, y⟩ hlo hcr (by simp; omega) (by omega)
  have hl2 := fun b op a x y => lay_rs (S.push b) c r K (setB (code ++ [⟨46, 0, 0, p.2.2⟩]) (first + i) code.length) (g + 1) (g + 1) ⟨op, a, x, y⟩ (Nat.le_refl _) hcr (by simp; omega) (by rw [setB_len]; simp; omega)
  have hg := fun b => RS_get_r (S.push b) c r K (code ++ [⟨46, 0, 0, p.2.2⟩]) (g + 1) lo hcr (by simp; omega)
  have hs := fun b v => storeRS (S := S.push b) (c := c) (r := r) (K := K) (code := code ++ [⟨46, 0, 0, p.2.2⟩]) (g := g + 1) (lo := lo) (i := first + i) (b := v) hcr (by simp; omega) (by omega) (by simp; omega)
  have hgy := fun b k g lo => RS_get (S.push b) c r K k g lo y (by omega) (by omega)
  have hgy' : ∀ b, (S.push b).get y = some (.cells 4 [t.v] 0 0) := fun b => by rw [push_get _ _ _ hyl, hy]
  have hfi : ((first + i : Nat) : Int) < ((code ++ [(⟨46, 0, 0, p.2.2⟩ : Ins)]).length : Int) := by simp; omega
  obtain ⟨lab, tag, ty⟩ := p
  simp only [partV] at hrow
  simp only [Ins.v] at hl hl2
  generalize hC1 : code ++ [(⟨46, 0, 0, ty⟩ : Ins)] = C1 at *
  generalize hC2 : setB C1 (first + i) code.length = C2 at *
  generalize first + i = fi at *
  by_cases hlast : i + 1 < t.parts.length
  · have hlast' : (i : Int) + 1 < t.parts.length := by omega
    refine ⟨g + 1 + 1, g + 1, by omega, ?_⟩
    rw [loopL_eq]
    generalize loopL (some [0, 3, 4, 35, 36, 37]) (S.top, S.pin) (kC (ev Q) loopL b28x2) = F
    simp [-storeS, storeLoc, hs, RS_get, below hry, below hcy, hgy', hy, Typ.v, kC, b28x2, hi', hrow, RS_top, RS_pin, RS_push, RS_trunc, below hr, below hc, below hyl, hl, hl2, hC1, hC2, w3, w4, hg, hfi, hlast, hlast', hmx]
  · have hlast' : ¬ ((i : Int) + 1 < t.parts.length) := by omega
    refine ⟨g + 1, g + 1, by omega, ?_⟩
    rw [loopL_eq]
    generalize loopL (some [0, 3, 4, 35, 36, 37]) (S.top, S.pin) (kC (ev Q) loopL b28x2) = F
    simp [-storeS, storeLoc, hs, RS_get, below hry, below hcy, hgy', hy, Typ.v, kC, b28x2, hi', hrow, RS_top, RS_pin, RS_push, RS_trunc, below hr, below hc, below hyl, hl, hC1, hC2, w3, w4, hg, hfi, hlast, hlast', hmx]

/-- what the arms' second loop makes of the code -/
def bodyI (first len : Nat) : Nat → List (List UInt8 × Int × Int) → List Ins → List Ins
  | _, [], code => code
  | i, p :: ps, code => bodyI first len (i + 1) ps (setB (code ++ [⟨46, 0, 0, p.2.2⟩]) (first + i) code.length ++ if i + 1 < len then [⟨20, 0, 0, 0⟩] else [])

theorem arms2_loop (c r y : Nat) (K : Kn) (first : Nat) (t : Typ) (hcr : c < r) (hry : r < y) (hpl : t.parts.length ≤ 64) : ∀ (m i : Nat) (S : St) (code : List Ins) (g lo : Nat), i + m = t.parts.length → lo ≤ g → r < S.top → S.get y = some (.cells 4 [t.v] 0 0) → code.length + 2 * m ≤ 1073741000 → first + t.parts.length ≤ code.length →
    ∃ g' lo' l, lo' ≤ g' ∧ loopL (some [0, 3, 4, 35, 36, 37]) (S.top, S.pin) (kC (ev Q) loopL b28x2) ⟨67, [(0, .ptr r 0 5 0 0), (3, .ptr y 0 4 0 0), (4, .int .i64 first), (35, .rs 3 (t.parts.map partV ++ t.spare) t.parts.length), (36, .int .i64 t.parts.length), (37, .int .i64 i)]⟩ (RS S c r K code g lo) =
      some (.exit 2, ⟨67, l⟩, RS S c r K (bodyI first t.parts.length i (t.parts.drop i) code) g' lo') := by
  intro m
  induction m with
  | zero =>
    intro i S code g lo hi hlo hr hy hb hf
    have h1 : ¬ ((i : Int) < t.parts.length) := by omega
    rw [List.drop_of_length_le (by omega)]
    refine ⟨g, lo, [(38, .bool false), (0, .ptr r 0 5 0 0), (3, .ptr y 0 4 0 0), (4, .int .i64 first), (35, .rs 3 (t.parts.map partV ++ t.spare) t.parts.length), (36, .int .i64 t.parts.length), (37, .int .i64 i)], hlo, ?_⟩
    rw [loopL_eq]
    simp [kC, b28x2, h1, bodyI]
  | succ m ih =>
    intro i S code g lo hi hlo hr hy hb hf
    have hil : i < t.parts.length := by omega
    have hp : t.parts[i]? = some t.parts[i] := List.getElem?_eq_getElem hil
    have hrow : (t.parts.map partV ++ t.spare)[i]? = some (partV t.parts[i]) := by
      rw [List.getElem?_append_left (by simpa using hil), List.getElem?_map, hp]; rfl
    obtain ⟨g1, lo1, h1, h2⟩ := arms2_round S c r y K code g lo first t i t.parts[i] hlo hcr hr hry hy (by omega) hrow hil hpl (by omega)
    have hlen : (setB (code ++ [(⟨46, 0, 0, t.parts[i].2.2⟩ : Ins)]) (first + i) code.length ++ if i + 1 < t.parts.length then [(⟨20, 0, 0, 0⟩ : Ins)] else []).length ≤ code.length + 2 ∧ code.length ≤ (setB (code ++ [(⟨46, 0, 0, t.parts[i].2.2⟩ : Ins)]) (first + i) code.length ++ if i + 1 < t.parts.length then [(⟨20, 0, 0, 0⟩ : Ins)] else []).length := by
      rw [List.length_append, setB_len]
      split <;> simp
    obtain ⟨g', lo', l, h3, h4⟩ := ih (i + 1) S (setB (code ++ [(⟨46, 0, 0, t.parts[i].2.2⟩ : Ins)]) (first + i) code.length ++ if i + 1 < t.parts.length then [(⟨20, 0, 0, 0⟩ : Ins)] else []) g1 lo1 (by omega) h1 hr hy (by have := hlen.1; omega) (by have := hlen.2; omega)
    refine ⟨g', lo', l, h3, ?_⟩
    rw [h2, h4, List.drop_eq_getElem_cons hil]
    rfl

def armsI (t : Typ) (code : List Ins) : List Ins :=
  bodyI (code.length + 1) t.parts.length 0 t.parts (code ++ [⟨41, t.parts.length, 0, 0⟩] ++ t.parts.map fun p => ⟨9, p.2.1, 0, 0⟩)

theorem arms_rs (S : St) (c r : Nat) (K : Kn) (code : List Ins) (g lo : Nat) (t : Typ) (hlo : lo ≤ g) (hcr : c < r) (hr : r < S.top) (hb : code.length ≤ 1073740000) (hpl : t.parts.length ≤ 64) :
    ∃ g' lo', lo' ≤ g' ∧ ev Q 28 [.ptr r 0 5 0 0, .agg t.v] (RS S c r K code g lo) = some (.ret (.tup []), RS S c r K (armsI t code) g' lo') := by
  have hc : c < S.top := by omega
  have hcy : c < S.top := by omega
  have hl := fun b op a x y => lay_rs (S.push b) c r K code g lo ⟨op, a, x, y⟩ hlo hcr (by simp; omega) (by omega)
  obtain ⟨g1, l1, h1, h2, h3, h4, h5⟩ := arms1_loop c r S.top K lo ((code.length + 1 : Nat) : Int) t hcr hpl t.parts.length 0 (S.push (.cells 4 [t.v] 0 0)) (code ++ [⟨41, t.parts.length, 0, 0⟩]) (g + 1) (by omega) (by omega) (by simp; omega) (by simp) (by simp; omega)
  obtain ⟨g2, lo2, l2, h6, h7⟩ := arms2_loop c r S.top K (code.length + 1) t hcr (by omega) hpl t.parts.length 0 (S.push (.cells 4 [t.v] 0 0)) (code ++ [⟨41, t.parts.length, 0, 0⟩] ++ t.parts.map fun p => ⟨9, p.2.1, 0, 0⟩) g1 lo (by omega) h1 (by simp; omega) (by simp) (by simp; omega) (by simp; omega)
  have hg := fun b => RS_get_r (S.push b) c r K (code ++ [⟨41, t.parts.length, 0, 0⟩]) (g + 1) lo hcr (by simp; omega)
  refine ⟨g2, lo2, h6, ?_⟩
  rw [List.drop_zero] at h2 h7
  unfold armsI
  generalize hC2 : bodyI (code.length + 1) t.parts.length 0 t.parts (code ++ [⟨41, t.parts.length, 0, 0⟩] ++ t.parts.map fun p => ⟨9, p.2.1, 0, 0⟩) = C2 at *
  generalize hC1 : (code ++ [⟨41, t.parts.length, 0, 0⟩] ++ t.parts.map fun p => (⟨9, p.2.1, 0, 0⟩ : Ins)) = C1 at *
  generalize hC0 : code ++ [(⟨41, t.parts.length, 0, 0⟩ : Ins)] = C0 at *
  have hlen0 : C0.length = code.length + 1 := by rw [← hC0]; simp
  rw [ev_eq q28, c28, evFn_eq _ _ _ _ _ _ _ (by simp)]
  simp only [Ins.v, Typ.v] at hl h2 h7
  simp at h2 h3 h4 h5 h7
  simp [Typ.v, RS_top, RS_pin, RS_push, RS_trunc, RS_get, below hr, below hc, hl, hC0, hg, h2, h3, h4, h5, h7, hlen0]
end Mev
