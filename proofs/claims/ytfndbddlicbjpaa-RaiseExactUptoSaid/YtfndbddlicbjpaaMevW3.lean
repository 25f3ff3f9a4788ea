/- The program's functions, one equation each: numbers. -/
import Derived.Test.YtfndbddlicbjpaaMevW1

set_option maxRecDepth 100000
namespace Mev
open Go Go.Proofs

def sizedN (n : Int) : Int := min (max n 0) 4611686018427387904
theorem sized_ev (n : Int) : Pure 63 [.int .i64 n] (.int .i64 (sizedN n)) := by
  intro S
  rw [ev_eq q63, c63, evFn_eq _ _ _ _ _ _ _ (by simp)]
  have h : sizedN n = (if (4611686018427387904 : Int) < (if (0 : Int) > n then 0 else n) then 4611686018427387904 else (if (0 : Int) > n then 0 else n)) := by unfold sizedN; split <;> split <;> omega
  rw [h]
  simp

/-- what a call comes to where there is nothing -/
noncomputable def outOf (k : FuncId) (args : List V) : V := match ev Q k args ⟨[], 0⟩ with | some (.ret v, _) => v | _ => .un

theorem mul64_ev (a b : Int) : ∃ c d, Pure 62 [.int .u64 a, .int .u64 b] (.tup [.int .u64 c, .int .u64 d]) := by
  apply Exists.intro
  apply Exists.intro
  intro S
  rw [ev_eq q62, c62, evFn_eq _ _ _ _ _ _ _ (by simp)]
  simp [shiftOp]
  exact ⟨rfl, rfl⟩

/-- what a product of sizes comes to -/
theorem times_ex (a b : Int) : ∃ c, Pure 47 [.int .i64 a, .int .i64 b] (.int .i64 c) := by
  obtain ⟨c, d, h⟩ := mul64_ev (IntKind.u64.wrap (sizedN a)) (IntKind.u64.wrap (sizedN b))
  have h1 := fun S => sized_ev a S
  have h2 := fun S => sized_ev b S
  by_cases hc : 0 < c
  · refine ⟨4611686018427387904, fun S => ?_⟩
    rw [ev_eq q47, c47, evFn_eq _ _ _ _ _ _ _ (by simp)]
    have h0 := h S
    simp [h1, h2, h0, hc]
  · by_cases hd : 4611686018427387904 < d
    · refine ⟨4611686018427387904, fun S => ?_⟩
      rw [ev_eq q47, c47, evFn_eq _ _ _ _ _ _ _ (by simp)]
      have h0 := h S
      simp [h1, h2, h0, hc, hd]
    · refine ⟨IntKind.i64.wrap d, fun S => ?_⟩
      rw [ev_eq q47, c47, evFn_eq _ _ _ _ _ _ _ (by simp)]
      have h0 := h S
      simp [h1, h2, h0, hc, hd]
noncomputable def timesN (a b : Int) : Int := (times_ex a b).choose
theorem times_ev (a b : Int) : Pure 47 [.int .i64 a, .int .i64 b] (.int .i64 (timesN a b)) := (times_ex a b).choose_spec

end Mev

/- The program's functions, one equation each: sums of sizes, extents' parts. -/

set_option maxRecDepth 100000
namespace Mev
open Go Go.Proofs

def plus1 (t x : Int) : Int := min t (4611686018427387904 - sizedN x) + sizedN x
def plusN (a b : Int) : Int := plus1 (plus1 0 a) b
theorem sized_bd (n : Int) : 0 ≤ sizedN n ∧ sizedN n ≤ 4611686018427387904 := by unfold sizedN; omega
theorem plus1_bd {t : Int} (h : 0 ≤ t) (x : Int) : 0 ≤ plus1 t x ∧ plus1 t x ≤ 4611686018427387904 := by have := sized_bd x; unfold plus1; omega

theorem plus_round (S : St) (id : Nat) (rows : List (List V)) (gen lo : Nat) (hg : S.get id = some (.cells 1 rows gen lo)) (hlo : lo ≤ gen) (i : Nat) (x t : Int) (hi : rows[i]? = some [.int .i64 x]) (hi2 : i < rows.length) (hil : rows.length ≤ 1073741824) (ht : 0 ≤ t) :
    loopL (some [3, 6, 7, 8]) (S.top, S.pin) (kC (ev Q) loopL b49x0) ⟨22, [(3, .int .i64 t), (6, .sl id gen 1 0 rows.length), (7, .int .i64 rows.length), (8, .int .i64 i)]⟩ S =
    loopL (some [3, 6, 7, 8]) (S.top, S.pin) (kC (ev Q) loopL b49x0) ⟨22, [(3, .int .i64 (plus1 t x)), (6, .sl id gen 1 0 rows.length), (7, .int .i64 rows.length), (8, .int .i64 (i + 1 : Nat))]⟩ S := by
  have hid := get_lt _ _ hg
  have h1 := fun S => sized_ev x S
  have hb := sized_bd x
  have h2 : (i : Int) < rows.length := by omega
  have w1 : IntKind.i64.wrap (4611686018427387904 - sizedN x) = 4611686018427387904 - sizedN x := wrap64 (by omega) (by omega)
  have w2 : IntKind.i64.wrap ((if 4611686018427387904 - sizedN x < t then 4611686018427387904 - sizedN x else t) + sizedN x) = plus1 t x := by
    have : (if 4611686018427387904 - sizedN x < t then 4611686018427387904 - sizedN x else t) + sizedN x = plus1 t x := by unfold plus1; split <;> omega
    rw [this]
    have := plus1_bd ht x
    exact wrap64 (by omega) (by omega)
  have w3 : IntKind.i64.wrap ((i : Int) + 1) = (i : Int) + 1 := wrap64 (by omega) (by omega)
  rw [loopL_eq]
  simp [kC, b49x0, h1, h2, hg, hlo, hi, w1, w2, w3, below hid]

theorem plus_ev (S : St) (id : Nat) (a b : Int) (gen lo : Nat) (hg : S.get id = some (.cells 1 [[.int .i64 a], [.int .i64 b]] gen lo)) (hlo : lo ≤ gen) : ev Q 49 [.sl id gen 1 0 2] S = some (.ret (.int .i64 (plusN a b)), S) := by
  rw [ev_eq q49, c49, evFn_eq _ _ _ _ _ _ _ (by simp)]
  have h1 := plus_round S id _ gen lo hg hlo 0 a 0 rfl (by simp) (by simp) (by omega)
  have b1 := plus1_bd (t := 0) (by omega) a
  have h2 := plus_round S id _ gen lo hg hlo 1 b (plus1 0 a) rfl (by simp) (by simp) b1.1
  have h3 : loopL (some [3, 6, 7, 8]) (S.top, S.pin) (kC (ev Q) loopL b49x0) ⟨22, [(3, .int .i64 (plus1 (plus1 0 a) b)), (6, .sl id gen 1 0 2), (7, .int .i64 2), (8, .int .i64 2)]⟩ S =
      some (.exit 0, ⟨22, [(9, .bool false), (3, .int .i64 (plus1 (plus1 0 a) b)), (6, .sl id gen 1 0 2), (7, .int .i64 2), (8, .int .i64 2)]⟩, S) := by
    rw [loopL_eq]
    simp [kC, b49x0]
  have h4 := h1.trans (h2.trans h3)
  simp only [List.length_cons, List.length_nil, Int.natCast_zero] at h4
  simp [plusN]
  simp at h4
  simp [h4]

end Mev

/- The program's functions, one equation each: what a part takes up; slots. -/

set_option maxRecDepth 100000
namespace Mev
open Go Go.Proofs

structure Ext' where
  fixed : Bool
  least : Int
  most : Int
  depth : Int
  deriving Inhabited
def Ext'.v (e : Ext') : List V := [.bool e.fixed, .int .i64 e.least, .int .i64 e.most, .int .i64 e.depth]

def withinN (e : Ext') (n : Int) : Int := if e.fixed then n else plusN 4 n
theorem within_ev (e : Ext') (n : Int) : Pure 48 [.agg e.v, .int .i64 n] (.int .i64 (withinN e n)) := by
  intro S
  rw [ev_eq q48, c48, evFn_eq _ _ _ _ _ _ _ (by simp)]
  obtain ⟨f, l, m, d⟩ := e
  cases f with
  | true => simp [Ext'.v, withinN]
  | false =>
    have h := plus_ev ((S.push (.cells 4 [[.bool false, .int .i64 l, .int .i64 m, .int .i64 d]] 0 0)).push (.cells 1 [[.int .i64 4], [.int .i64 n]] 0 0)) (S.top + 1) 4 n 0 0 (by simp) (by omega)
    simp [Ext'.v, withinN, h]

structure Slot' where
  at_ : Int
  var : Bool
  size : Int
  deriving Inhabited
def Slot'.v (s : Slot') : List V := [.int .i64 s.at_, .bool s.var, .int .i64 s.size]
def slotN (e : Ext') (n : Int) : Slot' := if e.fixed then ⟨n, false, e.most⟩ else ⟨n, true, 4⟩
theorem slot_ev (e : Ext') (n : Int) : Pure 50 [.agg e.v, .int .i64 n] (.agg (slotN e n).v) := by
  intro S
  rw [ev_eq q50, c50, evFn_eq _ _ _ _ _ _ _ (by simp)]
  obtain ⟨f, l, m, d⟩ := e
  cases f <;> simp [Ext'.v, Slot'.v, slotN]

end Mev

/- The program's functions, one equation each: extents. -/

set_option maxRecDepth 100000
namespace Mev
open Go Go.Proofs

theorem plus_push (S : St) (n : Nat) (a b : Int) (h : S.top = n) : ev Q 49 [.sl n 0 1 0 2] (S.push (.cells 1 [[.int .i64 a], [.int .i64 b]] 0 0)) =
    some (.ret (.int .i64 (plusN a b)), S.push (.cells 1 [[.int .i64 a], [.int .i64 b]] 0 0)) := plus_ev _ _ _ _ 0 0 (by subst h; simp) (Nat.le_refl _)

/-- a type: its kind, number, element; its parts (label, tag, type) -/
structure Typ where
  kind : Int
  n : Int
  elem : Int
  parts : List (List UInt8 × Int × Int)
  spare : List (List V)
def partV (p : List UInt8 × Int × Int) : List V := [.str p.1, .int .i64 p.2.1, .int .i64 p.2.2]
def Typ.v (t : Typ) : List V := [.int .i64 t.kind, .int .i64 t.n, .int .i64 t.elem, .rs 3 (t.parts.map partV ++ t.spare) t.parts.length]

section
variable (S : St) (t : Typ) (bl : V)
theorem ext1 (h : t.kind = 1) : ev Q 23 [.agg t.v, bl] S = some (.ret (.agg (Ext'.v ⟨true, t.n, t.n, 1⟩)), S) := by
  rw [ev_eq q23, c23, evFn_eq _ _ _ _ _ _ _ (by simp)]
  simp [Typ.v, Ext'.v, h]
theorem ext2 (h : t.kind = 2) : ev Q 23 [.agg t.v, bl] S = some (.ret (.agg (Ext'.v ⟨true, 1, 1, 1⟩)), S) := by
  rw [ev_eq q23, c23, evFn_eq _ _ _ _ _ _ _ (by simp)]
  simp [Typ.v, Ext'.v, h]
theorem ext3 (h : t.kind = 3) : ev Q 23 [.agg t.v, bl] S = some (.ret (.agg (Ext'.v ⟨false, 1, 10, 1⟩)), S) := by
  rw [ev_eq q23, c23, evFn_eq _ _ _ _ _ _ _ (by simp)]
  simp [Typ.v, Ext'.v, h]

variable (es : List Ext') (id g lo : Nat) (hg : S.get id = some (.cells 4 (es.map Ext'.v) g lo)) (hlo : lo ≤ g) (e : Ext') (k : Nat) (hk : t.elem = k) (he : es[k]? = some e)
include hg hlo hk he
theorem ext4 (h : t.kind = 4) : ev Q 23 [.agg t.v, .sl id g 4 0 es.length] S =
    some (.ret (.agg (Ext'.v ⟨e.fixed, timesN t.n (withinN e e.least), timesN t.n (withinN e e.most), IntKind.i64.wrap (1 + e.depth)⟩)), S) := by
  have hid := get_lt _ _ hg
  have h1 := fun n S => within_ev e n S
  have h2 := fun a b S => times_ev a b S
  have hlt : k < es.length := (List.getElem?_eq_some_iff.1 he).1
  have hlt' : (k : Int) < es.length := by omega
  have hek : es[k] = e := by rw [List.getElem?_eq_getElem hlt] at he; exact Option.some.inj he
  simp only [Ext'.v] at h1
  rw [ev_eq q23, c23, evFn_eq _ _ _ _ _ _ _ (by simp)]
  simp [Typ.v, Ext'.v, h, hk, hg, hlo, hek, below hid, h1, h2, hlt, hlt']
theorem ext5 (h : t.kind = 5) : ev Q 23 [.agg t.v, .sl id g 4 0 es.length] S =
    some (.ret (.agg (Ext'.v ⟨false, 0, timesN t.n (withinN e e.most), IntKind.i64.wrap (1 + e.depth)⟩)), S) := by
  have hid := get_lt _ _ hg
  have h1 := fun n S => within_ev e n S
  have h2 := fun a b S => times_ev a b S
  have hlt : k < es.length := (List.getElem?_eq_some_iff.1 he).1
  have hlt' : (k : Int) < es.length := by omega
  have hek : es[k] = e := by rw [List.getElem?_eq_getElem hlt] at he; exact Option.some.inj he
  simp only [Ext'.v] at h1
  rw [ev_eq q23, c23, evFn_eq _ _ _ _ _ _ _ (by simp)]
  simp [Typ.v, Ext'.v, h, hk, hg, hlo, hek, below hid, h1, h2, hlt, hlt']
theorem ext6 (h : t.kind = 6) : ev Q 23 [.agg t.v, .sl id g 4 0 es.length] S =
    some (.ret (.agg (Ext'.v ⟨false, 1, plusN 1 e.most, IntKind.i64.wrap (1 + e.depth)⟩)), S) := by
  have hid := get_lt _ _ hg
  have h1 := plus_push
  have hlt : k < es.length := (List.getElem?_eq_some_iff.1 he).1
  have hlt' : (k : Int) < es.length := by omega
  have hek : es[k] = e := by rw [List.getElem?_eq_getElem hlt] at he; exact Option.some.inj he
  rw [ev_eq q23, c23, evFn_eq _ _ _ _ _ _ _ (by simp)]
  simp [Typ.v, Ext'.v, h, hk, hg, hlo, hek, below hid, h1, hlt, hlt']
end
end Mev

/- The program's functions, one equation each: extents of structs and unions. -/

set_option maxRecDepth 100000
namespace Mev
open Go Go.Proofs

/-- a struct's extent, a part more -/
def structStep (x e : Ext') : Ext' := ⟨x.fixed && e.fixed, plusN x.least (withinN e e.least), plusN x.most (withinN e e.most), max x.depth (IntKind.i64.wrap (1 + e.depth))⟩

theorem struct_round (S : St) (id x y g lo : Nat) (es : List Ext') (X e : Ext') (rows : List (List V)) (len i k : Nat) (lab : List UInt8) (tag : Int)
    (hg : S.get id = some (.cells 4 (es.map Ext'.v) g lo)) (hlo : lo ≤ g) (hx : S.get x = some (.cells 4 [X.v] 0 0)) (hne : id ≠ x) (hy : y < S.top) (hr : rows[i]? = some [.str lab, .int .i64 tag, .int .i64 k]) (hi : i < len) (hlen : len ≤ 1073741824)
    (he : es[k]? = some e) :
    loopL (some [1, 4, 5, 133, 134, 135]) (S.top, S.pin) (kC (ev Q) loopL b23x11) ⟨178, [(1, .sl id g 4 0 es.length), (4, .ptr y 0 4 0 0), (5, .ptr x 0 4 0 0), (133, .rs 3 rows len), (134, .int .i64 len), (135, .int .i64 i)]⟩ S =
    loopL (some [1, 4, 5, 133, 134, 135]) (S.top, S.pin) (kC (ev Q) loopL b23x11) ⟨178, [(1, .sl id g 4 0 es.length), (4, .ptr y 0 4 0 0), (5, .ptr x 0 4 0 0), (133, .rs 3 rows len), (134, .int .i64 len), (135, .int .i64 (i + 1 : Nat))]⟩
      (S.put x (.cells 4 [(structStep X e).v] 0 0)) := by
  have hid := get_lt _ _ hg
  have hxl := get_lt _ _ hx
  have h1 := fun n S => within_ev e n S
  have h2 := plus_push
  have hlt : k < es.length := (List.getElem?_eq_some_iff.1 he).1
  have hlt' : (k : Int) < es.length := by omega
  have hek : es[k] = e := by rw [List.getElem?_eq_getElem hlt] at he; exact Option.some.inj he
  have hi' : (i : Int) < len := by omega
  have w3 : IntKind.i64.wrap ((i : Int) + 1) = (i : Int) + 1 := wrap64 (by omega) (by omega)
  have hm : ∀ a b : Int, (if b > a then b else a) = max a b := fun a b => by split <;> omega
  have hmx : max id (max y x) + 1 ≤ S.top := by omega
  simp only [Ext'.v] at h1
  obtain ⟨f, l, m, d⟩ := X
  rw [loopL_eq]
  generalize loopL (some [1, 4, 5, 133, 134, 135]) (S.top, S.pin) (kC (ev Q) loopL b23x11) = F
  cases f <;> simp [kC, b23x11, structStep, Ext'.v, hg, hlo, hx, hr, hi', hek, hlt, hlt', below hid, below hxl, below hy, h1, h2, w3, hne, Ne.symm hne, hm, hmx]
end Mev
namespace Mev
open Go Go.Proofs

/-- a union's extent, a part more -/
def unionStep (x : Int × Ext') (e : Ext') : Int × Ext' := (min x.1 e.least, ⟨x.2.fixed, x.2.least, max x.2.most (plusN 1 e.most), max x.2.depth (IntKind.i64.wrap (1 + e.depth))⟩)

theorem union_round (S : St) (id x y g lo : Nat) (es : List Ext') (X : Int × Ext') (e : Ext') (rows : List (List V)) (len i k : Nat) (lab : List UInt8) (tag : Int)
    (hg : S.get id = some (.cells 4 (es.map Ext'.v) g lo)) (hlo : lo ≤ g) (hx : S.get x = some (.cells 4 [X.2.v] 0 0)) (hne : id ≠ x) (hy : y < S.top) (hr : rows[i]? = some [.str lab, .int .i64 tag, .int .i64 k]) (hi : i < len) (hlen : len ≤ 1073741824)
    (he : es[k]? = some e) :
    loopL (some [1, 4, 5, 9, 96, 97, 98]) (S.top, S.pin) (kC (ev Q) loopL b23x9) ⟨178, [(1, .sl id g 4 0 es.length), (4, .ptr y 0 4 0 0), (5, .ptr x 0 4 0 0), (9, .int .i64 X.1), (96, .rs 3 rows len), (97, .int .i64 len), (98, .int .i64 i)]⟩ S =
    loopL (some [1, 4, 5, 9, 96, 97, 98]) (S.top, S.pin) (kC (ev Q) loopL b23x9) ⟨178, [(1, .sl id g 4 0 es.length), (4, .ptr y 0 4 0 0), (5, .ptr x 0 4 0 0), (9, .int .i64 (unionStep X e).1), (96, .rs 3 rows len), (97, .int .i64 len), (98, .int .i64 (i + 1 : Nat))]⟩
      (S.put x (.cells 4 [(unionStep X e).2.v] 0 0)) := by
  have hid := get_lt _ _ hg
  have hxl := get_lt _ _ hx
  have h2 := plus_push
  have hlt : k < es.length := (List.getElem?_eq_some_iff.1 he).1
  have hlt' : (k : Int) < es.length := by omega
  have hek : es[k] = e := by rw [List.getElem?_eq_getElem hlt] at he; exact Option.some.inj he
  have hi' : (i : Int) < len := by omega
  have w3 : IntKind.i64.wrap ((i : Int) + 1) = (i : Int) + 1 := wrap64 (by omega) (by omega)
  have hm : ∀ a b : Int, (if b > a then b else a) = max a b := fun a b => by split <;> omega
  have hn : ∀ a b : Int, (if b < a then b else a) = min a b := fun a b => by split <;> omega
  have hmx : max id (max y x) + 1 ≤ S.top := by omega
  obtain ⟨X1, f, l, m, d⟩ := X
  rw [loopL_eq]
  generalize loopL (some [1, 4, 5, 9, 96, 97, 98]) (S.top, S.pin) (kC (ev Q) loopL b23x9) = F
  simp [kC, b23x9, unionStep, Ext'.v, hg, hlo, hx, hr, hi', hek, hlt, hlt', below hid, below hxl, below hy, h2, w3, hne, Ne.symm hne, hm, hn, hmx]
end Mev
