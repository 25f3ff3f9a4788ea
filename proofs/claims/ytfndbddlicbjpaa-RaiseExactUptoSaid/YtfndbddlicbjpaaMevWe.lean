/- The document's answer, one equation each: a type's extent. -/
import Derived.Test.YtfndbddlicbjpaaMevWd
import Derived.Test.YtfndbddlicbjpaaMevW4
import Derived.Test.YtfndbddlicbjpaaMevGA
import Derived.Test.YtfndbddlicbjpaaMevWc

set_option maxRecDepth 100000
namespace Mev
open Go Go.Proofs

section
variable (S : St) (t : Typ) (es : List Ext') (id g lo : Nat) (hg : S.get id = some (.cells 4 (es.map Ext'.v) g lo)) (hlo : lo ≤ g)
theorem rone1 (bl : V) (h : t.kind = 1) : ev Q 34 [.agg t.v, bl] S = some (.ret (.agg (Ext'.v ⟨true, t.n, t.n, 1⟩)), S) := by
  have hl : ∀ S, ev Q 59 [.agg t.v] S = some (.ret (.agg (Ext'.v ⟨true, t.n, t.n, 1⟩)), S) := by
    intro S
    rw [ev_eq q59, c59, evFn_eq _ _ _ _ _ _ _ (by simp)]
    simp [Typ.v, Ext'.v, h]
  simp only [Typ.v, h, Ext'.v] at hl
  rw [ev_eq q34, c34, evFn_eq _ _ _ _ _ _ _ (by simp)]
  simp [Typ.v, Ext'.v, h, hl]
theorem rone2 (bl : V) (h : t.kind = 2) : ev Q 34 [.agg t.v, bl] S = some (.ret (.agg (Ext'.v ⟨true, 1, 1, 1⟩)), S) := by
  have hl : ∀ S, ev Q 59 [.agg t.v] S = some (.ret (.agg (Ext'.v ⟨true, 1, 1, 1⟩)), S) := by
    intro S
    rw [ev_eq q59, c59, evFn_eq _ _ _ _ _ _ _ (by simp)]
    simp [Typ.v, Ext'.v, h]
  simp only [Typ.v, h, Ext'.v] at hl
  rw [ev_eq q34, c34, evFn_eq _ _ _ _ _ _ _ (by simp)]
  simp [Typ.v, Ext'.v, h, hl]
theorem rone3 (bl : V) (h : t.kind = 3) : ev Q 34 [.agg t.v, bl] S = some (.ret (.agg (Ext'.v ⟨false, 1, 10, 1⟩)), S) := by
  have hl : ∀ S, ev Q 59 [.agg t.v] S = some (.ret (.agg (Ext'.v ⟨false, 1, 10, 1⟩)), S) := by
    intro S
    rw [ev_eq q59, c59, evFn_eq _ _ _ _ _ _ _ (by simp)]
    simp [Typ.v, Ext'.v, h]
  simp only [Typ.v, h, Ext'.v] at hl
  rw [ev_eq q34, c34, evFn_eq _ _ _ _ _ _ _ (by simp)]
  simp [Typ.v, Ext'.v, h, hl]

variable (e : Ext') (k : Nat) (hk : t.elem = k) (he : es[k]? = some e)
include hg hlo hk he
theorem rone4 (h : t.kind = 4) : ev Q 34 [.agg t.v, .sl id g 4 0 es.length] S =
    some (.ret (.agg (Ext'.v ⟨e.fixed, timesI t.n (withinN e e.least), timesI t.n (withinN e e.most), IntKind.i64.wrap (1 + e.depth)⟩)), S) := by
  have hid := get_lt _ _ hg
  have h1 := fun S => rpart_ev e S
  have h2 := fun a b S => rtimes10_ev a b S
  have hlt : k < es.length := (List.getElem?_eq_some_iff.1 he).1
  have hlt' : (k : Int) < es.length := by omega
  have hek : es[k] = e := by rw [List.getElem?_eq_getElem hlt] at he; exact Option.some.inj he
  simp only [Ext'.v] at h1
  rw [ev_eq q34, c34, evFn_eq _ _ _ _ _ _ _ (by simp)]
  simp [Typ.v, Ext'.v, h, hk, hg, hlo, hek, below hid, h1, h2, hlt, hlt']
theorem rone5 (h : t.kind = 5) : ev Q 34 [.agg t.v, .sl id g 4 0 es.length] S =
    some (.ret (.agg (Ext'.v ⟨false, 0, timesI t.n (withinN e e.most), IntKind.i64.wrap (1 + e.depth)⟩)), S) := by
  have hid := get_lt _ _ hg
  have h1 := fun S => rpart_ev e S
  have h2 := fun a b S => rtimes10_ev a b S
  have hlt : k < es.length := (List.getElem?_eq_some_iff.1 he).1
  have hlt' : (k : Int) < es.length := by omega
  have hek : es[k] = e := by rw [List.getElem?_eq_getElem hlt] at he; exact Option.some.inj he
  simp only [Ext'.v] at h1
  rw [ev_eq q34, c34, evFn_eq _ _ _ _ _ _ _ (by simp)]
  simp [Typ.v, Ext'.v, h, hk, hg, hlo, hek, below hid, h1, h2, hlt, hlt']
theorem rone6 (h : t.kind = 6) : ev Q 34 [.agg t.v, .sl id g 4 0 es.length] S =
    some (.ret (.agg (Ext'.v ⟨false, 1, plusN 1 e.most, IntKind.i64.wrap (1 + e.depth)⟩)), S) := by
  have hid := get_lt _ _ hg
  have h1 := fun a b S => rplus10_ev a b S
  have hlt : k < es.length := (List.getElem?_eq_some_iff.1 he).1
  have hlt' : (k : Int) < es.length := by omega
  have hek : es[k] = e := by rw [List.getElem?_eq_getElem hlt] at he; exact Option.some.inj he
  rw [ev_eq q34, c34, evFn_eq _ _ _ _ _ _ _ (by simp)]
  simp [Typ.v, Ext'.v, h, hk, hg, hlo, hek, below hid, h1, hlt, hlt']
end
end Mev

/- The document's answer, one equation each: a union's and a struct's extent. -/

set_option maxRecDepth 100000
namespace Mev
open Go Go.Proofs

def minI (a w : Int) : Int := if w < a then w else a
def mxI (a w : Int) : Int := if w > a then w else a
def runStep (X e : Ext') : Ext' := ⟨false, minI X.least e.least, mxI X.most e.most, mxI X.depth e.depth⟩
def rstStep (X e : Ext') : Ext' := ⟨X.fixed && e.fixed, plusN X.least (withinN e e.least), plusN X.most (withinN e e.most), mxI X.depth e.depth⟩

theorem run_round (S : St) (id x y y4 g lo : Nat) (es : List Ext') (X e : Ext') (t : Typ) (k i : Nat) (lab : List UInt8) (tag : Int) (hg : S.get id = some (.cells 4 (es.map Ext'.v) g lo)) (hlo : lo ≤ g) (hy : S.get y = some (.cells 4 [t.v] 0 0)) (hx : S.get x = some (.cells 4 [X.v] 0 0)) (hidx : id ≠ x) (hy4 : y4 < S.top)
    (hr : (t.parts.map partV ++ t.spare)[i]? = some [.str lab, .int .i64 tag, .int .i64 k]) (hi : i < t.parts.length) (hlen : t.parts.length ≤ 1073741824) (he : es[k]? = some e) :
    loopL (some [1, 2, 4, 9, 10]) (S.top, S.pin) (kC (ev Q) loopL b34x1) ⟨195, [(1, .sl id g 4 0 es.length), (2, .ptr y 0 4 0 0), (4, .ptr y4 0 4 0 0), (9, .ptr x 0 4 0 0), (10, .int .i64 i)]⟩ S =
    loopL (some [1, 2, 4, 9, 10]) (S.top, S.pin) (kC (ev Q) loopL b34x1) ⟨195, [(1, .sl id g 4 0 es.length), (2, .ptr y 0 4 0 0), (4, .ptr y4 0 4 0 0), (9, .ptr x 0 4 0 0), (10, .int .i64 (i + 1 : Nat))]⟩ (S.put x (.cells 4 [(runStep X e).v] 0 0)) := by
  have hid := get_lt _ _ hg
  have hxl := get_lt _ _ hx
  have hyl := get_lt _ _ hy
  have hlt : k < es.length := (List.getElem?_eq_some_iff.1 he).1
  have hlt' : (k : Int) < es.length := by omega
  have hek : es[k] = e := by rw [List.getElem?_eq_getElem hlt] at he; exact Option.some.inj he
  have hi' : (i : Int) < t.parts.length := by omega
  have w3 : IntKind.i64.wrap ((i : Int) + 1) = (i : Int) + 1 := wrap64 (by omega) (by omega)
  have hmx : max id (max y (max y4 x)) + 1 ≤ S.top := by omega
  obtain ⟨f, l, m, d⟩ := X
  obtain ⟨f', l', m', d'⟩ := e
  rw [loopL_eq]
  generalize loopL (some [1, 2, 4, 9, 10]) (S.top, S.pin) (kC (ev Q) loopL b34x1) = F
  simp [kC, b34x1, Typ.v, Ext'.v, runStep, minI, mxI, hg, hlo, hx, hy, hr, hi', hek, hlt, hlt', below hid, below hxl, below hyl, hidx, w3, hmx]

theorem rst_round (S : St) (id x y y4 g lo : Nat) (es : List Ext') (X e : Ext') (t : Typ) (k i : Nat) (lab : List UInt8) (tag : Int) (hg : S.get id = some (.cells 4 (es.map Ext'.v) g lo)) (hlo : lo ≤ g) (hy : S.get y = some (.cells 4 [t.v] 0 0)) (hx : S.get x = some (.cells 4 [X.v] 0 0)) (hidx : id ≠ x) (hxy : x ≠ y) (hy4 : y4 < S.top)
    (hr : (t.parts.map partV ++ t.spare)[i]? = some [.str lab, .int .i64 tag, .int .i64 k]) (hi : i < t.parts.length) (hlen : t.parts.length ≤ 1073741824) (he : es[k]? = some e) :
    loopL (some [1, 2, 4, 12, 13]) (S.top, S.pin) (kC (ev Q) loopL b34x3) ⟨195, [(1, .sl id g 4 0 es.length), (2, .ptr y 0 4 0 0), (4, .ptr y4 0 4 0 0), (12, .ptr x 0 4 0 0), (13, .int .i64 i)]⟩ S =
    loopL (some [1, 2, 4, 12, 13]) (S.top, S.pin) (kC (ev Q) loopL b34x3) ⟨195, [(1, .sl id g 4 0 es.length), (2, .ptr y 0 4 0 0), (4, .ptr y4 0 4 0 0), (12, .ptr x 0 4 0 0), (13, .int .i64 (i + 1 : Nat))]⟩ (S.put x (.cells 4 [(rstStep X e).v] 0 0)) := by
  have hid := get_lt _ _ hg
  have hxl := get_lt _ _ hx
  have hyl := get_lt _ _ hy
  have hlt : k < es.length := (List.getElem?_eq_some_iff.1 he).1
  have hlt' : (k : Int) < es.length := by omega
  have hek : es[k] = e := by rw [List.getElem?_eq_getElem hlt] at he; exact Option.some.inj he
  have hi' : (i : Int) < t.parts.length := by omega
  have w3 : IntKind.i64.wrap ((i : Int) + 1) = (i : Int) + 1 := wrap64 (by omega) (by omega)
  have hmx : max id (max y (max y4 x)) + 1 ≤ S.top := by omega
  have h1 := fun S => rpart_ev e S
  have h2 := fun a b S => rplus10_ev a b S
  obtain ⟨f, l, m, d⟩ := X
  simp only [rstStep]
  obtain ⟨f', l', m', d'⟩ := e
  simp only [Ext'.v] at h1
  rw [loopL_eq]
  generalize loopL (some [1, 2, 4, 12, 13]) (S.top, S.pin) (kC (ev Q) loopL b34x3) = F
  cases f with
  | true => simp [kC, b34x3, Typ.v, Ext'.v, mxI, hg, hlo, hx, hy, hr, hi', hek, hlt, hlt', below hid, below hxl, below hyl, hidx, hxy, w3, hmx, h1, h2]
  | false => simp [kC, b34x3, Typ.v, Ext'.v, mxI, hg, hlo, hx, hy, hr, hi', hek, hlt, hlt', below hid, below hxl, below hyl, hidx, hxy, w3, hmx, h1, h2]

theorem runi_loop (id x y y4 g lo : Nat) (es : List Ext') (t : Typ) (hlo : lo ≤ g) (hidx : id ≠ x) (hxy : x ≠ y) (hlen : t.parts.length ≤ 1073741824) (hb : below_ t es.length) : ∀ (m i : Nat) (S : St) (X : Ext'), i + m = t.parts.length →
    S.get id = some (.cells 4 (es.map Ext'.v) g lo) → S.get y = some (.cells 4 [t.v] 0 0) → S.get x = some (.cells 4 [X.v] 0 0) → y4 < S.top →
    ∃ l, loopL (some [1, 2, 4, 9, 10]) (S.top, S.pin) (kC (ev Q) loopL b34x1) ⟨195, [(1, .sl id g 4 0 es.length), (2, .ptr y 0 4 0 0), (4, .ptr y4 0 4 0 0), (9, .ptr x 0 4 0 0), (10, .int .i64 i)]⟩ S =
      some (.exit 1, ⟨195, l⟩, S.put x (.cells 4 [(((t.parts.drop i).map (partE es)).foldl runStep X).v] 0 0)) ∧ look 4 l = .ptr y4 0 4 0 0 ∧ look 9 l = .ptr x 0 4 0 0 := by
  intro m
  induction m with
  | zero =>
    intro i S X hi hg hy hx hy4
    have h1 : ¬ ((i : Int) < t.parts.length) := by omega
    rw [List.drop_of_length_le (by omega)]
    simp only [List.map_nil, List.foldl_nil]
    rw [put_self S _ hx, loopL_eq]
    simp [kC, b34x1, h1, hy, Typ.v]
  | succ m ih =>
    intro i S X hi hg hy hx hy4
    have hil : i < t.parts.length := by omega
    obtain ⟨h1, h2⟩ := part_get hb (List.getElem?_eq_getElem hil)
    have hxl := get_lt _ _ hx
    rw [run_round S id x y y4 g lo es X _ t _ i _ _ hg hlo hy hx hidx hy4 h1 hil hlen h2]
    obtain ⟨l, h3, h4⟩ := ih (i + 1) (S.put x (.cells 4 [(runStep X (partE es t.parts[i])).v] 0 0)) (runStep X (partE es t.parts[i])) (by omega)
      (by rw [put_get_if, if_neg (fun h => hidx h.1.symm)]; exact hg) (by rw [put_get_if, if_neg (fun h => hxy h.1)]; exact hy) (by rw [put_get_if, if_pos ⟨rfl, hxl⟩]) (by simpa using hy4)
    simp only [top_put, pin_put, put_put] at h3
    refine ⟨l, ?_, h4⟩
    rw [h3, List.drop_eq_getElem_cons hil]
    rfl
theorem rst_loop (id x y y4 g lo : Nat) (es : List Ext') (t : Typ) (hlo : lo ≤ g) (hidx : id ≠ x) (hxy : x ≠ y) (hlen : t.parts.length ≤ 1073741824) (hb : below_ t es.length) : ∀ (m i : Nat) (S : St) (X : Ext'), i + m = t.parts.length →
    S.get id = some (.cells 4 (es.map Ext'.v) g lo) → S.get y = some (.cells 4 [t.v] 0 0) → S.get x = some (.cells 4 [X.v] 0 0) → y4 < S.top →
    ∃ l, loopL (some [1, 2, 4, 12, 13]) (S.top, S.pin) (kC (ev Q) loopL b34x3) ⟨195, [(1, .sl id g 4 0 es.length), (2, .ptr y 0 4 0 0), (4, .ptr y4 0 4 0 0), (12, .ptr x 0 4 0 0), (13, .int .i64 i)]⟩ S =
      some (.exit 3, ⟨195, l⟩, S.put x (.cells 4 [(((t.parts.drop i).map (partE es)).foldl rstStep X).v] 0 0)) ∧ look 4 l = .ptr y4 0 4 0 0 ∧ look 12 l = .ptr x 0 4 0 0 := by
  intro m
  induction m with
  | zero =>
    intro i S X hi hg hy hx hy4
    have h1 : ¬ ((i : Int) < t.parts.length) := by omega
    rw [List.drop_of_length_le (by omega)]
    simp only [List.map_nil, List.foldl_nil]
    rw [put_self S _ hx, loopL_eq]
    simp [kC, b34x3, h1, hy, Typ.v]
  | succ m ih =>
    intro i S X hi hg hy hx hy4
    have hil : i < t.parts.length := by omega
    obtain ⟨h1, h2⟩ := part_get hb (List.getElem?_eq_getElem hil)
    have hxl := get_lt _ _ hx
    rw [rst_round S id x y y4 g lo es X _ t _ i _ _ hg hlo hy hx hidx hxy hy4 h1 hil hlen h2]
    obtain ⟨l, h3, h4⟩ := ih (i + 1) (S.put x (.cells 4 [(rstStep X (partE es t.parts[i])).v] 0 0)) (rstStep X (partE es t.parts[i])) (by omega)
      (by rw [put_get_if, if_neg (fun h => hidx h.1.symm)]; exact hg) (by rw [put_get_if, if_neg (fun h => hxy h.1)]; exact hy) (by rw [put_get_if, if_pos ⟨rfl, hxl⟩]) (by simpa using hy4)
    simp only [top_put, pin_put, put_put] at h3
    refine ⟨l, ?_, h4⟩
    rw [h3, List.drop_eq_getElem_cons hil]
    rfl

/-- a union's, a struct's, as the document says -/
def runionN (es : List Ext') (t : Typ) : Ext' :=
  let X := ((t.parts.drop 1).map (partE es)).foldl runStep ((t.parts.map (partE es)).headD default)
  ⟨false, plusN 1 X.least, plusN 1 X.most, IntKind.i64.wrap (1 + X.depth)⟩
def rstructN (es : List Ext') (t : Typ) : Ext' :=
  let X := (t.parts.map (partE es)).foldl rstStep ⟨true, 0, 0, 0⟩
  ⟨X.fixed, X.least, X.most, IntKind.i64.wrap (X.depth + 1)⟩

theorem rone8 (S : St) (t : Typ) (es : List Ext') (id g lo : Nat) (hg : S.get id = some (.cells 4 (es.map Ext'.v) g lo)) (hlo : lo ≤ g) (hlen : t.parts.length ≤ 1073741824) (hb : below_ t es.length) (h : t.kind = 8) :
    ev Q 34 [.agg t.v, .sl id g 4 0 es.length] S = some (.ret (.agg (rstructN es t).v), S) := by
  have hid := get_lt _ _ hg
  obtain ⟨l, h1, h2, h3⟩ := rst_loop id (S.top + 2) S.top (S.top + 1) g lo es t hlo (by omega) (by omega) hlen hb t.parts.length 0
    (((S.push (.cells 4 [t.v] 0 0)).push (.cells 4 [[.bool false, .int .i64 0, .int .i64 0, .int .i64 0]] 0 0)).push (.cells 4 [[.bool true, .int .i64 0, .int .i64 0, .int .i64 0]] 0 0)) ⟨true, 0, 0, 0⟩ (by omega) (by simp [below hid, hg]) (by simp) (by simp [Ext'.v]) (by simp)
  rw [ev_eq q34, c34, evFn_eq _ _ _ _ _ _ _ (by simp)]
  simp [Typ.v, h] at h1
  simp only [rstructN]
  generalize (t.parts.map (partE es)).foldl rstStep ⟨true, 0, 0, 0⟩ = X at *
  obtain ⟨x1, x2, x3, x4⟩ := X
  simp [Ext'.v] at h1
  simp [Typ.v, Ext'.v, h, h1, h2, h3, below hid]

theorem rone7 (S : St) (t : Typ) (es : List Ext') (id g lo : Nat) (hg : S.get id = some (.cells 4 (es.map Ext'.v) g lo)) (hlo : lo ≤ g) (hlen : t.parts.length ≤ 1073741824) (hb : below_ t es.length) (hp : 1 ≤ t.parts.length) (h : t.kind = 7) :
    ev Q 34 [.agg t.v, .sl id g 4 0 es.length] S = some (.ret (.agg (runionN es t).v), S) := by
  have hid := get_lt _ _ hg
  obtain ⟨p0, ps, hps⟩ : ∃ p0 ps, t.parts = p0 :: ps := by
    cases hq : t.parts with
    | nil => rw [hq] at hp; simp at hp
    | cons a r => exact ⟨a, r, rfl⟩
  obtain ⟨hr0, he0⟩ := part_get hb (show t.parts[0]? = some p0 by rw [hps]; rfl)
  have hlt := (List.getElem?_eq_some_iff.1 he0).1
  have hlt' : ((p0.2.2.toNat : Nat) : Int) < es.length := by omega
  have hek : es[p0.2.2.toNat] = partE es p0 := by rw [List.getElem?_eq_getElem hlt] at he0; exact Option.some.inj he0
  have hp' : (0 : Int) < t.parts.length := by omega
  have hpl := fun a b S => rplus10_ev a b S
  obtain ⟨l, h1, h2, h3⟩ := runi_loop id (S.top + 2) S.top (S.top + 1) g lo es t hlo (by omega) (by omega) hlen hb (t.parts.length - 1) 1
    (((S.push (.cells 4 [t.v] 0 0)).push (.cells 4 [[.bool false, .int .i64 0, .int .i64 0, .int .i64 0]] 0 0)).push (.cells 4 [(partE es p0).v] 0 0)) (partE es p0) (by omega) (by simp [below hid, hg]) (by simp) (by simp) (by simp)
  have hhd : (t.parts.map (partE es)).headD default = partE es p0 := by rw [hps]; rfl
  rw [ev_eq q34, c34, evFn_eq _ _ _ _ _ _ _ (by simp)]
  simp only [runionN]
  rw [hhd]
  generalize ((t.parts.drop 1).map (partE es)).foldl runStep (partE es p0) = X at *
  obtain ⟨x1, x2, x3, x4⟩ := X
  generalize partE es p0 = Y at *
  obtain ⟨y1, y2, y3, y4⟩ := Y
  generalize hRW : t.parts.map partV ++ t.spare = rows at *
  generalize hL : t.parts.length = pl at *
  have hp'' : 0 < pl := by omega
  have hnn : (0 : Int) ≤ p0.2.2 ∨ True := Or.inr trivial
  generalize hq : p0.2.2.toNat = q at *
  simp [Typ.v, h, Ext'.v, hRW, hL] at h1
  simp [Typ.v, Ext'.v, h, hr0, hp', hp'', hg, hlo, hlt, hlt', hek, h1, h2, h3, hpl, hRW, hL, below hid]
end Mev

/- The plain law: the document's extents are the program's. -/

set_option maxRecDepth 100000
namespace Mev
open Go Go.Proofs

/-- an extent is in its bounds -/
structure EOK (e : Ext') (d : Int) : Prop where
  l0 : 0 ≤ e.least
  l1 : e.least ≤ 4611686018427387904
  m0 : 0 ≤ e.most
  m1 : e.most ≤ 4611686018427387904
  d0 : 1 ≤ e.depth
  d1 : e.depth ≤ d
  fx : e.fixed = true → e.least = e.most

theorem plus_bd (a b : Int) : 0 ≤ plusN a b ∧ plusN a b ≤ 4611686018427387904 := by
  rw [plusN_eq]; have := sized_bd a; have := sized_bd b; omega
theorem timesI_bd (a b : Int) : 0 ≤ timesI a b ∧ timesI a b ≤ 4611686018427387904 := by
  unfold timesI
  have ha := sized_bd a
  have hb := sized_bd b
  have := Int.mul_nonneg ha.1 hb.1
  omega
theorem within_bd {e : Ext'} {d : Int} (h : EOK e d) : (0 ≤ withinN e e.least ∧ withinN e e.least ≤ 4611686018427387904) ∧ (0 ≤ withinN e e.most ∧ withinN e e.most ≤ 4611686018427387904) := by
  unfold withinN
  split
  · exact ⟨⟨h.l0, h.l1⟩, h.m0, h.m1⟩
  · exact ⟨plus_bd _ _, plus_bd _ _⟩

theorem struct_fold (d : Int) (hd : d ≤ 1073741824) : ∀ (l : List Ext') (X Y : Ext'), (∀ e ∈ l, EOK e d) → X.fixed = Y.fixed → X.least = Y.least → X.most = Y.most → X.depth = Y.depth + 1 → 0 ≤ Y.depth → Y.depth ≤ d → (X.fixed = true → X.least = X.most) → 0 ≤ X.least → X.least ≤ 4611686018427387904 → 0 ≤ X.most → X.most ≤ 4611686018427387904 →
    let P := l.foldl structStep X
    let R := l.foldl rstStep Y
    P.fixed = R.fixed ∧ P.least = R.least ∧ P.most = R.most ∧ P.depth = R.depth + 1 ∧ 0 ≤ R.depth ∧ R.depth ≤ d ∧ (P.fixed = true → P.least = P.most) ∧ 0 ≤ P.least ∧ P.least ≤ 4611686018427387904 ∧ 0 ≤ P.most ∧ P.most ≤ 4611686018427387904 := by
  intro l
  induction l with
  | nil => intro X Y _ h1 h2 h3 h4 h5 h6 h7 h8 h9 h10 h11; exact ⟨h1, h2, h3, h4, h5, h6, h7, h8, h9, h10, h11⟩
  | cons e l ih =>
    intro X Y he h1 h2 h3 h4 h5 h6 h7 h8 h9 h10 h11
    have hee := he e List.mem_cons_self
    have hw : IntKind.i64.wrap (1 + e.depth) = 1 + e.depth := wrap64 (by have := hee.d0; omega) (by have := hee.d1; omega)
    have hd0 := hee.d0
    have hd1 := hee.d1
    obtain ⟨x1, x2, x3, x4⟩ := X
    obtain ⟨y1, y2, y3, y4⟩ := Y
    simp only at h1 h2 h3 h4 h5 h6 h7 h8 h9 h10 h11
    subst h1 h2 h3 h4
    have hmx : 0 ≤ mxI y4 e.depth ∧ mxI y4 e.depth ≤ d := by unfold mxI; split <;> omega
    refine ih _ _ (fun a ha => he a (List.mem_cons_of_mem _ ha)) rfl rfl rfl ?_ hmx.1 hmx.2 ?_ (plus_bd _ _).1 (plus_bd _ _).2 (plus_bd _ _).1 (plus_bd _ _).2
    · show max (y4 + 1) (IntKind.i64.wrap (1 + e.depth)) = mxI y4 e.depth + 1
      rw [hw]; unfold mxI; split <;> omega
    · intro hf
      simp only [structStep, Bool.and_eq_true] at hf ⊢
      have h1 := h7 hf.1
      have h2 := hee.fx hf.2
      simp only [withinN, hf.2, if_true]
      rw [h1, h2]

theorem plus1_mono (a b : Int) : plusN 1 (mxI a b) = max (plusN 1 a) (plusN 1 b) := by
  rw [plusN_eq, plusN_eq, plusN_eq]
  unfold mxI sizedN
  split <;> omega

theorem union_fold (d : Int) (hd : d ≤ 1073741824) : ∀ (l : List Ext') (X : Int × Ext') (Y : Ext'), (∀ e ∈ l, EOK e d) → X.1 = Y.least → X.2.most = plusN 1 Y.most → X.2.depth = 1 + Y.depth → 1 ≤ Y.depth → Y.depth ≤ d → 0 ≤ Y.least → Y.least ≤ 4611686018427387904 → 0 ≤ Y.most → Y.most ≤ 4611686018427387904 →
    let P := l.foldl unionStep X
    let R := l.foldl runStep Y
    P.1 = R.least ∧ P.2.most = plusN 1 R.most ∧ P.2.depth = 1 + R.depth ∧ P.2.fixed = X.2.fixed ∧ 1 ≤ R.depth ∧ R.depth ≤ d := by
  intro l
  induction l with
  | nil => intro X Y _ h1 h2 h3 h4 h5 h6 h7 h8 h9; exact ⟨h1, h2, h3, rfl, h4, h5⟩
  | cons e l ih =>
    intro X Y he h1 h2 h3 h4 h5 h6 h7 h8 h9
    have hee := he e List.mem_cons_self
    have hd0 := hee.d0
    have hd1 := hee.d1
    have hw : IntKind.i64.wrap (1 + e.depth) = 1 + e.depth := wrap64 (by omega) (by omega)
    obtain ⟨x0, x1, x2, x3, x4⟩ := X
    obtain ⟨y1, y2, y3, y4⟩ := Y
    simp only at h1 h2 h3 h4 h5 h6 h7 h8 h9
    have hl0 := hee.l0
    have hl1 := hee.l1
    have hm0 := hee.m0
    have hm1 := hee.m1
    refine ih _ (runStep ⟨y1, y2, y3, y4⟩ e) (fun a ha => he a (List.mem_cons_of_mem _ ha)) ?_ ?_ ?_ ?_ ?_ ?_ ?_ ?_ ?_
    · show min x0 e.least = minI y2 e.least
      rw [h1]; unfold minI; split <;> omega
    · show max x3 (plusN 1 e.most) = plusN 1 (mxI y3 e.most)
      rw [plus1_mono, h2]
    · show max x4 (IntKind.i64.wrap (1 + e.depth)) = 1 + mxI y4 e.depth
      rw [hw, h3]; unfold mxI; split <;> omega
    · show 1 ≤ mxI y4 e.depth
      unfold mxI; split <;> omega
    · show mxI y4 e.depth ≤ d
      unfold mxI; split <;> omega
    · show 0 ≤ minI y2 e.least
      unfold minI; split <;> omega
    · show minI y2 e.least ≤ _
      unfold minI; split <;> omega
    · show 0 ≤ mxI y3 e.most
      unfold mxI; split <;> omega
    · show mxI y3 e.most ≤ _
      unfold mxI; split <;> omega

/-- a type's extent, as the document says -/
def roneN (es : List Ext') (t : Typ) : Ext' :=
  let e := es.getD t.elem.toNat default
  if t.kind = 1 then ⟨true, t.n, t.n, 1⟩ else if t.kind = 2 then ⟨true, 1, 1, 1⟩ else if t.kind = 3 then ⟨false, 1, 10, 1⟩
  else if t.kind = 4 then ⟨e.fixed, timesI t.n (withinN e e.least), timesI t.n (withinN e e.most), IntKind.i64.wrap (1 + e.depth)⟩
  else if t.kind = 5 then ⟨false, 0, timesI t.n (withinN e e.most), IntKind.i64.wrap (1 + e.depth)⟩
  else if t.kind = 6 then ⟨false, 1, plusN 1 e.most, IntKind.i64.wrap (1 + e.depth)⟩
  else if t.kind = 7 then runionN es t else rstructN es t

theorem ext_eq {es : List Ext'} {t : Typ} {i : Nat} (hi : es.length = i) (hil : i ≤ 1048576) (hE : ∀ (j : Nat) e, es[j]? = some e → EOK e i) (hw : WfT t i) : roneN es t = extN es t ∧ EOK (extN es t) (i + 1 : Nat) := by
  have hparts : ∀ e ∈ t.parts.map (partE es), EOK e i := by
    intro e he
    obtain ⟨p, hp, rfl⟩ := List.mem_map.1 he
    have := hw.fine.2 p hp
    exact hE p.2.2.toNat _ (getD_some (by omega) default)
  have hel : t.kind = 4 ∨ t.kind = 5 ∨ t.kind = 6 → EOK (es.getD t.elem.toNat default) i := fun h => by
    have := hw.elem h
    exact hE _ _ (getD_some (by omega) default)
  have hnum := hw.num
  unfold numberB at hnum
  have hi0 : (i : Int) ≤ 1073741824 := by omega
  rcases hw.kind with h | h | h | h | h | h | h | h
  · rw [h] at hnum
    simp at hnum
    simp only [roneN, extN, h, if_true]
    refine ⟨trivial, ⟨?_, ?_, ?_, ?_, ?_, ?_, fun _ => rfl⟩⟩ <;> simp <;> omega
  · simp [roneN, extN, h]
    constructor <;> simp <;> omega
  · simp [roneN, extN, h]
    constructor <;> simp <;> omega
  · have he := hel (Or.inl h)
    have hwd := within_bd he
    have hd0 := he.d0
    have hd1 := he.d1
    have hwr : IntKind.i64.wrap (1 + (es.getD t.elem.toNat default).depth) = 1 + (es.getD t.elem.toNat default).depth := wrap64 (by omega) (by omega)
    simp only [roneN, extN, h, times_eq]
    generalize es.getD t.elem.toNat default = z at *
    simp only [Int.reduceEq, if_false, if_true]
    refine ⟨by first | trivial | rfl, ?_⟩
    rw [hwr]
    refine ⟨(timesI_bd _ _).1, (timesI_bd _ _).2, (timesI_bd _ _).1, (timesI_bd _ _).2, by simp; omega, by simp; omega, fun hf => ?_⟩
    simp only [withinN]
    simp only at hf
    rw [hf]
    simp only [if_true, he.fx hf]
  · have he := hel (Or.inr (Or.inl h))
    have hd0 := he.d0
    have hd1 := he.d1
    have hwr : IntKind.i64.wrap (1 + (es.getD t.elem.toNat default).depth) = 1 + (es.getD t.elem.toNat default).depth := wrap64 (by omega) (by omega)
    simp only [roneN, extN, h, times_eq]
    generalize es.getD t.elem.toNat default = z at *
    simp only [Int.reduceEq, if_false, if_true]
    refine ⟨by first | trivial | rfl, ?_⟩
    rw [hwr]
    exact ⟨by simp, by simp, (timesI_bd _ _).1, (timesI_bd _ _).2, by simp; omega, by simp; omega, fun hf => by cases hf⟩
  · have he := hel (Or.inr (Or.inr h))
    have hd0 := he.d0
    have hd1 := he.d1
    have hwr : IntKind.i64.wrap (1 + (es.getD t.elem.toNat default).depth) = 1 + (es.getD t.elem.toNat default).depth := wrap64 (by omega) (by omega)
    simp only [roneN, extN, h]
    generalize es.getD t.elem.toNat default = z at *
    simp only [Int.reduceEq, if_false, if_true]
    refine ⟨by first | trivial | rfl, ?_⟩
    rw [hwr]
    exact ⟨by simp, by simp, (plus_bd _ _).1, (plus_bd _ _).2, by simp; omega, by simp; omega, fun hf => by cases hf⟩
  · have hp := hw.parts (Or.inl h)
    obtain ⟨p0, ps, hps⟩ : ∃ p0 ps, t.parts = p0 :: ps := by
      cases hq : t.parts with
      | nil => rw [hq] at hp; simp at hp
      | cons a r => exact ⟨a, r, rfl⟩
    have hhd : (t.parts.map (partE es)).headD default = partE es p0 := by rw [hps]; rfl
    have hdr : t.parts.drop 1 = ps := by rw [hps]; rfl
    have h0 := hparts (partE es p0) (by rw [hps]; simp)
    have hd0 := h0.d0
    have hd1 := h0.d1
    have hl0 := h0.l0
    have hl1 := h0.l1
    have hm0 := h0.m0
    have hm1 := h0.m1
    have hwr : IntKind.i64.wrap (1 + (partE es p0).depth) = 1 + (partE es p0).depth := wrap64 (by omega) (by omega)
    have hpb := plus_bd 1 (partE es p0).most
    have hf := union_fold i hi0 (ps.map (partE es)) (unionStep (4611686018427387904, ⟨false, 0, 0, 1⟩) (partE es p0)) (partE es p0) (fun e he => hparts e (by rw [hps]; exact List.mem_cons_of_mem _ he))
      (by show min 4611686018427387904 (partE es p0).least = _; omega) (by show max 0 (plusN 1 (partE es p0).most) = _; omega) (by show max 1 (IntKind.i64.wrap (1 + (partE es p0).depth)) = _; rw [hwr]; omega) hd0 hd1 hl0 hl1 hm0 hm1
    have hu : unionN es t = (let r := (ps.map (partE es)).foldl unionStep (unionStep (4611686018427387904, ⟨false, 0, 0, 1⟩) (partE es p0)); ⟨r.2.fixed, plusN 1 r.1, r.2.most, r.2.depth⟩) := by
      unfold unionN; rw [hps]; rfl
    simp only [roneN, extN, h]
    simp only [Int.reduceEq, if_false, if_true]
    rw [hu]
    simp only [runionN]
    rw [hhd, hdr]
    simp only at hf
    generalize (ps.map (partE es)).foldl unionStep (unionStep (4611686018427387904, ⟨false, 0, 0, 1⟩) (partE es p0)) = P at *
    generalize (ps.map (partE es)).foldl runStep (partE es p0) = R at *
    obtain ⟨f1, f2, f3, f4, f5, f6⟩ := hf
    have hwR : IntKind.i64.wrap (1 + R.depth) = 1 + R.depth := wrap64 (by omega) (by omega)
    rw [f1, f2, f3, f4, hwR]
    refine ⟨rfl, (plus_bd _ _).1, (plus_bd _ _).2, (plus_bd _ _).1, (plus_bd _ _).2, by simp; omega, by simp; omega, fun hf => by cases hf⟩
  · have hf := struct_fold i hi0 (t.parts.map (partE es)) ⟨true, 0, 0, 1⟩ ⟨true, 0, 0, 0⟩ hparts rfl rfl rfl rfl (by simp) (by simp) (fun _ => rfl) (by simp) (by simp) (by simp) (by simp)
    simp only [roneN, extN, h]
    simp only [Int.reduceEq, if_false, if_true]
    simp only [rstructN, structN]
    simp only at hf
    generalize (t.parts.map (partE es)).foldl structStep ⟨true, 0, 0, 1⟩ = P at *
    generalize (t.parts.map (partE es)).foldl rstStep ⟨true, 0, 0, 0⟩ = R at *
    obtain ⟨f1, f2, f3, f4, f5, f6, f7, f8, f9, f10, f11⟩ := hf
    have hwR : IntKind.i64.wrap (R.depth + 1) = R.depth + 1 := wrap64 (by omega) (by omega)
    rw [hwR]
    refine ⟨?_, f8, f9, f10, f11, by omega, by omega, f7⟩
    obtain ⟨a, b, c, d⟩ := P
    simp only at f1 f2 f3 f4
    rw [← f1, ← f2, ← f3, ← f4]

/-- the document's extents are the program's -/
theorem scan_ext : ∀ (ts : List Typ) (es : List Ext'), (∀ (i : Nat) t, ts[i]? = some t → WfT t (es.length + i : Nat)) → es.length + ts.length ≤ 1048576 → (∀ (j : Nat) e, es[j]? = some e → EOK e es.length) →
    scan roneN es ts = scan extN es ts ∧ ∀ (j : Nat) e, (scan extN es ts)[j]? = some e → EOK e (es.length + ts.length : Nat) := by
  intro ts
  induction ts with
  | nil => intro es _ _ h; exact ⟨rfl, fun j e he => h j e he⟩
  | cons t ts ih =>
    intro es hw hl hE
    have h1 := ext_eq (t := t) rfl (by simp at hl; omega) hE (by have := hw 0 t rfl; simpa using this)
    have hE2 : ∀ (j : Nat) e, (es ++ [extN es t])[j]? = some e → EOK e (es ++ [extN es t]).length := by
      intro j e he
      have hlen : (es ++ [extN es t]).length = es.length + 1 := by simp
      rw [hlen]
      rcases Nat.lt_or_ge j es.length with hj | hj
      · rw [List.getElem?_append_left hj] at he
        have := hE j e he
        exact ⟨this.l0, this.l1, this.m0, this.m1, this.d0, by have := this.d1; omega, this.fx⟩
      · rw [List.getElem?_append_right hj] at he
        have hj0 : j - es.length = 0 := by have := (List.getElem?_eq_some_iff.1 he).1; simp at this; omega
        rw [hj0] at he
        simp at he
        subst he
        exact h1.2
    have hih := ih (es ++ [extN es t]) (fun i t' ht' => by have := hw (i + 1) t' ht'; rw [show (es ++ [extN es t]).length + i = es.length + (i + 1) by simp; omega]; exact this) (by simp at hl ⊢; omega) hE2
    rw [scan, scan, h1.1]
    refine ⟨hih.1, fun j e he => ?_⟩
    have := hih.2 j e he
    rw [show (es ++ [extN es t]).length + ts.length = es.length + (t :: ts).length by simp; omega] at this
    exact this
end Mev
