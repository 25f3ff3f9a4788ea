/- The document's answer, one equation each: the maker's instructions. -/
import Derived.Test.YtfndbddlicbjpaaMevW8
import Derived.Test.YtfndbddlicbjpaaMevGA
import Derived.Test.YtfndbddlicbjpaaMevW9

set_option maxRecDepth 100000
namespace Mev
open Go Go.Proofs

def mkRow (K : Kn) (c g n : Nat) (en : V) : List V := [tsV K.ts K.sp, K.rv, .rs 4 (K.es.map Ext'.v) K.es.length, .rs 2 (K.ls.map Lay'.v) K.ls.length, .bool true, .sl c g 4 0 n, en]
/-- the blocks with a maker and its code -/
def RM (S : St) (c r : Nat) (K : Kn) (en : V) (code : List Ins) (g : Nat) : St :=
  (S.put c (.cells 4 (code.map Ins.v) g 0)).put r (.cells 7 [mkRow K c g code.length en] 0 0)

section
variable (S : St) (c r : Nat) (K : Kn) (en : V) (code : List Ins) (g : Nat)
theorem RM_top : (RM S c r K en code g).top = S.top := by simp [RM]
theorem RM_pin : (RM S c r K en code g).pin = S.pin := by simp [RM]
theorem RM_push (b : Blk) (hc : c < S.top) (hr : r < S.top) : (RM S c r K en code g).push b = RM (S.push b) c r K en code g := by
  unfold RM
  rw [push_put _ _ _ _ hc, push_put _ _ _ _ (by simpa using hr)]
theorem RM_trunc (k : Nat) : (RM S c r K en code g).trunc k = RM (S.trunc k) c r K en code g := by simp [RM]
theorem RM_put (i : Nat) (b : Blk) (hc : i ≠ c) (hr : i ≠ r) : (RM S c r K en code g).put i b = RM (S.put i b) c r K en code g := by
  unfold RM
  rw [put_comm (h := (fun h => hr h.symm)), put_comm (h := (fun h => hc h.symm))]
theorem RM_get_r (hcr : c < r) (hr : r < S.top) : (RM S c r K en code g).get r = some (.cells 7 [mkRow K c g code.length en] 0 0) := by
  rw [RM, put_get]; simpa using hr
theorem RM_get_c (hcr : c < r) (hr : r < S.top) : (RM S c r K en code g).get c = some (.cells 4 (code.map Ins.v) g 0) := by
  rw [RM, put_get_ne _ _ _ _ (by omega), put_get]; omega
theorem RM_get (j : Nat) (hc : c ≠ j) (hr : r ≠ j) : (RM S c r K en code g).get j = S.get j := by
  rw [RM, put_get_ne _ _ _ _ hr, put_get_ne _ _ _ _ hc]

theorem rlay (x : Ins) (hcr : c < r) (hr : r < S.top) (hb : code.length ≤ 1073741824) :
    ev Q 38 [.ptr r 0 7 0 0, .int .i64 x.op, .int .i64 x.a, .int .i64 x.b, .int .i64 x.c] (RM S c r K en code g) = some (.ret (.tup []), RM S c r K en (code ++ [x]) (g + 1)) := by
  have hct : c < S.top := by omega
  have hgr := RM_get_r S c r K en code g hcr hr
  have hgc := RM_get_c S c r K en code g hcr hr
  have htop := RM_top S c r K en code g
  have hpin := RM_pin S c r K en code g
  have hst : ((RM S c r K en code g).put c (.cells 4 (code.map Ins.v ++ [x.v]) (g + 1) 0)).put r (.cells 7 [mkRow K c (g + 1) (code.length + 1) en] 0 0) = RM S c r K en (code ++ [x]) (g + 1) := by
    unfold RM
    rw [put_comm (h := (by omega : r ≠ c)), put_put, put_put]
    simp
  have hby : (code.length + 1) * 32 ≤ 140737488355328 := by omega
  have hln : (code.map Ins.v).length = code.length := by simp
  generalize RM S c r K en code g = A at *
  generalize RM S c r K en (code ++ [x]) (g + 1) = B at *
  generalize code.map Ins.v = CV at *
  generalize code.length = n at *
  simp only [mkRow, Ins.v] at hgr hst
  generalize tsV K.ts K.sp = v0 at *
  generalize V.rs 4 (K.es.map Ext'.v) K.es.length = v2 at *
  generalize V.rs 2 (K.ls.map Lay'.v) K.ls.length = v3 at *
  obtain ⟨x1, x2, x3, x4⟩ := x
  have hbt : S.top ≤ A.top := by omega
  have hBt : B.top = S.top := by rw [← hst]; simp [htop]
  have hBp : B.pin = S.pin := by rw [← hst]; simp [hpin]
  have hcA : c < A.top := by omega
  have hrA : r < A.top := by omega
  rw [ev_eq q38, c38, evFn_eq _ _ _ _ _ _ _ (by simp)]
  have htr : A.trunc S.top = A := by rw [← htop, trunc_top]
  simp [hgr, hgc, htop, hpin, below hct, below hr, below hcr, hby, hln, htr]
  exact hst
end

def ritemI (K : Kn) (t : Nat) : Ins :=
  let y := K.ts.getD t ⟨0, 0, 0, [], []⟩
  if y.kind = 1 then ⟨33, -1, y.n, 0⟩ else if y.kind = 2 then ⟨35, -1, 0, 0⟩ else ⟨45, (K.es.getD t default).least, 0, t⟩

theorem rat (S : St) (c r : Nat) (K : Kn) (en : V) (code : List Ins) (g t : Nat) (p : Int) (hcr : c < r) (hr : r < S.top) (hb : code.length ≤ 1073741824) (ht : t < K.ts.length) :
    ev Q 40 [.ptr r 0 7 0 0, .int .i64 t, .int .i64 p] (RM S c r K en code g) = some (.ret (.tup []), RM S c r K en (code ++ [fixI K t p]) (g + 1)) := by
  have hc : c < S.top := by omega
  have hrow : (K.ts.map Typ.v ++ K.sp)[t]? = some (K.ts.getD t ⟨0, 0, 0, [], []⟩).v := by
    rw [List.getElem?_append_left (by simpa using ht), List.getElem?_map, getD_some ht]; rfl
  have ht' : (t : Int) < K.ts.length := by omega
  unfold fixI
  generalize K.ts.getD t ⟨0, 0, 0, [], []⟩ = y at hrow ⊢
  have hl := fun op a x y => rlay S c r K en code g ⟨op, a, x, y⟩ hcr hr hb
  rw [ev_eq q40, c40, evFn_eq _ _ _ _ _ _ _ (by simp)]
  have hg := RM_get_r S c r K en code g hcr hr
  simp only [Typ.v] at hrow
  simp only [mkRow, tsV] at hg
  by_cases k1 : y.kind = 1
  · simp [hg, RM_top, RM_pin, RM_trunc, ht', hrow, k1, hl]
  · by_cases k2 : y.kind = 2
    · simp [hg, RM_top, RM_pin, RM_trunc, ht', hrow, k1, k2, hl]
    · simp [hg, RM_top, RM_pin, RM_trunc, ht', hrow, k1, k2, hl]

theorem ritem (S : St) (c r : Nat) (K : Kn) (en : V) (code : List Ins) (g t : Nat) (hcr : c < r) (hr : r < S.top) (hb : code.length ≤ 1073741824) (ht : t < K.ts.length) (he : t < K.es.length) :
    ev Q 60 [.ptr r 0 7 0 0, .int .i64 t] (RM S c r K en code g) = some (.ret (.tup []), RM S c r K en (code ++ [ritemI K t]) (g + 1)) := by
  have hc : c < S.top := by omega
  have hrow : (K.ts.map Typ.v ++ K.sp)[t]? = some (K.ts.getD t ⟨0, 0, 0, [], []⟩).v := by
    rw [List.getElem?_append_left (by simpa using ht), List.getElem?_map, getD_some ht]; rfl
  have hex : (K.es.map Ext'.v)[t]? = some (K.es.getD t default).v := by
    rw [List.getElem?_map, getD_some he]; rfl
  have ht' : (t : Int) < K.ts.length := by omega
  have he' : (t : Int) < K.es.length := by omega
  unfold ritemI
  generalize K.ts.getD t ⟨0, 0, 0, [], []⟩ = y at hrow ⊢
  generalize K.es.getD t default = z at hex ⊢
  have hl := fun op a x y => rlay S c r K en code g ⟨op, a, x, y⟩ hcr hr hb
  rw [ev_eq q60, c60, evFn_eq _ _ _ _ _ _ _ (by simp)]
  have hg := RM_get_r S c r K en code g hcr hr
  simp only [mkRow, tsV] at hg
  generalize hE : K.es.map Ext'.v = E at hg hex
  simp only [Typ.v, Ext'.v] at hrow hex
  by_cases k1 : y.kind = 1
  · simp [hg, RM_top, RM_pin, RM_trunc, ht', hrow, k1, hl]
  · by_cases k2 : y.kind = 2
    · simp [hg, RM_top, RM_pin, RM_trunc, ht', hrow, k1, k2, hl]
    · simp [hg, RM_top, RM_pin, RM_trunc, ht', he', hrow, hex, k1, k2, hl]

/-- a vector's or list's routine -/
def rrowI (K : Kn) (y : Typ) (code : List Ins) : List Ins :=
  let t := y.elem.toNat
  let n : Int := code.length
  code ++ ((if y.kind = 4 then ⟨37, y.n, 0, 0⟩ else ⟨38, y.n, 0, 0⟩) ::
    (match (K.es.getD t default).fixed, decide (y.kind = 5) with
      | false, true => [⟨42, -1, 0, 0⟩, ⟨19, 0, n + 5, 0⟩, ⟨43, -1, 0, 0⟩, ⟨46, 0, 0, t⟩, ⟨47, 0, n + 3, 0⟩, ⟨20, 0, 0, 0⟩]
      | false, false => [⟨42, -1, 0, 0⟩, ⟨43, -1, 0, 0⟩, ⟨46, 0, 0, t⟩, ⟨47, 0, n + 2, 0⟩, ⟨20, 0, 0, 0⟩]
      | true, true => [⟨19, 0, n + 3, 0⟩, ritemI K t, ⟨47, 0, n + 2, 0⟩, ⟨20, 0, 0, 0⟩]
      | true, false => [ritemI K t, ⟨47, 0, n + 1, 0⟩, ⟨20, 0, 0, 0⟩]))

theorem rrow (S : St) (c r : Nat) (K : Kn) (en : V) (code : List Ins) (g : Nat) (y : Typ) (hcr : c < r) (hr : r < S.top) (hb : code.length ≤ 1073740000) (hk : y.kind = 4 ∨ y.kind = 5) (he0 : 0 ≤ y.elem) (ht : y.elem.toNat < K.ts.length) (he : y.elem.toNat < K.es.length) :
    ∃ g', ev Q 39 [.ptr r 0 7 0 0, .agg y.v] (RM S c r K en code g) = some (.ret (.tup []), RM S c r K en (rrowI K y code) g') := by
  have hc : c < S.top := by omega
  have hex : (K.es.map Ext'.v)[y.elem.toNat]? = some (K.es.getD y.elem.toNat default).v := by
    rw [List.getElem?_map, getD_some he]; rfl
  have he' : y.elem < K.es.length := by omega
  have hg := fun b k g => RM_get_r (S.push b) c r K en k g hcr (by simp; omega)
  have hp := fun b => RM_push S c r K en code g b hc hr
  have hl := fun b (k : List Ins) (hk : k.length ≤ 1073741824) g op a x y => rlay (S.push b) c r K en k g ⟨op, a, x, y⟩ hcr (by simp; omega) hk
  have hi := fun b (k : List Ins) (hk : k.length ≤ 1073741824) g => ritem (S.push b) c r K en k g y.elem.toNat hcr (by simp; omega) hk ht he
  have htn : ((y.elem.toNat : Nat) : Int) = y.elem := Int.toNat_of_nonneg he0
  rw [htn] at hi
  simp only [mkRow, tsV] at hg
  unfold rrowI
  simp only
  rw [htn]
  generalize hE : K.es.map Ext'.v = E at hg hex
  generalize ritemI K y.elem.toNat = it at hi ⊢
  obtain ⟨ex, hz⟩ : ∃ ex, K.es.getD y.elem.toNat default = ex := ⟨_, rfl⟩
  obtain ⟨fx, x1, x2, x3⟩ := ex
  rw [hz] at hex ⊢
  simp only [Ext'.v] at hex
  have w1 : IntKind.i64.wrap ((code.length : Int) + 2 + 1) = (code.length : Int) + 3 := by rw [wrap64 (by omega) (by omega)]; omega
  have w4 : IntKind.i64.wrap ((code.length : Int) + 3 + 2) = (code.length : Int) + 5 := by rw [wrap64 (by omega) (by omega)]; omega
  have w5 : IntKind.i64.wrap ((code.length : Int) + 1 + 1) = (code.length : Int) + 2 := by rw [wrap64 (by omega) (by omega)]; omega
  have w2 : IntKind.i64.wrap ((code.length : Int) + 2) = (code.length : Int) + 2 := wrap64 (by omega) (by omega)
  have w3 : IntKind.i64.wrap ((code.length : Int) + 3) = (code.length : Int) + 3 := wrap64 (by omega) (by omega)
  rcases hk with hk | hk
  · cases fx with
    | false =>
      have e0 := fun b => hl b (code) (by first | omega | (simp; omega)) (g)
      have e1 := fun b => hl b (code ++ [⟨37, y.n, 0, 0⟩]) (by first | omega | (simp; omega)) (g + 1)
      have e2 := fun b => hl b (code ++ [⟨37, y.n, 0, 0⟩] ++ [⟨42, -1, 0, 0⟩]) (by first | omega | (simp; omega)) (g + 1 + 1)
      have e3 := fun b => hl b (code ++ [⟨37, y.n, 0, 0⟩] ++ [⟨42, -1, 0, 0⟩] ++ [⟨43, -1, 0, 0⟩]) (by first | omega | (simp; omega)) (g + 1 + 1 + 1)
      have e4 := fun b => hl b (code ++ [⟨37, y.n, 0, 0⟩] ++ [⟨42, -1, 0, 0⟩] ++ [⟨43, -1, 0, 0⟩] ++ [⟨46, 0, 0, y.elem⟩]) (by first | omega | (simp; omega)) (g + 1 + 1 + 1 + 1)
      have e5 := fun b => hl b (code ++ [⟨37, y.n, 0, 0⟩] ++ [⟨42, -1, 0, 0⟩] ++ [⟨43, -1, 0, 0⟩] ++ [⟨46, 0, 0, y.elem⟩] ++ [⟨47, 0, (code.length : Int) + 2, 0⟩]) (by first | omega | (simp; omega)) (g + 1 + 1 + 1 + 1 + 1)
      have g1 := fun b => hg b (code ++ [⟨37, y.n, 0, 0⟩] ++ [⟨42, -1, 0, 0⟩]) (g + 1 + 1)
      refine ⟨g + 1 + 1 + 1 + 1 + 1 + 1, ?_⟩
      simp only [Typ.v, hk]
      rw [ev_eq q39, c39, evFn_eq _ _ _ _ _ _ _ (by simp)]
      simp at e0 e1 e2 e3 e4 e5 g1
      simp [hg, hp, hex, he', he0, e0, e1, e2, e3, e4, e5, g1, RM_top, RM_pin, RM_trunc, RM_get, below hr, below hc, w1, w2, w3, w4, w5]
    | true =>
      have e0 := fun b => hl b (code) (by first | omega | (simp; omega)) (g)
      have e1 := fun b => hi b (code ++ [⟨37, y.n, 0, 0⟩]) (by first | omega | (simp; omega)) (g + 1)
      have e2 := fun b => hl b (code ++ [⟨37, y.n, 0, 0⟩] ++ [it]) (by first | omega | (simp; omega)) (g + 1 + 1)
      have e3 := fun b => hl b (code ++ [⟨37, y.n, 0, 0⟩] ++ [it] ++ [⟨47, 0, (code.length : Int) + 1, 0⟩]) (by first | omega | (simp; omega)) (g + 1 + 1 + 1)
      have g0 := fun b => hg b (code ++ [⟨37, y.n, 0, 0⟩]) (g + 1)
      refine ⟨g + 1 + 1 + 1 + 1, ?_⟩
      simp only [Typ.v, hk]
      rw [ev_eq q39, c39, evFn_eq _ _ _ _ _ _ _ (by simp)]
      simp at e0 e1 e2 e3 g0
      simp [hg, hp, hex, he', he0, e0, e1, e2, e3, g0, RM_top, RM_pin, RM_trunc, RM_get, below hr, below hc, w1, w2, w3, w4, w5]
  · cases fx with
    | false =>
      have e0 := fun b => hl b (code) (by first | omega | (simp; omega)) (g)
      have e1 := fun b => hl b (code ++ [⟨38, y.n, 0, 0⟩]) (by first | omega | (simp; omega)) (g + 1)
      have e2 := fun b => hl b (code ++ [⟨38, y.n, 0, 0⟩] ++ [⟨42, -1, 0, 0⟩]) (by first | omega | (simp; omega)) (g + 1 + 1)
      have e3 := fun b => hl b (code ++ [⟨38, y.n, 0, 0⟩] ++ [⟨42, -1, 0, 0⟩] ++ [⟨19, 0, (code.length : Int) + 5, 0⟩]) (by first | omega | (simp; omega)) (g + 1 + 1 + 1)
      have e4 := fun b => hl b (code ++ [⟨38, y.n, 0, 0⟩] ++ [⟨42, -1, 0, 0⟩] ++ [⟨19, 0, (code.length : Int) + 5, 0⟩] ++ [⟨43, -1, 0, 0⟩]) (by first | omega | (simp; omega)) (g + 1 + 1 + 1 + 1)
      have e5 := fun b => hl b (code ++ [⟨38, y.n, 0, 0⟩] ++ [⟨42, -1, 0, 0⟩] ++ [⟨19, 0, (code.length : Int) + 5, 0⟩] ++ [⟨43, -1, 0, 0⟩] ++ [⟨46, 0, 0, y.elem⟩]) (by first | omega | (simp; omega)) (g + 1 + 1 + 1 + 1 + 1)
      have e6 := fun b => hl b (code ++ [⟨38, y.n, 0, 0⟩] ++ [⟨42, -1, 0, 0⟩] ++ [⟨19, 0, (code.length : Int) + 5, 0⟩] ++ [⟨43, -1, 0, 0⟩] ++ [⟨46, 0, 0, y.elem⟩] ++ [⟨47, 0, (code.length : Int) + 3, 0⟩]) (by first | omega | (simp; omega)) (g + 1 + 1 + 1 + 1 + 1 + 1)
      have g1 := fun b => hg b (code ++ [⟨38, y.n, 0, 0⟩] ++ [⟨42, -1, 0, 0⟩]) (g + 1 + 1)
      have g2 := fun b => hg b (code ++ [⟨38, y.n, 0, 0⟩] ++ [⟨42, -1, 0, 0⟩] ++ [⟨19, 0, (code.length : Int) + 5, 0⟩]) (g + 1 + 1 + 1)
      refine ⟨g + 1 + 1 + 1 + 1 + 1 + 1 + 1, ?_⟩
      simp only [Typ.v, hk]
      rw [ev_eq q39, c39, evFn_eq _ _ _ _ _ _ _ (by simp)]
      simp at e0 e1 e2 e3 e4 e5 e6 g1 g2
      simp [hg, hp, hex, he', he0, e0, e1, e2, e3, e4, e5, e6, g1, g2, RM_top, RM_pin, RM_trunc, RM_get, below hr, below hc, w1, w2, w3, w4, w5]
    | true =>
      have e0 := fun b => hl b (code) (by first | omega | (simp; omega)) (g)
      have e1 := fun b => hl b (code ++ [⟨38, y.n, 0, 0⟩]) (by first | omega | (simp; omega)) (g + 1)
      have e2 := fun b => hi b (code ++ [⟨38, y.n, 0, 0⟩] ++ [⟨19, 0, (code.length : Int) + 3, 0⟩]) (by first | omega | (simp; omega)) (g + 1 + 1)
      have e3 := fun b => hl b (code ++ [⟨38, y.n, 0, 0⟩] ++ [⟨19, 0, (code.length : Int) + 3, 0⟩] ++ [it]) (by first | omega | (simp; omega)) (g + 1 + 1 + 1)
      have e4 := fun b => hl b (code ++ [⟨38, y.n, 0, 0⟩] ++ [⟨19, 0, (code.length : Int) + 3, 0⟩] ++ [it] ++ [⟨47, 0, (code.length : Int) + 2, 0⟩]) (by first | omega | (simp; omega)) (g + 1 + 1 + 1 + 1)
      have g0 := fun b => hg b (code ++ [⟨38, y.n, 0, 0⟩]) (g + 1)
      have g1 := fun b => hg b (code ++ [⟨38, y.n, 0, 0⟩] ++ [⟨19, 0, (code.length : Int) + 3, 0⟩]) (g + 1 + 1)
      refine ⟨g + 1 + 1 + 1 + 1 + 1, ?_⟩
      simp only [Typ.v, hk]
      rw [ev_eq q39, c39, evFn_eq _ _ _ _ _ _ _ (by simp)]
      simp at e0 e1 e2 e3 e4 g0 g1
      simp [hg, hp, hex, he', he0, e0, e1, e2, e3, e4, g0, g1, RM_top, RM_pin, RM_trunc, RM_get, below hr, below hc, w1, w2, w3, w4, w5]
end Mev

/- The document's answer, one equation each: a type's routine: loops. -/

set_option maxRecDepth 100000
namespace Mev
open Go Go.Proofs

theorem rarm_round (S : St) (c r y : Nat) (K : Kn) (en : V) (code : List Ins) (g : Nat) (t : Typ) (first i : Nat) (p : List UInt8 × Int × Int) (hcr : c < r) (hr : r < S.top) (hry : r < y) (hy : S.get y = some (.cells 4 [t.v] 0 0)) (hb : code.length ≤ 1073741824)
    (hrow : (t.parts.map partV ++ t.spare)[i]? = some (partV p)) (hi : i < t.parts.length) (hlen : t.parts.length ≤ 64) (hf : first ≤ 1073741824) :
    loopL (some [0, 4, 5, 6, 7]) (S.top, S.pin) (kC (ev Q) loopL b19x1) ⟨183, [(0, .ptr r 0 7 0 0), (4, .ptr y 0 4 0 0), (5, .int .i64 t.parts.length), (6, .int .i64 first), (7, .int .i64 i)]⟩ (RM S c r K en code g) =
    loopL (some [0, 4, 5, 6, 7]) (S.top, S.pin) (kC (ev Q) loopL b19x1) ⟨183, [(0, .ptr r 0 7 0 0), (4, .ptr y 0 4 0 0), (5, .int .i64 t.parts.length), (6, .int .i64 first), (7, .int .i64 (i + 1 : Nat))]⟩ (RM S c r K en (code ++ [⟨9, p.2.1, (first : Int) + 2 * i, 0⟩]) (g + 1)) := by
  have hc : c < S.top := by omega
  have hcy : c < y := by omega
  have hyl := get_lt _ _ hy
  have hi' : (i : Int) < t.parts.length := by omega
  have w3 : IntKind.i64.wrap ((i : Int) + 1) = (i : Int) + 1 := wrap64 (by omega) (by omega)
  have w4 : IntKind.i64.wrap (2 * (i : Int)) = 2 * (i : Int) := wrap64 (by omega) (by omega)
  have w5 : IntKind.i64.wrap ((first : Int) + 2 * (i : Int)) = (first : Int) + 2 * (i : Int) := wrap64 (by omega) (by omega)
  have hmx : max r y + 1 ≤ S.top := by omega
  have hl := fun op a x y => rlay S c r K en code g ⟨op, a, x, y⟩ hcr hr hb
  have hgy := fun k g => RM_get S c r K en k g y (by omega) (by omega)
  obtain ⟨lab, tag, ty⟩ := p
  simp only [partV] at hrow
  rw [loopL_eq]
  generalize loopL (some [0, 4, 5, 6, 7]) (S.top, S.pin) (kC (ev Q) loopL b19x1) = F
  simp [kC, b19x1, hi', hrow, RM_top, RM_pin, RM_trunc, hgy, hy, Typ.v, hl, w3, w4, w5, hmx]

theorem rbody_round (S : St) (c r y : Nat) (K : Kn) (en : V) (code : List Ins) (g : Nat) (t : Typ) (i : Nat) (p : List UInt8 × Int × Int) (hcr : c < r) (hr : r < S.top) (hry : r < y) (hy : S.get y = some (.cells 4 [t.v] 0 0)) (hb : code.length ≤ 1073741000)
    (hrow : (t.parts.map partV ++ t.spare)[i]? = some (partV p)) (hi : i < t.parts.length) (hlen : t.parts.length ≤ 64) :
    loopL (some [0, 4, 5, 8]) (S.top, S.pin) (kC (ev Q) loopL b19x3) ⟨183, [(0, .ptr r 0 7 0 0), (4, .ptr y 0 4 0 0), (5, .int .i64 t.parts.length), (8, .int .i64 i)]⟩ (RM S c r K en code g) =
    loopL (some [0, 4, 5, 8]) (S.top, S.pin) (kC (ev Q) loopL b19x3) ⟨183, [(0, .ptr r 0 7 0 0), (4, .ptr y 0 4 0 0), (5, .int .i64 t.parts.length), (8, .int .i64 (i + 1 : Nat))]⟩ (RM S c r K en (code ++ [⟨46, 0, 0, p.2.2⟩] ++ [⟨20, 0, 0, 0⟩]) (g + 1 + 1)) := by
  have hc : c < S.top := by omega
  have hcy : c < y := by omega
  have hyl := get_lt _ _ hy
  have hi' : (i : Int) < t.parts.length := by omega
  have w3 : IntKind.i64.wrap ((i : Int) + 1) = (i : Int) + 1 := wrap64 (by omega) (by omega)
  have hmx : max r y + 1 ≤ S.top := by omega
  have hl := fun op a x y => rlay S c r K en code g ⟨op, a, x, y⟩ hcr hr (by omega)
  have hl2 := fun op a x y => rlay S c r K en (code ++ [⟨46, 0, 0, p.2.2⟩]) (g + 1) ⟨op, a, x, y⟩ hcr hr (by simp; omega)
  have hgy := fun k g => RM_get S c r K en k g y (by omega) (by omega)
  obtain ⟨lab, tag, ty⟩ := p
  simp only [partV] at hrow
  simp only at hl2
  rw [loopL_eq]
  generalize loopL (some [0, 4, 5, 8]) (S.top, S.pin) (kC (ev Q) loopL b19x3) = F
  simp [kC, b19x3, hi', hrow, RM_top, RM_pin, RM_trunc, hgy, hy, Typ.v, hl, hl2, w3, hmx]

theorem rfield_round (S : St) (c r y : Nat) (K : Kn) (en : V) (code : List Ins) (g t : Nat) (yt : Typ) (i : Nat) (p : List UInt8 × Int × Int) (s : Slot') (hcr : c < r) (hr : r < S.top) (hry : r < y) (hy : S.get y = some (.cells 4 [yt.v] 0 0)) (hb : code.length ≤ 1073741000)
    (hrow : (yt.parts.map partV ++ yt.spare)[i]? = some (partV p)) (hi : i < yt.parts.length) (hlen : yt.parts.length ≤ 64) (ht : t < K.ls.length) (hs : (K.ls.getD t default).slots[i]? = some s) (hp : 0 ≤ p.2.2 ∧ p.2.2 < K.ts.length) :
    ∃ g', loopL (some [0, 1, 4, 9]) (S.top, S.pin) (kC (ev Q) loopL b19x5) ⟨183, [(0, .ptr r 0 7 0 0), (1, .int .i64 t), (4, .ptr y 0 4 0 0), (9, .int .i64 i)]⟩ (RM S c r K en code g) =
    loopL (some [0, 1, 4, 9]) (S.top, S.pin) (kC (ev Q) loopL b19x5) ⟨183, [(0, .ptr r 0 7 0 0), (1, .int .i64 t), (4, .ptr y 0 4 0 0), (9, .int .i64 (i + 1 : Nat))]⟩ (RM S c r K en (code ++ fieldI K p s) g') := by
  have hc : c < S.top := by omega
  have hcy : c < y := by omega
  have hyl := get_lt _ _ hy
  have hi' : (i : Int) < yt.parts.length := by omega
  have w3 : IntKind.i64.wrap ((i : Int) + 1) = (i : Int) + 1 := wrap64 (by omega) (by omega)
  have hmx : max r y + 1 ≤ S.top := by omega
  have hl := fun b op a x y => rlay (S.push b) c r K en code g ⟨op, a, x, y⟩ hcr (by simp; omega) (by omega)
  have hl2 := fun b op a x y => rlay (S.push b) c r K en (code ++ [⟨43, s.at_, 0, 0⟩]) (g + 1) ⟨op, a, x, y⟩ hcr (by simp; omega) (by simp; omega)
  have hfx := fun b v => rat (S.push b) c r K en code g p.2.2.toNat v hcr (by simp; omega) (by omega) (by omega)
  have hg := RM_get_r S c r K en code g hcr hr
  have hgy := fun k g => RM_get S c r K en k g y (by omega) (by omega)
  have hgy2 := fun b k g => RM_get (S.push b) c r K en k g y (by omega) (by omega)
  have hpu := fun b k g => RM_push S c r K en k g b hc hr
  have hlrow : (K.ls.map Lay'.v)[t]? = some (K.ls.getD t default).v := by rw [List.getElem?_map, getD_some ht]; rfl
  have ht' : (t : Int) < K.ls.length := by omega
  have hil : i < (K.ls.getD t default).slots.length := (List.getElem?_eq_some_iff.1 hs).1
  have hil' : (i : Int) < (K.ls.getD t default).slots.length := by omega
  have hsrow : ((K.ls.getD t default).slots.map Slot'.v)[i]? = some s.v := by rw [List.getElem?_map, hs]; rfl
  have hty : ((p.2.2.toNat : Nat) : Int) = p.2.2 := Int.toNat_of_nonneg hp.1
  rw [hty] at hfx
  unfold fieldI
  obtain ⟨lab, tag, ty⟩ := p
  obtain ⟨at_, var, size⟩ := s
  simp only [partV] at hrow
  simp only at hfx hl2
  simp only [mkRow, tsV] at hg
  generalize hL : K.ls.map Lay'.v = L at hg hlrow
  generalize K.ls.getD t default = lay at *
  obtain ⟨lsz, lsl⟩ := lay
  simp only [Lay'.v] at hlrow hsrow hil'
  generalize lsl.map Slot'.v = SL at hsrow hlrow
  simp only [Slot'.v] at hsrow
  cases var with
  | false =>
    refine ⟨g + 1, ?_⟩
    rw [loopL_eq]
    generalize loopL (some [0, 1, 4, 9]) (S.top, S.pin) (kC (ev Q) loopL b19x5) = F
    simp [kC, b19x5, hpu, hi', hrow, RM_top, RM_pin, RM_trunc, RM_put, RM_get, below hr, below hc, below hyl, below hry, below hcy, hgy, hgy2, hy, Typ.v, hl, w3, hmx, hg, ht', hlrow, hil', hsrow, hfx]
  | true =>
    refine ⟨g + 1 + 1, ?_⟩
    rw [loopL_eq]
    generalize loopL (some [0, 1, 4, 9]) (S.top, S.pin) (kC (ev Q) loopL b19x5) = F
    simp [kC, b19x5, hpu, hi', hrow, RM_top, RM_pin, RM_trunc, RM_put, RM_get, below hr, below hc, below hyl, below hry, below hcy, hgy, hgy2, hy, Typ.v, hl, hl2, w3, hmx, hg, ht', hlrow, hil', hsrow]
end Mev

/- The document's answer, one equation each: a type's routine. -/

set_option maxRecDepth 100000
namespace Mev
open Go Go.Proofs

def rarmL (first : Int) : Nat → List (List UInt8 × Int × Int) → List Ins
  | _, [] => []
  | k, p :: ps => ⟨9, p.2.1, first + 2 * k, 0⟩ :: rarmL first (k + 1) ps
def rbodyL (ps : List (List UInt8 × Int × Int)) : List Ins := ps.flatMap fun p => [⟨46, 0, 0, p.2.2⟩, ⟨20, 0, 0, 0⟩]

section
variable (c r y : Nat) (K : Kn) (en : V) (t : Typ) (hcr : c < r) (hry : r < y) (hpl : t.parts.length ≤ 64)
include hcr hry hpl
theorem rarm_loop (first : Nat) (hf : first ≤ 1073741824) : ∀ (m i : Nat) (S : St) (code : List Ins) (g : Nat), i + m = t.parts.length → r < S.top → S.get y = some (.cells 4 [t.v] 0 0) → code.length + m ≤ 1073741824 →
    ∃ g' l, loopL (some [0, 4, 5, 6, 7]) (S.top, S.pin) (kC (ev Q) loopL b19x1) ⟨183, [(0, .ptr r 0 7 0 0), (4, .ptr y 0 4 0 0), (5, .int .i64 t.parts.length), (6, .int .i64 first), (7, .int .i64 i)]⟩ (RM S c r K en code g) =
      some (.exit 1, ⟨183, l⟩, RM S c r K en (code ++ rarmL first i (t.parts.drop i)) g') ∧ look 0 l = .ptr r 0 7 0 0 ∧ look 4 l = .ptr y 0 4 0 0 ∧ look 5 l = .int .i64 t.parts.length := by
  intro m
  induction m with
  | zero =>
    intro i S code g hi hr hy hb
    have h1 : ¬ ((i : Int) < t.parts.length) := by omega
    rw [List.drop_of_length_le (by omega)]
    refine ⟨g, [(82, .bool false), (81, .int .i64 t.parts.length), (80, .int .i64 i), (0, .ptr r 0 7 0 0), (4, .ptr y 0 4 0 0), (5, .int .i64 t.parts.length), (6, .int .i64 first), (7, .int .i64 i)], ?_, by simp, by simp, by simp⟩
    rw [loopL_eq]
    simp [kC, b19x1, h1, rarmL]
  | succ m ih =>
    intro i S code g hi hr hy hb
    have hil : i < t.parts.length := by omega
    have hp : t.parts[i]? = some t.parts[i] := List.getElem?_eq_getElem hil
    have hrow : (t.parts.map partV ++ t.spare)[i]? = some (partV t.parts[i]) := by
      rw [List.getElem?_append_left (by simpa using hil), List.getElem?_map, hp]; rfl
    rw [rarm_round S c r y K en code g t first i t.parts[i] hcr hr hry hy (by omega) hrow hil hpl hf]
    obtain ⟨g', l, h1, h2⟩ := ih (i + 1) S (code ++ [⟨9, t.parts[i].2.1, (first : Int) + 2 * i, 0⟩]) (g + 1) (by omega) hr hy (by simp; omega)
    refine ⟨g', l, ?_, h2⟩
    rw [h1, List.drop_eq_getElem_cons hil, rarmL, List.append_assoc]
    rfl
theorem rbody_loop : ∀ (m i : Nat) (S : St) (code : List Ins) (g : Nat), i + m = t.parts.length → r < S.top → S.get y = some (.cells 4 [t.v] 0 0) → code.length + 2 * m ≤ 1073741000 →
    ∃ g' l, loopL (some [0, 4, 5, 8]) (S.top, S.pin) (kC (ev Q) loopL b19x3) ⟨183, [(0, .ptr r 0 7 0 0), (4, .ptr y 0 4 0 0), (5, .int .i64 t.parts.length), (8, .int .i64 i)]⟩ (RM S c r K en code g) =
      some (.exit 3, ⟨183, l⟩, RM S c r K en (code ++ rbodyL (t.parts.drop i)) g') := by
  intro m
  induction m with
  | zero =>
    intro i S code g hi hr hy hb
    have h1 : ¬ ((i : Int) < t.parts.length) := by omega
    rw [List.drop_of_length_le (by omega)]
    refine ⟨g, [(99, .bool false), (98, .int .i64 t.parts.length), (97, .int .i64 i), (0, .ptr r 0 7 0 0), (4, .ptr y 0 4 0 0), (5, .int .i64 t.parts.length), (8, .int .i64 i)], ?_⟩
    rw [loopL_eq]
    simp [kC, b19x3, h1, rbodyL]
  | succ m ih =>
    intro i S code g hi hr hy hb
    have hil : i < t.parts.length := by omega
    have hp : t.parts[i]? = some t.parts[i] := List.getElem?_eq_getElem hil
    have hrow : (t.parts.map partV ++ t.spare)[i]? = some (partV t.parts[i]) := by
      rw [List.getElem?_append_left (by simpa using hil), List.getElem?_map, hp]; rfl
    rw [rbody_round S c r y K en code g t i t.parts[i] hcr hr hry hy (by omega) hrow hil hpl]
    obtain ⟨g', l, h1⟩ := ih (i + 1) S (code ++ [⟨46, 0, 0, t.parts[i].2.2⟩] ++ [⟨20, 0, 0, 0⟩]) (g + 1 + 1) (by omega) hr hy (by simp; omega)
    refine ⟨g', l, ?_⟩
    rw [h1, List.drop_eq_getElem_cons hil]
    simp only [rbodyL, List.flatMap_cons, List.append_assoc]
    rfl
theorem rfield_loop (k : Nat) (ht : k < K.ls.length) (hsl : (K.ls.getD k default).slots.length = t.parts.length) (hp : ∀ p ∈ t.parts, 0 ≤ p.2.2 ∧ p.2.2 < K.ts.length) : ∀ (m i : Nat) (S : St) (code : List Ins) (g : Nat), i + m = t.parts.length → r < S.top → S.get y = some (.cells 4 [t.v] 0 0) → code.length + 2 * m ≤ 1073741000 →
    ∃ g' l, loopL (some [0, 1, 4, 9]) (S.top, S.pin) (kC (ev Q) loopL b19x5) ⟨183, [(0, .ptr r 0 7 0 0), (1, .int .i64 k), (4, .ptr y 0 4 0 0), (9, .int .i64 i)]⟩ (RM S c r K en code g) =
      some (.exit 5, ⟨183, l⟩, RM S c r K en (code ++ fieldsL K ((t.parts.zip (K.ls.getD k default).slots).drop i)) g') ∧ look 0 l = .ptr r 0 7 0 0 := by
  intro m
  induction m with
  | zero =>
    intro i S code g hi hr hy hb
    have h1 : ¬ ((i : Int) < t.parts.length) := by omega
    have hgy := RM_get S c r K en code g y (by omega) (by omega)
    rw [hy] at hgy
    rw [List.drop_of_length_le (by rw [List.length_zip]; omega)]
    refine ⟨g, [(142, .bool false), (141, .int .i64 t.parts.length), (140, .rs 3 (t.parts.map partV ++ t.spare) t.parts.length), (139, .ptr y 0 4 0 3), (138, .int .i64 i), (0, .ptr r 0 7 0 0), (1, .int .i64 k), (4, .ptr y 0 4 0 0), (9, .int .i64 i)], ?_, by simp⟩
    rw [loopL_eq]
    simp [kC, b19x5, h1, fieldsL, hgy, Typ.v]
  | succ m ih =>
    intro i S code g hi hr hy hb
    have hil : i < t.parts.length := by omega
    have hp' : t.parts[i]? = some t.parts[i] := List.getElem?_eq_getElem hil
    have hrow : (t.parts.map partV ++ t.spare)[i]? = some (partV t.parts[i]) := by
      rw [List.getElem?_append_left (by simpa using hil), List.getElem?_map, hp']; rfl
    have hil2 : i < (K.ls.getD k default).slots.length := by omega
    obtain ⟨g1, h1⟩ := rfield_round S c r y K en code g k t i t.parts[i] (K.ls.getD k default).slots[i] hcr hr hry hy (by omega) hrow hil hpl ht (List.getElem?_eq_getElem hil2) (hp _ (List.mem_of_getElem? hp'))
    have hlen := fieldI_len K t.parts[i] (K.ls.getD k default).slots[i]
    obtain ⟨g', l, h3, h4⟩ := ih (i + 1) S (code ++ fieldI K t.parts[i] (K.ls.getD k default).slots[i]) g1 (by omega) hr hy (by rw [List.length_append]; omega)
    refine ⟨g', l, ?_, h4⟩
    have hz : i < (t.parts.zip (K.ls.getD k default).slots).length := by rw [List.length_zip]; omega
    rw [h1, h3, List.drop_eq_getElem_cons hz]
    simp only [fieldsL, List.flatMap_cons, List.getElem_zip, List.append_assoc]
end

/-- a type's routine, as the document says -/
def rroutI (K : Kn) (t : Nat) (code : List Ins) : List Ins :=
  let y := K.ts.getD t noT
  if y.kind = 1 then code ++ [⟨33, 0, y.n, 0⟩] ++ [⟨20, 0, 0, 0⟩]
  else if y.kind = 2 then code ++ [⟨35, 0, 0, 0⟩] ++ [⟨20, 0, 0, 0⟩]
  else if y.kind = 3 then code ++ [⟨36, 0, 0, 0⟩] ++ [⟨20, 0, 0, 0⟩]
  else if y.kind = 4 ∨ y.kind = 5 then rrowI K y code
  else if y.kind = 6 then code ++ [⟨40, 0, (code.length : Int) + 2, 0⟩] ++ [⟨46, 0, 0, y.elem⟩] ++ [⟨20, 0, 0, 0⟩]
  else if y.kind = 7 then code ++ [⟨41, y.parts.length, 0, 0⟩] ++ rarmL ((code.length + 1 + y.parts.length : Nat) : Int) 0 y.parts ++ rbodyL y.parts
  else code ++ [⟨39, y.parts.length, 0, 0⟩] ++ (if (K.es.getD t default).fixed then [] else [⟨42, (K.ls.getD t default).size, 0, 0⟩]) ++ fieldsL K (y.parts.zip (K.ls.getD t default).slots) ++ [⟨20, 0, 0, 0⟩]
end Mev

/- The document's answer, one equation each: a type's routine, whole. -/

set_option maxRecDepth 100000
namespace Mev
open Go Go.Proofs

theorem rrout (S : St) (c r : Nat) (K : Kn) (hK : WfK K) (en : V) (code : List Ins) (g t : Nat) (hcr : c < r) (hr : r < S.top) (hb : code.length ≤ 1073730000) (ht : t < K.ts.length) :
    ∃ g', ev Q 19 [.ptr r 0 7 0 0, .int .i64 t] (RM S c r K en code g) = some (.ret (.tup []), RM S c r K en (rroutI K t code) g') := by
  have hc : c < S.top := by omega
  have hw := hK.wf t _ (getD_some ht noT)
  have hrow : (K.ts.map Typ.v ++ K.sp)[t]? = some (K.ts.getD t noT).v := by
    rw [List.getElem?_append_left (by simpa using ht), List.getElem?_map, getD_some ht]; rfl
  have ht' : (t : Int) < K.ts.length := by omega
  have hg := RM_get_r S c r K en code g hcr hr
  have hg2 := fun b k g => RM_get_r (S.push b) c r K en k g hcr (by simp; omega)
  have hpu := fun b k g => RM_push S c r K en k g b hc hr
  have hgy := fun b k g => RM_get (S.push b) c r K en k g S.top (by omega) (by omega)
  have hl := fun b (k : List Ins) (hk : k.length ≤ 1073741824) g op a x y => rlay (S.push b) c r K en k g ⟨op, a, x, y⟩ hcr (by simp; omega) hk
  have hes := hK.es
  have hls := hK.ls
  have hsl := hK.sl t ht
  have hel : ∀ h : (K.ts.getD t noT).kind = 4 ∨ (K.ts.getD t noT).kind = 5 ∨ (K.ts.getD t noT).kind = 6, 0 ≤ (K.ts.getD t noT).elem ∧ (K.ts.getD t noT).elem.toNat < t := by
    intro h
    have := hw.elem h
    omega
  have hB : ∃ B, rroutI K t code = B := ⟨_, rfl⟩
  obtain ⟨B, hB⟩ := hB
  rw [hB]
  simp only [rroutI] at hB
  have hex : (K.es.map Ext'.v)[t]? = some (K.es.getD t default).v := by
    rw [List.getElem?_map, getD_some (by omega)]; rfl
  have hlrow : (K.ls.map Lay'.v)[t]? = some (K.ls.getD t default).v := by rw [List.getElem?_map, getD_some (by omega)]; rfl
  have he' : (t : Int) < K.es.length := by omega
  have hls' : (t : Int) < K.ls.length := by omega
  generalize hy : K.ts.getD t noT = y at *
  simp only [mkRow, tsV] at hg hg2
  have hfine : ∀ p ∈ y.parts, 0 ≤ p.2.2 ∧ p.2.2 < K.ts.length := fun p hp => by have := hw.fine.2 p hp; omega
  have hpl := hw.fine.1
  rcases hw.kind with h | h | h | h | h | h | h | h
  · simp only [h, if_true] at hB
    have e1 := fun b => hl b code (by omega) g 33 0 y.n 0
    have e2 := fun b => hl b (code ++ [⟨33, 0, y.n, 0⟩]) (by simp; omega) (g + 1) 20 0 0 0
    rw [← hB]
    refine ⟨g + 1 + 1, ?_⟩
    simp only [Typ.v] at hrow e1 e2
    rw [ev_eq q19, c19, evFn_eq _ _ _ _ _ _ _ (by simp)]
    simp [hg, hpu, RM_top, RM_pin, RM_trunc, RM_put, RM_get, ht', hrow, h, below hr, below hc, e1, e2]
  · simp only [h] at hB
    simp only [Int.reduceEq, if_false, if_true] at hB
    have e1 := fun b => hl b code (by omega) g 35 0 0 0
    have e2 := fun b => hl b (code ++ [⟨35, 0, 0, 0⟩]) (by simp; omega) (g + 1) 20 0 0 0
    rw [← hB]
    refine ⟨g + 1 + 1, ?_⟩
    simp only [Typ.v] at hrow e1 e2
    rw [ev_eq q19, c19, evFn_eq _ _ _ _ _ _ _ (by simp)]
    simp [hg, hpu, RM_top, RM_pin, RM_trunc, RM_put, RM_get, ht', hrow, h, below hr, below hc, e1, e2]
  · simp only [h] at hB
    simp only [Int.reduceEq, if_false, if_true] at hB
    have e1 := fun b => hl b code (by omega) g 36 0 0 0
    have e2 := fun b => hl b (code ++ [⟨36, 0, 0, 0⟩]) (by simp; omega) (g + 1) 20 0 0 0
    rw [← hB]
    refine ⟨g + 1 + 1, ?_⟩
    simp only [Typ.v] at hrow e1 e2
    rw [ev_eq q19, c19, evFn_eq _ _ _ _ _ _ _ (by simp)]
    simp [hg, hpu, RM_top, RM_pin, RM_trunc, RM_put, RM_get, ht', hrow, h, below hr, below hc, e1, e2]
  · have hee := hel (Or.inl h)
    obtain ⟨g', h2⟩ := rrow (S.push (.cells 4 [y.v] 0 0)) c r K en code g y hcr (by simp; omega) (by omega) (Or.inl h) hee.1 (by omega) (by omega)
    simp only [h] at hB
    simp only [Int.reduceEq, if_false, if_true, true_or] at hB
    rw [hB] at h2
    refine ⟨g', ?_⟩
    simp only [Typ.v] at hrow h2
    rw [h] at h2
    rw [ev_eq q19, c19, evFn_eq _ _ _ _ _ _ _ (by simp)]
    simp [hg, hpu, RM_top, RM_pin, RM_trunc, RM_put, RM_get, ht', hrow, h, below hr, below hc, h2]
  · have hee := hel (Or.inr (Or.inl h))
    obtain ⟨g', h2⟩ := rrow (S.push (.cells 4 [y.v] 0 0)) c r K en code g y hcr (by simp; omega) (by omega) (Or.inr h) hee.1 (by omega) (by omega)
    simp only [h] at hB
    simp only [Int.reduceEq, if_false, if_true, or_true] at hB
    rw [hB] at h2
    refine ⟨g', ?_⟩
    simp only [Typ.v] at hrow h2
    rw [h] at h2
    rw [ev_eq q19, c19, evFn_eq _ _ _ _ _ _ _ (by simp)]
    simp [hg, hpu, RM_top, RM_pin, RM_trunc, RM_put, RM_get, ht', hrow, h, below hr, below hc, h2]
  · simp only [h] at hB
    simp only [Int.reduceEq, if_false, if_true, or_false] at hB
    have e1 := fun b => hl b code (by omega) g 40 0 ((code.length : Int) + 2) 0
    have e2 := fun b => hl b (code ++ [⟨40, 0, (code.length : Int) + 2, 0⟩]) (by simp; omega) (g + 1) 46 0 0 y.elem
    have e3 := fun b => hl b (code ++ [⟨40, 0, (code.length : Int) + 2, 0⟩] ++ [⟨46, 0, 0, y.elem⟩]) (by simp; omega) (g + 1 + 1) 20 0 0 0
    have w1 : IntKind.i64.wrap ((code.length : Int) + 2) = (code.length : Int) + 2 := wrap64 (by omega) (by omega)
    rw [← hB]
    refine ⟨g + 1 + 1 + 1, ?_⟩
    simp only [Typ.v] at hrow e1 e2 e3
    simp at e2 e3
    rw [ev_eq q19, c19, evFn_eq _ _ _ _ _ _ _ (by simp)]
    simp [hg, hg2, hpu, RM_top, RM_pin, RM_trunc, RM_put, RM_get, ht', hrow, h, below hr, below hc, e1, e2, e3, w1]
  · simp only [h] at hB
    simp only [Int.reduceEq, if_false, if_true, or_false] at hB
    have e1 := fun b => hl b code (by omega) g 41 y.parts.length 0 0
    have hlL : ∀ (f : Int) ps k, (rarmL f k ps).length = ps.length := by
      intro f ps
      induction ps with
      | nil => intro k; rfl
      | cons p ps ih => intro k; simp [rarmL, ih]
    obtain ⟨g1, l1, h1, h2, h3, h4⟩ := rarm_loop c r S.top K en y hcr (by omega) hpl (code.length + 1 + y.parts.length) (by omega) y.parts.length 0 (S.push (.cells 4 [y.v] 0 0)) (code ++ [⟨41, y.parts.length, 0, 0⟩]) (g + 1) (by omega) (by simp; omega) (by simp) (by simp; omega)
    obtain ⟨g2, l2, h5⟩ := rbody_loop c r S.top K en y hcr (by omega) hpl y.parts.length 0 (S.push (.cells 4 [y.v] 0 0)) (code ++ [⟨41, y.parts.length, 0, 0⟩] ++ rarmL ((code.length + 1 + y.parts.length : Nat) : Int) 0 y.parts) g1 (by omega) (by simp; omega) (by simp) (by simp [hlL]; omega)
    rw [List.drop_zero] at h1 h5
    rw [hB] at h5
    have w1 : IntKind.i64.wrap ((code.length : Int) + 1 + y.parts.length) = ((code.length + 1 + y.parts.length : Nat) : Int) := by rw [wrap64 (by omega) (by omega)]; omega
    refine ⟨g2, ?_⟩
    generalize hA : code ++ [(⟨41, y.parts.length, 0, 0⟩ : Ins)] ++ rarmL ((code.length + 1 + y.parts.length : Nat) : Int) 0 y.parts = A at *
    have hgA := fun b k => hg2 b (code ++ [(⟨41, y.parts.length, 0, 0⟩ : Ins)]) k
    generalize hA0 : code ++ [(⟨41, y.parts.length, 0, 0⟩ : Ins)] = A0' at *
    have hlA : A0'.length = code.length + 1 := by rw [← hA0]; simp
    generalize hfi : code.length + 1 + y.parts.length = fi at *
    simp only [Typ.v] at hrow e1 h1 h5
    rw [h] at h1 h5
    rw [ev_eq q19, c19, evFn_eq _ _ _ _ _ _ _ (by simp)]
    simp at h1 h2 h3 h4 h5
    simp [hg, hgA, hpu, RM_top, RM_pin, RM_trunc, RM_put, RM_get, ht', hrow, h, below hr, below hc, e1, hA0, hlA, h1, h2, h3, h4, h5, w1]
  · simp only [h] at hB
    simp only [Int.reduceEq, if_false, if_true, or_false] at hB
    have e1 := fun b => hl b code (by omega) g 39 y.parts.length 0 0
    have e2 := fun b => hl b (code ++ [⟨39, y.parts.length, 0, 0⟩]) (by simp; omega) (g + 1) 42 (K.ls.getD t default).size 0 0
    have hgA := fun b => hg2 b (code ++ [⟨39, y.parts.length, 0, 0⟩]) (g + 1)
    have hfl := fieldsL_len K (y.parts.zip (K.ls.getD t default).slots)
    have hzl : (y.parts.zip (K.ls.getD t default).slots).length ≤ 64 := by rw [List.length_zip]; omega
    cases hfx : (K.es.getD t default).fixed with
    | true =>
      obtain ⟨g1, l1, h1, h2⟩ := rfield_loop c r S.top K en y hcr (by omega) hpl t (by omega) (hsl h) hfine y.parts.length 0 (S.push (.cells 4 [y.v] 0 0)) (code ++ [⟨39, y.parts.length, 0, 0⟩]) (g + 1) (by omega) (by simp; omega) (by simp) (by simp; omega)
      rw [List.drop_zero] at h1
      have e3 := fun b => hl b (code ++ [⟨39, y.parts.length, 0, 0⟩] ++ fieldsL K (y.parts.zip (K.ls.getD t default).slots)) (by rw [List.length_append, List.length_append]; simp only [List.length_singleton]; omega) g1 20 0 0 0
      rw [hfx] at hB
      simp only [if_true, List.append_nil] at hB
      rw [hB] at e3
      refine ⟨g1 + 1, ?_⟩
      generalize hX : code ++ [(⟨39, y.parts.length, 0, 0⟩ : Ins)] ++ fieldsL K (y.parts.zip (K.ls.getD t default).slots) = X at *
      generalize hA0 : code ++ [(⟨39, y.parts.length, 0, 0⟩ : Ins)] = A0' at *
      generalize hE : K.es.map Ext'.v = E at *
      generalize hL : K.ls.map Lay'.v = L at *
      generalize K.es.getD t default = ex at *
      obtain ⟨x1, x2, x3, x4⟩ := ex
      simp only at hfx
      subst hfx
      simp only [Typ.v, Ext'.v] at hrow e1 e3 h1 hex
      rw [h] at h1
      rw [ev_eq q19, c19, evFn_eq _ _ _ _ _ _ _ (by simp)]
      simp at h1
      simp [hg, hgA, hpu, RM_top, RM_pin, RM_trunc, RM_put, RM_get, ht', he', hrow, hex, h, below hr, below hc, e1, e3, hA0, h1, h2]
    | false =>
      obtain ⟨g1, l1, h1, h2⟩ := rfield_loop c r S.top K en y hcr (by omega) hpl t (by omega) (hsl h) hfine y.parts.length 0 (S.push (.cells 4 [y.v] 0 0)) (code ++ [⟨39, y.parts.length, 0, 0⟩] ++ [⟨42, (K.ls.getD t default).size, 0, 0⟩]) (g + 1 + 1) (by omega) (by simp; omega) (by simp) (by simp; omega)
      rw [List.drop_zero] at h1
      have e3 := fun b => hl b (code ++ [⟨39, y.parts.length, 0, 0⟩] ++ [⟨42, (K.ls.getD t default).size, 0, 0⟩] ++ fieldsL K (y.parts.zip (K.ls.getD t default).slots)) (by rw [List.length_append, List.length_append, List.length_append]; simp only [List.length_singleton]; omega) g1 20 0 0 0
      rw [hfx] at hB
      simp only [Bool.false_eq_true, if_false] at hB
      rw [hB] at e3
      refine ⟨g1 + 1, ?_⟩
      generalize hX : code ++ [(⟨39, y.parts.length, 0, 0⟩ : Ins)] ++ [⟨42, (K.ls.getD t default).size, 0, 0⟩] ++ fieldsL K (y.parts.zip (K.ls.getD t default).slots) = X at *
      generalize hA1 : code ++ [(⟨39, y.parts.length, 0, 0⟩ : Ins)] ++ [⟨42, (K.ls.getD t default).size, 0, 0⟩] = A1' at *
      generalize hA0 : code ++ [(⟨39, y.parts.length, 0, 0⟩ : Ins)] = A0' at *
      generalize hE : K.es.map Ext'.v = E at *
      generalize hL : K.ls.map Lay'.v = L at *
      generalize K.es.getD t default = ex at *
      generalize K.ls.getD t default = lay at *
      obtain ⟨x1, x2, x3, x4⟩ := ex
      obtain ⟨lsz, lsl⟩ := lay
      simp only [Lay'.v] at hlrow
      generalize lsl.map Slot'.v = SL at hlrow
      simp only at hfx
      subst hfx
      simp only at hA1 e2
      simp only [Typ.v, Ext'.v] at hrow e1 e2 e3 h1 hex
      rw [h] at h1
      rw [ev_eq q19, c19, evFn_eq _ _ _ _ _ _ _ (by simp)]
      simp at h1
      simp [hg, hgA, hpu, RM_top, RM_pin, RM_trunc, RM_put, RM_get, ht', he', hls', hrow, hex, hlrow, h, below hr, below hc, e1, e2, e3, hA0, hA1, h1, h2]
end Mev

/- The plain law: the document's routines are the program's. -/

set_option maxRecDepth 100000
namespace Mev
open Go Go.Proofs

theorem body_arms (first n : Nat) (base : List Ins) (hbase : base.length = first) : ∀ (ps : List (List UInt8 × Int × Int)) (i : Nat) (D B : List Ins), ps ≠ [] → i + ps.length = n → D.length = i → B.length = 2 * i →
    bodyI first n i ps (base ++ D ++ ps.map (fun p => (⟨9, p.2.1, 0, 0⟩ : Ins)) ++ B) ++ [⟨20, 0, 0, 0⟩] = base ++ D ++ rarmL ((first + n : Nat) : Int) i ps ++ B ++ rbodyL ps := by
  intro ps
  induction ps with
  | nil => intro i D B h; exact absurd rfl h
  | cons p ps ih =>
    intro i D B _ hn hD hB
    have hidx : first + i = (base ++ D).length + 0 := by rw [List.length_append]; omega
    have hlen : (base ++ D ++ (p :: ps).map (fun p => (⟨9, p.2.1, 0, 0⟩ : Ins)) ++ B).length = first + n + 2 * i := by
      rw [List.length_append, List.length_append, List.length_append, List.length_map]; omega
    have hset : setB (base ++ D ++ (p :: ps).map (fun p => (⟨9, p.2.1, 0, 0⟩ : Ins)) ++ B ++ [⟨46, 0, 0, p.2.2⟩]) (first + i) ((first + n + 2 * i : Nat) : Int) =
        base ++ D ++ (⟨9, p.2.1, ((first + n : Nat) : Int) + 2 * i, 0⟩ :: ps.map (fun p => (⟨9, p.2.1, 0, 0⟩ : Ins)) ++ B ++ [⟨46, 0, 0, p.2.2⟩]) := by
      rw [hidx, List.append_assoc (base ++ D), List.append_assoc (base ++ D), setB_app]
      congr 1
    rw [bodyI, hlen, hset]
    cases ps with
    | nil =>
      have h1 : ¬ (i + 1 < n) := by simp at hn; omega
      rw [if_neg h1]
      simp [bodyI, rarmL, rbodyL]
    | cons q qs =>
      have h1 : i + 1 < n := by simp at hn; omega
      rw [if_pos h1]
      have := ih (i + 1) (D ++ [⟨9, p.2.1, ((first + n : Nat) : Int) + 2 * i, 0⟩]) (B ++ [⟨46, 0, 0, p.2.2⟩, ⟨20, 0, 0, 0⟩]) (by simp) (by simp at hn ⊢; omega) (by simp [hD]) (by simp [hB]; omega)
      have e1 : base ++ D ++ (⟨9, p.2.1, ((first + n : Nat) : Int) + 2 * i, 0⟩ :: (q :: qs).map (fun p => (⟨9, p.2.1, 0, 0⟩ : Ins)) ++ B ++ [⟨46, 0, 0, p.2.2⟩]) ++ [⟨20, 0, 0, 0⟩] =
          base ++ (D ++ [⟨9, p.2.1, ((first + n : Nat) : Int) + 2 * i, 0⟩]) ++ (q :: qs).map (fun p => (⟨9, p.2.1, 0, 0⟩ : Ins)) ++ (B ++ [⟨46, 0, 0, p.2.2⟩, ⟨20, 0, 0, 0⟩]) := by simp
      rw [e1, this]
      simp [rarmL, rbodyL]

theorem ritem_eq (K : Kn) (t : Nat) (h : (K.es.getD t default).fixed = true → (K.es.getD t default).least = (K.es.getD t default).most) (hf : (K.es.getD t default).fixed = true) : ritemI K t = itemI K t := by
  simp only [ritemI, itemI, h hf]

theorem rrout_eq (K : Kn) (t : Nat) (hw : WfT (K.ts.getD t noT) t) (hfx : ∀ j, j < t → (K.es.getD j default).fixed = true → (K.es.getD j default).least = (K.es.getD j default).most) (code : List Ins) : rroutI K t code = routineR K t code := by
  have hy2 : K.ts.getD t ⟨0, 0, 0, [], []⟩ = K.ts.getD t noT := rfl
  unfold routineR
  simp only [rroutI, bodyR]
  have hfix : fixI K t 0 = (if (K.ts.getD t noT).kind = 1 then ⟨33, 0, (K.ts.getD t noT).n, 0⟩ else if (K.ts.getD t noT).kind = 2 then ⟨35, 0, 0, 0⟩ else ⟨44, 0, 0, t⟩) := by
    simp only [fixI, hy2]
  have hfields : fieldsI K t code = code ++ [⟨39, (K.ts.getD t noT).parts.length, 0, 0⟩] ++ (if (K.es.getD t default).fixed then [] else [⟨42, (K.ls.getD t default).size, 0, 0⟩]) ++ fieldsL K ((K.ts.getD t noT).parts.zip (K.ls.getD t default).slots) := by
    simp only [fieldsI, hy2]
  rw [hfix, hfields]
  generalize K.ts.getD t noT = y at *
  rcases hw.kind with h | h | h | h | h | h | h | h
  · simp [h]
  · simp [h]
  · simp [h]
  · have he := hw.elem (Or.inl h)
    have hte : ((y.elem.toNat : Nat) : Int) = y.elem := Int.toNat_of_nonneg he.1
    simp only [h, rrowI, itemsI]
    simp only [Int.reduceEq, if_false, if_true, true_or, or_self, false_or, decide_false]
    cases hf : (K.es.getD y.elem.toNat default).fixed with
    | true =>
      rw [ritem_eq K _ (hfx _ (by omega)) hf]
      simp
    | false =>
      simp
      omega
  · have he := hw.elem (Or.inr (Or.inl h))
    simp only [h, rrowI, itemsI]
    simp only [Int.reduceEq, if_false, if_true, or_true, or_self, false_or, decide_true]
    cases hf : (K.es.getD y.elem.toNat default).fixed with
    | true =>
      rw [ritem_eq K _ (hfx _ (by omega)) hf]
      simp
      omega
    | false =>
      simp
      omega
  · simp [h]
  · have hp := hw.parts (Or.inl h)
    simp only [h, armsI]
    simp only [Int.reduceEq, if_false, if_true, or_self]
    have hb := body_arms (code.length + 1) y.parts.length (code ++ [⟨41, y.parts.length, 0, 0⟩]) (by simp) y.parts 0 [] [] (fun hn => by rw [hn] at hp; simp at hp) (by omega) rfl rfl
    simp only [List.append_nil] at hb
    rw [hb]
  · simp [h]
end Mev
