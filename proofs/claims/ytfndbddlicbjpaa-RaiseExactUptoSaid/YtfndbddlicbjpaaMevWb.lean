/- The program's functions, one equation each: the encoder. -/
import Derived.Test.YtfndbddlicbjpaaMevW9

set_option maxRecDepth 100000
namespace Mev
open Go Go.Proofs

theorem size_loop (es : List Ext') (hlen : es.length ≤ 1073741824) (x y : Nat) (hxy : x < y) : ∀ (m i : Nat) (S : St), i + m = es.length → S.get y = some (.cells 3 [[.bool false, .nils, .nils]] 0 0) →
    ((∀ j e, i ≤ j → es[j]? = some e → e.most ≤ 16777216) → ∃ l, loopL (some [1, 2, 4, 26, 27, 28]) (S.top, S.pin) (kC (ev Q) loopL b7x0) ⟨81, [(1, .ptr x 0 2 0 0), (2, .ptr y 0 3 0 0), (4, .rs 4 (es.map Ext'.v) es.length), (26, .rs 4 (es.map Ext'.v) es.length), (27, .int .i64 es.length), (28, .int .i64 i)]⟩ S =
      some (.exit 0, ⟨81, l⟩, S) ∧ look 1 l = .ptr x 0 2 0 0 ∧ look 2 l = .ptr y 0 3 0 0 ∧ look 4 l = .rs 4 (es.map Ext'.v) es.length) ∧
    (¬ (∀ j e, i ≤ j → es[j]? = some e → e.most ≤ 16777216) → ∃ l S', loopL (some [1, 2, 4, 26, 27, 28]) (S.top, S.pin) (kC (ev Q) loopL b7x0) ⟨81, [(1, .ptr x 0 2 0 0), (2, .ptr y 0 3 0 0), (4, .rs 4 (es.map Ext'.v) es.length), (26, .rs 4 (es.map Ext'.v) es.length), (27, .int .i64 es.length), (28, .int .i64 i)]⟩ S =
      some (.ret, ⟨81, l⟩, S') ∧ look 2 l = .ptr y 0 3 0 0 ∧ look 3 l = .int .i64 91 ∧ S'.get y = some (.cells 3 [[.bool false, .nils, .nils]] 0 0) ∧ (∀ j, j < y → S'.get j = S.get j) ∧ S.top ≤ S'.top) := by
  intro m
  induction m with
  | zero =>
    intro i S hi hy
    have h1 : ¬ ((i : Int) < es.length) := by omega
    refine ⟨fun _ => ⟨[(29, .bool false), (1, .ptr x 0 2 0 0), (2, .ptr y 0 3 0 0), (4, .rs 4 (es.map Ext'.v) es.length), (26, .rs 4 (es.map Ext'.v) es.length), (27, .int .i64 es.length), (28, .int .i64 i)], ?_, by simp, by simp, by simp⟩,
      fun h => absurd (fun j e h1 h2 => by have := (List.getElem?_eq_some_iff.1 h2).1; omega) h⟩
    rw [loopL_eq]
    simp [kC, b7x0, h1]
  | succ m ih =>
    intro i S hi hy
    have hil : i < es.length := by omega
    have he : es[i]? = some es[i] := List.getElem?_eq_getElem hil
    have hrow : (es.map Ext'.v)[i]? = some (es[i]).v := by rw [List.getElem?_map, he]; rfl
    have hyl := get_lt _ _ hy
    have hxl : x < S.top := by omega
    have hi' : (i : Int) < es.length := by omega
    have w3 : IntKind.i64.wrap ((i : Int) + 1) = (i : Int) + 1 := wrap64 (by omega) (by omega)
    have hmx : max x y + 1 ≤ S.top := by omega
    have hps := put_self _ _ hy
    obtain ⟨ih1, ih2⟩ := ih (i + 1) S (by omega) hy
    generalize hz : es[i] = z at *
    obtain ⟨z1, z2, z3, z4⟩ := z
    simp only [Ext'.v] at hrow
    generalize es.map Ext'.v = E at *
    by_cases hle : z3 ≤ 16777216
    · have hle' : ¬ ((16777216 : Int) < z3) := by omega
      have hstep : loopL (some [1, 2, 4, 26, 27, 28]) (S.top, S.pin) (kC (ev Q) loopL b7x0) ⟨81, [(1, .ptr x 0 2 0 0), (2, .ptr y 0 3 0 0), (4, .rs 4 E es.length), (26, .rs 4 E es.length), (27, .int .i64 es.length), (28, .int .i64 i)]⟩ S =
          loopL (some [1, 2, 4, 26, 27, 28]) (S.top, S.pin) (kC (ev Q) loopL b7x0) ⟨81, [(1, .ptr x 0 2 0 0), (2, .ptr y 0 3 0 0), (4, .rs 4 E es.length), (26, .rs 4 E es.length), (27, .int .i64 es.length), (28, .int .i64 (i + 1 : Nat))]⟩ S := by
        rw [loopL_eq]
        generalize loopL (some [1, 2, 4, 26, 27, 28]) (S.top, S.pin) (kC (ev Q) loopL b7x0) = F
        simp [kC, b7x0, hi', hrow, hle', w3, hmx, below hyl]
      have hall : (∀ j e, i + 1 ≤ j → es[j]? = some e → e.most ≤ 16777216) ↔ (∀ j e, i ≤ j → es[j]? = some e → e.most ≤ 16777216) := by
        constructor
        · intro h j e hj hje
          rcases Nat.lt_or_ge i j with h5 | h5
          · exact h j e h5 hje
          · obtain rfl : i = j := by omega
            rw [he] at hje; cases hje; exact hle
        · intro h j e hj hje; exact h j e (by omega) hje
      rw [hstep, ← hall]
      exact ⟨ih1, ih2⟩
    · have hle' : (16777216 : Int) < z3 := by omega
      refine ⟨fun h => absurd (h i _ (Nat.le_refl _) he) hle, fun _ => ?_⟩
      rw [loopL_eq]
      generalize loopL (some [1, 2, 4, 26, 27, 28]) (S.top, S.pin) (kC (ev Q) loopL b7x0) = F
      simp [kC, b7x0, hi', hrow, hle', hy, below hyl, hps]
      exact ⟨_, _, ⟨rfl, rfl⟩, by simp, by simp, by simp [below hyl, hy], fun j hj => push_get _ _ _ (by omega), by simp⟩

/-- what is known of a schema -/
noncomputable def knOf (ts : List Typ) (sp : List (List V)) (rv : V) : Kn := ⟨ts, sp, rv, extsN ts, laysN ts⟩
def mostOk (ts : List Typ) : Prop := ∀ (j : Nat) (e : Ext'), (extsN ts)[j]? = some e → e.most ≤ 16777216
theorem knOf_wf {ts : List Typ} (hw : WfTs ts) (sp : List (List V)) (rv : V) : WfK (knOf ts sp rv) := by
  refine ⟨hw, extsN_len ts, by simp [knOf, laysN], fun t ht h8 => ?_⟩
  have hls : (laysN ts)[t]? = some (layN (extsN ts) (ts.getD t noT)) := by
    have ht2 : ts[t]? = some (ts.getD t noT) := getD_some ht noT
    rw [laysN, List.getElem?_map, ht2]; rfl
  have h1 : (knOf ts sp rv).ls.getD t default = layN (extsN ts) (ts.getD t noT) := by
    show (laysN ts).getD t default = _
    rw [List.getD_eq_getElem?_getD, hls]; rfl
  rw [h1]
  have h8' : (ts.getD t noT).kind = 8 := h8
  simp only [layN, h8', if_true]
  exact structL_len _ _

def progV (pr : List Ins × List Int) : V := .agg [.bool true, .rs 4 (pr.1.map Ins.v) pr.1.length, .rs 1 (iV pr.2) pr.2.length]
def noProg : V := .agg [.bool false, .nils, .nils]
theorem kbLL_ins : ∀ l : List Ins, kbLL (l.map Ins.v) = 0 := by
  intro l
  induction l with
  | nil => rfl
  | cons a l ih => simp [Ins.v, ih]
theorem kbLL_iV : ∀ l : List Int, kbLL (iV l) = 0 := by
  intro l
  induction l with
  | nil => rfl
  | cons a l ih => simpa [iV] using ih

theorem Ups_leave {S S' : St} {P : Prop} [Decidable P] (hu : ∀ j, j < S.top → S'.get j = S.get j) (hlt : S.top ≤ S'.top) : Ups S (if P then S'.trunc S.top else S') := by
  by_cases hP : P
  · rw [if_pos hP]
    exact ⟨by rw [top_trunc _ _ hlt]; exact Nat.le_refl _, fun i hi => by rw [trunc_get _ _ _ hi hlt, hu i hi]⟩
  · rw [if_neg hP]
    exact ⟨hlt, hu⟩

section
variable (ts : List Typ) (sp : List (List V)) (hn : ts.length ≤ 1073741824) (rv : V) (rs : List (List UInt8 × Int)) (hrv : RootsV rv rs) (hrs : rs.length ≤ 1073741824)
include hrv
theorem rv_kb : rv.kb = 0 := by rcases hrv with ⟨rfl, _⟩ | ⟨_, rfl⟩ <;> simp

theorem enc_bad (e a : Int) (he : e ≠ 0) (hC : Pure 11 [.agg [tsV ts sp, rv]] (.agg [.int .i64 e, .int .i64 a])) : Pure 7 [.agg [tsV ts sp, rv]] (.tup [noProg, .int .i64 92]) := by
  intro S
  have hkb := rv_kb rv rs hrv
  simp only [tsV] at hC
  rw [ev_eq q7, c7, evFn_eq _ _ _ _ _ _ _ (by simp)]
  simp [tsV, hC _, he, hkb, noProg]

include hn
theorem enc_big (hw : WfTs ts) (a : Int) (hC : Pure 11 [.agg [tsV ts sp, rv]] (.agg [.int .i64 0, .int .i64 a])) (hm : ¬ mostOk ts) (S : St) :
    ∃ S', ev Q 7 [.agg [tsV ts sp, rv]] S = some (.ret (.tup [noProg, .int .i64 91]), S') ∧ Ups S S' := by
  have hkb := rv_kb rv rs hrv
  have hS := sizeOf_ev ts sp hn rv hkb hw a hC
  obtain ⟨l, S', h1, h2, h3, h4, h5, h6⟩ := (size_loop (extsN ts) (by rw [extsN_len]; exact hn) S.top (S.top + 1) (by omega) (extsN ts).length 0 ((S.push (.cells 2 [[tsV ts sp, rv]] 0 0)).push (.cells 3 [[.bool false, .nils, .nils]] 0 0)) (by omega) (by simp)).2 (fun h => hm fun j e => h j e (by omega))
  have hu : ∀ j, j < S.top → S'.get j = S.get j := fun j hj => by rw [h5 j (by omega)]; simp [below hj]
  have hlt : S.top ≤ S'.top := by simp at h6; omega
  simp only [tsV, extsV] at hC hS h1
  simp at h1
  rw [ev_eq q7, c7, evFn_eq _ _ _ _ _ _ _ (by simp)]
  simp [tsV, hC _, hS _, hkb, h1, h2, h3, h4, noProg]
  exact Ups_leave hu hlt
end
end Mev
