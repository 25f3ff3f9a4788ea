/- The program's functions, one equation each: a type may be. -/
import Derived.Test.YtfndbddlicbjpaaMevW6

set_option maxRecDepth 100000
namespace Mev
open Go Go.Proofs

/-- what a type that may be is known for -/
structure WfT (t : Typ) (at_ : Int) : Prop where
  num : numberB t.kind t.n = true
  kind : t.kind = 1 ∨ t.kind = 2 ∨ t.kind = 3 ∨ t.kind = 4 ∨ t.kind = 5 ∨ t.kind = 6 ∨ t.kind = 7 ∨ t.kind = 8
  elem : t.kind = 4 ∨ t.kind = 5 ∨ t.kind = 6 → 0 ≤ t.elem ∧ t.elem < at_
  parts : t.kind = 7 ∨ t.kind = 8 → 1 ≤ t.parts.length
  none : ¬ (t.kind = 7 ∨ t.kind = 8) → t.parts = []
  fine : partsFine t at_

theorem fine_nil (t : Typ) (at_ : Int) (h : t.parts = []) : partsFine t at_ := ⟨by simp [h], by simp [h]⟩

theorem right_a (t : Typ) (at_ : Int) (hn : numberB t.kind t.n = true) (h : t.kind = 1 ∨ t.kind = 2 ∨ t.kind = 3) : Pure 20 [.agg t.v, .int .i64 at_] (.bool (decide (t.elem = 0) && decide (t.parts.length = 0))) := by
  have hnum := fun S => number_ev t.kind t.n S
  rw [hn] at hnum
  intro S
  rw [ev_eq q20, c20, evFn_eq _ _ _ _ _ _ _ (by simp)]
  by_cases e0 : 0 ≤ t.elem <;> by_cases e1 : t.elem < at_ <;> by_cases e2 : t.elem = 0 <;> rcases h with h | h | h <;> rw [h] at hnum <;> simp [Typ.v, h, hnum, e0, e1, e2]
theorem right_b (t : Typ) (at_ : Int) (hn : numberB t.kind t.n = true) (h : t.kind = 4 ∨ t.kind = 5 ∨ t.kind = 6) : Pure 20 [.agg t.v, .int .i64 at_] (.bool (decide (0 ≤ t.elem) && decide (t.elem < at_) && decide (t.parts.length = 0))) := by
  have hnum := fun S => number_ev t.kind t.n S
  rw [hn] at hnum
  intro S
  rw [ev_eq q20, c20, evFn_eq _ _ _ _ _ _ _ (by simp)]
  by_cases e0 : 0 ≤ t.elem <;> by_cases e1 : t.elem < at_ <;> rcases h with h | h | h <;> rw [h] at hnum <;> simp [Typ.v, h, hnum, e0, e1]
theorem right_c (t : Typ) (at_ : Int) (hn : numberB t.kind t.n = true) (h : t.kind = 7 ∨ t.kind = 8) (bp : Bool) (hp : Pure 42 [.agg t.v, .int .i64 at_, .int .i64 64] (.bool bp)) : Pure 20 [.agg t.v, .int .i64 at_] (.bool (decide (t.elem = 0) && bp)) := by
  have hnum := fun S => number_ev t.kind t.n S
  rw [hn] at hnum
  simp only [Pure, Typ.v] at hp
  intro S
  rw [ev_eq q20, c20, evFn_eq _ _ _ _ _ _ _ (by simp)]
  by_cases e0 : 0 ≤ t.elem <;> by_cases e1 : t.elem < at_ <;> by_cases e2 : t.elem = 0 <;> rcases h with h | h <;> rw [h] at hnum hp <;> (try rw [e2] at hp) <;> simp [Typ.v, h, hnum, e0, e1, e2, hp]
theorem right_d (t : Typ) (at_ : Int) (hn : numberB t.kind t.n = true) (h : ¬ (t.kind = 1 ∨ t.kind = 2 ∨ t.kind = 3 ∨ t.kind = 4 ∨ t.kind = 5 ∨ t.kind = 6 ∨ t.kind = 7 ∨ t.kind = 8)) : Pure 20 [.agg t.v, .int .i64 at_] (.bool false) := by
  have hnum := fun S => number_ev t.kind t.n S
  rw [hn] at hnum
  have h1 : t.kind ≠ 1 := by omega
  have h2 : t.kind ≠ 2 := by omega
  have h3 : t.kind ≠ 3 := by omega
  have h4 : t.kind ≠ 4 := by omega
  have h5 : t.kind ≠ 5 := by omega
  have h6 : t.kind ≠ 6 := by omega
  have h7 : t.kind ≠ 7 := by omega
  have h8 : t.kind ≠ 8 := by omega
  intro S
  rw [ev_eq q20, c20, evFn_eq _ _ _ _ _ _ _ (by simp)]
  by_cases e0 : 0 ≤ t.elem <;> by_cases e1 : t.elem < at_ <;> simp [Typ.v, hnum, e0, e1, h1, h2, h3, h4, h5, h6, h7, h8]

theorem right_ex (t : Typ) (at_ : Int) : ∃ b : Bool, (b = true → WfT t at_) ∧ Pure 20 [.agg t.v, .int .i64 at_] (.bool b) := by
  cases hn : numberB t.kind t.n with
  | false =>
    have hnum := fun S => number_ev t.kind t.n S
    rw [hn] at hnum
    refine ⟨false, fun h => (by cases h), fun S => ?_⟩
    rw [ev_eq q20, c20, evFn_eq _ _ _ _ _ _ _ (by simp)]
    simp [Typ.v, hnum]
  | true =>
  by_cases a : t.kind = 1 ∨ t.kind = 2 ∨ t.kind = 3
  · refine ⟨_, fun hb => ?_, right_a t at_ hn a⟩
    simp only [Bool.and_eq_true, decide_eq_true_eq, List.length_eq_zero_iff] at hb
    exact ⟨hn, by omega, fun h => by omega, fun h => by omega, fun _ => hb.2, fine_nil _ _ hb.2⟩
  by_cases b : t.kind = 4 ∨ t.kind = 5 ∨ t.kind = 6
  · refine ⟨_, fun hb => ?_, right_b t at_ hn b⟩
    simp only [Bool.and_eq_true, decide_eq_true_eq, List.length_eq_zero_iff] at hb
    exact ⟨hn, by omega, fun _ => hb.1, fun h => by omega, fun _ => hb.2, fine_nil _ _ hb.2⟩
  by_cases c : t.kind = 7 ∨ t.kind = 8
  · obtain ⟨bp, hp1, hp2⟩ := parts_ex t at_
    refine ⟨_, fun hb => ?_, right_c t at_ hn c bp hp2⟩
    simp only [Bool.and_eq_true, decide_eq_true_eq] at hb
    have := hp1 hb.2
    exact ⟨hn, by omega, fun h => by omega, fun _ => this.1, fun h => absurd c h, this.2⟩
  · exact ⟨false, fun h => (by cases h), right_d t at_ hn (by omega)⟩
end Mev

/- The program's functions, one equation each: how deep a type lies. -/

set_option maxRecDepth 100000
namespace Mev
open Go Go.Proofs

theorem deep_round3 (S : St) (d y i j n plen tl ty : Nat) (R prows trows : List (List V)) (a w tag : Int) (lab : List UInt8)
    (hd : S.get d = some (.cells 1 R 0 0)) (hy : y < S.top) (hyd : y ≠ d) (hi : i < n) (hv : R[i]? = some [.int .i64 a]) (hw : R[ty]? = some [.int .i64 w]) (hty : ty < n)
    (hp : prows[j]? = some [.str lab, .int .i64 tag, .int .i64 ty]) (hj : j < plen) (hpl : plen ≤ 1073741824) :
    loopL (some [2, 3, 4, 11, 12, 13, 33, 34, 35]) (S.top, S.pin) (kC (ev Q) loopL b21x3) ⟨68, [(2, .ptr y 0 2 0 0), (3, .sl d 0 1 0 n), (4, .int .i64 i), (11, .rs 4 trows tl), (12, .int .i64 tl), (13, .int .i64 i), (33, .rs 3 prows plen), (34, .int .i64 plen), (35, .int .i64 j)]⟩ S =
    loopL (some [2, 3, 4, 11, 12, 13, 33, 34, 35]) (S.top, S.pin) (kC (ev Q) loopL b21x3) ⟨68, [(2, .ptr y 0 2 0 0), (3, .sl d 0 1 0 n), (4, .int .i64 i), (11, .rs 4 trows tl), (12, .int .i64 tl), (13, .int .i64 i), (33, .rs 3 prows plen), (34, .int .i64 plen), (35, .int .i64 (j + 1 : Nat))]⟩
      (S.put d (.cells 1 (R.set i [.int .i64 (if w > a then w else a)]) 0 0)) := by
  have hdl := get_lt _ _ hd
  have hi' : (i : Int) < n := by omega
  have hj' : (j : Int) < plen := by omega
  have hty' : (ty : Int) < n := by omega
  have w3 : IntKind.i64.wrap ((j : Int) + 1) = (j : Int) + 1 := wrap64 (by omega) (by omega)
  have hmx : max y d + 1 ≤ S.top := by omega
  rw [loopL_eq]
  generalize loopL (some [2, 3, 4, 11, 12, 13, 33, 34, 35]) (S.top, S.pin) (kC (ev Q) loopL b21x3) = F
  simp [kC, b21x3, hd, hp, hv, hw, hi', hj', hty', hi, hty, below hdl, w3, hmx]

def maxI (a w : Int) : Int := if w > a then w else a
def depFold (D : Nat → Int) (ps : List (List UInt8 × Int × Int)) (a : Int) : Int := ps.foldl (fun a p => maxI a (D p.2.2.toNat)) a
def depFirst (D : Nat → Int) (t : Typ) : Int := if t.kind = 4 ∨ t.kind = 5 ∨ t.kind = 6 then D t.elem.toNat else 0
def depN (D : Nat → Int) (t : Typ) : Int := depFold D t.parts (depFirst D t) + 1

theorem deep_loop3 (d y i n tl : Nat) (trows : List (List V)) (t : Typ) (D : Nat → Int) (hyd : y ≠ d) (hi : i < n) (hpl : t.parts.length ≤ 1073741824) (hb : ∀ p ∈ t.parts, 0 ≤ p.2.2 ∧ p.2.2 < i) :
    ∀ (m j : Nat) (S : St) (R : List (List V)) (a : Int), j + m = t.parts.length → S.get d = some (.cells 1 R 0 0) → y < S.top → R[i]? = some [.int .i64 a] → (∀ k, k < i → R[k]? = some [.int .i64 (D k)]) →
    ∃ l, loopL (some [2, 3, 4, 11, 12, 13, 33, 34, 35]) (S.top, S.pin) (kC (ev Q) loopL b21x3) ⟨68, [(2, .ptr y 0 2 0 0), (3, .sl d 0 1 0 n), (4, .int .i64 i), (11, .rs 4 trows tl), (12, .int .i64 tl), (13, .int .i64 i), (33, .rs 3 (t.parts.map partV ++ t.spare) t.parts.length), (34, .int .i64 t.parts.length), (35, .int .i64 j)]⟩ S =
      some (.exit 3, ⟨68, l⟩, S.put d (.cells 1 (R.set i [.int .i64 (depFold D (t.parts.drop j) a)]) 0 0)) ∧ look 2 l = .ptr y 0 2 0 0 ∧ look 3 l = .sl d 0 1 0 n ∧ look 4 l = .int .i64 i ∧ look 11 l = .rs 4 trows tl ∧ look 12 l = .int .i64 tl ∧ look 13 l = .int .i64 i := by
  intro m
  induction m with
  | zero =>
    intro j S R a hj hd hy hv hR
    have h1 : ¬ ((j : Int) < t.parts.length) := by omega
    have h2 : R.set i [.int .i64 (depFold D (t.parts.drop j) a)] = R := by
      rw [List.drop_of_length_le (by omega)]
      simp only [depFold, List.foldl_nil]
      apply List.ext_getElem?
      intro k
      rw [List.getElem?_set]
      split
      · rename_i h; subst h; split
        · rw [hv]
        · rename_i h; rw [List.getElem?_eq_none (by omega)]
      · rfl
    rw [h2, put_self S _ hd]
    rw [loopL_eq]
    simp [kC, b21x3, h1]
  | succ m ih =>
    intro j S R a hj hd hy hv hR
    have hjl : j < t.parts.length := by omega
    have hp : t.parts[j]? = some t.parts[j] := List.getElem?_eq_getElem hjl
    obtain ⟨hb1, hb2⟩ := hb _ (List.mem_of_getElem? hp)
    have hdl := get_lt _ _ hd
    have hr : (t.parts.map partV ++ t.spare)[j]? = some [.str t.parts[j].1, .int .i64 t.parts[j].2.1, .int .i64 t.parts[j].2.2.toNat] := by
      rw [List.getElem?_append_left (by simpa using hjl), List.getElem?_map, hp]; simp [partV, Int.toNat_of_nonneg hb1]
    have := deep_round3 S d y i j n t.parts.length tl t.parts[j].2.2.toNat R _ trows a (D t.parts[j].2.2.toNat) _ _ hd hy hyd hi hv (hR _ (by omega)) (by omega) hr hjl hpl
    rw [this]
    have hil : i < R.length := (List.getElem?_eq_some_iff.1 hv).1
    obtain ⟨l, h1, h2⟩ := ih (j + 1) (S.put d (.cells 1 (R.set i [.int .i64 (maxI a (D t.parts[j].2.2.toNat))]) 0 0)) (R.set i [.int .i64 (maxI a (D t.parts[j].2.2.toNat))]) (maxI a (D t.parts[j].2.2.toNat)) (by omega)
      (by rw [put_get_if, if_pos ⟨rfl, hdl⟩]) (by simpa using hy) (by rw [List.getElem?_set_self hil]) (fun k hk => by rw [List.getElem?_set_ne (by omega)]; exact hR k hk)
    simp only [top_put, pin_put, put_put, List.set_set] at h1
    refine ⟨l, ?_, h2⟩
    rw [List.drop_eq_getElem_cons hjl]
    exact h1

theorem depFold_range (D : Nat → Int) (i : Nat) (hD : ∀ k, k < i → 0 ≤ D k ∧ D k ≤ 64) : ∀ (ps : List (List UInt8 × Int × Int)) (a : Int), (∀ p ∈ ps, 0 ≤ p.2.2 ∧ p.2.2 < i) → 0 ≤ a → a ≤ 64 → 0 ≤ depFold D ps a ∧ depFold D ps a ≤ 64 := by
  intro ps
  induction ps with
  | nil => intro a _ h1 h2; exact ⟨h1, h2⟩
  | cons p ps ih =>
    intro a hb h1 h2
    have hp := hb p List.mem_cons_self
    have hd := hD p.2.2.toNat (by omega)
    have h3 : 0 ≤ maxI a (D p.2.2.toNat) ∧ maxI a (D p.2.2.toNat) ≤ 64 := by unfold maxI; split <;> omega
    exact ih _ (fun q hq => hb q (List.mem_cons_of_mem _ hq)) h3.1 h3.2

theorem deep_round (S : St) (d y i n : Nat) (trows R : List (List V)) (t : Typ) (D : Nat → Int) (hd : S.get d = some (.cells 1 R 0 0)) (hy : S.get y = some (.cells 2 [[.int .i64 0, .int .i64 0]] 0 0)) (hyd : y < d) (hi : i < n) (hn : n ≤ 1073741824)
    (ht : trows[i]? = some t.v) (hw : WfT t i) (hv : R[i]? = some [.int .i64 0]) (hR : ∀ k, k < i → R[k]? = some [.int .i64 (D k)]) (hD : ∀ k, k < i → 0 ≤ D k ∧ D k ≤ 64) :
    if depN D t ≤ 64 then
      loopL (some [2, 3, 11, 12, 13]) (S.top, S.pin) (kC (ev Q) loopL b21x0) ⟨68, [(2, .ptr y 0 2 0 0), (3, .sl d 0 1 0 n), (11, .rs 4 trows n), (12, .int .i64 n), (13, .int .i64 i)]⟩ S =
      loopL (some [2, 3, 11, 12, 13]) (S.top, S.pin) (kC (ev Q) loopL b21x0) ⟨68, [(2, .ptr y 0 2 0 0), (3, .sl d 0 1 0 n), (11, .rs 4 trows n), (12, .int .i64 n), (13, .int .i64 (i + 1 : Nat))]⟩ (S.put d (.cells 1 (R.set i [.int .i64 (depN D t)]) 0 0))
    else ∃ l S', loopL (some [2, 3, 11, 12, 13]) (S.top, S.pin) (kC (ev Q) loopL b21x0) ⟨68, [(2, .ptr y 0 2 0 0), (3, .sl d 0 1 0 n), (11, .rs 4 trows n), (12, .int .i64 n), (13, .int .i64 i)]⟩ S =
      some (.ret, ⟨68, l⟩, S') ∧ look 2 l = .ptr y 0 2 0 0 ∧ S'.get y = some (.cells 2 [[.int .i64 83, .int .i64 i]] 0 0) ∧ (∀ k, k ≤ y → S'.trunc k = S.trunc k) ∧ S'.pin = S.pin ∧ S.top ≤ S'.top := by
  have hdl := get_lt _ _ hd
  have hyl := get_lt _ _ hy
  have hin : (i : Int) < n := by omega
  have hil : i < R.length := (List.getElem?_eq_some_iff.1 hv).1
  have w3 : IntKind.i64.wrap ((i : Int) + 1) = (i : Int) + 1 := wrap64 (by omega) (by omega)
  have hmx : max y d + 1 ≤ S.top := by omega
  have hpl : t.parts.length ≤ 1073741824 := by have := hw.fine.1; omega
  have hset : ∀ v, (R.set i v)[i]? = some v := fun v => List.getElem?_set_self hil
  have hf0 : 0 ≤ depFirst D t ∧ depFirst D t ≤ 64 := by
    unfold depFirst
    split
    · rename_i h
      have := hw.elem h
      exact hD _ (by omega)
    · omega
  have hf := depFold_range D i hD t.parts (depFirst D t) hw.fine.2 hf0.1 hf0.2
  have w4 : IntKind.i64.wrap (depFold D t.parts (depFirst D t) + 1) = depN D t := by rw [wrap64 (by omega) (by omega)]; rfl
  have htr : ∀ B B' B'' k, k ≤ y → (((S.put d B).put y B').push B'').trunc k = S.trunc k := by
    intro B B' B'' k hk
    rw [trunc_push _ _ _ (by rw [top_put, top_put]; omega), trunc_put_ge _ _ _ _ hk, trunc_put_ge _ _ _ _ (by omega)]
  by_cases hk : t.kind = 4 ∨ t.kind = 5 ∨ t.kind = 6
  · have he := hw.elem hk
    have heR := hR t.elem.toNat (by omega)
    have hel : t.elem < n := by omega
    have heN : t.elem.toNat < n := by omega
    have hfirst : depFirst D t = D t.elem.toNat := by rw [depFirst, if_pos hk]
    rw [hfirst] at w4 hf
    obtain ⟨l, h1, h2, h3, h4, h5, h6, h7⟩ := deep_loop3 d y i n n trows t D (by omega) hi hpl hw.fine.2 t.parts.length 0 ((S.put d (.cells 1 (R.set i [.int .i64 (D t.elem.toNat)]) 0 0)).push (.cells 4 [t.v] 0 0)) (R.set i [.int .i64 (D t.elem.toNat)]) (D t.elem.toNat) (by omega)
      (by simp [below hdl]) (by simp; omega) (by rw [List.getElem?_set_self hil]) (fun k hk => by rw [List.getElem?_set_ne (by omega)]; exact hR k hk)
    simp [Typ.v, below hdl] at h1
    by_cases hle : depN D t ≤ 64
    · have hgt : ¬ (64 < depN D t) := by omega
      rw [if_pos hle, loopL_eq]
      generalize loopL (some [2, 3, 11, 12, 13]) (S.top, S.pin) (kC (ev Q) loopL b21x0) = F
      rcases hk with hk | hk | hk <;> rw [hk] at h1 <;>
      simp [kC, b21x0, hset, hd, hv, hin, ht, Typ.v, hk, below hdl, below hyl, below hyd, heR, hel, heN, he.1, hi, h1, h2, h3, h4, h5, h6, h7, w3, w4, hgt, hmx]
    · have hgt : 64 < depN D t := by omega
      rw [if_neg hle, loopL_eq]
      generalize loopL (some [2, 3, 11, 12, 13]) (S.top, S.pin) (kC (ev Q) loopL b21x0) = F
      rcases hk with hk | hk | hk <;> rw [hk] at h1 <;>
      simp [kC, b21x0, hset, hd, hv, hy, hin, ht, Typ.v, hk, below hdl, below hyl, below hyd, heR, hel, heN, he.1, hi, h1, h2, h3, h4, h5, h6, h7, w3, w4, hgt, hmx] <;>
      (refine ⟨_, _, ⟨rfl, rfl⟩, ?_, ?_, fun k hk => ?_, ?_, ?_⟩ <;> first | exact htr _ _ _ _ hk | simp [below hyl, below hyd, h2] | skip)
  · have hfirst : depFirst D t = 0 := by rw [depFirst, if_neg hk]
    have k4 : t.kind ≠ 4 := by omega
    have k5 : t.kind ≠ 5 := by omega
    have k6 : t.kind ≠ 6 := by omega
    rw [hfirst] at w4 hf
    obtain ⟨l, h1, h2, h3, h4, h5, h6, h7⟩ := deep_loop3 d y i n n trows t D (by omega) hi hpl hw.fine.2 t.parts.length 0 (S.push (.cells 4 [t.v] 0 0)) R 0 (by omega)
      (by simp [below hdl, hd]) (by simp; omega) hv hR
    simp [Typ.v, below hdl] at h1
    by_cases hle : depN D t ≤ 64
    · have hgt : ¬ (64 < depN D t) := by omega
      rw [if_pos hle, loopL_eq]
      generalize loopL (some [2, 3, 11, 12, 13]) (S.top, S.pin) (kC (ev Q) loopL b21x0) = F
      simp [kC, b21x0, hset, hd, hv, hin, ht, Typ.v, k4, k5, k6, below hdl, below hyl, below hyd, hi, h1, h2, h3, h4, h5, h6, h7, w3, w4, hgt, hmx]
    · have hgt : 64 < depN D t := by omega
      rw [if_neg hle, loopL_eq]
      generalize loopL (some [2, 3, 11, 12, 13]) (S.top, S.pin) (kC (ev Q) loopL b21x0) = F
      simp [kC, b21x0, hset, hd, hv, hy, hin, ht, Typ.v, k4, k5, k6, below hdl, below hyl, below hyd, hi, h1, h2, h3, h4, h5, h6, h7, w3, w4, hgt, hmx] <;>
      (refine ⟨_, _, ⟨rfl, rfl⟩, ?_, ?_, fun k hk => ?_, ?_, ?_⟩ <;> first | exact htr _ _ _ _ hk | simp [below hyl, below hyd, h2] | skip)
end Mev

/- The program's functions, one equation each: how deep types lie. -/

set_option maxRecDepth 100000
namespace Mev
open Go Go.Proofs

/-- a list's items told one by one, each by those ahead of it -/
def dOf (ds : List Int) (k : Nat) : Int := ds.getD k 0
def deepN : List Int → List Typ → Int × Int
  | _, [] => (0, 0)
  | ds, t :: r => if depN (dOf ds) t ≤ 64 then deepN (ds ++ [depN (dOf ds) t]) r else (83, ds.length)
def dV (ds : List Int) : List (List V) := ds.map fun d => [.int .i64 d]
def tsV (ts : List Typ) (sp : List (List V)) : V := .rs 4 (ts.map Typ.v ++ sp) ts.length
def WfTs (ts : List Typ) : Prop := ∀ (i : Nat) (t : Typ), ts[i]? = some t → WfT t i

theorem dV_get (ds : List Int) (m k : Nat) (h : k < ds.length) : (dV (ds ++ List.replicate m 0))[k]? = some [.int .i64 (dOf ds k)] := by
  rw [dV, List.getElem?_map, List.getElem?_append_left h, List.getElem?_eq_getElem h]
  simp [dOf, List.getD_eq_getElem?_getD, List.getElem?_eq_getElem h]
theorem dV_zero (ds : List Int) (m : Nat) : (dV (ds ++ List.replicate (m + 1) 0))[ds.length]? = some [.int .i64 0] := by
  rw [dV, List.getElem?_map, List.getElem?_append_right (Nat.le_refl _)]
  simp [List.replicate_succ]
theorem dV_set (ds : List Int) (m : Nat) (v : Int) : (dV (ds ++ List.replicate (m + 1) 0)).set ds.length [.int .i64 v] = dV (ds ++ [v] ++ List.replicate m 0) := by
  simp [dV, List.replicate_succ, List.set_append_right]

theorem deep_loop (ts : List Typ) (sp : List (List V)) (hw : WfTs ts) (hn : ts.length ≤ 1073741824) (d y : Nat) (hyd : y < d) : ∀ (m : Nat) (S : St) (ds : List Int), ds.length + m = ts.length → (∀ k, k < ds.length → 0 ≤ dOf ds k ∧ dOf ds k ≤ 64) →
    S.get d = some (.cells 1 (dV (ds ++ List.replicate m 0)) 0 0) → S.get y = some (.cells 2 [[.int .i64 0, .int .i64 0]] 0 0) →
    ∃ r l S', loopL (some [2, 3, 11, 12, 13]) (S.top, S.pin) (kC (ev Q) loopL b21x0) ⟨68, [(2, .ptr y 0 2 0 0), (3, .sl d 0 1 0 ts.length), (11, tsV ts sp), (12, .int .i64 ts.length), (13, .int .i64 ds.length)]⟩ S = some (r, ⟨68, l⟩, S') ∧ look 2 l = .ptr y 0 2 0 0 ∧
      (r = .ret ∨ r = .exit 0 ∧ deepN ds (ts.drop ds.length) = (0, 0)) ∧ S'.get y = some (.cells 2 [[.int .i64 (deepN ds (ts.drop ds.length)).1, .int .i64 (deepN ds (ts.drop ds.length)).2]] 0 0) ∧ (∀ k, k ≤ y → S'.trunc k = S.trunc k) ∧ S'.pin = S.pin ∧ S.top ≤ S'.top := by
  intro m
  induction m with
  | zero =>
    intro S ds hl hD hd hy
    have h1 : ¬ ((ds.length : Int) < ts.length) := by omega
    rw [List.drop_of_length_le (by omega)]
    refine ⟨.exit 0, [(14, .bool false), (2, .ptr y 0 2 0 0), (3, .sl d 0 1 0 ts.length), (11, tsV ts sp), (12, .int .i64 ts.length), (13, .int .i64 ds.length)], S, ?_, rfl, Or.inr ⟨rfl, rfl⟩, hy, fun _ _ => rfl, rfl, Nat.le_refl _⟩
    rw [loopL_eq]
    simp [kC, b21x0, h1, tsV]
  | succ m ih =>
    intro S ds hl hD hd hy
    have hil : ds.length < ts.length := by omega
    have ht : ts[ds.length]? = some ts[ds.length] := List.getElem?_eq_getElem hil
    have hr : (ts.map Typ.v ++ sp)[ds.length]? = some (ts[ds.length]).v := by
      rw [List.getElem?_append_left (by simpa using hil), List.getElem?_map, ht]; rfl
    have hdl := get_lt _ _ hd
    have hround := deep_round S d y ds.length ts.length (ts.map Typ.v ++ sp) _ ts[ds.length] (dOf ds) hd hy hyd hil hn hr (hw _ _ ht) (dV_zero ds m) (fun k hk => dV_get ds _ k hk) hD
    rw [List.drop_eq_getElem_cons hil]
    by_cases hle : depN (dOf ds) ts[ds.length] ≤ 64
    · rw [if_pos hle] at hround
      have hge : 0 ≤ depN (dOf ds) ts[ds.length] := by
        have hf0 : 0 ≤ depFirst (dOf ds) ts[ds.length] ∧ depFirst (dOf ds) ts[ds.length] ≤ 64 := by
          unfold depFirst
          split
          · rename_i h
            have := (hw _ _ ht).elem h
            exact hD _ (by omega)
          · omega
        have := depFold_range (dOf ds) ds.length hD (ts[ds.length]).parts _ (hw _ _ ht).fine.2 hf0.1 hf0.2
        unfold depN; omega
      have := ih (S.put d (.cells 1 (dV (ds ++ [depN (dOf ds) ts[ds.length]] ++ List.replicate m 0)) 0 0)) (ds ++ [depN (dOf ds) ts[ds.length]]) (by simp; omega) (fun k hk => by
          simp only [List.length_append, List.length_singleton] at hk
          rcases Nat.lt_or_ge k ds.length with h | h
          · have := hD k h
            simpa [dOf, List.getD_eq_getElem?_getD, List.getElem?_append_left h] using this
          · obtain rfl : k = ds.length := by omega
            simpa [dOf, List.getD_eq_getElem?_getD] using ⟨hge, hle⟩)
        (by rw [put_get_if, if_pos ⟨rfl, hdl⟩]) (by rw [put_get_if, if_neg (fun h => (by omega : d ≠ y) h.1)]; exact hy)
      simp only [List.length_append, List.length_singleton, top_put, pin_put] at this
      obtain ⟨r, l, S', h1, h2, h3, h4, h5, h6⟩ := this
      rw [deepN, if_pos hle]
      refine ⟨r, l, S', ?_, h2, h3, h4, fun k hk => by rw [h5 k hk, trunc_put_ge _ _ _ _ (by omega)], h6⟩
      rw [dV_set] at hround
      simp only [tsV] at h1 ⊢
      rw [hround]
      exact h1
    · rw [if_neg hle] at hround
      obtain ⟨l, S', h1, h2, h3, h4⟩ := hround
      rw [deepN, if_neg hle]
      exact ⟨.ret, l, S', h1, h2, Or.inl rfl, h3, h4⟩

theorem kbLL_zeros (n : Nat) (v : Int) : kbLL (List.replicate n [.int .i64 v]) = 0 := by
  induction n with
  | zero => rfl
  | succ n ih => simp [List.replicate_succ, ih]

theorem deep_ev (ts : List Typ) (sp : List (List V)) (hw : WfTs ts) (hn : ts.length ≤ 1073741824) : Pure 21 [tsV ts sp] (.agg [.int .i64 (deepN [] ts).1, .int .i64 (deepN [] ts).2]) := by
  intro S
  obtain ⟨r, l, S', h1, h2, h3, h4, h5, h6, h7⟩ := deep_loop ts sp hw hn (S.top + 1) S.top (by omega) ts.length ((S.push (.cells 2 [[.int .i64 0, .int .i64 0]] 0 0)).push (.cells 1 (dV (List.replicate ts.length 0)) 0 0)) [] (by simp) (fun k hk => by simp at hk)
    (by simp) (by simp)
  have h8 := h5 S.top (Nat.le_refl _)
  have h9 : dV (List.replicate ts.length 0) = List.replicate ts.length [.int .i64 0] := by simp [dV]
  rw [h9] at h1
  have hb : (ts.length : Int) * 8 ≤ 140737488355328 := by omega
  have hb' : (ts.length : Int) ≤ 140737488355328 := by omega
  have hyl := get_lt _ _ h4
  have hle : S.top ≤ S'.top := by omega
  simp [tsV] at h1 h4 h6 h8
  rw [ev_eq q21, c21, evFn_eq _ _ _ _ _ _ _ (by simp)]
  rcases h3 with rfl | ⟨rfl, h3⟩
  · simp [tsV, kbLL_zeros, hb, hb', h1, h2, h4, h6, h8, hle]
  · simp only [List.length_nil, List.drop_zero] at h3
    rw [h3] at h4
    have hp := put_self _ _ h4
    simp [tsV, kbLL_zeros, hb, hb', h1, h2, h3, h4, h6, h8, hle, hp]
end Mev
