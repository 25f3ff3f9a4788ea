/- The document's answer, one equation each: names. -/
import Derived.Test.YtfndbddlicbjpaaMevW2
import Derived.Test.YtfndbddlicbjpaaMevW3
import Derived.Lib.Mul64

set_option maxRecDepth 100000
namespace Mev
open Go Go.Proofs

theorem rletter_ev (c : Int) : Pure 53 [.int .u8 c] (.bool (decide (97 ≤ c) && decide (c ≤ 122))) := by
  intro S
  rw [ev_eq q53, show c53 = c43 from rfl, ← ev_eq q43]
  exact letter_ev c S
theorem rdigit_ev (c : Int) : Pure 64 [.int .u8 c] (.bool (decide (48 ≤ c) && decide (c ≤ 57))) := by
  intro S
  rw [ev_eq q64, show c64 = c61 from rfl, ← ev_eq q61]
  exact digit_ev c S
theorem rgoes_ev (c : Int) : Pure 55 [.int .u8 c] (.bool (furtherB c)) := by
  intro S
  rw [ev_eq q55, c55, evFn_eq _ _ _ _ _ _ _ (by simp)]
  have h1 := fun S => rletter_ev c S
  have h2 := fun S => rdigit_ev c S
  unfold furtherB
  cases hl : (decide (97 ≤ c) && decide (c ≤ 122)) <;> cases hd : (decide (48 ≤ c) && decide (c ≤ 57)) <;> rw [hl] at h1 <;> rw [hd] at h2 <;> simp [h1, h2]
theorem rword_ev (s : List UInt8) : Pure 54 [.str s] (.bool (wordB s)) := by
  intro S
  rw [ev_eq q54, show c54 = c46 from rfl, ← ev_eq q46]
  exact word_ev s S

theorem rname_loop (s : List UInt8) (hs : s.length ≤ 1073741824) (S : St) : ∀ m i : Nat, i + m = s.length →
    ∃ r l, loopL (some [0, 3]) (S.top, S.pin) (kC (ev Q) loopL b32x0) ⟨32, [(0, .str s), (3, .int .i64 i)]⟩ S = some (r, ⟨32, l⟩, S) ∧
      if runN s i = s.length then r = .exit 0 else r = .ret ∧ look 2 l = .bool false := by
  intro m
  induction m with
  | zero =>
    intro i hi
    rw [loopL_eq]
    have h1 : ¬ (i : Int) < s.length := by omega
    have h2 : runN s i = s.length := by unfold runN; rw [List.drop_of_length_le (by omega)]; simp; omega
    simp [kC, b32x0, h1, h2]
  | succ m ih =>
    intro i hi
    have hlt : i < s.length := by omega
    have h1 : (i : Int) < s.length := by omega
    have hb : s[i]? = some s[i] := List.getElem?_eq_getElem hlt
    have hf := fun S => rgoes_ev s[i].toNat S
    have hd : s.drop i = s[i] :: s.drop (i + 1) := List.drop_eq_getElem_cons hlt
    cases hfb : furtherB s[i].toNat with
    | false =>
      have h2 : runN s i ≠ s.length := by unfold runN; rw [hd, List.takeWhile_cons_of_neg (by simp [hfb])]; simp; omega
      rw [hfb] at hf
      simp only [if_neg h2]
      rw [loopL_eq]
      simp [kC, b32x0, h1, hb, hf]
      exact ⟨_, _, ⟨rfl, rfl⟩, rfl, by simp⟩
    | true =>
      rw [hfb] at hf
      have h2 : runN s i = runN s (i + 1) := by unfold runN; rw [hd, List.takeWhile_cons_of_pos (by simp [hfb])]; simp; omega
      obtain ⟨r, l, h3, h4⟩ := ih (i + 1) (by omega)
      have hw : IntKind.i64.wrap ((i : Int) + 1) = (i : Int) + 1 := wrap64 (by omega) (by omega)
      refine ⟨r, l, ?_, by rw [h2]; exact h4⟩
      rw [← h3, loopL_eq]
      generalize loopL (some [0, 3]) (S.top, S.pin) (kC (ev Q) loopL b32x0) = F
      simp [kC, b32x0, h1, hb, hf, hw]

theorem rname_ev (s : List UInt8) : Pure 32 [.str s] (.bool (nameB s)) := by
  intro S
  rw [ev_eq q32, c32, evFn_eq _ _ _ _ _ _ _ (by simp)]
  cases s with
  | nil => simp [nameB]
  | cons c r =>
    by_cases h1 : (c :: r).length ≤ 32
    · have hl := fun S => rletter_ev c.toNat S
      have hw := fun S => rword_ev (c :: r) S
      have h1' : ¬ (32 < (r.length : Int) + 1) := by simp at h1; omega
      have h1'' : r.length + 1 ≤ 32 := by simpa using h1
      unfold nameB
      cases h2 : (decide (97 ≤ (c.toNat : Int)) && decide ((c.toNat : Int) ≤ 122)) with
      | false => rw [h2] at hl; simp [h1', hl, h2]
      | true =>
        rw [h2] at hl
        cases h4 : wordB (c :: r) with
        | true => rw [h4] at hw; simp [h1', hl, h2, hw, h4]
        | false =>
          rw [h4] at hw
          obtain ⟨x, l, h5, h6⟩ := rname_loop (c :: r) (by omega) S (c :: r).length 0 (by omega)
          simp at h5
          by_cases h3 : runN (c :: r) 0 = (c :: r).length
          · rw [if_pos h3] at h6
            subst h6
            simp at h3
            simp [h1', h1'', hl, h2, hw, h3, h4, h5]
          · rw [if_neg h3] at h6
            obtain ⟨rfl, h6⟩ := h6
            simp at h3
            simp [h1', h1'', hl, h2, hw, h3, h4, h5, h6]
    · have h1' : 32 < (r.length : Int) + 1 := by simp at h1; omega
      have h1'' : ¬ (r.length + 1 ≤ 32) := by simpa using h1
      simp [nameB, h1', h1'']
end Mev

/- The product of sizes, as a number. -/

set_option maxRecDepth 100000
namespace Mev
open Go Go.Proofs

theorem and32 (x : Nat) (hx : x < 18446744073709551616) : (BitVec.ofInt 64 (x : Int) &&& BitVec.ofInt 64 4294967295).toNat = x % 4294967296 := by
  rw [BitVec.toNat_and]
  have h1 : (BitVec.ofInt 64 (x : Int)).toNat = x := by
    rw [BitVec.toNat_ofInt]; omega
  have h2 : (BitVec.ofInt 64 4294967295).toNat = 2 ^ 32 - 1 := by decide
  rw [h1, h2, Nat.and_two_pow_sub_one_eq_mod]
theorem wrapu {x : Int} (h : 0 ≤ x) (h' : x < 18446744073709551616) : IntKind.u64.wrap x = x := by
  unfold IntKind.wrap; simp [IntKind.signed, IntKind.bits]; omega

theorem wrapN {z : Nat} (h : z < 18446744073709551616) : IntKind.u64.wrap (z : Int) = z := wrapu (by omega) (by omega)
theorem fdivN (z : Nat) : (z : Int).fdiv 4294967296 = ((z / 4294967296 : Nat) : Int) := by
  rw [Int.fdiv_eq_ediv_of_nonneg _ (by omega)]; rfl
theorem andN (z : Nat) : z % 18446744073709551616 &&& 4294967295 % 18446744073709551616 = z % 4294967296 := by
  rw [show 4294967295 % 18446744073709551616 = 2 ^ 32 - 1 from rfl, Nat.and_two_pow_sub_one_eq_mod]
  omega

theorem mul64_nat (x y : Nat) (hx : x < 18446744073709551616) (hy : y < 18446744073709551616) : Pure 62 [.int .u64 x, .int .u64 y] (.tup [.int .u64 (x * y / 18446744073709551616 : Nat), .int .u64 (x * y % 18446744073709551616 : Nat)]) := by
  intro S
  rw [ev_eq q62, c62, evFn_eq _ _ _ _ _ _ _ (by simp)]
  simp [shiftOp]
  have e1 : ((2 : Int) ^ min 32 IntKind.u64.bits) = 4294967296 := by decide
  have e2 : (2 : Nat) ^ IntKind.u64.bits = 18446744073709551616 := by decide
  have e3 : (2 : Int) ^ IntKind.u64.bits = 18446744073709551616 := by decide
  obtain ⟨b1, b2, b3, b4⟩ := Go.Lib.mul64_hi x y hx hy
  have hhi : x * y / 18446744073709551616 < 18446744073709551616 := by
    rw [Nat.div_lt_iff_lt_mul (by omega)]
    exact Nat.mul_lt_mul'' hx hy
  simp only [e1, e2, e3, andN, fdivN]
  have hlo : IntKind.u64.wrap ((x : Int) * (y : Int)) = (x : Int) * (y : Int) % 18446744073709551616 := by
    unfold IntKind.wrap; simp [IntKind.signed, IntKind.bits]
  refine ⟨?_, hlo⟩
  have hr : (x : Int) * (y : Int) / 18446744073709551616 = ((x * y / 18446744073709551616 : Nat) : Int) := by
    rw [← Int.natCast_mul]; rfl
  rw [hr]
  generalize hx1 : x / 4294967296 = x1 at *
  generalize hx0 : x % 4294967296 = x0 at *
  generalize hy1 : y / 4294967296 = y1 at *
  generalize hy0 : y % 4294967296 = y0 at *
  rw [wrapN (show x0 < 18446744073709551616 by omega), wrapN (show y0 < 18446744073709551616 by omega)]
  rw [← Int.natCast_mul x1 y0, ← Int.natCast_mul x0 y0, ← Int.natCast_mul x1 y1, ← Int.natCast_mul x0 y1]
  rw [wrapN b1, fdivN]
  rw [wrapN (show x1 * y0 < 18446744073709551616 by omega), ← Int.natCast_add, wrapN b2, fdivN]
  rw [show (((x1 * y0 + x0 * y0 / 4294967296 : Nat) : Int) % 18446744073709551616).toNat = (x1 * y0 + x0 * y0 / 4294967296) % 18446744073709551616 from by omega, andN]
  rw [wrapN (show (x1 * y0 + x0 * y0 / 4294967296) % 4294967296 < 18446744073709551616 by omega)]
  rw [wrapN (show x0 * y1 < 18446744073709551616 by omega), ← Int.natCast_add, wrapN b3, fdivN]
  rw [wrapN (show x1 * y1 < 18446744073709551616 by omega), ← Int.natCast_add, wrapN (show x1 * y1 + (x1 * y0 + x0 * y0 / 4294967296) / 4294967296 < 18446744073709551616 by omega), ← Int.natCast_add, b4, wrapN hhi]

/-- the product of sizes -/
def timesI (a b : Int) : Int := min (sizedN a * sizedN b) 4611686018427387904
theorem times_eq (a b : Int) : timesN a b = timesI a b := by
  have ha : 0 ≤ sizedN a ∧ sizedN a ≤ 4611686018427387904 := by unfold sizedN; omega
  have hb : 0 ≤ sizedN b ∧ sizedN b ≤ 4611686018427387904 := by unfold sizedN; omega
  obtain ⟨x, hx⟩ : ∃ x : Nat, sizedN a = x := ⟨_, (Int.toNat_of_nonneg ha.1).symm⟩
  obtain ⟨y, hy⟩ : ∃ y : Nat, sizedN b = y := ⟨_, (Int.toNat_of_nonneg hb.1).symm⟩
  have h := mul64_nat x y (by omega) (by omega)
  have h1 := fun S => sized_ev a S
  have h2 := fun S => sized_ev b S
  rw [hx] at h1
  rw [hy] at h2
  have hwx : IntKind.u64.wrap (x : Int) = x := wrapN (by omega)
  have hwy : IntKind.u64.wrap (y : Int) = y := wrapN (by omega)
  have hev : Pure 47 [.int .i64 a, .int .i64 b] (.int .i64 (timesI a b)) := by
    intro S
    rw [ev_eq q47, c47, evFn_eq _ _ _ _ _ _ _ (by simp)]
    have hp : timesI a b = ((min (x * y) 4611686018427387904 : Nat) : Int) := by
      unfold timesI; rw [hx, hy, ← Int.natCast_mul]; omega
    rw [hp]
    have h0 := h S
    generalize x * y = z at *
    by_cases c : 0 < z / 18446744073709551616
    · have c' : (0 : Int) < ((z / 18446744073709551616 : Nat) : Int) := by omega
      have hz : min z 4611686018427387904 = 4611686018427387904 := by omega
      rw [hz]
      generalize z / 18446744073709551616 = q at *
      generalize z % 18446744073709551616 = r at *
      simp [h1, h2, h0, hwx, hwy, c, c']
    · have c' : ¬ ((0 : Int) < ((z / 18446744073709551616 : Nat) : Int)) := by omega
      by_cases d : 4611686018427387904 < z % 18446744073709551616
      · have d' : (4611686018427387904 : Int) < ((z % 18446744073709551616 : Nat) : Int) := by omega
        have hz : min z 4611686018427387904 = 4611686018427387904 := by omega
        rw [hz]
        generalize z / 18446744073709551616 = q at *
        generalize z % 18446744073709551616 = r at *
        simp [h1, h2, h0, hwx, hwy, c, c', d, d']
      · have d' : ¬ ((4611686018427387904 : Int) < ((z % 18446744073709551616 : Nat) : Int)) := by omega
        have hz : min z 4611686018427387904 = z % 18446744073709551616 := by omega
        rw [hz]
        generalize z / 18446744073709551616 = q at *
        generalize hr : z % 18446744073709551616 = r at *
        have hw : IntKind.i64.wrap (r : Int) = r := wrap64 (by omega) (by omega)
        simp [h1, h2, h0, hwx, hwy, c, c', d, d', hw]
  have := (times_ev a b ⟨[], 0⟩).symm.trans (hev ⟨[], 0⟩)
  simpa using this
end Mev

/- The document's answer, one equation each: sizes that saturate; slots. -/

set_option maxRecDepth 100000
namespace Mev
open Go Go.Proofs

theorem rsize_ev (n : Int) : Pure 67 [.int .i64 n] (.int .i64 (sizedN n)) := by
  intro S
  rw [ev_eq q67, c67, evFn_eq _ _ _ _ _ _ _ (by simp)]
  have h : sizedN n = (if (if (4611686018427387904 : Int) < n then 4611686018427387904 else n) > (0 : Int) then (if (4611686018427387904 : Int) < n then 4611686018427387904 else n) else 0) := by unfold sizedN; split <;> split <;> omega
  rw [h]
  simp

theorem plusN_eq (a b : Int) : plusN a b = min (sizedN a + sizedN b) 4611686018427387904 := by
  have ha := sized_bd a
  have hb := sized_bd b
  unfold plusN plus1; omega

theorem rplus_ev (S : St) (id : Nat) (a b : Int) (gen lo : Nat) (hg : S.get id = some (.cells 1 [[.int .i64 a], [.int .i64 b]] gen lo)) (hlo : lo ≤ gen) : ev Q 66 [.sl id gen 1 0 2] S = some (.ret (.int .i64 (plusN a b)), S) := by
  have hid := get_lt _ _ hg
  have h1 := fun n S => rsize_ev n S
  have ha := sized_bd a
  have hb := sized_bd b
  have c1 : ¬ (4611686018427387904 < sizedN a) := by omega
  have w0 : IntKind.i64.wrap (sizedN a) = sizedN a := wrap64 (by omega) (by omega)
  have w1 : IntKind.i64.wrap (4611686018427387904 - sizedN a) = 4611686018427387904 - sizedN a := wrap64 (by omega) (by omega)
  have w2 : IntKind.i64.wrap 4611686018427387904 = 4611686018427387904 := wrap64 (by omega) (by omega)
  have w3 : IntKind.i64.wrap 1 = 1 := wrap64 (by omega) (by omega)
  have w4 : IntKind.i64.wrap 2 = 2 := wrap64 (by omega) (by omega)
  have r1 : loopL (some [0, 3, 4]) (S.top, S.pin) (kC (ev Q) loopL b66x0) ⟨27, [(0, .sl id gen 1 0 2), (3, .int .i64 0), (4, .int .i64 0)]⟩ S =
      loopL (some [0, 3, 4]) (S.top, S.pin) (kC (ev Q) loopL b66x0) ⟨27, [(0, .sl id gen 1 0 2), (3, .int .i64 (sizedN a)), (4, .int .i64 1)]⟩ S := by
    rw [loopL_eq]
    generalize loopL (some [0, 3, 4]) (S.top, S.pin) (kC (ev Q) loopL b66x0) = F
    simp [kC, b66x0, hg, hlo, h1, c1, w0, w2, w3, below hid]
  rw [ev_eq q66, c66, evFn_eq _ _ _ _ _ _ _ (by simp)]
  rw [plusN_eq]
  by_cases c2 : 4611686018427387904 - sizedN a < sizedN b
  · have hm : min (sizedN a + sizedN b) 4611686018427387904 = 4611686018427387904 := by omega
    rw [hm]
    have r2 : ∃ l, loopL (some [0, 3, 4]) (S.top, S.pin) (kC (ev Q) loopL b66x0) ⟨27, [(0, .sl id gen 1 0 2), (3, .int .i64 (sizedN a)), (4, .int .i64 1)]⟩ S = some (.ret, ⟨27, l⟩, S) ∧ look 2 l = .int .i64 4611686018427387904 := by
      rw [loopL_eq]
      simp [kC, b66x0, hg, hlo, h1, c2, w1]
    obtain ⟨l, h2, h3⟩ := r2
    simp [r1, h2, h3]
  · have hm : min (sizedN a + sizedN b) 4611686018427387904 = sizedN a + sizedN b := by omega
    rw [hm]
    have w5 : IntKind.i64.wrap (sizedN a + sizedN b) = sizedN a + sizedN b := wrap64 (by omega) (by omega)
    have r2 : loopL (some [0, 3, 4]) (S.top, S.pin) (kC (ev Q) loopL b66x0) ⟨27, [(0, .sl id gen 1 0 2), (3, .int .i64 (sizedN a)), (4, .int .i64 1)]⟩ S =
        loopL (some [0, 3, 4]) (S.top, S.pin) (kC (ev Q) loopL b66x0) ⟨27, [(0, .sl id gen 1 0 2), (3, .int .i64 (sizedN a + sizedN b)), (4, .int .i64 2)]⟩ S := by
      rw [loopL_eq]
      generalize loopL (some [0, 3, 4]) (S.top, S.pin) (kC (ev Q) loopL b66x0) = F
      simp [kC, b66x0, hg, hlo, h1, c2, w1, w4, w5, below hid]
    have r3 : ∃ l, loopL (some [0, 3, 4]) (S.top, S.pin) (kC (ev Q) loopL b66x0) ⟨27, [(0, .sl id gen 1 0 2), (3, .int .i64 (sizedN a + sizedN b)), (4, .int .i64 2)]⟩ S = some (.exit 0, ⟨27, l⟩, S) ∧ look 3 l = .int .i64 (sizedN a + sizedN b) := by
      rw [loopL_eq]
      simp [kC, b66x0]
    obtain ⟨l, h2, h3⟩ := r3
    simp [r1, r2, h2, h3]

theorem rplus10_ev (a b : Int) : Pure 58 [.int .i64 a, .int .i64 b] (.int .i64 (plusN a b)) := by
  intro S
  have h := rplus_ev (S.push (.cells 1 [[.int .i64 a], [.int .i64 b]] 0 0)) S.top a b 0 0 (by simp) (Nat.le_refl _)
  rw [ev_eq q58, c58, evFn_eq _ _ _ _ _ _ _ (by simp)]
  simp [h]

theorem rtimes_ev (a b : Int) : Pure 65 [.int .i64 a, .int .i64 b] (.int .i64 (timesI a b)) := by
  have h1 := fun n S => rsize_ev n S
  have ha := sized_bd a
  have hb := sized_bd b
  intro S
  rw [ev_eq q65, c65, evFn_eq _ _ _ _ _ _ _ (by simp)]
  unfold timesI
  obtain ⟨x, hx⟩ : ∃ x, sizedN a = x := ⟨_, rfl⟩
  obtain ⟨y, hy⟩ : ∃ y, sizedN b = y := ⟨_, rfl⟩
  rw [hx] at ha ⊢
  rw [hy] at hb ⊢
  by_cases x0 : x = 0
  · subst x0
    simp [h1, hx, hy]
    rfl
  by_cases y0 : y = 0
  · subst y0
    simp [h1, hx, hy, x0]
    rfl
  have hyp : 0 < y := by omega
  have hq : (4611686018427387904 : Int).tdiv y = 4611686018427387904 / y := Int.tdiv_eq_ediv_of_nonneg (by omega)
  have hq0 : 0 ≤ (4611686018427387904 : Int) / y := Int.ediv_nonneg (by omega) (by omega)
  have hq1 : (4611686018427387904 : Int) / y ≤ 4611686018427387904 := Int.ediv_le_self _ (by omega)
  have w1 : IntKind.i64.wrap ((4611686018427387904 : Int).tdiv y) = 4611686018427387904 / y := by rw [hq]; exact wrap64 (by omega) (by omega)
  have hle := Int.le_ediv_iff_mul_le (a := x) (b := 4611686018427387904) hyp
  have hnn : 0 ≤ x * y := Int.mul_nonneg ha.1 hb.1
  by_cases c : (4611686018427387904 : Int) / y < x
  · have hm : min (x * y) 4611686018427387904 = 4611686018427387904 := by
      have : ¬ (x * y ≤ 4611686018427387904) := fun h => by have := hle.2 h; omega
      omega
    rw [hm]
    simp [h1, hx, hy, x0, y0, w1, c]
  · have hxy : x * y ≤ 4611686018427387904 := hle.1 (by omega)
    have hm : min (x * y) 4611686018427387904 = x * y := by omega
    have w2 : IntKind.i64.wrap (x * y) = x * y := wrap64 (by omega) (by omega)
    rw [hm]
    simp [h1, hx, hy, x0, y0, w1, c, w2]
theorem rtimes10_ev (a b : Int) : Pure 57 [.int .i64 a, .int .i64 b] (.int .i64 (timesI a b)) := by
  have h := fun S => rtimes_ev a b S
  intro S
  rw [ev_eq q57, c57, evFn_eq _ _ _ _ _ _ _ (by simp)]
  simp [h]

/-- what a part takes up, at least and at most -/
theorem rpart_ev (e : Ext') : Pure 56 [.agg e.v] (.tup [.int .i64 (withinN e e.least), .int .i64 (withinN e e.most)]) := by
  have h := fun a b S => rplus10_ev a b S
  intro S
  rw [ev_eq q56, c56, evFn_eq _ _ _ _ _ _ _ (by simp)]
  obtain ⟨f, l, m, d⟩ := e
  cases f <;> simp [Ext'.v, withinN, h]

theorem rplus13_ev (a b : Int) (ha : 0 ≤ a ∧ a ≤ 4611686018427387904) (hb : 0 ≤ b ∧ b ≤ 4611686018427387904) : Pure 36 [.int .i64 a, .int .i64 b] (.int .i64 (plusN a b)) := by
  intro S
  have h1 : sizedN a = a := by unfold sizedN; omega
  have h2 : sizedN b = b := by unfold sizedN; omega
  have w1 : IntKind.i64.wrap (4611686018427387904 - b) = 4611686018427387904 - b := wrap64 (by omega) (by omega)
  rw [ev_eq q36, c36, evFn_eq _ _ _ _ _ _ _ (by simp), plusN_eq, h1, h2]
  by_cases c : 4611686018427387904 - b < a
  · have hm : min (a + b) 4611686018427387904 = 4611686018427387904 := by omega
    rw [hm]
    simp [w1, c]
  · have hm : min (a + b) 4611686018427387904 = a + b := by omega
    have w2 : IntKind.i64.wrap (a + b) = a + b := wrap64 (by omega) (by omega)
    rw [hm]
    simp [w1, c, w2]
theorem rtimes13_ev (a b : Int) (ha : 0 ≤ a ∧ a ≤ 4611686018427387904) (hb : 0 ≤ b ∧ b ≤ 4611686018427387904) : Pure 37 [.int .i64 a, .int .i64 b] (.int .i64 (timesI a b)) := by
  intro S
  have h1 : sizedN a = a := by unfold sizedN; omega
  have h2 : sizedN b = b := by unfold sizedN; omega
  rw [ev_eq q37, c37, evFn_eq _ _ _ _ _ _ _ (by simp), timesI, h1, h2]
  by_cases a0 : a = 0
  · subst a0
    have w0 : IntKind.i64.wrap 0 = 0 := wrap64 (by omega) (by omega)
    simp [w0]
    rfl
  have hap : 0 < a := by omega
  have hq : (4611686018427387904 : Int).tdiv a = 4611686018427387904 / a := Int.tdiv_eq_ediv_of_nonneg (by omega)
  have hq0 : 0 ≤ (4611686018427387904 : Int) / a := Int.ediv_nonneg (by omega) (by omega)
  have hq1 : (4611686018427387904 : Int) / a ≤ 4611686018427387904 := Int.ediv_le_self _ (by omega)
  have w1 : IntKind.i64.wrap ((4611686018427387904 : Int).tdiv a) = 4611686018427387904 / a := by rw [hq]; exact wrap64 (by omega) (by omega)
  have hle := Int.le_ediv_iff_mul_le (a := b) (b := 4611686018427387904) hap
  have hcm : b * a = a * b := Int.mul_comm b a
  rw [hcm] at hle
  have hnn : 0 ≤ a * b := Int.mul_nonneg ha.1 hb.1
  by_cases c : (4611686018427387904 : Int) / a < b
  · have hm : min (a * b) 4611686018427387904 = 4611686018427387904 := by
      have : ¬ (a * b ≤ 4611686018427387904) := fun h => by have := hle.2 h; omega
      omega
    rw [hm]
    simp [hap, a0, w1, c]
  · have hxy : a * b ≤ 4611686018427387904 := hle.1 (by omega)
    have hm : min (a * b) 4611686018427387904 = a * b := by omega
    have w2 : IntKind.i64.wrap (a * b) = a * b := wrap64 (by omega) (by omega)
    rw [hm]
    simp [hap, a0, w1, c, w2]
def rslotN (e : Ext') (n : Int) : Slot' := if e.fixed then ⟨n, false, e.least⟩ else ⟨n, true, 4⟩
theorem rslot_ev (e : Ext') (n : Int) : Pure 35 [.agg e.v, .int .i64 n] (.agg (rslotN e n).v) := by
  intro S
  rw [ev_eq q35, c35, evFn_eq _ _ _ _ _ _ _ (by simp)]
  obtain ⟨f, l, m, d⟩ := e
  cases f <;> simp [Ext'.v, Slot'.v, rslotN]
end Mev
