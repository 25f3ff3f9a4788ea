/- The program's functions, one equation each: the law's loops. -/
import Derived.Test.YtfndbddlicbjpaaMevWg

set_option maxRecDepth 100000
namespace Mev
open Go Go.Proofs

section
variable (S : St) (y : Nat) (cd : List (List V)) (cl : Nat) (en : List (List V)) (el : Nat)

theorem front_round0 (x i : Nat) (n : Int) (a b : Int) (o1 o2 o3 : Int) (hx : x < S.top) (hy : S.get y = some (.cells 3 [[.bool true, .rs 4 cd cl, .rs 1 en el]] 0 0)) (hi : i + 1 < el) (hel : el ≤ 1073741824)
    (ha : en[i]? = some [.int .i64 a]) (hb : en[i + 1]? = some [.int .i64 b]) (hab : a < b) (ha0 : 0 ≤ a) (hcl : b - 1 < cl) (hclb : cl ≤ 1073741824) (hc : cd[b.toNat - 1]? = some [.int .i64 20, .int .i64 o1, .int .i64 o2, .int .i64 o3]) :
    loopL (some [1, 2, 5, 7]) (S.top, S.pin) (kC (ev Q) loopL b4x0) ⟨163, [(1, .int .i64 n), (2, .ptr x 0 2 0 0), (5, .ptr y 0 3 0 0), (7, .int .i64 (i + 1 : Nat))]⟩ S =
    loopL (some [1, 2, 5, 7]) (S.top, S.pin) (kC (ev Q) loopL b4x0) ⟨163, [(1, .int .i64 n), (2, .ptr x 0 2 0 0), (5, .ptr y 0 3 0 0), (7, .int .i64 (i + 1 + 1 : Nat))]⟩ S := by
  have hyl := get_lt _ _ hy
  have hi' : (i : Int) + 1 < el := by omega
  have hi2 : (i : Int) < el := by omega
  have w3 : IntKind.i64.wrap ((i : Int) + 1 + 1) = (i : Int) + 2 := by rw [wrap64 (by omega) (by omega)]; omega
  have w4 : IntKind.i64.wrap ((i : Int) + 1 - 1) = (i : Int) := by rw [wrap64 (by omega) (by omega)]; omega
  have w4' : IntKind.i64.wrap (i : Int) = (i : Int) := wrap64 (by omega) (by omega)
  have w5 : IntKind.i64.wrap (b - 1) = b - 1 := wrap64 (by omega) (by omega)
  have hba : ¬ (b ≤ a) := by omega
  have hb1 : 0 ≤ b - 1 := by omega
  have hb2 : 1 ≤ b := by omega
  have hmx : max x y + 1 ≤ S.top := by omega
  have hi0 : 0 ≤ (i : Int) + 1 := by omega
  rw [loopL_eq]
  generalize loopL (some [1, 2, 5, 7]) (S.top, S.pin) (kC (ev Q) loopL b4x0) = F
  simp [kC, b4x0, hy, hi', hi2, ha, hb, hba, w3, w4, w4', w5, hb1, hb2, hcl, hc, hmx, hi0]

theorem front_round2 (k i : Nat) (y9 : Nat) (cd9 : List (List V)) (cl9 : Nat) (en9 : List (List V)) (el9 : Nat) (a : Int) (hy : S.get y = some (.cells 3 [[.bool true, .rs 4 cd cl, .rs 1 en el]] 0 0)) (hy9 : S.get y9 = some (.cells 3 [[.bool true, .rs 4 cd9 cl9, .rs 1 en9 el9]] 0 0))
    (hi : i < k) (hk : k ≤ el) (hk9 : k ≤ el9) (hkk : k ≤ 1073741824) (ha : en[i]? = some [.int .i64 a]) (hb : en9[i]? = some [.int .i64 a]) :
    loopL (some [5, 8, 9, 10]) (S.top, S.pin) (kC (ev Q) loopL b4x2) ⟨163, [(5, .ptr y 0 3 0 0), (8, .int .i64 k), (9, .ptr y9 0 3 0 0), (10, .int .i64 i)]⟩ S =
    loopL (some [5, 8, 9, 10]) (S.top, S.pin) (kC (ev Q) loopL b4x2) ⟨163, [(5, .ptr y 0 3 0 0), (8, .int .i64 k), (9, .ptr y9 0 3 0 0), (10, .int .i64 (i + 1 : Nat))]⟩ S := by
  have hyl := get_lt _ _ hy
  have hyl9 := get_lt _ _ hy9
  have hi' : (i : Int) < k := by omega
  have hi2 : (i : Int) < el := by omega
  have hi3 : (i : Int) < el9 := by omega
  have w3 : IntKind.i64.wrap ((i : Int) + 1) = (i : Int) + 1 := wrap64 (by omega) (by omega)
  have hmx : max y y9 + 1 ≤ S.top := by omega
  rw [loopL_eq]
  generalize loopL (some [5, 8, 9, 10]) (S.top, S.pin) (kC (ev Q) loopL b4x2) = F
  simp [kC, b4x2, hy, hy9, hi', hi2, hi3, ha, hb, w3, hmx]

theorem front_round4 (i : Nat) (y9 : Nat) (cd9 : List (List V)) (cl9 : Nat) (en9 : List (List V)) (el9 : Nat) (x1 x2 x3 x4 : Int) (hy : S.get y = some (.cells 3 [[.bool true, .rs 4 cd cl, .rs 1 en el]] 0 0)) (hy9 : S.get y9 = some (.cells 3 [[.bool true, .rs 4 cd9 cl9, .rs 1 en9 el9]] 0 0))
    (hi : i < cl9) (hk : cl9 ≤ cl) (hkk : cl9 ≤ 1073741824) (ha : cd[i]? = some [.int .i64 x1, .int .i64 x2, .int .i64 x3, .int .i64 x4]) (hb : cd9[i]? = some [.int .i64 x1, .int .i64 x2, .int .i64 x3, .int .i64 x4]) :
    loopL (some [5, 9, 11]) (S.top, S.pin) (kC (ev Q) loopL b4x4) ⟨163, [(5, .ptr y 0 3 0 0), (9, .ptr y9 0 3 0 0), (11, .int .i64 i)]⟩ S =
    loopL (some [5, 9, 11]) (S.top, S.pin) (kC (ev Q) loopL b4x4) ⟨163, [(5, .ptr y 0 3 0 0), (9, .ptr y9 0 3 0 0), (11, .int .i64 (i + 1 : Nat))]⟩ S := by
  have hyl := get_lt _ _ hy
  have hyl9 := get_lt _ _ hy9
  have hi' : (i : Int) < cl9 := by omega
  have hi2 : (i : Int) < cl := by omega
  have w3 : IntKind.i64.wrap ((i : Int) + 1) = (i : Int) + 1 := wrap64 (by omega) (by omega)
  have hmx : max y y9 + 1 ≤ S.top := by omega
  rw [loopL_eq]
  generalize loopL (some [5, 9, 11]) (S.top, S.pin) (kC (ev Q) loopL b4x4) = F
  simp [kC, b4x4, hy, hy9, hi', hi2, ha, hb, w3, hmx]
end

theorem front_loop0 (S : St) (y x : Nat) (n : Int) (cd : List Ins) (en : List Int) (hx : x < S.top) (hy : S.get y = some (.cells 3 [[.bool true, .rs 4 (cd.map Ins.v) cd.length, .rs 1 (iV en) en.length]] 0 0)) (hel : en.length ≤ 1073741824) (hcl : cd.length ≤ 1073741824)
    (hr : ∀ i, i + 1 < en.length → ∃ a b : Int, en[i]? = some a ∧ en[i + 1]? = some b ∧ 0 ≤ a ∧ a < b ∧ b - 1 < cd.length ∧ cd[b.toNat - 1]? = some ⟨20, 0, 0, 0⟩) :
    ∀ m i, i + 1 + m = max 1 en.length → ∃ l, loopL (some [1, 2, 5, 7]) (S.top, S.pin) (kC (ev Q) loopL b4x0) ⟨163, [(1, .int .i64 n), (2, .ptr x 0 2 0 0), (5, .ptr y 0 3 0 0), (7, .int .i64 (i + 1 : Nat))]⟩ S =
      some (.exit 0, ⟨163, l⟩, S) ∧ look 1 l = .int .i64 n ∧ look 2 l = .ptr x 0 2 0 0 ∧ look 5 l = .ptr y 0 3 0 0 := by
  intro m
  induction m with
  | zero =>
    intro i hi
    have h1 : ¬ ((i : Int) + 1 < en.length) := by omega
    rw [loopL_eq]
    simp [kC, b4x0, hy, h1]
  | succ m ih =>
    intro i hi
    obtain ⟨a, b, h1, h2, h3, h4, h5, h6⟩ := hr i (by omega)
    have := front_round0 S y (cd.map Ins.v) cd.length (iV en) en.length x i n a b 0 0 0 hx hy (by omega) hel (by rw [iV, List.getElem?_map, h1]; rfl) (by rw [iV, List.getElem?_map, h2]; rfl) h4 h3 h5 hcl (by rw [List.getElem?_map, h6]; rfl)
    rw [this]
    exact ih (i + 1) (by omega)

theorem front_loop2 (S : St) (y y9 k : Nat) (cd cd9 : List Ins) (en en9 : List Int) (hy : S.get y = some (.cells 3 [[.bool true, .rs 4 (cd.map Ins.v) cd.length, .rs 1 (iV en) en.length]] 0 0)) (hy9 : S.get y9 = some (.cells 3 [[.bool true, .rs 4 (cd9.map Ins.v) cd9.length, .rs 1 (iV en9) en9.length]] 0 0))
    (hk : k ≤ en.length) (hk9 : k ≤ en9.length) (hkk : k ≤ 1073741824) (hr : ∀ i, i < k → en[i]? = en9[i]?) :
    ∀ m i, i + m = k → ∃ l, loopL (some [5, 8, 9, 10]) (S.top, S.pin) (kC (ev Q) loopL b4x2) ⟨163, [(5, .ptr y 0 3 0 0), (8, .int .i64 k), (9, .ptr y9 0 3 0 0), (10, .int .i64 i)]⟩ S =
      some (.exit 2, ⟨163, l⟩, S) ∧ look 5 l = .ptr y 0 3 0 0 ∧ look 9 l = .ptr y9 0 3 0 0 := by
  intro m
  induction m with
  | zero =>
    intro i hi
    have h1 : ¬ ((i : Int) < k) := by omega
    rw [loopL_eq]
    simp [kC, b4x2, h1]
  | succ m ih =>
    intro i hi
    have h1 : en[i]? = some en[i] := List.getElem?_eq_getElem (by omega)
    have h2 : en9[i]? = some en[i] := by rw [← hr i (by omega), h1]
    rw [front_round2 S y (cd.map Ins.v) cd.length (iV en) en.length k i y9 (cd9.map Ins.v) cd9.length (iV en9) en9.length en[i] hy hy9 (by omega) hk hk9 hkk (by rw [iV, List.getElem?_map, h1]; rfl) (by rw [iV, List.getElem?_map, h2]; rfl)]
    exact ih (i + 1) (by omega)

theorem front_loop4 (S : St) (y y9 : Nat) (cd cd9 : List Ins) (en en9 : List Int) (hy : S.get y = some (.cells 3 [[.bool true, .rs 4 (cd.map Ins.v) cd.length, .rs 1 (iV en) en.length]] 0 0)) (hy9 : S.get y9 = some (.cells 3 [[.bool true, .rs 4 (cd9.map Ins.v) cd9.length, .rs 1 (iV en9) en9.length]] 0 0))
    (hk : cd9.length ≤ cd.length) (hkk : cd9.length ≤ 1073741824) (hr : ∀ i, i < cd9.length → cd[i]? = cd9[i]?) :
    ∀ m i, i + m = cd9.length → ∃ l, loopL (some [5, 9, 11]) (S.top, S.pin) (kC (ev Q) loopL b4x4) ⟨163, [(5, .ptr y 0 3 0 0), (9, .ptr y9 0 3 0 0), (11, .int .i64 i)]⟩ S =
      some (.exit 4, ⟨163, l⟩, S) := by
  intro m
  induction m with
  | zero =>
    intro i hi
    have h1 : ¬ ((i : Int) < cd9.length) := by omega
    rw [loopL_eq]
    simp [kC, b4x4, h1, hy9]
  | succ m ih =>
    intro i hi
    have h1 : cd9[i]? = some cd9[i] := List.getElem?_eq_getElem (by omega)
    have h2 : cd[i]? = some cd9[i] := by rw [hr i (by omega), h1]
    rw [front_round4 S y (cd.map Ins.v) cd.length (iV en) en.length i y9 (cd9.map Ins.v) cd9.length (iV en9) en9.length _ _ _ _ hy hy9 (by omega) hk hkk (by rw [List.getElem?_map, h2]; rfl) (by rw [List.getElem?_map, h1]; rfl)]
    exact ih (i + 1) (by omega)
end Mev

/- The law of fronts holds of what the evaluator reckons. -/

set_option maxRecDepth 100000
namespace Mev
open Go Go.Proofs

def maxN (n : Int) : Int := if IntKind.i64.wrap (-IntKind.i64.wrap (n + 1)) > n then IntKind.i64.wrap (-IntKind.i64.wrap (n + 1)) else n
theorem maxN_nonneg (n : Int) (h1 : -9223372036854775808 ≤ n) (h2 : n ≤ 9223372036854775807) : 0 ≤ maxN n := by
  unfold maxN
  by_cases h : 0 ≤ n
  · split <;> omega
  · have w1 : IntKind.i64.wrap (n + 1) = n + 1 := wrap64 (by omega) (by omega)
    have w2 : IntKind.i64.wrap (-(n + 1)) = -(n + 1) := wrap64 (by omega) (by omega)
    rw [w1, w2]
    split <;> omega

theorem tsV_take (ts : List Typ) (sp : List (List V)) (k : Nat) (hk : k ≤ ts.length) : tsV (ts.take k) ((ts.drop k).map Typ.v ++ sp) = .rs 4 (ts.map Typ.v ++ sp) k := by
  unfold tsV
  rw [← List.append_assoc, ← List.map_append, List.take_append_drop]
  congr 1
  simp; omega

structure Facts (n k : Nat) (P R : List Ins × List Int) : Prop where
  len : P.2.length = n
  lenR : R.2.length = k
  code : P.1.length ≤ 1048576
  first : 0 < n → P.2[0]? = some 0
  rise : ∀ i, i + 1 < P.2.length → ∃ a b : Int, P.2[i]? = some a ∧ P.2[i + 1]? = some b ∧ 0 ≤ a ∧ a < b ∧ b - 1 < P.1.length ∧ P.1[b.toNat - 1]? = some ⟨20, 0, 0, 0⟩
  ents : ∀ i, i < k → P.2[i]? = R.2[i]?
  cle : R.1.length ≤ P.1.length
  cods : ∀ i, i < R.1.length → P.1[i]? = R.1[i]?
  next : k < n → P.2[k]? = some (R.1.length : Int)
theorem facts (ts : List Typ) (hok : EncOk ts) (k : Nat) (hk : k ≤ ts.length) : Facts ts.length k (progOf ts) (prog (knOf ts [] .nils) k) := by
  have hP : progOf ts = prog (knOf ts [] .nils) ts.length := rfl
  obtain ⟨Y, hY⟩ := prog_front (knOf ts [] .nils) (ts.length - k) k
  rw [show k + (ts.length - k) = ts.length from by omega] at hY
  refine ⟨?_, ?_, ?_, ?_, ?_, ?_, ?_, ?_, ?_⟩
  · rw [hP, prog_len]
  · rw [prog_len]
  · rw [hP]
    rcases Nat.eq_zero_or_pos ts.length with h | h
    · rw [h]; simp [prog]
    · exact hok.2.2.2.2 _ h (Nat.le_refl _)
  · intro h; rw [hP, prog_entry _ _ _ h]; simp [prog]
  · intro i hi
    rw [hP, prog_len] at hi
    have hr := prog_rise (knOf ts [] .nils) i
    obtain ⟨Z, hZ⟩ := prog_front (knOf ts [] .nils) (ts.length - (i + 1)) (i + 1)
    have hl := prog_last (knOf ts [] .nils) i (ts.length - (i + 1))
    rw [show i + 1 + (ts.length - (i + 1)) = ts.length from by omega] at hZ hl
    refine ⟨_, _, prog_entry _ _ _ (by omega), prog_entry _ _ _ hi, by omega, by omega, ?_, ?_⟩
    · rw [hP, hZ, List.length_append]; omega
    · rw [hP, Int.toNat_natCast]; exact hl
  · intro i hi
    rw [hP, prog_entry _ _ _ (by omega), prog_entry _ _ _ hi]
  · rw [hP, hY]; simp
  · intro i hi
    rw [hP, hY, List.getElem?_append_left hi]
  · intro h
    rw [hP, prog_entry _ _ _ h]

theorem raiseFront_bad (S : St) (ts : List Typ) (sp : List (List V)) (rv : V) (rs : List (List UInt8 × Int)) (hrv : RootsV rv rs) (n er : Int) (her : er ≠ 0)
    (h3 : ∀ S, ∃ S', ev Q 7 [.agg [tsV ts sp, rv]] S = some (.ret (.tup [if er = 0 then progV (progOf ts) else noProg, .int .i64 er]), S') ∧ Ups S S') :
    ∃ S', ev Q 4 [.agg [tsV ts sp, rv], .int .i64 n] S = some (.ret (.bool true), S') := by
  have hkb := rv_kb rv rs hrv
  obtain ⟨S1, h4, h5⟩ := awake_ev (S.push (.cells 2 [[tsV ts sp, rv]] 0 0))
  obtain ⟨S2, h6, h7⟩ := h3 S1
  rw [if_neg her] at h6
  have hx : S1.get S.top = some (.cells 2 [[tsV ts sp, rv]] 0 0) := by rw [h5.2 _ (by simp)]; simp
  simp only [tsV, noProg] at h4 h6 hx
  rw [ev_eq q4, c4, evFn_eq _ _ _ _ _ _ _ (by simp)]
  simp [tsV, hkb, h4, h6, hx, her]

theorem raiseFront_ok (S : St) (ts : List Typ) (sp : List (List V)) (rv : V) (rs : List (List UInt8 × Int)) (hrv : RootsV rv rs) (n : Int) (hn1 : -9223372036854775808 ≤ n) (hn2 : n ≤ 9223372036854775807) (hok : EncOk ts)
    (h3 : ∀ S, ∃ S', ev Q 7 [.agg [tsV ts sp, rv]] S = some (.ret (.tup [progV (progOf ts), .int .i64 0]), S') ∧ Ups S S') :
    ∃ S', ev Q 4 [.agg [tsV ts sp, rv], .int .i64 n] S = some (.ret (.bool true), S') := by
  have hkb := rv_kb rv rs hrv
  have hlen : ts.length ≤ 1048576 := hok.2.2.2.1
  obtain ⟨S1, h4, h5⟩ := awake_ev (S.push (.cells 2 [[tsV ts sp, rv]] 0 0))
  obtain ⟨S2, h6, h7⟩ := h3 S1
  obtain ⟨k, hk⟩ : ∃ k : Nat, (maxN n).tmod ((ts.length : Int) + 1) = k := ⟨_, (Int.toNat_of_nonneg (Int.tmod_nonneg _ (maxN_nonneg n hn1 hn2))).symm⟩
  have hkl : k ≤ ts.length := by
    have := Int.tmod_lt_of_pos (maxN n) (by omega : (0 : Int) < (ts.length : Int) + 1)
    omega
  obtain ⟨hok2, hpr⟩ := EncOk_front hok k hkl
  obtain ⟨er2, e1, e2, e3⟩ := enc_ex (ts.take k) ((ts.drop k).map Typ.v ++ sp) (by simp; omega) .nils [] (Or.inl ⟨rfl, rfl⟩) (by simp)
  obtain rfl := e2 hok2 rfl
  rw [tsV_take ts sp k hkl, hpr] at e3
  simp only [if_true] at e3
  obtain ⟨P, hP⟩ : ∃ P, progOf ts = P := ⟨_, rfl⟩
  obtain ⟨R, hR⟩ : ∃ R, prog (knOf ts [] .nils) k = R := ⟨_, rfl⟩
  rw [hP] at h6
  rw [hR] at e3
  obtain ⟨S4, h8, h9⟩ := e3 (S2.push (.cells 3 [[.bool true, .rs 4 (P.1.map Ins.v) P.1.length, .rs 1 (iV P.2) P.2.length]] 0 0))
  have hx1 : S1.get S.top = some (.cells 2 [[tsV ts sp, rv]] 0 0) := by rw [h5.2 _ (by simp)]; simp
  have ht1 : S.top < S1.top := by have := h5.1; simp at this; omega
  have ht2 : S1.top ≤ S2.top := h7.1
  have hx2 : S2.get S.top = some (.cells 2 [[tsV ts sp, rv]] 0 0) := by rw [h7.2 _ (by omega), hx1]
  have ht4 : S2.top + 1 ≤ S4.top := by have := h9.1; simpa using this
  have hxs : S.top < S2.top := by omega
  have hy4 : S4.get S2.top = some (.cells 3 [[.bool true, .rs 4 (P.1.map Ins.v) P.1.length, .rs 1 (iV P.2) P.2.length]] 0 0) := by rw [h9.2 _ (by simp)]; simp
  have F := facts ts hok k hkl
  rw [hP, hR] at F
  obtain ⟨f1, f2, f3, f4, f5, f6, f7, f8, f9⟩ := F
  obtain ⟨PC, PE⟩ := P
  obtain ⟨RC, RE⟩ := R
  simp only [progV] at h6 h8
  simp only at f1 f2 f3 f4 f5 f6 f7 f8 f9 hy4 h8
  have h24 : S2.top < S4.top := by omega
  obtain ⟨l0, q1, q2, q3, q4⟩ := front_loop0 (S2.push (.cells 3 [[.bool true, .rs 4 (PC.map Ins.v) PC.length, .rs 1 (iV PE) PE.length]] 0 0)) S2.top S.top n PC PE (by simp; omega) (by simp) (by omega) (by omega) f5 (max 1 PE.length - 1) 0 (by omega)
  obtain ⟨l2, q5, q6, q7⟩ := front_loop2 (S4.push (.cells 3 [[.bool true, .rs 4 (RC.map Ins.v) RC.length, .rs 1 (iV RE) RE.length]] 0 0)) S2.top S4.top k PC RC PE RE (by simp [below h24, hy4]) (by simp) (by omega) (by omega) (by omega) f6 k 0 (by omega)
  obtain ⟨l4, q8⟩ := front_loop4 (S4.push (.cells 3 [[.bool true, .rs 4 (RC.map Ins.v) RC.length, .rs 1 (iV RE) RE.length]] 0 0)) S2.top S4.top PC RC PE RE (by simp [below h24, hy4]) (by simp) f7 (by omega) f8 RC.length 0 (by omega)
  have w1 : IntKind.i64.wrap ((ts.length : Int) + 1) = (ts.length : Int) + 1 := wrap64 (by omega) (by omega)
  have hne : ¬ ((ts.length : Int) + 1 = 0) := by omega
  have hk0 : (k : Int) ≤ ts.length := by omega
  have hkr : k ≤ (ts.map Typ.v ++ sp).length := by simp; omega
  have hf1 : PE.length = ts.length := f1
  have hrl : RE.length = k := f2
  have hrp : ¬ ((PC.length : Int) < RC.length) := by omega
  have hx4 : S4.get S.top = some (.cells 2 [[tsV ts sp, rv]] 0 0) := by rw [h9.2 _ (by simp; omega)]; simp [below hxs, hx2]
  have hk' : (if n < IntKind.i64.wrap (-IntKind.i64.wrap (n + 1)) then IntKind.i64.wrap (-IntKind.i64.wrap (n + 1)) else n).tmod ((ts.length : Int) + 1) = k := hk
  simp only [tsV] at h4 h6 hx1 hx2 hx4 h8
  simp at q1 q5 q8
  rw [ev_eq Mev.q4, c4, evFn_eq _ _ _ _ _ _ _ (by simp)]
  simp only [tsV]
  have hkr' : (k : Int) ≤ ((ts.map Typ.v ++ sp).length : Int) := by omega
  generalize ts.map Typ.v ++ sp = rows at *
  have hE0 : 0 < ts.length → (iV PE)[0]? = some [.int .i64 0] := fun h => by rw [iV, List.getElem?_map, f4 h]; rfl
  have hEk : k < ts.length → (iV PE)[k]? = some [.int .i64 RC.length] := fun h => by rw [iV, List.getElem?_map, f9 h]; rfl
  rw [hf1] at h6 h8 hy4 q1
  rw [hrl] at h8 q5 q8
  generalize iV PE = EN at *
  generalize iV RE = ER at *
  generalize PC.map Ins.v = CP at *
  generalize RC.map Ins.v = CR at *
  generalize PC.length = pcl at *
  generalize RC.length = rcl at *
  generalize ts.length = tl at *
  rcases Nat.eq_zero_or_pos tl with h0 | h0
  · have hkz : k = 0 := by omega
    subst hkz
    subst h0
    simp at q5
    have w11 : IntKind.i64.wrap 1 = 1 := wrap64 (by omega) (by omega)
    simp [hkb, h4, h6, hx1, hx2, below hxs, q1, q2, q3, q4, w11, h8, hx4, hy4, below h24, hrp, q5, q6, q7, q8]
  · have hE0' := hE0 h0
    have h0' : (0 : Int) < tl := by omega
    rcases Nat.lt_or_ge k tl with hkt | hkt
    · have hEk' := hEk hkt
      have hkt' : (k : Int) < tl := by omega
      simp [hkb, h4, h6, hx1, hx2, below hxs, q1, q2, q3, q4, w1, hne, hk', h0, h0', hE0', hEk', hkt, hkt', hk0, hkr, hkr', h8, hx4, hy4, below h24, hrp, q5, q6, q7, q8]
    · have hkt' : ¬ ((k : Int) < tl) := by omega
      have hkt'' : ¬ (k < tl) := by omega
      simp [hkb, h4, h6, hx1, hx2, below hxs, q1, q2, q3, q4, w1, hne, hk', h0, h0', hE0', hkt', hkt'', hk0, hkr, hkr', h8, hx4, hy4, below h24, hrp, q5, q6, q7, q8]

/-- the law of fronts, of every schema -/
theorem raiseFront_ev (S : St) (ts : List Typ) (sp : List (List V)) (hn : ts.length ≤ 1073741824) (rv : V) (rs : List (List UInt8 × Int)) (hrv : RootsV rv rs) (hrs : rs.length ≤ 1073741824) (n : Int) (hn1 : -9223372036854775808 ≤ n) (hn2 : n ≤ 9223372036854775807) :
    ∃ S', ev Q 4 [.agg [tsV ts sp, rv], .int .i64 n] S = some (.ret (.bool true), S') := by
  obtain ⟨er, h1, _, h3⟩ := enc_ex ts sp hn rv rs hrv hrs
  by_cases her : er = 0
  · subst her
    simp only [if_true] at h3
    exact raiseFront_ok S ts sp rv rs hrv n hn1 hn2 (h1 rfl) h3
  · exact raiseFront_bad S ts sp rv rs hrv n er her h3
end Mev
