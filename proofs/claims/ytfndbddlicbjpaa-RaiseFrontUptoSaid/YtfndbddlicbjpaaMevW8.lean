/- The program's functions, one equation each: may it be a schema. -/
import Derived.Test.YtfndbddlicbjpaaMevW7

set_option maxRecDepth 100000
namespace Mev
open Go Go.Proofs

noncomputable def rightB (t : Typ) (i : Int) : Bool := (right_ex t i).choose
theorem rightB_wf {t : Typ} {i : Int} (h : rightB t i = true) : WfT t i := (right_ex t i).choose_spec.1 h
theorem right_ev (t : Typ) (i : Int) : Pure 20 [.agg t.v, .int .i64 i] (.bool (rightB t i)) := (right_ex t i).choose_spec.2

theorem check_loop0 (ts : List Typ) (sp : List (List V)) (hn : ts.length ≤ 1073741824) (x y : Nat) (hxy : x < y) : ∀ (m i : Nat) (S : St), i + m = ts.length → S.get y = some (.cells 2 [[.int .i64 0, .int .i64 0]] 0 0) →
    ∃ r l S', loopL (some [1, 2, 10, 11, 12]) (S.top, S.pin) (kC (ev Q) loopL b11x0) ⟨80, [(1, .ptr x 0 2 0 0), (2, .ptr y 0 2 0 0), (10, tsV ts sp), (11, .int .i64 ts.length), (12, .int .i64 i)]⟩ S = some (r, ⟨80, l⟩, S') ∧ look 1 l = .ptr x 0 2 0 0 ∧ look 2 l = .ptr y 0 2 0 0 ∧
      (r = .exit 0 ∧ S' = S ∧ (∀ j t, i ≤ j → ts[j]? = some t → rightB t j = true) ∨
       r = .ret ∧ ∃ k : Nat, ts[k]?.any (fun t => !rightB t k) = true ∧ (∀ j t, i ≤ j → j < k → ts[j]? = some t → rightB t j = true) ∧ S'.get y = some (.cells 2 [[.int .i64 92, .int .i64 k]] 0 0) ∧ (∀ k, k ≤ y → S'.trunc k = S.trunc k) ∧ S'.pin = S.pin ∧ S.top ≤ S'.top) := by
  intro m
  induction m with
  | zero =>
    intro i S hi hy
    have h1 : ¬ ((i : Int) < ts.length) := by omega
    refine ⟨.exit 0, [(13, .bool false), (1, .ptr x 0 2 0 0), (2, .ptr y 0 2 0 0), (10, tsV ts sp), (11, .int .i64 ts.length), (12, .int .i64 i)], S, ?_, rfl, rfl, Or.inl ⟨rfl, rfl, fun j t hj ht => ?_⟩⟩
    · rw [loopL_eq]
      simp [kC, b11x0, h1, tsV]
    · have := (List.getElem?_eq_some_iff.1 ht).1; omega
  | succ m ih =>
    intro i S hi hy
    have hil : i < ts.length := by omega
    have ht : ts[i]? = some ts[i] := List.getElem?_eq_getElem hil
    have hr : (ts.map Typ.v ++ sp)[i]? = some (ts[i]).v := by
      rw [List.getElem?_append_left (by simpa using hil), List.getElem?_map, ht]; rfl
    have hyl := get_lt _ _ hy
    have hi' : (i : Int) < ts.length := by omega
    have w3 : IntKind.i64.wrap ((i : Int) + 1) = (i : Int) + 1 := wrap64 (by omega) (by omega)
    have hmx : max x y + 1 ≤ S.top := by omega
    have hrt := fun S => right_ev ts[i] i S
    simp only [Typ.v] at hr hrt
    have htr : ∀ B B' k, k ≤ y → ((S.put y B).push B').trunc k = S.trunc k := by
      intro B B' k hk
      rw [trunc_push _ _ _ (by rw [top_put]; omega), trunc_put_ge _ _ _ _ hk]
    cases hb : rightB ts[i] i with
    | false =>
      rw [hb] at hrt
      have hx : ∃ l S', loopL (some [1, 2, 10, 11, 12]) (S.top, S.pin) (kC (ev Q) loopL b11x0) ⟨80, [(1, .ptr x 0 2 0 0), (2, .ptr y 0 2 0 0), (10, tsV ts sp), (11, .int .i64 ts.length), (12, .int .i64 i)]⟩ S = some (.ret, ⟨80, l⟩, S') ∧ look 1 l = .ptr x 0 2 0 0 ∧ look 2 l = .ptr y 0 2 0 0 ∧
          S'.get y = some (.cells 2 [[.int .i64 92, .int .i64 i]] 0 0) ∧ (∀ k, k ≤ y → S'.trunc k = S.trunc k) ∧ S'.pin = S.pin ∧ S.top ≤ S'.top := by
        rw [loopL_eq]
        generalize loopL (some [1, 2, 10, 11, 12]) (S.top, S.pin) (kC (ev Q) loopL b11x0) = F
        simp [kC, b11x0, tsV, hi', hr, hy, below hyl, hrt]
        exact ⟨_, _, ⟨rfl, rfl⟩, by simp, by simp, by simp [below hyl], htr _ _, by simp, by simp⟩
      obtain ⟨l, S', h1, h2, h3, h4⟩ := hx
      exact ⟨_, l, S', h1, h2, h3, Or.inr ⟨rfl, i, by rw [ht]; simp [hb], fun j t h1 h2 => by omega, h4⟩⟩
    | true =>
      rw [hb] at hrt
      obtain ⟨r, l, S', h1, h2, h3, h4⟩ := ih (i + 1) S (by omega) hy
      refine ⟨r, l, S', ?_, h2, h3, ?_⟩
      · rw [← h1, loopL_eq]
        generalize loopL (some [1, 2, 10, 11, 12]) (S.top, S.pin) (kC (ev Q) loopL b11x0) = F
        simp [kC, b11x0, tsV, hi', hr, hy, below hyl, hrt, w3, hmx]
      · rcases h4 with ⟨a, b, c⟩ | ⟨a, k, b, c, d⟩
        · refine Or.inl ⟨a, b, fun j t hj ht' => ?_⟩
          rcases Nat.lt_or_ge i j with h | h
          · exact c j t h ht'
          · obtain rfl : i = j := by omega
            rw [ht] at ht'; cases ht'; exact hb
        · refine Or.inr ⟨a, k, b, fun j t hj hk ht' => ?_, d⟩
          rcases Nat.lt_or_ge i j with h | h
          · exact c j t h hk ht'
          · obtain rfl : i = j := by omega
            rw [ht] at ht'; cases ht'; exact hb
end Mev

/- The program's functions, one equation each: roots. -/

set_option maxRecDepth 100000
namespace Mev
open Go Go.Proofs

def rootV (p : List UInt8 × Int) : List V := [.str p.1, .int .i64 p.2]
def rootOk (n : Nat) (p : List UInt8 × Int) (i : Nat) (L : List (V × V)) : Bool :=
  nameB p.1 && decide (((putE (.str p.1) (.int .i64 i) L).length : Int) = (i : Int) + 1) && decide (0 ≤ p.2) && decide (p.2 < n) && decide ((i : Int) < 256)

theorem root_round (S : St) (x y m i len : Nat) (ts : List Typ) (sp rows : List (List V)) (L : List (V × V)) (p : List UInt8 × Int) (rv : V)
    (hx : S.get x = some (.cells 2 [[tsV ts sp, rv]] 0 0)) (hy : S.get y = some (.cells 2 [[.int .i64 0, .int .i64 0]] 0 0)) (hm : S.get m = some (.map L)) (h1 : x < y) (h2 : y < m) (hk : strK L) (hr : rows[i]? = some (rootV p)) (hi : i < len) (hlen : len ≤ 1073741824) :
    if rootOk ts.length p i L then
      loopL (some [1, 2, 6, 33, 34, 35]) (S.top, S.pin) (kC (ev Q) loopL b11x2) ⟨80, [(1, .ptr x 0 2 0 0), (2, .ptr y 0 2 0 0), (6, .mp m), (33, .rs 2 rows len), (34, .int .i64 len), (35, .int .i64 i)]⟩ S =
      loopL (some [1, 2, 6, 33, 34, 35]) (S.top, S.pin) (kC (ev Q) loopL b11x2) ⟨80, [(1, .ptr x 0 2 0 0), (2, .ptr y 0 2 0 0), (6, .mp m), (33, .rs 2 rows len), (34, .int .i64 len), (35, .int .i64 (i + 1 : Nat))]⟩ (S.put m (.map (putE (.str p.1) (.int .i64 i) L)))
    else ∃ l S', loopL (some [1, 2, 6, 33, 34, 35]) (S.top, S.pin) (kC (ev Q) loopL b11x2) ⟨80, [(1, .ptr x 0 2 0 0), (2, .ptr y 0 2 0 0), (6, .mp m), (33, .rs 2 rows len), (34, .int .i64 len), (35, .int .i64 i)]⟩ S =
      some (.ret, ⟨80, l⟩, S') ∧ look 2 l = .ptr y 0 2 0 0 ∧ S'.get y = some (.cells 2 [[.int .i64 92, .int .i64 (IntKind.i64.wrap ((ts.length : Int) + i))]] 0 0) ∧ (∀ k, k ≤ y → S'.trunc k = S.trunc k) ∧ S'.pin = S.pin ∧ S.top ≤ S'.top := by
  have hml := get_lt _ _ hm
  have hyl := get_lt _ _ hy
  have hxl := get_lt _ _ hx
  have hi' : (i : Int) < len := by omega
  have w3 : IntKind.i64.wrap ((i : Int) + 1) = (i : Int) + 1 := wrap64 (by omega) (by omega)
  have hmx : max x (max y m) + 1 ≤ S.top := by omega
  have htr : ∀ B B' B'' k, k ≤ y → (((S.put m B).put y B').push B'').trunc k = S.trunc k := by
    intro B B' B'' k hk
    rw [trunc_push _ _ _ (by rw [top_put, top_put]; omega), trunc_put_ge _ _ _ _ hk, trunc_put_ge _ _ _ _ (by omega)]
  obtain ⟨lab, ty⟩ := p
  have hf := strK_find lab L hk
  simp only [rootV] at hr
  simp only [tsV] at hx
  have hn := fun S => name_ev lab S
  simp only [rootOk]
  rw [loopL_eq]
  generalize loopL (some [1, 2, 6, 33, 34, 35]) (S.top, S.pin) (kC (ev Q) loopL b11x2) = F
  obtain ⟨nb, hb⟩ : ∃ nb, nameB lab = nb := ⟨_, rfl⟩
  cases nb with
  | false =>
    rw [hb] at hn
    simp [kC, b11x2, hb, hx, hy, hm, hr, hi', below hxl, below hyl, below hml, below h1, below h2, below (Nat.lt_trans h1 h2), hf, hn, keyOkK]
    exact ⟨_, _, ⟨rfl, rfl⟩, by simp, by simp [below hyl], htr _ _ _, by simp, by simp⟩
  | true =>
    rw [hb] at hn
    by_cases c4 : ((putE (.str lab) (.int .i64 i) L).length : Int) = (i : Int) + 1
    · by_cases c2 : ty < 0
      · have c2' : ¬ (0 ≤ ty) := by omega
        simp [kC, b11x2, hb, hx, hy, hm, hr, hi', below hxl, below hyl, below hml, below h1, below h2, below (Nat.lt_trans h1 h2), hf, hn, keyOkK, c4, c2, c2', w3]
        exact ⟨_, _, ⟨rfl, rfl⟩, by simp, by simp [below hyl], htr _ _ _, by simp, by simp⟩
      · have c2' : 0 ≤ ty := by omega
        by_cases c3 : (ts.length : Int) ≤ ty
        · have c3' : ¬ (ty < ts.length) := by omega
          simp [kC, b11x2, hb, hx, hy, hm, hr, hi', below hxl, below hyl, below hml, below h1, below h2, below (Nat.lt_trans h1 h2), hf, hn, keyOkK, c4, c2, c2', c3, c3', w3]
          exact ⟨_, _, ⟨rfl, rfl⟩, by simp, by simp [below hyl], htr _ _ _, by simp, by simp⟩
        · have c3' : ty < ts.length := by omega
          by_cases c5 : (256 : Int) ≤ i
          · have c5' : ¬ ((i : Int) < 256) := by omega
            have c5'' : ¬ (i < 256) := by omega
            simp [kC, b11x2, hb, hx, hy, hm, hr, hi', below hxl, below hyl, below hml, below h1, below h2, below (Nat.lt_trans h1 h2), hf, hn, keyOkK, c4, c2, c2', c3, c3', c5, c5', c5'', w3]
            exact ⟨_, _, ⟨rfl, rfl⟩, by simp, by simp [below hyl], htr _ _ _, by simp, by simp⟩
          · have c5' : (i : Int) < 256 := by omega
            have c5'' : i < 256 := by omega
            simp [kC, b11x2, hb, hx, hy, hm, hr, hi', below hxl, below hyl, below hml, below h1, below h2, below (Nat.lt_trans h1 h2), hf, hn, keyOkK, c4, c2, c2', c3, c3', c5, c5', c5'', w3, hmx]
    · simp [kC, b11x2, hb, hx, hy, hm, hr, hi', below hxl, below hyl, below hml, below h1, below h2, below (Nat.lt_trans h1 h2), hf, hn, keyOkK, c4, w3]
      exact ⟨_, _, ⟨rfl, rfl⟩, by simp, by simp [below hyl], htr _ _ _, by simp, by simp⟩

theorem roots_loop (ts : List Typ) (sp rsp : List (List V)) (rs : List (List UInt8 × Int)) (hlen : rs.length ≤ 1073741824) : ∀ (n i : Nat) (L : List (V × V)), i + n = rs.length → strK L →
    ∃ e a : Int, (n = 0 → e = 0) ∧ ∀ (S : St) (x y m : Nat), S.get x = some (.cells 2 [[tsV ts sp, .rs 2 (rs.map rootV ++ rsp) rs.length]] 0 0) → S.get y = some (.cells 2 [[.int .i64 0, .int .i64 0]] 0 0) → S.get m = some (.map L) → x < y → y < m →
      ∃ r l S', loopL (some [1, 2, 6, 33, 34, 35]) (S.top, S.pin) (kC (ev Q) loopL b11x2) ⟨80, [(1, .ptr x 0 2 0 0), (2, .ptr y 0 2 0 0), (6, .mp m), (33, .rs 2 (rs.map rootV ++ rsp) rs.length), (34, .int .i64 rs.length), (35, .int .i64 i)]⟩ S = some (r, ⟨80, l⟩, S') ∧ look 2 l = .ptr y 0 2 0 0 ∧
        (r = .ret ∨ r = .exit 2 ∧ e = 0 ∧ a = 0) ∧ S'.get y = some (.cells 2 [[.int .i64 e, .int .i64 a]] 0 0) ∧ (∀ k, k ≤ y → S'.trunc k = S.trunc k) ∧ S'.pin = S.pin ∧ S.top ≤ S'.top := by
  intro n
  induction n with
  | zero =>
    intro i L hi hL
    refine ⟨0, 0, fun _ => rfl, ?_⟩
    intro S x y m hx hy hm h1 h2
    have h3 : ¬ ((i : Int) < rs.length) := by omega
    refine ⟨.exit 2, [(36, .bool false), (1, .ptr x 0 2 0 0), (2, .ptr y 0 2 0 0), (6, .mp m), (33, .rs 2 (rs.map rootV ++ rsp) rs.length), (34, .int .i64 rs.length), (35, .int .i64 i)], S, ?_, rfl, Or.inr ⟨rfl, rfl, rfl⟩, hy, fun _ _ => rfl, rfl, Nat.le_refl _⟩
    rw [loopL_eq]
    simp [kC, b11x2, h3]
  | succ n ih =>
    intro i L hi hL
    have hil : i < rs.length := by omega
    have hp : rs[i]? = some rs[i] := List.getElem?_eq_getElem hil
    have hr : (rs.map rootV ++ rsp)[i]? = some (rootV rs[i]) := by
      rw [List.getElem?_append_left (by simpa using hil), List.getElem?_map, hp]; rfl
    cases hb : rootOk ts.length rs[i] i L with
    | false =>
      refine ⟨92, IntKind.i64.wrap ((ts.length : Int) + i), fun h => (by cases h), ?_⟩
      intro S x y m hx hy hm h1 h2
      have := root_round S x y m i rs.length ts sp (rs.map rootV ++ rsp) L rs[i] _ hx hy hm h1 h2 hL hr hil hlen
      rw [hb] at this
      simp only [Bool.false_eq_true, if_false] at this
      obtain ⟨l, S', h3, h4, h5⟩ := this
      exact ⟨_, l, S', h3, h4, Or.inl rfl, h5⟩
    | true =>
      obtain ⟨e, a, h3, h4⟩ := ih (i + 1) (putE (.str rs[i].1) (.int .i64 i) L) (by omega) (strK_put hL _ _)
      refine ⟨e, a, fun h => (by cases h), ?_⟩
      intro S x y m hx hy hm h1 h2
      have hml := get_lt _ _ hm
      have := root_round S x y m i rs.length ts sp (rs.map rootV ++ rsp) L rs[i] _ hx hy hm h1 h2 hL hr hil hlen
      rw [hb] at this
      simp only [if_true] at this
      rw [this]
      obtain ⟨r, l, S', h5, h6, h7, h8, h9, h10⟩ := h4 (S.put m (.map (putE (.str rs[i].1) (.int .i64 i) L))) x y m (by rw [put_get_if, if_neg (fun h => (by omega : m ≠ x) h.1)]; exact hx) (by rw [put_get_if, if_neg (fun h => (by omega : m ≠ y) h.1)]; exact hy) (by rw [put_get_if, if_pos ⟨rfl, hml⟩]) h1 h2
      simp only [top_put, pin_put] at h5 h10
      exact ⟨r, l, S', h5, h6, h7, h8, fun k hk => by rw [h9 k hk, trunc_put_ge _ _ _ _ (by omega)], h10⟩
end Mev

/- The program's functions, one equation each: may it be a schema, whole. -/

set_option maxRecDepth 100000
namespace Mev
open Go Go.Proofs

/-- a list of roots -/
def RootsV (rv : V) (rs : List (List UInt8 × Int)) : Prop := (rv = .nils ∧ rs = []) ∨ ∃ rsp, rv = .rs 2 (rs.map rootV ++ rsp) rs.length
def allRight (ts : List Typ) : Prop := ∀ (j : Nat) (t : Typ), ts[j]? = some t → rightB t j = true
theorem allRight_wf {ts : List Typ} (h : allRight ts) : WfTs ts := fun i t ht => rightB_wf (h i t ht)

theorem nil_roots (rv : V) (h : rv = .nils) (S : St) (x y m : Nat) : ∃ l, loopL (some [1, 2, 6, 33, 34, 35]) (S.top, S.pin) (kC (ev Q) loopL b11x2) ⟨80, [(1, .ptr x 0 2 0 0), (2, .ptr y 0 2 0 0), (6, .mp m), (33, rv), (34, .int .i64 0), (35, .int .i64 0)]⟩ S = some (.exit 2, ⟨80, l⟩, S) ∧ look 2 l = .ptr y 0 2 0 0 := by
  subst h
  rw [loopL_eq]
  simp [kC, b11x2]

theorem check_ex (ts : List Typ) (sp : List (List V)) (hn : ts.length ≤ 1073741824) (rv : V) (rs : List (List UInt8 × Int)) (hrv : RootsV rv rs) (hrs : rs.length ≤ 1073741824) :
    ∃ e a : Int, (e = 0 → allRight ts ∧ (deepN [] ts).1 = 0) ∧ (allRight ts → (deepN [] ts).1 = 0 → rs = [] → e = 0) ∧ Pure 11 [.agg [tsV ts sp, rv]] (.agg [.int .i64 e, .int .i64 a]) := by
  have hl0 := fun S => check_loop0 ts sp hn (St.top S) (St.top S + 1) (by omega) ts.length 0 ((St.push S (.cells 2 [[tsV ts sp, rv]] 0 0)).push (.cells 2 [[.int .i64 0, .int .i64 0]] 0 0)) (by omega) (by simp)
  have hkb : rv.kb = 0 := by rcases hrv with ⟨rfl, _⟩ | ⟨_, rfl⟩ <;> simp
  by_cases hall : allRight ts
  · have hd := deep_ev ts sp (allRight_wf hall) hn
    have hl0' : ∀ S : St, ∃ l, loopL (some [1, 2, 10, 11, 12]) (S.top + 2, S.pin) (kC (ev Q) loopL b11x0) ⟨80, [(1, .ptr S.top 0 2 0 0), (2, .ptr (S.top + 1) 0 2 0 0), (10, tsV ts sp), (11, .int .i64 ts.length), (12, .int .i64 0)]⟩ ((S.push (.cells 2 [[tsV ts sp, rv]] 0 0)).push (.cells 2 [[.int .i64 0, .int .i64 0]] 0 0)) =
        some (.exit 0, ⟨80, l⟩, ((S.push (.cells 2 [[tsV ts sp, rv]] 0 0)).push (.cells 2 [[.int .i64 0, .int .i64 0]] 0 0))) ∧ look 1 l = .ptr S.top 0 2 0 0 ∧ look 2 l = .ptr (S.top + 1) 0 2 0 0 := by
      intro S
      obtain ⟨r, l, S', h1, h2, h3, h4⟩ := hl0 S
      rcases h4 with ⟨rfl, rfl, _⟩ | ⟨rfl, k, h4, _⟩
      · refine ⟨l, ?_, h2, h3⟩
        simpa using h1
      · exfalso
        cases hk : ts[k]? with
        | none => rw [hk] at h4; simp at h4
        | some t => rw [hk] at h4; simp [hall k t hk] at h4
    by_cases hde : (deepN [] ts).1 = 0
    · rcases hrv with ⟨hnil, rfl⟩ | ⟨rsp, hrv⟩
      · refine ⟨0, 0, fun _ => ⟨hall, hde⟩, fun _ _ _ => rfl, fun S => ?_⟩
        obtain ⟨l, h1, h2, h3⟩ := hl0' S
        obtain ⟨l', h4, h5⟩ := nil_roots rv hnil ((((S.push (.cells 2 [[tsV ts sp, rv]] 0 0)).push (.cells 2 [[.int .i64 0, .int .i64 0]] 0 0)).push (.cells 2 [[.int .i64 (deepN [] ts).1, .int .i64 (deepN [] ts).2]] 0 0)).push (.map [])) S.top (S.top + 1) (S.top + 3)
        subst hnil
        simp only [tsV] at h1 h4 hd
        rw [hde] at hd h4
        simp at h1 h4
        rw [ev_eq q11, c11, evFn_eq _ _ _ _ _ _ _ (by simp)]
        simp [tsV, h1, h2, h3, h4, h5, hd _, hde]
      · obtain ⟨e, a, h7, h8⟩ := roots_loop ts sp rsp rs hrs rs.length 0 [] (by omega) (by intro e he; cases he)
        refine ⟨e, a, fun _ => ⟨hall, hde⟩, fun _ _ h => h7 (by rw [h]; rfl), fun S => ?_⟩
        obtain ⟨l, h1, h2, h3⟩ := hl0' S
        obtain ⟨r, l', S', h4, h5, h6, h9, h10, h11, h12⟩ := h8 ((((S.push (.cells 2 [[tsV ts sp, rv]] 0 0)).push (.cells 2 [[.int .i64 0, .int .i64 0]] 0 0)).push (.cells 2 [[.int .i64 (deepN [] ts).1, .int .i64 (deepN [] ts).2]] 0 0)).push (.map [])) S.top (S.top + 1) (S.top + 3)
          (by simp [hrv]) (by simp) (by simp) (by omega) (by omega)
        have h13 := h10 S.top (by omega)
        have hst : S.top ≤ S'.top := by simp at h12; omega
        subst hrv
        simp only [tsV] at h1 h4 hd
        rw [hde] at hd h4
        simp at h1 h4 h9 h11 h13
        rw [ev_eq q11, c11, evFn_eq _ _ _ _ _ _ _ (by simp)]
        rcases h6 with rfl | ⟨rfl, rfl, rfl⟩
        · simp [tsV, h1, h2, h3, h4, h5, hd _, hde, h9, h11, h13, hst]
        · have hp := put_self _ _ h9
          simp [tsV, h1, h2, h3, h4, h5, hd _, hde, h9, h11, h13, hst, hp]
    · refine ⟨(deepN [] ts).1, (deepN [] ts).2, fun h => absurd h hde, fun _ h => absurd h hde, fun S => ?_⟩
      obtain ⟨l, h1, h2, h3⟩ := hl0' S
      simp only [tsV] at h1 hd
      rw [ev_eq q11, c11, evFn_eq _ _ _ _ _ _ _ (by simp)]
      simp [tsV, h1, h2, h3, hd _, hde, hkb]
  · have hk : ∃ k : Nat, ts[k]?.any (fun t => !rightB t k) = true ∧ ∀ (j : Nat) (t : Typ), j < k → ts[j]? = some t → rightB t j = true := by
      obtain ⟨r, l, S', h1, h2, h3, h4⟩ := hl0 ⟨[], 0⟩
      rcases h4 with ⟨_, _, h4⟩ | ⟨rfl, k, h4, h5, _⟩
      · exact absurd (fun j t => h4 j t (by omega)) hall
      · exact ⟨k, h4, fun j t => h5 j t (by omega)⟩
    obtain ⟨k, hk1, hk2⟩ := hk
    refine ⟨92, k, fun h => (by cases h), fun h => absurd h hall, fun S => ?_⟩
    obtain ⟨r, l, S', h1, h2, h3, h4⟩ := hl0 S
    rcases h4 with ⟨_, _, h4⟩ | ⟨rfl, k', h4, h5, h6, h7, h8, h9⟩
    · exact absurd (fun j t => h4 j t (by omega)) hall
    have hkk : k' = k := by
      rcases Nat.lt_trichotomy k' k with h | h | h
      · exfalso
        cases hk' : ts[k']? with
        | none => rw [hk'] at h4; simp at h4
        | some t => rw [hk'] at h4; simp [hk2 k' t h hk'] at h4
      · exact h
      · exfalso
        cases hk' : ts[k]? with
        | none => rw [hk'] at hk1; simp at hk1
        | some t => rw [hk'] at hk1; simp [h5 k t (by omega) h hk'] at hk1
    subst hkk
    have h13 := h7 S.top (by omega)
    have hst : S.top ≤ S'.top := by simp at h9; omega
    simp only [tsV] at h1
    simp [tsV] at h1 h6 h8 h13
    rw [ev_eq q11, c11, evFn_eq _ _ _ _ _ _ _ (by simp)]
    simp [tsV, h1, h2, h3, h6, h8, h13, hst, hkb]
end Mev
