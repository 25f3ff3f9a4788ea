/- The program's functions, one equation each: a type's parts. -/
import Derived.Test.YtfndbddlicbjpaaMevW4
import Derived.Test.YtfndbddlicbjpaaMevW2

set_option maxRecDepth 100000
namespace Mev
open Go Go.Proofs

def mapputV (S : St) (q : LK) (m k y : V) : Option (V × St) :=
  match m with
  | .mp id => match S.get id with
    | some (.map es) =>
      if keyOkK q k && (findE k es).isSome then some (.un, (S.put id (.map (putE k y es))).pinTo (if Nat.max k.kb y.kb ≤ id then 0 else Nat.max k.kb y.kb)) else none
    | _ => none
  | _ => none
@[simp] theorem evOper_mapput (C : Oracle) (T : Env) (S : St) (q : LK) (m k y : Od) : evOper C T S [] (.mapput q m k y) = stK (mapputV S q (opd T m) (opd T k) (opd T y)) :=
  evOper_st C T S (by simp) (by simp) (by simp) rfl
@[simp] theorem mapputV_mp (S : St) (q : LK) (id : Nat) (k y : V) : mapputV S q (.mp id) k y = (match S.get id with
    | some (.map es) =>
      if keyOkK q k && (findE k es).isSome then some (.un, (S.put id (.map (putE k y es))).pinTo (if Nat.max k.kb y.kb ≤ id then 0 else Nat.max k.kb y.kb)) else none
    | _ => none) := rfl

def strK (L : List (V × V)) : Prop := ∀ e ∈ L, ∃ s, e.1 = .str s
def intK (L : List (V × V)) : Prop := ∀ e ∈ L, ∃ n, e.1 = .int .i64 n
theorem strK_find (s : List UInt8) : ∀ L, strK L → (findE (.str s) L).isSome = true := by
  intro L
  induction L with
  | nil => intro _; rfl
  | cons e L ih =>
    intro h
    obtain ⟨k, v⟩ := e
    obtain ⟨u, hu⟩ := h (k, v) List.mem_cons_self
    simp only at hu; subst hu
    simp only [findE, leafEq]
    cases decide (s = u) with
    | true => rfl
    | false => exact ih fun e he => h e (List.mem_cons_of_mem _ he)
theorem intK_find (n : Int) : ∀ L, intK L → (findE (.int .i64 n) L).isSome = true := by
  intro L
  induction L with
  | nil => intro _; rfl
  | cons e L ih =>
    intro h
    obtain ⟨k, v⟩ := e
    obtain ⟨u, hu⟩ := h (k, v) List.mem_cons_self
    simp only at hu; subst hu
    simp only [findE, leafEq, if_true]
    cases decide (n = u) with
    | true => rfl
    | false => exact ih fun e he => h e (List.mem_cons_of_mem _ he)
theorem putE_K (Q : V → Prop) (k v : V) (hk : Q k) : ∀ L, (∀ e ∈ L, Q e.1) → ∀ e ∈ putE k v L, Q e.1 := by
  intro L
  induction L with
  | nil => intro _ e he; simp [putE] at he; subst he; exact hk
  | cons a L ih =>
    intro h e he
    obtain ⟨k', w⟩ := a
    have h1 := h (k', w) List.mem_cons_self
    have h2 : ∀ e ∈ L, Q e.1 := fun e he => h e (List.mem_cons_of_mem _ he)
    simp only [putE] at he
    split at he
    · rcases List.mem_cons.1 he with rfl | he
      · exact hk
      · exact h2 _ he
    · rcases List.mem_cons.1 he with rfl | he
      · exact h1
      · exact ih h2 _ he
theorem strK_put {L : List (V × V)} (h : strK L) (s : List UInt8) (v : V) : strK (putE (.str s) v L) := putE_K (fun k => ∃ s, k = .str s) _ _ ⟨s, rfl⟩ L h
theorem intK_put {L : List (V × V)} (h : intK L) (n : Int) (v : V) : intK (putE (.int .i64 n) v L) := putE_K (fun k => ∃ s, k = .int .i64 s) _ _ ⟨n, rfl⟩ L h

/-- what one part says: may it be, and the maps behind it -/
def partMap (kind : Int) (p : List UInt8 × Int × Int) (i : Nat) (L T : List (V × V)) : List (V × V) × List (V × V) :=
  if kind = 8 then (putE (.str p.1) (.int .i64 i) L, T) else (L, putE (.int .i64 p.2.1) (.int .i64 i) T)
def partOk (kind : Int) (at_ : Int) (p : List UInt8 × Int × Int) (i : Nat) (L T : List (V × V)) : Bool :=
  (if kind = 8 then nameB p.1 && decide (p.2.1 = 0) else decide (0 ≤ p.2.1) && decide (p.2.1 ≤ 255) && decide (p.1 = [])) && decide (0 ≤ p.2.2) && decide (p.2.2 < at_)
   && decide (IntKind.i64.wrap (((partMap kind p i L T).1.length : Int) + (partMap kind p i L T).2.length) = IntKind.i64.wrap ((i : Int) + 1))

theorem trunc_two (S : St) (m : Nat) (B c d : Blk) (k : Nat) (h : k ≤ m) (hm : m < S.top) : (((S.put m B).push c).push d).trunc k = S.trunc k := by
  have h1 : k ≤ S.top := by omega
  have h2 : k ≤ S.top + 1 := by omega
  simp [h1, h2]
  rw [put_ge]
  simp; omega

theorem part_round8 (S : St) (x mL mT i len : Nat) (rows : List (List V)) (n e at_ : Int) (L T : List (V × V)) (p : List UInt8 × Int × Int) (ps : V)
    (hx : S.get x = some (.cells 4 [[.int .i64 8, .int .i64 n, .int .i64 e, ps]] 0 0)) (hL : S.get mL = some (.map L)) (hT : S.get mT = some (.map T)) (h1 : x < mL) (h2 : mL < mT) (hk : strK L) (hr : rows[i]? = some (partV p)) (hi : i < len) (hlen : len ≤ 1073741824) :
    if partOk 8 at_ p i L T then
      loopL (some [1, 3, 7, 8, 26, 27, 28]) (S.top, S.pin) (kC (ev Q) loopL b42x0) ⟨90, [(1, .int .i64 at_), (3, .ptr x 0 4 0 0), (7, .mp mL), (8, .mp mT), (26, .rs 3 rows len), (27, .int .i64 len), (28, .int .i64 i)]⟩ S =
      loopL (some [1, 3, 7, 8, 26, 27, 28]) (S.top, S.pin) (kC (ev Q) loopL b42x0) ⟨90, [(1, .int .i64 at_), (3, .ptr x 0 4 0 0), (7, .mp mL), (8, .mp mT), (26, .rs 3 rows len), (27, .int .i64 len), (28, .int .i64 (i + 1 : Nat))]⟩ (S.put mL (.map (putE (.str p.1) (.int .i64 i) L)))
    else ∃ l S', loopL (some [1, 3, 7, 8, 26, 27, 28]) (S.top, S.pin) (kC (ev Q) loopL b42x0) ⟨90, [(1, .int .i64 at_), (3, .ptr x 0 4 0 0), (7, .mp mL), (8, .mp mT), (26, .rs 3 rows len), (27, .int .i64 len), (28, .int .i64 i)]⟩ S =
      some (.ret, ⟨90, l⟩, S') ∧ look 6 l = .bool false ∧ (∀ k, k ≤ x → S'.trunc k = S.trunc k) ∧ S'.pin = S.pin ∧ S.top ≤ S'.top := by
  have hLl := get_lt _ _ hL
  have hTl := get_lt _ _ hT
  have hxl := get_lt _ _ hx
  have hi' : (i : Int) < len := by omega
  have w3 : IntKind.i64.wrap ((i : Int) + 1) = (i : Int) + 1 := wrap64 (by omega) (by omega)
  have hmx : max x mT + 1 ≤ S.top := by omega
  have ht : ∀ B c d k, k ≤ x → (((S.put mL B).push c).push d).trunc k = S.trunc k := fun B c d k h => trunc_two S mL B c d k (by omega) hLl
  obtain ⟨lab, tag, ty⟩ := p
  have hf := strK_find lab L hk
  simp only [partV] at hr
  have hn := fun S => name_ev lab S
  simp only [partOk, partMap]
  rw [loopL_eq]
  generalize loopL (some [1, 3, 7, 8, 26, 27, 28]) (S.top, S.pin) (kC (ev Q) loopL b42x0) = F
  cases hb : nameB lab with
  | false =>
    rw [hb] at hn
    simp [kC, b42x0, hx, hL, hT, hr, hi', below hxl, below hLl, below hTl, below h1, below h2, hf, hn, keyOkK]
    exact ⟨_, _, ⟨rfl, rfl⟩, by simp, ht _ _ _, by simp, by simp⟩
  | true =>
    rw [hb] at hn
    by_cases c1 : tag = 0
    · by_cases c2 : ty < 0
      · have c2' : ¬ (0 ≤ ty) := by omega
        simp [kC, b42x0, hx, hL, hT, hr, hi', below hxl, below hLl, below hTl, below h1, below h2, hf, hn, keyOkK, c1, c2, c2']
        exact ⟨_, _, ⟨rfl, rfl⟩, by simp, ht _ _ _, by simp, by simp⟩
      · have c2' : 0 ≤ ty := by omega
        by_cases c3 : at_ ≤ ty
        · have c3' : ¬ (ty < at_) := by omega
          simp [kC, b42x0, hx, hL, hT, hr, hi', below hxl, below hLl, below hTl, below h1, below h2, hf, hn, keyOkK, c1, c2, c2', c3, c3']
          exact ⟨_, _, ⟨rfl, rfl⟩, by simp, ht _ _ _, by simp, by simp⟩
        · have c3' : ty < at_ := by omega
          by_cases c4 : IntKind.i64.wrap (((putE (.str lab) (.int .i64 i) L).length : Int) + T.length) = (i : Int) + 1
          · simp [kC, b42x0, hx, hL, hT, hr, hi', below hxl, below hLl, below hTl, below h1, below h2, hf, hn, keyOkK, c1, c2, c2', c3, c3', c4, w3, hmx]
          · simp [kC, b42x0, hx, hL, hT, hr, hi', below hxl, below hLl, below hTl, below h1, below h2, hf, hn, keyOkK, c1, c2, c2', c3, c3', c4, w3]
            exact ⟨_, _, ⟨rfl, rfl⟩, by simp, ht _ _ _, by simp, by simp⟩
    · simp [kC, b42x0, hx, hL, hT, hr, hi', below hxl, below hLl, below hTl, below h1, below h2, hf, hn, keyOkK, c1]
      exact ⟨_, _, ⟨rfl, rfl⟩, by simp, ht _ _ _, by simp, by simp⟩
theorem part_round7 (S : St) (x mL mT i len : Nat) (rows : List (List V)) (kd n e at_ : Int) (L T : List (V × V)) (p : List UInt8 × Int × Int) (ps : V)
    (hx : S.get x = some (.cells 4 [[.int .i64 kd, .int .i64 n, .int .i64 e, ps]] 0 0)) (hL : S.get mL = some (.map L)) (hT : S.get mT = some (.map T)) (h1 : x < mL) (h2 : mL < mT) (hkd : kd ≠ 8) (hk : intK T) (hr : rows[i]? = some (partV p)) (hi : i < len) (hlen : len ≤ 1073741824) :
    if partOk kd at_ p i L T then
      loopL (some [1, 3, 7, 8, 26, 27, 28]) (S.top, S.pin) (kC (ev Q) loopL b42x0) ⟨90, [(1, .int .i64 at_), (3, .ptr x 0 4 0 0), (7, .mp mL), (8, .mp mT), (26, .rs 3 rows len), (27, .int .i64 len), (28, .int .i64 i)]⟩ S =
      loopL (some [1, 3, 7, 8, 26, 27, 28]) (S.top, S.pin) (kC (ev Q) loopL b42x0) ⟨90, [(1, .int .i64 at_), (3, .ptr x 0 4 0 0), (7, .mp mL), (8, .mp mT), (26, .rs 3 rows len), (27, .int .i64 len), (28, .int .i64 (i + 1 : Nat))]⟩ (S.put mT (.map (putE (.int .i64 p.2.1) (.int .i64 i) T)))
    else ∃ l S', loopL (some [1, 3, 7, 8, 26, 27, 28]) (S.top, S.pin) (kC (ev Q) loopL b42x0) ⟨90, [(1, .int .i64 at_), (3, .ptr x 0 4 0 0), (7, .mp mL), (8, .mp mT), (26, .rs 3 rows len), (27, .int .i64 len), (28, .int .i64 i)]⟩ S =
      some (.ret, ⟨90, l⟩, S') ∧ look 6 l = .bool false ∧ (∀ k, k ≤ x → S'.trunc k = S.trunc k) ∧ S'.pin = S.pin ∧ S.top ≤ S'.top := by
  have hLl := get_lt _ _ hL
  have hTl := get_lt _ _ hT
  have hxl := get_lt _ _ hx
  have hi' : (i : Int) < len := by omega
  have w3 : IntKind.i64.wrap ((i : Int) + 1) = (i : Int) + 1 := wrap64 (by omega) (by omega)
  have hmx : max x mT + 1 ≤ S.top := by omega
  have ht : ∀ B c d k, k ≤ x → (((S.put mT B).push c).push d).trunc k = S.trunc k := fun B c d k h => trunc_two S mT B c d k (by omega) hTl
  obtain ⟨lab, tag, ty⟩ := p
  have hf := intK_find tag T hk
  simp only [partV] at hr
  simp only [partOk, partMap]
  rw [loopL_eq]
  generalize loopL (some [1, 3, 7, 8, 26, 27, 28]) (S.top, S.pin) (kC (ev Q) loopL b42x0) = F
  by_cases d1 : tag < 0
  · have d1' : ¬ (0 ≤ tag) := by omega
    simp [kC, b42x0, hx, hL, hT, hr, hi', below hxl, below hLl, below hTl, below h1, below h2, hf, keyOkK, hkd, d1, d1']
    exact ⟨_, _, ⟨rfl, rfl⟩, by simp, ht _ _ _, by simp, by simp⟩
  by_cases d2 : 255 < tag
  · have d1' : 0 ≤ tag := by omega
    have d2' : ¬ (tag ≤ 255) := by omega
    simp [kC, b42x0, hx, hL, hT, hr, hi', below hxl, below hLl, below hTl, below h1, below h2, hf, keyOkK, hkd, d1, d1', d2, d2']
    exact ⟨_, _, ⟨rfl, rfl⟩, by simp, ht _ _ _, by simp, by simp⟩
  have d1' : 0 ≤ tag := by omega
  have d2' : tag ≤ 255 := by omega
  by_cases c1 : lab = []
  · by_cases c2 : ty < 0
    · have c2' : ¬ (0 ≤ ty) := by omega
      simp [kC, b42x0, hx, hL, hT, hr, hi', below hxl, below hLl, below hTl, below h1, below h2, hf, keyOkK, hkd, d1, d1', d2, d2', c1, c2, c2']
      exact ⟨_, _, ⟨rfl, rfl⟩, by simp, ht _ _ _, by simp, by simp⟩
    · have c2' : 0 ≤ ty := by omega
      by_cases c3 : at_ ≤ ty
      · have c3' : ¬ (ty < at_) := by omega
        simp [kC, b42x0, hx, hL, hT, hr, hi', below hxl, below hLl, below hTl, below h1, below h2, hf, keyOkK, hkd, d1, d1', d2, d2', c1, c2, c2', c3, c3']
        exact ⟨_, _, ⟨rfl, rfl⟩, by simp, ht _ _ _, by simp, by simp⟩
      · have c3' : ty < at_ := by omega
        by_cases c4 : IntKind.i64.wrap ((L.length : Int) + (putE (.int .i64 tag) (.int .i64 i) T).length) = (i : Int) + 1
        · simp [kC, b42x0, hx, hL, hT, hr, hi', below hxl, below hLl, below hTl, below h1, below h2, hf, keyOkK, hkd, d1, d1', d2, d2', c1, c2, c2', c3, c3', c4, w3, hmx]
        · simp [kC, b42x0, hx, hL, hT, hr, hi', below hxl, below hLl, below hTl, below h1, below h2, hf, keyOkK, hkd, d1, d1', d2, d2', c1, c2, c2', c3, c3', c4, w3]
          exact ⟨_, _, ⟨rfl, rfl⟩, by simp, ht _ _ _, by simp, by simp⟩
  · simp [kC, b42x0, hx, hL, hT, hr, hi', below hxl, below hLl, below hTl, below h1, below h2, hf, keyOkK, hkd, d1, d1', d2, d2', c1]
    exact ⟨_, _, ⟨rfl, rfl⟩, by simp, ht _ _ _, by simp, by simp⟩

end Mev

/- The program's functions, one equation each: a type's parts, whole. -/

set_option maxRecDepth 100000
namespace Mev
open Go Go.Proofs

/-- what all parts say -/
def partsN (kind at_ : Int) : Nat → List (V × V) → List (V × V) → List (List UInt8 × Int × Int) → Bool
  | _, _, _, [] => true
  | i, L, T, p :: ps => partOk kind at_ p i L T && partsN kind at_ (i + 1) (partMap kind p i L T).1 (partMap kind p i L T).2 ps

theorem parts_loop (t : Typ) (at_ : Int) (hlen : t.parts.length ≤ 1073741824) : ∀ (m i : Nat) (L T : List (V × V)), i + m = t.parts.length → strK L → intK T →
    (partsN t.kind at_ i L T (t.parts.drop i) = true → ∀ j, i ≤ j → ∀ p, t.parts[j]? = some p → 0 ≤ p.2.2 ∧ p.2.2 < at_) ∧ ∀ (S : St) (x mL mT : Nat), S.get x = some (.cells 4 [t.v] 0 0) → S.get mL = some (.map L) → S.get mT = some (.map T) → x < mL → mL < mT →
      ∃ r l S', loopL (some [1, 3, 7, 8, 26, 27, 28]) (S.top, S.pin) (kC (ev Q) loopL b42x0) ⟨90, [(1, .int .i64 at_), (3, .ptr x 0 4 0 0), (7, .mp mL), (8, .mp mT), (26, .rs 3 (t.parts.map partV ++ t.spare) t.parts.length), (27, .int .i64 t.parts.length), (28, .int .i64 i)]⟩ S = some (r, ⟨90, l⟩, S') ∧
        (if partsN t.kind at_ i L T (t.parts.drop i) then r = .exit 0 else r = .ret ∧ look 6 l = .bool false) ∧ (∀ k, k ≤ x → S'.trunc k = S.trunc k) ∧ S'.pin = S.pin ∧ S.top ≤ S'.top := by
  intro m
  induction m with
  | zero =>
    intro i L T hi hL hT
    rw [List.drop_of_length_le (by omega)]
    refine ⟨fun _ j hj p hp => ?_, ?_⟩
    · have := (List.getElem?_eq_some_iff.1 hp).1; omega
    intro S x mL mT hx gL gT h1 h2
    have h3 : ¬ ((i : Int) < t.parts.length) := by omega
    rw [loopL_eq]
    simp [kC, b42x0, h3, partsN]
    exact ⟨_, _, _, ⟨rfl, rfl, rfl⟩, rfl, fun _ _ => rfl, rfl, Nat.le_refl _⟩
  | succ m ih =>
    intro i L T hi hL hT
    have hil : i < t.parts.length := by omega
    have hp : t.parts[i]? = some t.parts[i] := List.getElem?_eq_getElem hil
    have hr : (t.parts.map partV ++ t.spare)[i]? = some (partV t.parts[i]) := by
      rw [List.getElem?_append_left (by simpa using hil), List.getElem?_map, hp]; rfl
    rw [List.drop_eq_getElem_cons hil, partsN]
    obtain ⟨pk, hb⟩ : ∃ pk, partOk t.kind at_ t.parts[i] i L T = pk := ⟨_, rfl⟩
    rw [hb]
    cases pk with
    | false =>
      refine ⟨fun h => (by cases h), ?_⟩
      intro S x mL mT hx gL gT h1 h2
      by_cases h8 : t.kind = 8
      · have := part_round8 S x mL mT i t.parts.length (t.parts.map partV ++ t.spare) t.n t.elem at_ L T t.parts[i] _ (by rw [hx, Typ.v, h8]) gL gT h1 h2 hL hr hil hlen
        rw [h8] at hb
        rw [hb] at this
        simp only [Bool.false_eq_true, if_false] at this
        obtain ⟨l, S', h3, h4, h5⟩ := this
        exact ⟨_, l, S', h3, by simp [h4], h5⟩
      · have := part_round7 S x mL mT i t.parts.length (t.parts.map partV ++ t.spare) t.kind t.n t.elem at_ L T t.parts[i] _ hx gL gT h1 h2 h8 hT hr hil hlen
        rw [hb] at this
        simp only [Bool.false_eq_true, if_false] at this
        obtain ⟨l, S', h3, h4, h5⟩ := this
        exact ⟨_, l, S', h3, by simp [h4], h5⟩
    | true =>
      have hty : 0 ≤ t.parts[i].2.2 ∧ t.parts[i].2.2 < at_ := by
        simp only [partOk, Bool.and_eq_true, decide_eq_true_eq] at hb
        exact ⟨hb.1.1.2, hb.1.2⟩
      by_cases h8 : t.kind = 8
      · have hpm : partMap t.kind t.parts[i] i L T = (putE (.str t.parts[i].1) (.int .i64 i) L, T) := by simp only [partMap, h8, if_true]
        rw [hpm, Bool.true_and]
        obtain ⟨h3, h4⟩ := ih (i + 1) (putE (.str t.parts[i].1) (.int .i64 i) L) T (by omega) (strK_put hL _ _) hT
        refine ⟨fun h j hj p hp' => ?_, ?_⟩
        · rcases Nat.lt_or_ge i j with h | h
          · exact h3 ‹_› j h p hp'
          · obtain rfl : i = j := by omega
            rw [hp] at hp'; cases hp'; exact hty
        intro S x mL mT hx gL gT h1 h2
        have hLl := get_lt _ _ gL
        have := part_round8 S x mL mT i t.parts.length (t.parts.map partV ++ t.spare) t.n t.elem at_ L T t.parts[i] _ (by rw [hx, Typ.v, h8]) gL gT h1 h2 hL hr hil hlen
        rw [h8] at hb
        rw [hb] at this
        simp only [if_true] at this
        rw [this]
        obtain ⟨r, l, S', h5, h6, h7, h9, h10⟩ := h4 (S.put mL (.map (putE (.str t.parts[i].1) (.int .i64 i) L))) x mL mT (by rw [put_get_if, if_neg (fun h => (by omega : mL ≠ x) h.1)]; exact hx) (by rw [put_get_if, if_pos ⟨rfl, hLl⟩]) (by rw [put_get_if, if_neg (fun h => (by omega : mL ≠ mT) h.1)]; exact gT) h1 h2
        simp only [top_put, pin_put] at h5 h9 h10
        refine ⟨r, l, S', h5, h6, fun k hk => ?_, h9, h10⟩
        rw [h7 k hk, trunc_put_ge _ _ _ _ (by omega)]
      · have hpm : partMap t.kind t.parts[i] i L T = (L, putE (.int .i64 t.parts[i].2.1) (.int .i64 i) T) := by simp only [partMap, h8, if_false]
        rw [hpm, Bool.true_and]
        obtain ⟨h3, h4⟩ := ih (i + 1) L (putE (.int .i64 t.parts[i].2.1) (.int .i64 i) T) (by omega) hL (intK_put hT _ _)
        refine ⟨fun h j hj p hp' => ?_, ?_⟩
        · rcases Nat.lt_or_ge i j with h | h
          · exact h3 ‹_› j h p hp'
          · obtain rfl : i = j := by omega
            rw [hp] at hp'; cases hp'; exact hty
        intro S x mL mT hx gL gT h1 h2
        have hTl := get_lt _ _ gT
        have := part_round7 S x mL mT i t.parts.length (t.parts.map partV ++ t.spare) t.kind t.n t.elem at_ L T t.parts[i] _ hx gL gT h1 h2 h8 hT hr hil hlen
        rw [hb] at this
        simp only [if_true] at this
        rw [this]
        obtain ⟨r, l, S', h5, h6, h7, h9, h10⟩ := h4 (S.put mT (.map (putE (.int .i64 t.parts[i].2.1) (.int .i64 i) T))) x mL mT (by rw [put_get_if, if_neg (fun h => (by omega : mT ≠ x) h.1)]; exact hx) (by rw [put_get_if, if_neg (fun h => (by omega : mT ≠ mL) h.1)]; exact gL) (by rw [put_get_if, if_pos ⟨rfl, hTl⟩]) h1 h2
        simp only [top_put, pin_put] at h5 h9 h10
        refine ⟨r, l, S', h5, h6, fun k hk => ?_, h9, h10⟩
        rw [h7 k hk, trunc_put_ge _ _ _ _ (by omega)]

/-- a type's parts: few, of types below -/
def partsFine (t : Typ) (at_ : Int) : Prop := t.parts.length ≤ 64 ∧ ∀ p ∈ t.parts, 0 ≤ p.2.2 ∧ p.2.2 < at_

def partsB (t : Typ) (at_ : Int) : Bool := decide (1 ≤ t.parts.length) && decide (t.parts.length ≤ 64) && partsN t.kind at_ 0 [] [] t.parts

theorem partsB_fine {t : Typ} {at_ : Int} (h : partsB t at_ = true) : 1 ≤ t.parts.length ∧ partsFine t at_ := by
  simp only [partsB, Bool.and_eq_true, decide_eq_true_eq] at h
  obtain ⟨h3, _⟩ := parts_loop t at_ (by omega) t.parts.length 0 [] [] (by omega) (by intro e he; cases he) (by intro e he; cases he)
  rw [List.drop_zero] at h3
  refine ⟨h.1.1, h.1.2, fun p hp => ?_⟩
  obtain ⟨j, hj⟩ := List.mem_iff_getElem?.1 hp
  exact h3 h.2 j (by omega) p hj

theorem parts_ev (t : Typ) (at_ : Int) : Pure 42 [.agg t.v, .int .i64 at_, .int .i64 64] (.bool (partsB t at_)) := by
  intro S
  by_cases h1 : t.parts.length < 1
  · have h0 : t.parts.length = 0 := by omega
    have h1' : (t.parts.length : Int) < 1 := by omega
    have hb : partsB t at_ = false := by simp [partsB]; omega
    rw [hb, ev_eq q42, c42, evFn_eq _ _ _ _ _ _ _ (by simp)]
    simp [Typ.v, h1']
  by_cases h2 : 64 < t.parts.length
  · have h1' : ¬ ((t.parts.length : Int) < 1) := by omega
    have h2' : (64 : Int) < (t.parts.length : Int) := by omega
    have hb : partsB t at_ = false := by simp [partsB]; omega
    rw [hb, ev_eq q42, c42, evFn_eq _ _ _ _ _ _ _ (by simp)]
    simp [Typ.v, h1', h2']
  obtain ⟨h3, h4⟩ := parts_loop t at_ (by omega) t.parts.length 0 [] [] (by omega) (by intro e he; cases he) (by intro e he; cases he)
  rw [List.drop_zero] at h3 h4
  have h1' : ¬ ((t.parts.length : Int) < 1) := by omega
  have h2' : ¬ ((64 : Int) < (t.parts.length : Int)) := by omega
  have hb : partsB t at_ = partsN t.kind at_ 0 [] [] t.parts := by
    have e1 : 1 ≤ t.parts.length := by omega
    have e2 : t.parts.length ≤ 64 := by omega
    simp [partsB, e1, e2]
  obtain ⟨r, l, S', h5, h6, h7, h9, h10⟩ := h4 (((S.push (.cells 4 [t.v] 0 0)).push (.map [])).push (.map [])) S.top (S.top + 1) (S.top + 2) (by simp) (by simp) (by simp) (by omega) (by omega)
  have h8 := h7 S.top (Nat.le_refl _)
  simp at h5 h8 h9 h10
  have h11 : S.top ≤ S'.top := by omega
  rw [hb, ev_eq q42, c42, evFn_eq _ _ _ _ _ _ _ (by simp)]
  generalize partsN t.kind at_ 0 [] [] t.parts = b at *
  cases b with
  | false =>
    simp only [Bool.false_eq_true, if_false] at h6
    simp [Typ.v] at h5
    simp [Typ.v, h1', h2', h5, h6.1, h6.2, h8, h9, h11]
  | true =>
    simp only [if_true] at h6
    subst h6
    simp [Typ.v] at h5
    simp [Typ.v, h1', h2', h5, h8, h9, h11]
end Mev

/- The program's functions, one equation each: a type may be. -/

set_option maxRecDepth 100000
namespace Mev
open Go Go.Proofs

/-- what a type that may be is known for -/
structure WfT (t : Typ) (at_ : Int) : Prop where
  num : numberB t.kind t.n = true
  kind : t.kind = 1 ∨ t.kind = 2 ∨ t.kind = 3 ∨ t.kind = 4 ∨ t.kind = 5 ∨ t.kind = 6 ∨ t.kind = 7 ∨ t.kind = 8
  elem : t.kind = 4 ∨ t.kind = 5 ∨ t.kind = 6 → 0 ≤ t.elem ∧ t.elem < at_
  parts : t.kind = 7 ∨ t.kind = 8 → 1 ≤ t.parts.length
  none : ¬ (t.kind = 7 ∨ t.kind = 8) → t.parts = []
  fine : partsFine t at_

theorem fine_nil (t : Typ) (at_ : Int) (h : t.parts = []) : partsFine t at_ := ⟨by simp [h], by simp [h]⟩

theorem right_a (t : Typ) (at_ : Int) (hn : numberB t.kind t.n = true) (h : t.kind = 1 ∨ t.kind = 2 ∨ t.kind = 3) : Pure 20 [.agg t.v, .int .i64 at_] (.bool (decide (t.elem = 0) && decide (t.parts.length = 0))) := by
  have hnum := fun S => number_ev t.kind t.n S
  rw [hn] at hnum
  intro S
  rw [ev_eq q20, c20, evFn_eq _ _ _ _ _ _ _ (by simp)]
  by_cases e0 : 0 ≤ t.elem <;> by_cases e1 : t.elem < at_ <;> by_cases e2 : t.elem = 0 <;> rcases h with h | h | h <;> rw [h] at hnum <;> simp [Typ.v, h, hnum, e0, e1, e2]
theorem right_b (t : Typ) (at_ : Int) (hn : numberB t.kind t.n = true) (h : t.kind = 4 ∨ t.kind = 5 ∨ t.kind = 6) : Pure 20 [.agg t.v, .int .i64 at_] (.bool (decide (0 ≤ t.elem) && decide (t.elem < at_) && decide (t.parts.length = 0))) := by
  have hnum := fun S => number_ev t.kind t.n S
  rw [hn] at hnum
  intro S
  rw [ev_eq q20, c20, evFn_eq _ _ _ _ _ _ _ (by simp)]
  by_cases e0 : 0 ≤ t.elem <;> by_cases e1 : t.elem < at_ <;> rcases h with h | h | h <;> rw [h] at hnum <;> simp [Typ.v, h, hnum, e0, e1]
theorem right_c (t : Typ) (at_ : Int) (hn : numberB t.kind t.n = true) (h : t.kind = 7 ∨ t.kind = 8) (bp : Bool) (hp : Pure 42 [.agg t.v, .int .i64 at_, .int .i64 64] (.bool bp)) : Pure 20 [.agg t.v, .int .i64 at_] (.bool (decide (t.elem = 0) && bp)) := by
  have hnum := fun S => number_ev t.kind t.n S
  rw [hn] at hnum
  simp only [Pure, Typ.v] at hp
  intro S
  rw [ev_eq q20, c20, evFn_eq _ _ _ _ _ _ _ (by simp)]
  by_cases e0 : 0 ≤ t.elem <;> by_cases e1 : t.elem < at_ <;> by_cases e2 : t.elem = 0 <;> rcases h with h | h <;> rw [h] at hnum hp <;> (try rw [e2] at hp) <;> simp [Typ.v, h, hnum, e0, e1, e2, hp]
theorem right_d (t : Typ) (at_ : Int) (hn : numberB t.kind t.n = true) (h : ¬ (t.kind = 1 ∨ t.kind = 2 ∨ t.kind = 3 ∨ t.kind = 4 ∨ t.kind = 5 ∨ t.kind = 6 ∨ t.kind = 7 ∨ t.kind = 8)) : Pure 20 [.agg t.v, .int .i64 at_] (.bool false) := by
  have hnum := fun S => number_ev t.kind t.n S
  rw [hn] at hnum
  have h1 : t.kind ≠ 1 := by omega
  have h2 : t.kind ≠ 2 := by omega
  have h3 : t.kind ≠ 3 := by omega
  have h4 : t.kind ≠ 4 := by omega
  have h5 : t.kind ≠ 5 := by omega
  have h6 : t.kind ≠ 6 := by omega
  have h7 : t.kind ≠ 7 := by omega
  have h8 : t.kind ≠ 8 := by omega
  intro S
  rw [ev_eq q20, c20, evFn_eq _ _ _ _ _ _ _ (by simp)]
  by_cases e0 : 0 ≤ t.elem <;> by_cases e1 : t.elem < at_ <;> simp [Typ.v, hnum, e0, e1, h1, h2, h3, h4, h5, h6, h7, h8]

/-- may a type be -/
def rightN (t : Typ) (at_ : Int) : Bool :=
  numberB t.kind t.n && (if t.kind = 1 ∨ t.kind = 2 ∨ t.kind = 3 then decide (t.elem = 0) && decide (t.parts.length = 0)
    else if t.kind = 4 ∨ t.kind = 5 ∨ t.kind = 6 then decide (0 ≤ t.elem) && decide (t.elem < at_) && decide (t.parts.length = 0)
    else if t.kind = 7 ∨ t.kind = 8 then decide (t.elem = 0) && partsB t at_ else false)

theorem right_ev (t : Typ) (at_ : Int) : Pure 20 [.agg t.v, .int .i64 at_] (.bool (rightN t at_)) := by
  unfold rightN
  cases hn : numberB t.kind t.n with
  | false =>
    intro S
    have hnum := fun S => number_ev t.kind t.n S
    rw [hn] at hnum
    rw [ev_eq q20, c20, evFn_eq _ _ _ _ _ _ _ (by simp)]
    simp [Typ.v, hnum]
  | true =>
    rw [Bool.true_and]
    by_cases a : t.kind = 1 ∨ t.kind = 2 ∨ t.kind = 3
    · rw [if_pos a]; exact right_a t at_ hn a
    rw [if_neg a]
    by_cases b : t.kind = 4 ∨ t.kind = 5 ∨ t.kind = 6
    · rw [if_pos b]; exact right_b t at_ hn b
    rw [if_neg b]
    by_cases c : t.kind = 7 ∨ t.kind = 8
    · rw [if_pos c]; exact right_c t at_ hn c _ (parts_ev t at_)
    · rw [if_neg c]; exact right_d t at_ hn (by omega)

theorem rightN_wf {t : Typ} {at_ : Int} (h : rightN t at_ = true) : WfT t at_ := by
  unfold rightN at h
  rw [Bool.and_eq_true] at h
  obtain ⟨hn, hb⟩ := h
  by_cases a : t.kind = 1 ∨ t.kind = 2 ∨ t.kind = 3
  · rw [if_pos a] at hb
    simp only [Bool.and_eq_true, decide_eq_true_eq, List.length_eq_zero_iff] at hb
    exact ⟨hn, by omega, fun h => by omega, fun h => by omega, fun _ => hb.2, fine_nil _ _ hb.2⟩
  rw [if_neg a] at hb
  by_cases b : t.kind = 4 ∨ t.kind = 5 ∨ t.kind = 6
  · rw [if_pos b] at hb
    simp only [Bool.and_eq_true, decide_eq_true_eq, List.length_eq_zero_iff] at hb
    exact ⟨hn, by omega, fun _ => hb.1, fun h => by omega, fun _ => hb.2, fine_nil _ _ hb.2⟩
  rw [if_neg b] at hb
  by_cases c : t.kind = 7 ∨ t.kind = 8
  · rw [if_pos c] at hb
    simp only [Bool.and_eq_true, decide_eq_true_eq] at hb
    have := partsB_fine hb.2
    exact ⟨hn, by omega, fun h => by omega, fun _ => this.1, fun h => absurd c h, this.2⟩
  · rw [if_neg c] at hb; cases hb
end Mev
