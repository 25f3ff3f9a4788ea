/- The document's answer, one equation each: a type's parts. -/
import Derived.Test.YtfndbddlicbjpaaMevWd
import Derived.Test.YtfndbddlicbjpaaMevW3
import Derived.Test.YtfndbddlicbjpaaMevGA
import Derived.Test.YtfndbddlicbjpaaMevW5
import Derived.Test.YtfndbddlicbjpaaMevW7

set_option maxRecDepth 100000
namespace Mev
open Go Go.Proofs

theorem rin_ev (n lo hi : Int) : Pure 33 [.int .i64 n, .int .i64 lo, .int .i64 hi] (.bool (decide (lo ≤ n) && decide (n ≤ hi))) := by
  intro S
  rw [ev_eq q33, c33, evFn_eq _ _ _ _ _ _ _ (by simp)]
  by_cases h1 : lo ≤ n <;> by_cases h2 : n ≤ hi <;> simp [h1, h2]

def sameP (q p : List UInt8 × Int × Int) : Bool := decide (q.1 = p.1) && decide (q.2.1 = p.2.1)

theorem rsame_round (S : St) (y x i j : Nat) (at_ : Int) (t : Typ) (p q : List UInt8 × Int × Int) (hy : S.get y = some (.cells 4 [t.v] 0 0)) (hx : S.get x = some (.cells 3 [partV p] 0 0)) (hji : j < i) (hi : i ≤ t.parts.length) (hlen : t.parts.length ≤ 1073741824)
    (hr : (t.parts.map partV ++ t.spare)[j]? = some (partV q)) :
    if sameP q p then ∃ l, loopL (some [1, 2, 6, 7, 8]) (S.top, S.pin) (kC (ev Q) loopL b52x2) ⟨91, [(1, .int .i64 at_), (2, .ptr y 0 4 0 0), (6, .int .i64 i), (7, .ptr x 0 3 0 0), (8, .int .i64 j)]⟩ S = some (.ret, ⟨91, l⟩, S) ∧ look 4 l = .bool false
    else loopL (some [1, 2, 6, 7, 8]) (S.top, S.pin) (kC (ev Q) loopL b52x2) ⟨91, [(1, .int .i64 at_), (2, .ptr y 0 4 0 0), (6, .int .i64 i), (7, .ptr x 0 3 0 0), (8, .int .i64 j)]⟩ S =
      loopL (some [1, 2, 6, 7, 8]) (S.top, S.pin) (kC (ev Q) loopL b52x2) ⟨91, [(1, .int .i64 at_), (2, .ptr y 0 4 0 0), (6, .int .i64 i), (7, .ptr x 0 3 0 0), (8, .int .i64 (j + 1 : Nat))]⟩ S := by
  have hyl := get_lt _ _ hy
  have hxl := get_lt _ _ hx
  have hj' : (j : Int) < t.parts.length := by omega
  have hji' : (j : Int) < i := by omega
  have w3 : IntKind.i64.wrap ((j : Int) + 1) = (j : Int) + 1 := wrap64 (by omega) (by omega)
  have hmx : max y x + 1 ≤ S.top := by omega
  obtain ⟨lab, tag, ty⟩ := p
  obtain ⟨lab2, tag2, ty2⟩ := q
  simp only [partV] at hx hr
  simp only [sameP]
  by_cases a : lab2 = lab
  · subst a
    by_cases b : tag2 = tag
    · subst b
      simp only [decide_true, Bool.and_self, if_true]
      rw [loopL_eq]
      generalize loopL (some [1, 2, 6, 7, 8]) (S.top, S.pin) (kC (ev Q) loopL b52x2) = F
      simp [kC, b52x2, hy, hx, hr, hj', hji', Typ.v]
    · have hd : decide (tag2 = tag) = false := decide_eq_false b
      simp only [hd, Bool.and_false, Bool.false_eq_true, if_false]
      rw [loopL_eq]
      generalize loopL (some [1, 2, 6, 7, 8]) (S.top, S.pin) (kC (ev Q) loopL b52x2) = F
      simp [kC, b52x2, hy, hx, hr, hj', hji', Typ.v, b, w3, hmx]
  · have hd : decide (lab2 = lab) = false := decide_eq_false a
    simp only [hd, Bool.false_and, Bool.false_eq_true, if_false]
    rw [loopL_eq]
    generalize loopL (some [1, 2, 6, 7, 8]) (S.top, S.pin) (kC (ev Q) loopL b52x2) = F
    simp [kC, b52x2, hy, hx, hr, hj', hji', Typ.v, a, w3, hmx]

theorem rsame_loop (y x i : Nat) (at_ : Int) (t : Typ) (p : List UInt8 × Int × Int) (hi : i ≤ t.parts.length) (hlen : t.parts.length ≤ 1073741824) (S : St) (hy : S.get y = some (.cells 4 [t.v] 0 0)) (hx : S.get x = some (.cells 3 [partV p] 0 0)) : ∀ (m j : Nat), j + m = i →
    ∃ r l, loopL (some [1, 2, 6, 7, 8]) (S.top, S.pin) (kC (ev Q) loopL b52x2) ⟨91, [(1, .int .i64 at_), (2, .ptr y 0 4 0 0), (6, .int .i64 i), (7, .ptr x 0 3 0 0), (8, .int .i64 j)]⟩ S = some (r, ⟨91, l⟩, S) ∧
      if ((t.parts.take i).drop j).any (sameP · p) then r = .ret ∧ look 4 l = .bool false else r = .exit 2 ∧ look 1 l = .int .i64 at_ ∧ look 2 l = .ptr y 0 4 0 0 ∧ look 6 l = .int .i64 i := by
  intro m
  induction m with
  | zero =>
    intro j hj
    have h1 : ¬ ((j : Int) < i) := by omega
    have hd : (t.parts.take i).drop j = [] := List.drop_of_length_le (by simp; omega)
    refine ⟨.exit 2, [(68, .bool false), (67, .int .i64 i), (66, .int .i64 j), (1, .int .i64 at_), (2, .ptr y 0 4 0 0), (6, .int .i64 i), (7, .ptr x 0 3 0 0), (8, .int .i64 j)], ?_, by simp [hd]⟩
    rw [loopL_eq]
    simp [kC, b52x2, h1]
  | succ m ih =>
    intro j hj
    have hjl : j < t.parts.length := by omega
    have hr : (t.parts.map partV ++ t.spare)[j]? = some (partV t.parts[j]) := by
      rw [List.getElem?_append_left (by simpa using hjl), List.getElem?_map, List.getElem?_eq_getElem hjl]; rfl
    have hro := rsame_round S y x i j at_ t p t.parts[j] hy hx (by omega) hi hlen hr
    have hd : (t.parts.take i).drop j = t.parts[j] :: (t.parts.take i).drop (j + 1) := by
      rw [List.drop_eq_getElem_cons (by simp; omega)]; simp
    rw [hd, List.any_cons]
    cases hs : sameP t.parts[j] p with
    | true =>
      rw [hs] at hro
      simp only [if_true] at hro
      obtain ⟨l, h1, h2⟩ := hro
      exact ⟨.ret, l, h1, by simp [h2]⟩
    | false =>
      rw [hs] at hro
      simp only [Bool.false_eq_true, if_false] at hro
      obtain ⟨r, l, h1, h2⟩ := ih (j + 1) (by omega)
      exact ⟨r, l, by rw [hro]; exact h1, by simp only [Bool.false_or]; exact h2⟩

def ownOk (kind at_ : Int) (p : List UInt8 × Int × Int) : Bool :=
  (if kind = 8 then nameB p.1 && decide (p.2.1 = 0) else decide (0 ≤ p.2.1) && decide (p.2.1 ≤ 255) && decide (p.1 = [])) && decide (0 ≤ p.2.2) && decide (p.2.2 < at_)

theorem rpart_round (S : St) (y i : Nat) (at_ : Int) (t : Typ) (p : List UInt8 × Int × Int) (hk : t.kind = 7 ∨ t.kind = 8) (hat : 0 ≤ at_ ∧ at_ ≤ 1073741824) (hy : S.get y = some (.cells 4 [t.v] 0 0)) (hp : t.parts[i]? = some p) (hlen : t.parts.length ≤ 1073741824) :
    if ownOk t.kind at_ p && !((t.parts.take i).any (sameP · p)) then
      loopL (some [1, 2, 6]) (S.top, S.pin) (kC (ev Q) loopL b52x0) ⟨91, [(1, .int .i64 at_), (2, .ptr y 0 4 0 0), (6, .int .i64 i)]⟩ S =
      loopL (some [1, 2, 6]) (S.top, S.pin) (kC (ev Q) loopL b52x0) ⟨91, [(1, .int .i64 at_), (2, .ptr y 0 4 0 0), (6, .int .i64 (i + 1 : Nat))]⟩ S
    else ∃ l S', loopL (some [1, 2, 6]) (S.top, S.pin) (kC (ev Q) loopL b52x0) ⟨91, [(1, .int .i64 at_), (2, .ptr y 0 4 0 0), (6, .int .i64 i)]⟩ S = some (.ret, ⟨91, l⟩, S') ∧ look 4 l = .bool false ∧ (∀ k, k ≤ S.top → S'.trunc k = S.trunc k) ∧ S'.pin = S.pin ∧ S.top ≤ S'.top := by
  have hyl := get_lt _ _ hy
  have hil : i < t.parts.length := (List.getElem?_eq_some_iff.1 hp).1
  have hi' : (i : Int) < t.parts.length := by omega
  have hr : (t.parts.map partV ++ t.spare)[i]? = some (partV p) := by
    rw [List.getElem?_append_left (by simpa using hil), List.getElem?_map, hp]; rfl
  have w3 : IntKind.i64.wrap ((i : Int) + 1) = (i : Int) + 1 := wrap64 (by omega) (by omega)
  have w4 : IntKind.i64.wrap (at_ - 1) = at_ - 1 := wrap64 (by omega) (by omega)
  have hmx : y + 1 ≤ S.top := by omega
  have htr : ∀ B k, k ≤ S.top → (S.push B).trunc k = S.trunc k := fun B k hk => trunc_push _ _ _ hk
  have hin := fun n lo hi S => rin_ev n lo hi S
  have hn := fun S => rname_ev p.1 S
  obtain ⟨r, l, h1, h2⟩ := rsame_loop y S.top i at_ t p (by omega) hlen (S.push (.cells 3 [partV p] 0 0)) (by simp [below hyl, hy]) (by simp) i 0 (by omega)
  rw [List.drop_zero] at h2
  generalize (t.parts.take i).any (sameP · p) = any at *
  obtain ⟨lab, tag, ty⟩ := p
  simp only [partV] at hr h1
  simp only [ownOk]
  simp only at hn
  have hsz : max (S.top) 0 = S.top := by omega
  by_cases c1 : 0 ≤ ty
  · by_cases c2 : ty < at_
    · have c2' : ty ≤ at_ - 1 := by omega
      rcases hk with hk | hk
      · have hk8 : ¬ t.kind = 8 := by omega
        simp only [hk8, if_false]
        by_cases a1 : 0 ≤ tag
        · by_cases a2 : tag ≤ 255
          · by_cases a3 : lab = []
            · subst a3
              have ht : (decide (0 ≤ tag) && decide (tag ≤ 255) && decide (([] : List UInt8) = []) && decide (0 ≤ ty) && decide (ty < at_)) = true := by simp [a1, a2, c1, c2]
              cases any with
              | true =>
                simp only [if_true] at h2
                obtain ⟨rfl, h2⟩ := h2
                simp only [Bool.not_true, Bool.and_false, Bool.false_eq_true, if_false]
                rw [loopL_eq]
                generalize loopL (some [1, 2, 6]) (S.top, S.pin) (kC (ev Q) loopL b52x0) = F
                simp at h1
                simp [kC, b52x0, hy, hr, hi', hil, Typ.v, below hyl, hin, h1, h2, hk, w4, c1, c2, c2', a1, a2]
                exact ⟨_, _, ⟨rfl, rfl⟩, h2, htr _, by simp, by simp⟩
              | false =>
                simp only [Bool.false_eq_true, if_false] at h2
                obtain ⟨rfl, h2, h3, h4⟩ := h2
                simp only [ht, Bool.not_false, Bool.and_true, if_true, Bool.and_self]
                rw [loopL_eq]
                generalize loopL (some [1, 2, 6]) (S.top, S.pin) (kC (ev Q) loopL b52x0) = F
                simp at h1
                simp [kC, b52x0, hy, hr, hi', hil, Typ.v, below hyl, hin, h1, h2, h3, h4, w3, hmx, hk, w4, c1, c2, c2', a1, a2]
            · have ht : decide (lab = []) = false := decide_eq_false a3
              simp only [ht, Bool.and_false, Bool.false_and, Bool.false_eq_true, if_false]
              rw [loopL_eq]
              generalize loopL (some [1, 2, 6]) (S.top, S.pin) (kC (ev Q) loopL b52x0) = F
              simp [kC, b52x0, hy, hr, hi', hil, Typ.v, below hyl, hin, hk, w4, c1, c2, c2', a1, a2, a3]
              exact ⟨_, _, ⟨rfl, rfl⟩, by simp, htr _, by simp, by simp⟩
          · have ht : decide (tag ≤ 255) = false := decide_eq_false a2
            simp only [ht, Bool.and_false, Bool.false_and, Bool.false_eq_true, if_false]
            by_cases a3 : lab = []
            · subst a3
              rw [loopL_eq]
              generalize loopL (some [1, 2, 6]) (S.top, S.pin) (kC (ev Q) loopL b52x0) = F
              simp [kC, b52x0, hy, hr, hi', hil, Typ.v, below hyl, hin, hk, w4, c1, c2, c2', a1, a2]
              exact ⟨_, _, ⟨rfl, rfl⟩, by simp, htr _, by simp, by simp⟩
            · skip
              rw [loopL_eq]
              generalize loopL (some [1, 2, 6]) (S.top, S.pin) (kC (ev Q) loopL b52x0) = F
              simp [kC, b52x0, hy, hr, hi', hil, Typ.v, below hyl, hin, hk, w4, c1, c2, c2', a1, a2, a3]
              exact ⟨_, _, ⟨rfl, rfl⟩, by simp, htr _, by simp, by simp⟩
        · have ht : decide (0 ≤ tag) = false := decide_eq_false a1
          simp only [ht, Bool.and_false, Bool.false_and, Bool.false_eq_true, if_false]
          by_cases a3 : lab = []
          · subst a3
            rw [loopL_eq]
            generalize loopL (some [1, 2, 6]) (S.top, S.pin) (kC (ev Q) loopL b52x0) = F
            simp [kC, b52x0, hy, hr, hi', hil, Typ.v, below hyl, hin, hk, w4, c1, c2, c2', a1]
            exact ⟨_, _, ⟨rfl, rfl⟩, by simp, htr _, by simp, by simp⟩
          · skip
            rw [loopL_eq]
            generalize loopL (some [1, 2, 6]) (S.top, S.pin) (kC (ev Q) loopL b52x0) = F
            simp [kC, b52x0, hy, hr, hi', hil, Typ.v, below hyl, hin, hk, w4, c1, c2, c2', a1, a3]
            exact ⟨_, _, ⟨rfl, rfl⟩, by simp, htr _, by simp, by simp⟩
      · simp only [hk, if_true]
        obtain ⟨nb, hb⟩ : ∃ nb, nameB lab = nb := ⟨_, rfl⟩
        rw [hb] at hn
        cases nb with
        | true =>
          by_cases a1 : tag = 0
          · subst a1
            have ht : (nameB lab && decide ((0 : Int) = 0) && decide (0 ≤ ty) && decide (ty < at_)) = true := by simp [hb, c1, c2]
            cases any with
            | true =>
              simp only [if_true] at h2
              obtain ⟨rfl, h2⟩ := h2
              simp only [Bool.not_true, Bool.and_false, Bool.false_eq_true, if_false]
              rw [loopL_eq]
              generalize loopL (some [1, 2, 6]) (S.top, S.pin) (kC (ev Q) loopL b52x0) = F
              simp at h1
              simp [kC, b52x0, hy, hr, hi', hil, Typ.v, below hyl, hin, h1, h2, hk, w4, c1, c2, c2', hn]
              exact ⟨_, _, ⟨rfl, rfl⟩, h2, htr _, by simp, by simp⟩
            | false =>
              simp only [Bool.false_eq_true, if_false] at h2
              obtain ⟨rfl, h2, h3, h4⟩ := h2
              simp only [ht, Bool.not_false, Bool.and_true, if_true, Bool.and_self]
              rw [loopL_eq]
              generalize loopL (some [1, 2, 6]) (S.top, S.pin) (kC (ev Q) loopL b52x0) = F
              simp at h1
              simp [kC, b52x0, hy, hr, hi', hil, Typ.v, below hyl, hin, h1, h2, h3, h4, w3, hmx, hk, w4, c1, c2, c2', hn, hb]
          · have ht : decide (tag = 0) = false := decide_eq_false a1
            simp only [ht, Bool.and_false, Bool.false_and, Bool.false_eq_true, if_false]
            rw [loopL_eq]
            generalize loopL (some [1, 2, 6]) (S.top, S.pin) (kC (ev Q) loopL b52x0) = F
            simp [kC, b52x0, hy, hr, hi', hil, Typ.v, below hyl, hin, hk, w4, c1, c2, c2', hn, a1]
            exact ⟨_, _, ⟨rfl, rfl⟩, by simp, htr _, by simp, by simp⟩
        | false =>
          simp only [hb, Bool.and_false, Bool.false_and, Bool.false_eq_true, if_false]
          rw [loopL_eq]
          generalize loopL (some [1, 2, 6]) (S.top, S.pin) (kC (ev Q) loopL b52x0) = F
          simp [kC, b52x0, hy, hr, hi', hil, Typ.v, below hyl, hin, hk, w4, c1, c2, c2', hn]
          exact ⟨_, _, ⟨rfl, rfl⟩, by simp, htr _, by simp, by simp⟩
    · have hd : decide (ty < at_) = false := decide_eq_false c2
      have c2' : ¬ ty ≤ at_ - 1 := by omega
      simp only [hd, Bool.and_false, Bool.false_and, Bool.false_eq_true, if_false]
      rw [loopL_eq]
      generalize loopL (some [1, 2, 6]) (S.top, S.pin) (kC (ev Q) loopL b52x0) = F
      simp [kC, b52x0, hy, hr, hi', hil, Typ.v, below hyl, hin, w4, c1, c2']
      exact ⟨_, _, ⟨rfl, rfl⟩, by simp, htr _, by simp, by simp⟩
  · have hd : decide (0 ≤ ty) = false := decide_eq_false c1
    simp only [hd, Bool.and_false, Bool.false_and, Bool.false_eq_true, if_false]
    rw [loopL_eq]
    generalize loopL (some [1, 2, 6]) (S.top, S.pin) (kC (ev Q) loopL b52x0) = F
    simp [kC, b52x0, hy, hr, hi', hil, Typ.v, below hyl, hin, c1]
    exact ⟨_, _, ⟨rfl, rfl⟩, by simp, htr _, by simp, by simp⟩
end Mev

/- The plain law: what the program's maps say of a type's parts is what the document's lists say. -/

set_option maxRecDepth 100000
namespace Mev
open Go Go.Proofs

def partsR (kind at_ : Int) : List (List UInt8 × Int × Int) → List (List UInt8 × Int × Int) → Bool
  | _, [] => true
  | pre, p :: ps => (ownOk kind at_ p && !(pre.any (sameP · p))) && partsR kind at_ (pre ++ [p]) ps

theorem put_new_s (s : List UInt8) (v : V) : ∀ (L : List (V × V)), strK L → (∀ e ∈ L, e.1 ≠ .str s) → putE (.str s) v L = L ++ [(.str s, v)] := by
  intro L
  induction L with
  | nil => intro _ _; rfl
  | cons e L ih =>
    intro h1 h2
    obtain ⟨k, w⟩ := e
    obtain ⟨u, hu⟩ := h1 (k, w) List.mem_cons_self
    simp only at hu; subst hu
    have hne : s ≠ u := fun h => h2 (.str u, w) List.mem_cons_self (by simp [h])
    simp only [putE, leafEq, hne, decide_false, List.cons_append]
    rw [ih (fun e he => h1 e (List.mem_cons_of_mem _ he)) (fun e he => h2 e (List.mem_cons_of_mem _ he))]
theorem put_old_s (s : List UInt8) (v : V) : ∀ (L : List (V × V)), strK L → (∃ e ∈ L, e.1 = .str s) → (putE (.str s) v L).length = L.length := by
  intro L
  induction L with
  | nil => intro _ h; obtain ⟨e, he, _⟩ := h; cases he
  | cons e L ih =>
    intro h1 h2
    obtain ⟨k, w⟩ := e
    obtain ⟨u, hu⟩ := h1 (k, w) List.mem_cons_self
    simp only at hu; subst hu
    by_cases hne : s = u
    · simp only [putE, leafEq, hne, decide_true, List.length_cons]
    · simp only [putE, leafEq, hne, decide_false, List.length_cons]
      rw [ih (fun e he => h1 e (List.mem_cons_of_mem _ he))]
      obtain ⟨e, he, h3⟩ := h2
      rcases List.mem_cons.1 he with rfl | he
      · simp at h3; exact absurd h3.symm hne
      · exact ⟨e, he, h3⟩
theorem put_new_i (s : Int) (v : V) : ∀ (L : List (V × V)), intK L → (∀ e ∈ L, e.1 ≠ .int .i64 s) → putE (.int .i64 s) v L = L ++ [(.int .i64 s, v)] := by
  intro L
  induction L with
  | nil => intro _ _; rfl
  | cons e L ih =>
    intro h1 h2
    obtain ⟨k, w⟩ := e
    obtain ⟨u, hu⟩ := h1 (k, w) List.mem_cons_self
    simp only at hu; subst hu
    have hne : s ≠ u := fun h => h2 (.int .i64 u, w) List.mem_cons_self (by simp [h])
    simp [putE, leafEq, hne]
    rw [ih (fun e he => h1 e (List.mem_cons_of_mem _ he)) (fun e he => h2 e (List.mem_cons_of_mem _ he))]
theorem put_old_i (s : Int) (v : V) : ∀ (L : List (V × V)), intK L → (∃ e ∈ L, e.1 = .int .i64 s) → (putE (.int .i64 s) v L).length = L.length := by
  intro L
  induction L with
  | nil => intro _ h; obtain ⟨e, he, _⟩ := h; cases he
  | cons e L ih =>
    intro h1 h2
    obtain ⟨k, w⟩ := e
    obtain ⟨u, hu⟩ := h1 (k, w) List.mem_cons_self
    simp only at hu; subst hu
    by_cases hne : s = u
    · simp [putE, leafEq, hne]
    · simp [putE, leafEq, hne]
      rw [ih (fun e he => h1 e (List.mem_cons_of_mem _ he))]
      obtain ⟨e, he, h3⟩ := h2
      rcases List.mem_cons.1 he with rfl | he
      · simp at h3; exact absurd h3.symm hne
      · exact ⟨e, he, h3⟩

theorem wrap_ne (i : Nat) (h : i ≤ 1000) : ¬ IntKind.i64.wrap (i : Int) = IntKind.i64.wrap ((i : Int) + 1) := by
  rw [wrap64 (by omega) (by omega), wrap64 (by omega) (by omega)]; omega

theorem parts8 (at_ : Int) : ∀ (ps pre : List (List UInt8 × Int × Int)) (L : List (V × V)), pre.length + ps.length ≤ 64 → L.map (·.1) = pre.map (fun p => V.str p.1) → (∀ p ∈ pre, p.2.1 = 0) →
    partsN 8 at_ pre.length L [] ps = partsR 8 at_ pre ps := by
  intro ps
  induction ps with
  | nil => intro pre L _ _ _; rfl
  | cons p ps ih =>
    intro pre L hn hL ht
    have hk : strK L := by
      intro e he
      have : e.1 ∈ L.map (·.1) := List.mem_map_of_mem he
      rw [hL] at this
      obtain ⟨q, _, hq⟩ := List.mem_map.1 this
      exact ⟨q.1, hq.symm⟩
    have hlen : L.length = pre.length := by have := congrArg List.length hL; simpa using this
    simp only [List.length_cons] at hn
    simp only [partsN, partsR]
    obtain ⟨lab, tag, ty⟩ := p
    have e0 : partOk 8 at_ (lab, tag, ty) pre.length L [] = (ownOk 8 at_ (lab, tag, ty) && decide (IntKind.i64.wrap (((putE (.str lab) (.int .i64 (pre.length : Int)) L).length : Int) + (0 : Nat)) = IntKind.i64.wrap ((pre.length : Int) + 1))) := by
      simp only [partOk, ownOk, partMap, if_true, List.length_nil]
    rw [e0]
    by_cases ho : ownOk 8 at_ (lab, tag, ty) = true
    · have htag : tag = 0 := by simp [ownOk] at ho; exact ho.1.1.2
      rw [ho, Bool.true_and, Bool.true_and]
      by_cases hx : ∃ e ∈ L, e.1 = .str lab
      · have hlen2 := put_old_s lab (.int .i64 (pre.length : Int)) L hk hx
        have hany : pre.any (sameP · (lab, tag, ty)) = true := by
          obtain ⟨e, he, h3⟩ := hx
          have : e.1 ∈ L.map (·.1) := List.mem_map_of_mem he
          rw [hL] at this
          obtain ⟨q, hq, hq2⟩ := List.mem_map.1 this
          rw [h3] at hq2
          rw [List.any_eq_true]
          refine ⟨q, hq, ?_⟩
          have h4 := ht q hq
          simp only [V.str.injEq] at hq2
          simp [sameP, hq2, h4, htag]
        rw [hany, hlen2, hlen]
        have := wrap_ne pre.length (by omega)
        simp [this]
      · have hx' : ∀ e ∈ L, e.1 ≠ .str lab := fun e he h => hx ⟨e, he, h⟩
        have hput := put_new_s lab (.int .i64 (pre.length : Int)) L hk hx'
        have hany : pre.any (sameP · (lab, tag, ty)) = false := by
          rw [List.any_eq_false]
          intro q hq h
          simp [sameP] at h
          have : V.str q.1 ∈ L.map (·.1) := by rw [hL]; exact List.mem_map_of_mem (f := fun p : List UInt8 × Int × Int => V.str p.1) hq
          obtain ⟨e, he, h5⟩ := List.mem_map.1 this
          exact hx' e he (by rw [h5, h.1])
        have hm : partMap 8 (lab, tag, ty) pre.length L [] = (L ++ [(.str lab, .int .i64 (pre.length : Int))], []) := by simp only [partMap, if_true, hput]
        rw [hm, hany, hput]
        have := ih (pre ++ [(lab, tag, ty)]) (L ++ [(.str lab, .int .i64 (pre.length : Int))]) (by simp; omega) (by simp [hL]) (by
          intro q hq
          rcases List.mem_append.1 hq with hq | hq
          · exact ht q hq
          · simp at hq; rw [hq]; exact htag)
        simp only [List.length_append, List.length_cons, List.length_nil] at this
        rw [← this]
        simp [hlen]
    · have : ownOk 8 at_ (lab, tag, ty) = false := by simpa using ho
      rw [this]; simp

theorem parts7 (at_ kd : Int) (hkd : kd ≠ 8) : ∀ (ps pre : List (List UInt8 × Int × Int)) (L : List (V × V)), pre.length + ps.length ≤ 64 → L.map (·.1) = pre.map (fun p => V.int .i64 p.2.1) → (∀ p ∈ pre, p.1 = []) →
    partsN kd at_ pre.length [] L ps = partsR kd at_ pre ps := by
  intro ps
  induction ps with
  | nil => intro pre L _ _ _; rfl
  | cons p ps ih =>
    intro pre L hn hL ht
    have hk : intK L := by
      intro e he
      have : e.1 ∈ L.map (·.1) := List.mem_map_of_mem he
      rw [hL] at this
      obtain ⟨q, _, hq⟩ := List.mem_map.1 this
      exact ⟨q.2.1, hq.symm⟩
    have hlen : L.length = pre.length := by have := congrArg List.length hL; simpa using this
    simp only [List.length_cons] at hn
    simp only [partsN, partsR]
    obtain ⟨lab, tag, ty⟩ := p
    have e0 : partOk kd at_ (lab, tag, ty) pre.length [] L = (ownOk kd at_ (lab, tag, ty) && decide (IntKind.i64.wrap (((0 : Nat) : Int) + ((putE (.int .i64 tag) (.int .i64 (pre.length : Int)) L).length : Int)) = IntKind.i64.wrap ((pre.length : Int) + 1))) := by
      simp only [partOk, ownOk, partMap, if_neg hkd, List.length_nil]
    rw [e0]
    by_cases ho : ownOk kd at_ (lab, tag, ty) = true
    · have htag : lab = [] := by simp [ownOk, hkd] at ho; exact ho.1.1.2
      rw [ho, Bool.true_and, Bool.true_and]
      by_cases hx : ∃ e ∈ L, e.1 = .int .i64 tag
      · have hlen2 := put_old_i tag (.int .i64 (pre.length : Int)) L hk hx
        have hany : pre.any (sameP · (lab, tag, ty)) = true := by
          obtain ⟨e, he, h3⟩ := hx
          have : e.1 ∈ L.map (·.1) := List.mem_map_of_mem he
          rw [hL] at this
          obtain ⟨q, hq, hq2⟩ := List.mem_map.1 this
          rw [h3] at hq2
          rw [List.any_eq_true]
          refine ⟨q, hq, ?_⟩
          have h4 := ht q hq
          simp only [V.int.injEq, true_and] at hq2
          simp [sameP, hq2, h4, htag]
        rw [hany, hlen2, hlen]
        have := wrap_ne pre.length (by omega)
        simp [this]
      · have hx' : ∀ e ∈ L, e.1 ≠ .int .i64 tag := fun e he h => hx ⟨e, he, h⟩
        have hput := put_new_i tag (.int .i64 (pre.length : Int)) L hk hx'
        have hany : pre.any (sameP · (lab, tag, ty)) = false := by
          rw [List.any_eq_false]
          intro q hq h
          simp [sameP] at h
          have : V.int .i64 q.2.1 ∈ L.map (·.1) := by rw [hL]; exact List.mem_map_of_mem (f := fun p : List UInt8 × Int × Int => V.int .i64 p.2.1) hq
          obtain ⟨e, he, h5⟩ := List.mem_map.1 this
          exact hx' e he (by rw [h5, h.2])
        have hm : partMap kd (lab, tag, ty) pre.length [] L = ([], L ++ [(.int .i64 tag, .int .i64 (pre.length : Int))]) := by simp only [partMap, if_neg hkd, hput]
        rw [hm, hany, hput]
        have := ih (pre ++ [(lab, tag, ty)]) (L ++ [(.int .i64 tag, .int .i64 (pre.length : Int))]) (by simp; omega) (by simp [hL]) (by
          intro q hq
          rcases List.mem_append.1 hq with hq | hq
          · exact ht q hq
          · simp at hq; rw [hq]; exact htag)
        simp only [List.length_append, List.length_cons, List.length_nil] at this
        rw [← this]
        simp [hlen]
    · have : ownOk kd at_ (lab, tag, ty) = false := by simpa using ho
      rw [this]; simp

theorem partsB_eq (t : Typ) (at_ : Int) : partsB t at_ = (decide (1 ≤ t.parts.length) && decide (t.parts.length ≤ 64) && partsR t.kind at_ [] t.parts) := by
  unfold partsB
  by_cases h : t.parts.length ≤ 64
  · by_cases h8 : t.kind = 8
    · have := parts8 at_ t.parts [] [] (by simpa using h) rfl (by simp)
      rw [h8]
      simp only [List.length_nil] at this
      rw [this]
    · have := parts7 at_ t.kind h8 t.parts [] [] (by simpa using h) rfl (by simp)
      simp only [List.length_nil] at this
      rw [this]
  · simp [h]
end Mev

/- The document's answer, one equation each: a type's parts, a type. -/

set_option maxRecDepth 100000
namespace Mev
open Go Go.Proofs

theorem rparts_loop (t : Typ) (at_ : Int) (hk : t.kind = 7 ∨ t.kind = 8) (hat : 0 ≤ at_ ∧ at_ ≤ 1073741824) (hlen : t.parts.length ≤ 1073741824) : ∀ (m i : Nat), i + m = t.parts.length → ∀ (S : St) (y : Nat), S.get y = some (.cells 4 [t.v] 0 0) →
    ∃ r l S', loopL (some [1, 2, 6]) (S.top, S.pin) (kC (ev Q) loopL b52x0) ⟨91, [(1, .int .i64 at_), (2, .ptr y 0 4 0 0), (6, .int .i64 i)]⟩ S = some (r, ⟨91, l⟩, S') ∧
      (if partsR t.kind at_ (t.parts.take i) (t.parts.drop i) then r = .exit 0 else r = .ret ∧ look 4 l = .bool false) ∧ (∀ k, k ≤ S.top → S'.trunc k = S.trunc k) ∧ S'.pin = S.pin ∧ S.top ≤ S'.top := by
  intro m
  induction m with
  | zero =>
    intro i hi S y hy
    have hyl := get_lt _ _ hy
    rw [List.drop_of_length_le (by omega)]
    have h3 : ¬ ((i : Int) < t.parts.length) := by omega
    rw [loopL_eq]
    simp [kC, b52x0, h3, partsR, hy, Typ.v]
    exact ⟨_, _, _, ⟨rfl, rfl, rfl⟩, rfl, fun _ _ => rfl, rfl, Nat.le_refl _⟩
  | succ m ih =>
    intro i hi S y hy
    have hil : i < t.parts.length := by omega
    have hp : t.parts[i]? = some t.parts[i] := List.getElem?_eq_getElem hil
    rw [List.drop_eq_getElem_cons hil, partsR]
    have := rpart_round S y i at_ t t.parts[i] hk hat hy hp hlen
    obtain ⟨pk, hb⟩ : ∃ pk, (ownOk t.kind at_ t.parts[i] && !((t.parts.take i).any (sameP · t.parts[i]))) = pk := ⟨_, rfl⟩
    rw [hb] at this ⊢
    cases pk with
    | false =>
      simp only [Bool.false_eq_true, if_false] at this
      obtain ⟨l, S', h3, h4, h5⟩ := this
      exact ⟨_, l, S', h3, by simp [h4], h5⟩
    | true =>
      simp only [if_true] at this
      rw [this, Bool.true_and]
      have e : t.parts.take i ++ [t.parts[i]] = t.parts.take (i + 1) := by rw [List.take_add_one, hp]; rfl
      rw [e]
      exact ih (i + 1) (by omega) S y hy

theorem rparts_ev (t : Typ) (at_ : Int) (hk : t.kind = 7 ∨ t.kind = 8) (hat : 0 ≤ at_ ∧ at_ ≤ 1073741824) : Pure 52 [.agg t.v, .int .i64 at_] (.bool (partsB t at_)) := by
  intro S
  rw [partsB_eq]
  have hin := fun n lo hi S => rin_ev n lo hi S
  by_cases h1 : 1 ≤ t.parts.length
  · by_cases h2 : t.parts.length ≤ 64
    · have h1' : (1 : Int) ≤ t.parts.length := by omega
      have h2' : (t.parts.length : Int) ≤ 64 := by omega
      obtain ⟨r, l, S', h5, h6, h7, h9, h10⟩ := rparts_loop t at_ hk hat (by omega) t.parts.length 0 (by omega) (S.push (.cells 4 [t.v] 0 0)) S.top (by simp)
      have h8 := h7 S.top (by simp)
      simp at h5 h8 h9 h10
      have h11 : S.top ≤ S'.top := by omega
      simp only [List.take_zero, List.drop_zero] at h6
      rw [ev_eq q52, c52, evFn_eq _ _ _ _ _ _ _ (by simp)]
      generalize partsR t.kind at_ [] t.parts = b at *
      cases b with
      | false =>
        simp only [Bool.false_eq_true, if_false] at h6
        simp [Typ.v] at h5
        rcases hk with hk | hk <;> rw [hk] at h5 <;> simp [Typ.v, hk, hin, h1, h2, h1', h2', h5, h6.1, h6.2, h8, h9, h11]
      | true =>
        simp only [if_true] at h6
        subst h6
        simp [Typ.v] at h5
        rcases hk with hk | hk <;> rw [hk] at h5 <;> simp [Typ.v, hk, hin, h1, h2, h1', h2', h5, h8, h9, h11]
    · have h1' : (1 : Int) ≤ t.parts.length := by omega
      have h2' : ¬ (t.parts.length : Int) ≤ 64 := by omega
      rw [ev_eq q52, c52, evFn_eq _ _ _ _ _ _ _ (by simp)]
      rcases hk with hk | hk <;> simp [Typ.v, hk, hin, h1, h2, h1', h2']
  · have h1' : ¬ (1 : Int) ≤ t.parts.length := by omega
    rw [ev_eq q52, c52, evFn_eq _ _ _ _ _ _ _ (by simp)]
    rcases hk with hk | hk <;> simp [Typ.v, hk, hin, h1, h1']
end Mev

/- The document's answer, one equation each: a type that may be. -/

set_option maxRecDepth 100000
namespace Mev
open Go Go.Proofs

theorem rright_ev (t : Typ) (at_ : Int) (hat : 0 ≤ at_ ∧ at_ ≤ 1073741824) : Pure 30 [.agg t.v, .int .i64 at_] (.bool (rightN t at_)) := by
  intro S
  have hin := fun n lo hi S => rin_ev n lo hi S
  have w4 : IntKind.i64.wrap (at_ - 1) = at_ - 1 := wrap64 (by omega) (by omega)
  have hle : (t.elem ≤ at_ - 1) = (t.elem < at_) := by apply propext; omega
  have hp0 : ((t.parts.length : Int) = 0) = (t.parts.length = 0) := by apply propext; omega
  rw [ev_eq q30, c30, evFn_eq _ _ _ _ _ _ _ (by simp)]
  unfold rightN numberB
  by_cases k1 : t.kind = 1
  · by_cases a1 : t.n = 1
    · by_cases e : t.elem = 0 <;> simp [Typ.v, k1, a1, e]
    by_cases a2 : t.n = 2
    · by_cases e : t.elem = 0 <;> simp [Typ.v, k1, a2, e]
    by_cases a4 : t.n = 4
    · by_cases e : t.elem = 0 <;> simp [Typ.v, k1, a4, e]
    by_cases a8 : t.n = 8
    · by_cases e : t.elem = 0 <;> simp [Typ.v, k1, a8, e]
    · simp [Typ.v, k1, a1, a2, a4, a8]
  by_cases k2 : t.kind = 2
  · by_cases a1 : t.n = 0 <;> by_cases e : t.elem = 0 <;> simp [Typ.v, k2, a1, e]
  by_cases k3 : t.kind = 3
  · by_cases a1 : t.n = 0 <;> by_cases e : t.elem = 0 <;> simp [Typ.v, k3, a1, e]
  by_cases k4 : t.kind = 4
  · by_cases a1 : 1 ≤ t.n <;> by_cases a2 : t.n ≤ 1048576 <;> by_cases e : 0 ≤ t.elem <;> by_cases e2 : t.elem < at_ <;> simp [Typ.v, k4, a1, a2, e, e2, hin, w4, hle]
  by_cases k5 : t.kind = 5
  · by_cases a1 : 1 ≤ t.n <;> by_cases a2 : t.n ≤ 1048576 <;> by_cases e : 0 ≤ t.elem <;> by_cases e2 : t.elem < at_ <;> simp [Typ.v, k5, a1, a2, e, e2, hin, w4, hle]
  by_cases k6 : t.kind = 6
  · by_cases a1 : t.n = 0 <;> by_cases e : 0 ≤ t.elem <;> by_cases e2 : t.elem < at_ <;> simp [Typ.v, k6, a1, e, e2, hin, w4, hle]
  by_cases k7 : t.kind = 7
  · have hp := fun S => rparts_ev t at_ (.inl k7) hat S
    simp only [Typ.v, k7] at hp
    by_cases a1 : t.n = 0
    · by_cases e : t.elem = 0
      · rw [a1, e] at hp; simp [Typ.v, k7, a1, e, hp]
      · simp [Typ.v, k7, a1, e]
    · simp [Typ.v, k7, a1]
  by_cases k8 : t.kind = 8
  · have hp := fun S => rparts_ev t at_ (.inr k8) hat S
    simp only [Typ.v, k8] at hp
    by_cases a1 : t.n = 0
    · by_cases e : t.elem = 0
      · rw [a1, e] at hp; simp [Typ.v, k8, a1, e, hp]
      · simp [Typ.v, k8, a1, e]
    · simp [Typ.v, k8, a1]
  simp [Typ.v, k1, k2, k3, k4, k5, k6, k7, k8]
end Mev

/- The document's answer, one equation each: how deep each type lies. -/

set_option maxRecDepth 100000
namespace Mev
open Go Go.Proofs

theorem rdin_loop (x0 c y g i : Nat) (S : St) (t : Typ) (ds : List Int) (hx0 : x0 < S.top) (hy : S.get y = some (.cells 4 [t.v] 0 0)) (hc : S.get c = some (.cells 1 (dV ds) g 0)) (hpl : t.parts.length ≤ 1073741824) (hb : ∀ p ∈ t.parts, 0 ≤ p.2.2 ∧ p.2.2 < (ds.length : Int)) : ∀ (m k : Nat) (a : Int), k + m = t.parts.length →
    ∃ l, loopL (some [1, 3, 4, 5, 6, 7]) (S.top, S.pin) (kC (ev Q) loopL b31x2) ⟨62, [(1, .ptr x0 0 2 0 0), (3, .sl c g 1 0 ds.length), (4, .int .i64 i), (5, .ptr y 0 4 0 0), (6, .int .i64 a), (7, .int .i64 k)]⟩ S = some (.exit 2, ⟨62, l⟩, S) ∧
      look 1 l = .ptr x0 0 2 0 0 ∧ look 3 l = .sl c g 1 0 ds.length ∧ look 4 l = .int .i64 i ∧ look 6 l = .int .i64 (depFold (dOf ds) (t.parts.drop k) a) := by
  intro m
  induction m with
  | zero =>
    intro k a hk
    have h1 : ¬ ((k : Int) < t.parts.length) := by omega
    rw [List.drop_of_length_le (by omega)]
    refine ⟨[(42, .bool false), (41, .int .i64 t.parts.length), (40, .rs 3 (t.parts.map partV ++ t.spare) t.parts.length), (39, .ptr y 0 4 0 3), (38, .int .i64 k), (1, .ptr x0 0 2 0 0), (3, .sl c g 1 0 ds.length), (4, .int .i64 i), (5, .ptr y 0 4 0 0), (6, .int .i64 a), (7, .int .i64 k)], ?_, by simp, by simp, by simp, by simp [depFold]⟩
    rw [loopL_eq]
    simp [kC, b31x2, h1, hy, Typ.v]
  | succ m ih =>
    intro k a hk
    have hkl : k < t.parts.length := by omega
    have hp : t.parts[k]? = some t.parts[k] := List.getElem?_eq_getElem hkl
    have hr : (t.parts.map partV ++ t.spare)[k]? = some (partV t.parts[k]) := by
      rw [List.getElem?_append_left (by simpa using hkl), List.getElem?_map, hp]; rfl
    have hbk := hb _ (List.getElem_mem hkl)
    obtain ⟨l, h1, h2⟩ := ih (k + 1) (maxI a (dOf ds t.parts[k].2.2.toNat)) (by omega)
    rw [List.drop_eq_getElem_cons hkl]
    have hfold : depFold (dOf ds) (t.parts[k] :: t.parts.drop (k + 1)) a = depFold (dOf ds) (t.parts.drop (k + 1)) (maxI a (dOf ds t.parts[k].2.2.toNat)) := rfl
    rw [hfold]
    refine ⟨l, ?_, h2⟩
    rw [← h1]
    clear h1 h2 ih hfold
    generalize t.parts[k] = p at *
    obtain ⟨lab, tag, ty⟩ := p
    obtain ⟨q, rfl⟩ : ∃ q : Nat, ty = (q : Int) := ⟨ty.toNat, by simp only at hbk; omega⟩
    simp only at hbk
    have hql : q < ds.length := by omega
    have hq : (dV ds)[q]? = some [.int .i64 (dOf ds q)] := by
      have := dV_get ds 0 q hql
      simpa using this
    have hq' : ((q : Nat) : Int) < ds.length := by omega
    have hk' : (k : Int) < t.parts.length := by omega
    have w3 : IntKind.i64.wrap ((k : Int) + 1) = (k : Int) + 1 := wrap64 (by omega) (by omega)
    have hyl := get_lt _ _ hy
    have hcl := get_lt _ _ hc
    have hmx : max x0 (max c y) + 1 ≤ S.top := by omega
    simp only [partV] at hr
    simp only [Int.toNat_natCast]
    generalize dOf ds q = w at *
    rw [loopL_eq]
    generalize loopL (some [1, 3, 4, 5, 6, 7]) (S.top, S.pin) (kC (ev Q) loopL b31x2) = F
    simp [kC, b31x2, hk', hkl, hy, hc, Typ.v, hr, hq, hq', hql, w3, hmx, maxI]

theorem depFold_bd (D : Nat → Int) (i : Nat) (M : Int) (hD : ∀ k, k < i → 0 ≤ D k ∧ D k ≤ M) : ∀ (ps : List (List UInt8 × Int × Int)) (a : Int), (∀ p ∈ ps, 0 ≤ p.2.2 ∧ p.2.2 < i) → 0 ≤ a → a ≤ M → 0 ≤ depFold D ps a ∧ depFold D ps a ≤ M := by
  intro ps
  induction ps with
  | nil => intro a _ h1 h2; exact ⟨h1, h2⟩
  | cons p ps ih =>
    intro a hp h1 h2
    have := hp p List.mem_cons_self
    have hd := hD p.2.2.toNat (by omega)
    refine ih (maxI a (D p.2.2.toNat)) (fun q hq => hp q (List.mem_cons_of_mem _ hq)) ?_ ?_
    · unfold maxI; split <;> omega
    · unfold maxI; split <;> omega

theorem depFirst_bd (D : Nat → Int) (i : Nat) (M : Int) (t : Typ) (hD : ∀ k, k < i → 0 ≤ D k ∧ D k ≤ M) (hM : 0 ≤ M) (hel : t.kind = 4 ∨ t.kind = 5 ∨ t.kind = 6 → 0 ≤ t.elem ∧ t.elem < i) : 0 ≤ depFirst D t ∧ depFirst D t ≤ M := by
  unfold depFirst
  split
  · rename_i h; have := hel h; exact hD _ (by omega)
  · exact ⟨by omega, hM⟩

theorem rdep_round (S : St) (x0 c g i : Nat) (ts : List Typ) (sp : List (List V)) (rv : V) (t : Typ) (ds : List Int) (hx0 : S.get x0 = some (.cells 2 [[tsV ts sp, rv]] 0 0)) (hc : S.get c = some (.cells 1 (dV ds) g 0)) (hne : x0 ≠ c) (hi : i < ts.length) (hn : ts.length ≤ 1073741824) (he : ds.length = i) (ht : ts[i]? = some t) (hw : WfT t i)
    (hD : ∀ k, k < ds.length → 0 ≤ dOf ds k ∧ dOf ds k ≤ i) :
    loopL (some [1, 3, 4]) (S.top, S.pin) (kC (ev Q) loopL b31x0) ⟨62, [(1, .ptr x0 0 2 0 0), (3, .sl c g 1 0 ds.length), (4, .int .i64 i)]⟩ S =
    loopL (some [1, 3, 4]) (S.top, S.pin) (kC (ev Q) loopL b31x0) ⟨62, [(1, .ptr x0 0 2 0 0), (3, .sl c (g + 1) 1 0 (ds ++ [depN (dOf ds) t]).length), (4, .int .i64 (i + 1 : Nat))]⟩ (S.put c (.cells 1 (dV (ds ++ [depN (dOf ds) t])) (g + 1) 0)) := by
  have hcl := get_lt _ _ hc
  have hxl := get_lt _ _ hx0
  have hi' : (i : Int) < ts.length := by omega
  have w3 : IntKind.i64.wrap ((i : Int) + 1) = (i : Int) + 1 := wrap64 (by omega) (by omega)
  have hmx : max x0 c + 1 ≤ S.top := by omega
  have hrow : (ts.map Typ.v ++ sp)[i]? = some t.v := by
    rw [List.getElem?_append_left (by simpa using hi), List.getElem?_map, ht]; rfl
  have hpl : t.parts.length ≤ 1073741824 := by have := hw.fine.1; omega
  have hfb := depFirst_bd (dOf ds) i i t (by rw [← he]; rw [← he] at hD; exact hD) (by omega) hw.elem
  have hdb := depFold_bd (dOf ds) i i (by rw [← he]; rw [← he] at hD; exact hD) t.parts _ hw.fine.2 hfb.1 hfb.2
  have w5 : IntKind.i64.wrap (depFold (dOf ds) t.parts (depFirst (dOf ds) t) + 1) = depN (dOf ds) t := by unfold depN; exact wrap64 (by omega) (by omega)
  have hby : (i + 1) * 8 ≤ 140737488355328 := by omega
  obtain ⟨l, h1, h2, h3, h4, h6⟩ := rdin_loop x0 c S.top g i (S.push (.cells 4 [t.v] 0 0)) t ds (by simp; omega) (by simp) (by simp [below hcl, hc]) hpl (by rw [he]; exact hw.fine.2) t.parts.length 0 (depFirst (dOf ds) t) (by omega)
  rw [List.drop_zero] at h6
  have hV : dV (ds ++ [depN (dOf ds) t]) = dV ds ++ [[.int .i64 (depN (dOf ds) t)]] := by simp [dV]
  have hVl : (dV ds).length = ds.length := by simp [dV]
  rw [hV]
  generalize hX : depFold (dOf ds) t.parts (depFirst (dOf ds) t) = X at *
  generalize hY : depN (dOf ds) t = Y at *
  subst he
  rw [loopL_eq]
  generalize loopL (some [1, 3, 4]) (S.top, S.pin) (kC (ev Q) loopL b31x0) = F
  simp only [tsV, Typ.v] at hx0 hrow h1
  generalize ts.map Typ.v ++ sp = rows at *
  by_cases k : t.kind = 4 ∨ t.kind = 5 ∨ t.kind = 6
  · have hel := hw.elem k
    obtain ⟨q, hq⟩ : ∃ q : Nat, t.elem = (q : Int) := ⟨t.elem.toNat, by omega⟩
    have hql : q < ds.length := by omega
    have hq' : ((q : Nat) : Int) < ds.length := by omega
    have hqg : (dV ds)[q]? = some [.int .i64 (dOf ds q)] := by
      have := dV_get ds 0 q hql
      simpa using this
    have hf : depFirst (dOf ds) t = dOf ds q := by unfold depFirst; rw [if_pos k, hq]; simp
    rw [hf] at h1
    generalize dOf ds q = w at *
    generalize dV ds = rowsD at *
    have hqe : ∀ h : q < rowsD.length, rowsD[q]'h = [.int .i64 w] := fun h => by
      have := List.getElem?_eq_getElem h
      rw [hqg] at this
      exact (Option.some.inj this).symm
    rw [hq] at h1 hrow
    simp at h1
    rcases k with k | k | k <;> rw [k] at h1 hrow <;> simp [kC, b31x0, hx0, hrow, hi', hc, below hcl, below hxl, hqe, hqg, hq', hql, h1, h2, h3, h4, h6, w3, w5, hmx, hby, hVl]
  · have hf : depFirst (dOf ds) t = 0 := by unfold depFirst; rw [if_neg k]
    have k4 : t.kind ≠ 4 := by omega
    have k5 : t.kind ≠ 5 := by omega
    have k6 : t.kind ≠ 6 := by omega
    rw [hf] at h1
    generalize dV ds = rowsD at *
    simp at h1
    simp [kC, b31x0, hx0, hrow, hi', hc, below hcl, below hxl, k4, k5, k6, h1, h2, h3, h4, h6, w3, w5, hmx, hby, hVl]
end Mev
