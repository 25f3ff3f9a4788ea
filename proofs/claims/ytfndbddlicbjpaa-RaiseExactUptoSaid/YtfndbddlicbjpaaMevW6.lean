/- The program's functions, one equation each: how deep a type lies. -/
import Derived.Test.YtfndbddlicbjpaaMevW5

set_option maxRecDepth 100000
namespace Mev
open Go Go.Proofs

theorem deep_round3 (S : St) (d y i j n plen tl ty : Nat) (R prows trows : List (List V)) (a w tag : Int) (lab : List UInt8)
    (hd : S.get d = some (.cells 1 R 0 0)) (hy : y < S.top) (hyd : y ≠ d) (hi : i < n) (hv : R[i]? = some [.int .i64 a]) (hw : R[ty]? = some [.int .i64 w]) (hty : ty < n)
    (hp : prows[j]? = some [.str lab, .int .i64 tag, .int .i64 ty]) (hj : j < plen) (hpl : plen ≤ 1073741824) :
    loopL (some [2, 3, 4, 11, 12, 13, 33, 34, 35]) (S.top, S.pin) (kC (ev Q) loopL b21x3) ⟨68, [(2, .ptr y 0 2 0 0), (3, .sl d 0 1 0 n), (4, .int .i64 i), (11, .rs 4 trows tl), (12, .int .i64 tl), (13, .int .i64 i), (33, .rs 3 prows plen), (34, .int .i64 plen), (35, .int .i64 j)]⟩ S =
    loopL (some [2, 3, 4, 11, 12, 13, 33, 34, 35]) (S.top, S.pin) (kC (ev Q) loopL b21x3) ⟨68, [(2, .ptr y 0 2 0 0), (3, .sl d 0 1 0 n), (4, .int .i64 i), (11, .rs 4 trows tl), (12, .int .i64 tl), (13, .int .i64 i), (33, .rs 3 prows plen), (34, .int .i64 plen), (35, .int .i64 (j + 1 : Nat))]⟩
      (S.put d (.cells 1 (R.set i [.int .i64 (if w > a then w else a)]) 0 0)) := by
  have hdl := get_lt _ _ hd
  have hi' : (i : Int) < n := by omega
  have hj' : (j : Int) < plen := by omega
  have hty' : (ty : Int) < n := by omega
  have w3 : IntKind.i64.wrap ((j : Int) + 1) = (j : Int) + 1 := wrap64 (by omega) (by omega)
  have hmx : max y d + 1 ≤ S.top := by omega
  rw [loopL_eq]
  generalize loopL (some [2, 3, 4, 11, 12, 13, 33, 34, 35]) (S.top, S.pin) (kC (ev Q) loopL b21x3) = F
  simp [kC, b21x3, hd, hp, hv, hw, hi', hj', hty', hi, hty, below hdl, w3, hmx]

def maxI (a w : Int) : Int := if w > a then w else a
def depFold (D : Nat → Int) (ps : List (List UInt8 × Int × Int)) (a : Int) : Int := ps.foldl (fun a p => maxI a (D p.2.2.toNat)) a
def depFirst (D : Nat → Int) (t : Typ) : Int := if t.kind = 4 ∨ t.kind = 5 ∨ t.kind = 6 then D t.elem.toNat else 0
def depN (D : Nat → Int) (t : Typ) : Int := depFold D t.parts (depFirst D t) + 1

theorem deep_loop3 (d y i n tl : Nat) (trows : List (List V)) (t : Typ) (D : Nat → Int) (hyd : y ≠ d) (hi : i < n) (hpl : t.parts.length ≤ 1073741824) (hb : ∀ p ∈ t.parts, 0 ≤ p.2.2 ∧ p.2.2 < i) :
    ∀ (m j : Nat) (S : St) (R : List (List V)) (a : Int), j + m = t.parts.length → S.get d = some (.cells 1 R 0 0) → y < S.top → R[i]? = some [.int .i64 a] → (∀ k, k < i → R[k]? = some [.int .i64 (D k)]) →
    ∃ l, loopL (some [2, 3, 4, 11, 12, 13, 33, 34, 35]) (S.top, S.pin) (kC (ev Q) loopL b21x3) ⟨68, [(2, .ptr y 0 2 0 0), (3, .sl d 0 1 0 n), (4, .int .i64 i), (11, .rs 4 trows tl), (12, .int .i64 tl), (13, .int .i64 i), (33, .rs 3 (t.parts.map partV ++ t.spare) t.parts.length), (34, .int .i64 t.parts.length), (35, .int .i64 j)]⟩ S =
      some (.exit 3, ⟨68, l⟩, S.put d (.cells 1 (R.set i [.int .i64 (depFold D (t.parts.drop j) a)]) 0 0)) ∧ look 2 l = .ptr y 0 2 0 0 ∧ look 3 l = .sl d 0 1 0 n ∧ look 4 l = .int .i64 i ∧ look 11 l = .rs 4 trows tl ∧ look 12 l = .int .i64 tl ∧ look 13 l = .int .i64 i := by
  intro m
  induction m with
  | zero =>
    intro j S R a hj hd hy hv hR
    have h1 : ¬ ((j : Int) < t.parts.length) := by omega
    have h2 : R.set i [.int .i64 (depFold D (t.parts.drop j) a)] = R := by
      rw [List.drop_of_length_le (by omega)]
      simp only [depFold, List.foldl_nil]
      apply List.ext_getElem?
      intro k
      rw [List.getElem?_set]
      split
      · rename_i h; subst h; split
        · rw [hv]
        · rename_i h; rw [List.getElem?_eq_none (by omega)]
      · rfl
    rw [h2, put_self S _ hd]
    rw [loopL_eq]
    simp [kC, b21x3, h1]
  | succ m ih =>
    intro j S R a hj hd hy hv hR
    have hjl : j < t.parts.length := by omega
    have hp : t.parts[j]? = some t.parts[j] := List.getElem?_eq_getElem hjl
    obtain ⟨hb1, hb2⟩ := hb _ (List.mem_of_getElem? hp)
    have hdl := get_lt _ _ hd
    have hr : (t.parts.map partV ++ t.spare)[j]? = some [.str t.parts[j].1, .int .i64 t.parts[j].2.1, .int .i64 t.parts[j].2.2.toNat] := by
      rw [List.getElem?_append_left (by simpa using hjl), List.getElem?_map, hp]; simp [partV, Int.toNat_of_nonneg hb1]
    have := deep_round3 S d y i j n t.parts.length tl t.parts[j].2.2.toNat R _ trows a (D t.parts[j].2.2.toNat) _ _ hd hy hyd hi hv (hR _ (by omega)) (by omega) hr hjl hpl
    rw [this]
    have hil : i < R.length := (List.getElem?_eq_some_iff.1 hv).1
    obtain ⟨l, h1, h2⟩ := ih (j + 1) (S.put d (.cells 1 (R.set i [.int .i64 (maxI a (D t.parts[j].2.2.toNat))]) 0 0)) (R.set i [.int .i64 (maxI a (D t.parts[j].2.2.toNat))]) (maxI a (D t.parts[j].2.2.toNat)) (by omega)
      (by rw [put_get_if, if_pos ⟨rfl, hdl⟩]) (by simpa using hy) (by rw [List.getElem?_set_self hil]) (fun k hk => by rw [List.getElem?_set_ne (by omega)]; exact hR k hk)
    simp only [top_put, pin_put, put_put, List.set_set] at h1
    refine ⟨l, ?_, h2⟩
    rw [List.drop_eq_getElem_cons hjl]
    exact h1

theorem depFold_range (D : Nat → Int) (i : Nat) (hD : ∀ k, k < i → 0 ≤ D k ∧ D k ≤ 64) : ∀ (ps : List (List UInt8 × Int × Int)) (a : Int), (∀ p ∈ ps, 0 ≤ p.2.2 ∧ p.2.2 < i) → 0 ≤ a → a ≤ 64 → 0 ≤ depFold D ps a ∧ depFold D ps a ≤ 64 := by
  intro ps
  induction ps with
  | nil => intro a _ h1 h2; exact ⟨h1, h2⟩
  | cons p ps ih =>
    intro a hb h1 h2
    have hp := hb p List.mem_cons_self
    have hd := hD p.2.2.toNat (by omega)
    have h3 : 0 ≤ maxI a (D p.2.2.toNat) ∧ maxI a (D p.2.2.toNat) ≤ 64 := by unfold maxI; split <;> omega
    exact ih _ (fun q hq => hb q (List.mem_cons_of_mem _ hq)) h3.1 h3.2

theorem deep_round (S : St) (d y i n : Nat) (trows R : List (List V)) (t : Typ) (D : Nat → Int) (hd : S.get d = some (.cells 1 R 0 0)) (hy : S.get y = some (.cells 2 [[.int .i64 0, .int .i64 0]] 0 0)) (hyd : y < d) (hi : i < n) (hn : n ≤ 1073741824)
    (ht : trows[i]? = some t.v) (hw : WfT t i) (hv : R[i]? = some [.int .i64 0]) (hR : ∀ k, k < i → R[k]? = some [.int .i64 (D k)]) (hD : ∀ k, k < i → 0 ≤ D k ∧ D k ≤ 64) :
    if depN D t ≤ 64 then
      loopL (some [2, 3, 11, 12, 13]) (S.top, S.pin) (kC (ev Q) loopL b21x0) ⟨68, [(2, .ptr y 0 2 0 0), (3, .sl d 0 1 0 n), (11, .rs 4 trows n), (12, .int .i64 n), (13, .int .i64 i)]⟩ S =
      loopL (some [2, 3, 11, 12, 13]) (S.top, S.pin) (kC (ev Q) loopL b21x0) ⟨68, [(2, .ptr y 0 2 0 0), (3, .sl d 0 1 0 n), (11, .rs 4 trows n), (12, .int .i64 n), (13, .int .i64 (i + 1 : Nat))]⟩ (S.put d (.cells 1 (R.set i [.int .i64 (depN D t)]) 0 0))
    else ∃ l S', loopL (some [2, 3, 11, 12, 13]) (S.top, S.pin) (kC (ev Q) loopL b21x0) ⟨68, [(2, .ptr y 0 2 0 0), (3, .sl d 0 1 0 n), (11, .rs 4 trows n), (12, .int .i64 n), (13, .int .i64 i)]⟩ S =
      some (.ret, ⟨68, l⟩, S') ∧ look 2 l = .ptr y 0 2 0 0 ∧ S'.get y = some (.cells 2 [[.int .i64 83, .int .i64 i]] 0 0) ∧ (∀ k, k ≤ y → S'.trunc k = S.trunc k) ∧ S'.pin = S.pin ∧ S.top ≤ S'.top := by
  have hdl := get_lt _ _ hd
  have hyl := get_lt _ _ hy
  have hin : (i : Int) < n := by omega
  have hil : i < R.length := (List.getElem?_eq_some_iff.1 hv).1
  have w3 : IntKind.i64.wrap ((i : Int) + 1) = (i : Int) + 1 := wrap64 (by omega) (by omega)
  have hmx : max y d + 1 ≤ S.top := by omega
  have hpl : t.parts.length ≤ 1073741824 := by have := hw.fine.1; omega
  have hset : ∀ v, (R.set i v)[i]? = some v := fun v => List.getElem?_set_self hil
  have hf0 : 0 ≤ depFirst D t ∧ depFirst D t ≤ 64 := by
    unfold depFirst
    split
    · rename_i h
      have := hw.elem h
      exact hD _ (by omega)
    · omega
  have hf := depFold_range D i hD t.parts (depFirst D t) hw.fine.2 hf0.1 hf0.2
  have w4 : IntKind.i64.wrap (depFold D t.parts (depFirst D t) + 1) = depN D t := by rw [wrap64 (by omega) (by omega)]; rfl
  have htr : ∀ B B' B'' k, k ≤ y → (((S.put d B).put y B').push B'').trunc k = S.trunc k := by
    intro B B' B'' k hk
    rw [trunc_push _ _ _ (by rw [top_put, top_put]; omega), trunc_put_ge _ _ _ _ hk, trunc_put_ge _ _ _ _ (by omega)]
  by_cases hk : t.kind = 4 ∨ t.kind = 5 ∨ t.kind = 6
  · have he := hw.elem hk
    have heR := hR t.elem.toNat (by omega)
    have hel : t.elem < n := by omega
    have heN : t.elem.toNat < n := by omega
    have hfirst : depFirst D t = D t.elem.toNat := by rw [depFirst, if_pos hk]
    rw [hfirst] at w4 hf
    obtain ⟨l, h1, h2, h3, h4, h5, h6, h7⟩ := deep_loop3 d y i n n trows t D (by omega) hi hpl hw.fine.2 t.parts.length 0 ((S.put d (.cells 1 (R.set i [.int .i64 (D t.elem.toNat)]) 0 0)).push (.cells 4 [t.v] 0 0)) (R.set i [.int .i64 (D t.elem.toNat)]) (D t.elem.toNat) (by omega)
      (by simp [below hdl]) (by simp; omega) (by rw [List.getElem?_set_self hil]) (fun k hk => by rw [List.getElem?_set_ne (by omega)]; exact hR k hk)
    simp [Typ.v, below hdl] at h1
    by_cases hle : depN D t ≤ 64
    · have hgt : ¬ (64 < depN D t) := by omega
      rw [if_pos hle, loopL_eq]
      generalize loopL (some [2, 3, 11, 12, 13]) (S.top, S.pin) (kC (ev Q) loopL b21x0) = F
      rcases hk with hk | hk | hk <;> rw [hk] at h1 <;>
      simp [kC, b21x0, hset, hd, hv, hin, ht, Typ.v, hk, below hdl, below hyl, below hyd, heR, hel, heN, he.1, hi, h1, h2, h3, h4, h5, h6, h7, w3, w4, hgt, hmx]
    · have hgt : 64 < depN D t := by omega
      rw [if_neg hle, loopL_eq]
      generalize loopL (some [2, 3, 11, 12, 13]) (S.top, S.pin) (kC (ev Q) loopL b21x0) = F
      rcases hk with hk | hk | hk <;> rw [hk] at h1 <;>
      simp [kC, b21x0, hset, hd, hv, hy, hin, ht, Typ.v, hk, below hdl, below hyl, below hyd, heR, hel, heN, he.1, hi, h1, h2, h3, h4, h5, h6, h7, w3, w4, hgt, hmx] <;>
      (refine ⟨_, _, ⟨rfl, rfl⟩, ?_, ?_, fun k hk => ?_, ?_, ?_⟩ <;> first | exact htr _ _ _ _ hk | simp [below hyl, below hyd, h2] | skip)
  · have hfirst : depFirst D t = 0 := by rw [depFirst, if_neg hk]
    have k4 : t.kind ≠ 4 := by omega
    have k5 : t.kind ≠ 5 := by omega
    have k6 : t.kind ≠ 6 := by omega
    rw [hfirst] at w4 hf
    obtain ⟨l, h1, h2, h3, h4, h5, h6, h7⟩ := deep_loop3 d y i n n trows t D (by omega) hi hpl hw.fine.2 t.parts.length 0 (S.push (.cells 4 [t.v] 0 0)) R 0 (by omega)
      (by simp [below hdl, hd]) (by simp; omega) hv hR
    simp [Typ.v, below hdl] at h1
    by_cases hle : depN D t ≤ 64
    · have hgt : ¬ (64 < depN D t) := by omega
      rw [if_pos hle, loopL_eq]
      generalize loopL (some [2, 3, 11, 12, 13]) (S.top, S.pin) (kC (ev Q) loopL b21x0) = F
      simp [kC, b21x0, hset, hd, hv, hin, ht, Typ.v, k4, k5, k6, below hdl, below hyl, below hyd, hi, h1, h2, h3, h4, h5, h6, h7, w3, w4, hgt, hmx]
    · have hgt : 64 < depN D t := by omega
      rw [if_neg hle, loopL_eq]
      generalize loopL (some [2, 3, 11, 12, 13]) (S.top, S.pin) (kC (ev Q) loopL b21x0) = F
      simp [kC, b21x0, hset, hd, hv, hy, hin, ht, Typ.v, k4, k5, k6, below hdl, below hyl, below hyd, hi, h1, h2, h3, h4, h5, h6, h7, w3, w4, hgt, hmx] <;>
      (refine ⟨_, _, ⟨rfl, rfl⟩, ?_, ?_, fun k hk => ?_, ?_, ?_⟩ <;> first | exact htr _ _ _ _ hk | simp [below hyl, below hyd, h2] | skip)
end Mev

/- The program's functions, one equation each: how deep types lie. -/

set_option maxRecDepth 100000
namespace Mev
open Go Go.Proofs

/-- a list's items told one by one, each by those ahead of it -/
def dOf (ds : List Int) (k : Nat) : Int := ds.getD k 0
def deepN : List Int → List Typ → Int × Int
  | _, [] => (0, 0)
  | ds, t :: r => if depN (dOf ds) t ≤ 64 then deepN (ds ++ [depN (dOf ds) t]) r else (83, ds.length)
def dV (ds : List Int) : List (List V) := ds.map fun d => [.int .i64 d]
def tsV (ts : List Typ) (sp : List (List V)) : V := .rs 4 (ts.map Typ.v ++ sp) ts.length
def WfTs (ts : List Typ) : Prop := ∀ (i : Nat) (t : Typ), ts[i]? = some t → WfT t i

theorem dV_get (ds : List Int) (m k : Nat) (h : k < ds.length) : (dV (ds ++ List.replicate m 0))[k]? = some [.int .i64 (dOf ds k)] := by
  rw [dV, List.getElem?_map, List.getElem?_append_left h, List.getElem?_eq_getElem h]
  simp [dOf, List.getD_eq_getElem?_getD, List.getElem?_eq_getElem h]
theorem dV_zero (ds : List Int) (m : Nat) : (dV (ds ++ List.replicate (m + 1) 0))[ds.length]? = some [.int .i64 0] := by
  rw [dV, List.getElem?_map, List.getElem?_append_right (Nat.le_refl _)]
  simp [List.replicate_succ]
theorem dV_set (ds : List Int) (m : Nat) (v : Int) : (dV (ds ++ List.replicate (m + 1) 0)).set ds.length [.int .i64 v] = dV (ds ++ [v] ++ List.replicate m 0) := by
  simp [dV, List.replicate_succ, List.set_append_right]

theorem deep_loop (ts : List Typ) (sp : List (List V)) (hw : WfTs ts) (hn : ts.length ≤ 1073741824) (d y : Nat) (hyd : y < d) : ∀ (m : Nat) (S : St) (ds : List Int), ds.length + m = ts.length → (∀ k, k < ds.length → 0 ≤ dOf ds k ∧ dOf ds k ≤ 64) →
    S.get d = some (.cells 1 (dV (ds ++ List.replicate m 0)) 0 0) → S.get y = some (.cells 2 [[.int .i64 0, .int .i64 0]] 0 0) →
    ∃ r l S', loopL (some [2, 3, 11, 12, 13]) (S.top, S.pin) (kC (ev Q) loopL b21x0) ⟨68, [(2, .ptr y 0 2 0 0), (3, .sl d 0 1 0 ts.length), (11, tsV ts sp), (12, .int .i64 ts.length), (13, .int .i64 ds.length)]⟩ S = some (r, ⟨68, l⟩, S') ∧ look 2 l = .ptr y 0 2 0 0 ∧
      (r = .ret ∨ r = .exit 0 ∧ deepN ds (ts.drop ds.length) = (0, 0)) ∧ S'.get y = some (.cells 2 [[.int .i64 (deepN ds (ts.drop ds.length)).1, .int .i64 (deepN ds (ts.drop ds.length)).2]] 0 0) ∧ (∀ k, k ≤ y → S'.trunc k = S.trunc k) ∧ S'.pin = S.pin ∧ S.top ≤ S'.top := by
  intro m
  induction m with
  | zero =>
    intro S ds hl hD hd hy
    have h1 : ¬ ((ds.length : Int) < ts.length) := by omega
    rw [List.drop_of_length_le (by omega)]
    refine ⟨.exit 0, [(14, .bool false), (2, .ptr y 0 2 0 0), (3, .sl d 0 1 0 ts.length), (11, tsV ts sp), (12, .int .i64 ts.length), (13, .int .i64 ds.length)], S, ?_, rfl, Or.inr ⟨rfl, rfl⟩, hy, fun _ _ => rfl, rfl, Nat.le_refl _⟩
    rw [loopL_eq]
    simp [kC, b21x0, h1, tsV]
  | succ m ih =>
    intro S ds hl hD hd hy
    have hil : ds.length < ts.length := by omega
    have ht : ts[ds.length]? = some ts[ds.length] := List.getElem?_eq_getElem hil
    have hr : (ts.map Typ.v ++ sp)[ds.length]? = some (ts[ds.length]).v := by
      rw [List.getElem?_append_left (by simpa using hil), List.getElem?_map, ht]; rfl
    have hdl := get_lt _ _ hd
    have hround := deep_round S d y ds.length ts.length (ts.map Typ.v ++ sp) _ ts[ds.length] (dOf ds) hd hy hyd hil hn hr (hw _ _ ht) (dV_zero ds m) (fun k hk => dV_get ds _ k hk) hD
    rw [List.drop_eq_getElem_cons hil]
    by_cases hle : depN (dOf ds) ts[ds.length] ≤ 64
    · rw [if_pos hle] at hround
      have hge : 0 ≤ depN (dOf ds) ts[ds.length] := by
        have hf0 : 0 ≤ depFirst (dOf ds) ts[ds.length] ∧ depFirst (dOf ds) ts[ds.length] ≤ 64 := by
          unfold depFirst
          split
          · rename_i h
            have := (hw _ _ ht).elem h
            exact hD _ (by omega)
          · omega
        have := depFold_range (dOf ds) ds.length hD (ts[ds.length]).parts _ (hw _ _ ht).fine.2 hf0.1 hf0.2
        unfold depN; omega
      have := ih (S.put d (.cells 1 (dV (ds ++ [depN (dOf ds) ts[ds.length]] ++ List.replicate m 0)) 0 0)) (ds ++ [depN (dOf ds) ts[ds.length]]) (by simp; omega) (fun k hk => by
          simp only [List.length_append, List.length_singleton] at hk
          rcases Nat.lt_or_ge k ds.length with h | h
          · have := hD k h
            simpa [dOf, List.getD_eq_getElem?_getD, List.getElem?_append_left h] using this
          · obtain rfl : k = ds.length := by omega
            simpa [dOf, List.getD_eq_getElem?_getD] using ⟨hge, hle⟩)
        (by rw [put_get_if, if_pos ⟨rfl, hdl⟩]) (by rw [put_get_if, if_neg (fun h => (by omega : d ≠ y) h.1)]; exact hy)
      simp only [List.length_append, List.length_singleton, top_put, pin_put] at this
      obtain ⟨r, l, S', h1, h2, h3, h4, h5, h6⟩ := this
      rw [deepN, if_pos hle]
      refine ⟨r, l, S', ?_, h2, h3, h4, fun k hk => by rw [h5 k hk, trunc_put_ge _ _ _ _ (by omega)], h6⟩
      rw [dV_set] at hround
      simp only [tsV] at h1 ⊢
      rw [hround]
      exact h1
    · rw [if_neg hle] at hround
      obtain ⟨l, S', h1, h2, h3, h4⟩ := hround
      rw [deepN, if_neg hle]
      exact ⟨.ret, l, S', h1, h2, Or.inl rfl, h3, h4⟩

theorem kbLL_zeros (n : Nat) (v : Int) : kbLL (List.replicate n [.int .i64 v]) = 0 := by
  induction n with
  | zero => rfl
  | succ n ih => simp [List.replicate_succ, ih]

theorem deep_ev (ts : List Typ) (sp : List (List V)) (hw : WfTs ts) (hn : ts.length ≤ 1073741824) : Pure 21 [tsV ts sp] (.agg [.int .i64 (deepN [] ts).1, .int .i64 (deepN [] ts).2]) := by
  intro S
  obtain ⟨r, l, S', h1, h2, h3, h4, h5, h6, h7⟩ := deep_loop ts sp hw hn (S.top + 1) S.top (by omega) ts.length ((S.push (.cells 2 [[.int .i64 0, .int .i64 0]] 0 0)).push (.cells 1 (dV (List.replicate ts.length 0)) 0 0)) [] (by simp) (fun k hk => by simp at hk)
    (by simp) (by simp)
  have h8 := h5 S.top (Nat.le_refl _)
  have h9 : dV (List.replicate ts.length 0) = List.replicate ts.length [.int .i64 0] := by simp [dV]
  rw [h9] at h1
  have hb : (ts.length : Int) * 8 ≤ 140737488355328 := by omega
  have hb' : (ts.length : Int) ≤ 140737488355328 := by omega
  have hyl := get_lt _ _ h4
  have hle : S.top ≤ S'.top := by omega
  simp [tsV] at h1 h4 h6 h8
  rw [ev_eq q21, c21, evFn_eq _ _ _ _ _ _ _ (by simp)]
  rcases h3 with rfl | ⟨rfl, h3⟩
  · simp [tsV, kbLL_zeros, hb, hb', h1, h2, h4, h6, h8, hle]
  · simp only [List.length_nil, List.drop_zero] at h3
    rw [h3] at h4
    have hp := put_self _ _ h4
    simp [tsV, kbLL_zeros, hb, hb', h1, h2, h3, h4, h6, h8, hle, hp]
end Mev

/- The program's functions, one equation each: may it be a schema. -/

set_option maxRecDepth 100000
namespace Mev
open Go Go.Proofs

def rightB (t : Typ) (i : Int) : Bool := rightN t i
theorem rightB_wf {t : Typ} {i : Int} (h : rightB t i = true) : WfT t i := rightN_wf h
theorem rightB_ev (t : Typ) (i : Int) : Pure 20 [.agg t.v, .int .i64 i] (.bool (rightB t i)) := right_ev t i

theorem check_loop0 (ts : List Typ) (sp : List (List V)) (hn : ts.length ≤ 1073741824) (x y : Nat) (hxy : x < y) : ∀ (m i : Nat) (S : St), i + m = ts.length → S.get y = some (.cells 2 [[.int .i64 0, .int .i64 0]] 0 0) →
    ∃ r l S', loopL (some [1, 2, 10, 11, 12]) (S.top, S.pin) (kC (ev Q) loopL b11x0) ⟨80, [(1, .ptr x 0 2 0 0), (2, .ptr y 0 2 0 0), (10, tsV ts sp), (11, .int .i64 ts.length), (12, .int .i64 i)]⟩ S = some (r, ⟨80, l⟩, S') ∧ look 1 l = .ptr x 0 2 0 0 ∧ look 2 l = .ptr y 0 2 0 0 ∧
      (r = .exit 0 ∧ S' = S ∧ (∀ j t, i ≤ j → ts[j]? = some t → rightB t j = true) ∨
       r = .ret ∧ ∃ k : Nat, ts[k]?.any (fun t => !rightB t k) = true ∧ (∀ j t, i ≤ j → j < k → ts[j]? = some t → rightB t j = true) ∧ S'.get y = some (.cells 2 [[.int .i64 92, .int .i64 k]] 0 0) ∧ (∀ k, k ≤ y → S'.trunc k = S.trunc k) ∧ S'.pin = S.pin ∧ S.top ≤ S'.top) := by
  intro m
  induction m with
  | zero =>
    intro i S hi hy
    have h1 : ¬ ((i : Int) < ts.length) := by omega
    refine ⟨.exit 0, [(13, .bool false), (1, .ptr x 0 2 0 0), (2, .ptr y 0 2 0 0), (10, tsV ts sp), (11, .int .i64 ts.length), (12, .int .i64 i)], S, ?_, rfl, rfl, Or.inl ⟨rfl, rfl, fun j t hj ht => ?_⟩⟩
    · rw [loopL_eq]
      simp [kC, b11x0, h1, tsV]
    · have := (List.getElem?_eq_some_iff.1 ht).1; omega
  | succ m ih =>
    intro i S hi hy
    have hil : i < ts.length := by omega
    have ht : ts[i]? = some ts[i] := List.getElem?_eq_getElem hil
    have hr : (ts.map Typ.v ++ sp)[i]? = some (ts[i]).v := by
      rw [List.getElem?_append_left (by simpa using hil), List.getElem?_map, ht]; rfl
    have hyl := get_lt _ _ hy
    have hi' : (i : Int) < ts.length := by omega
    have w3 : IntKind.i64.wrap ((i : Int) + 1) = (i : Int) + 1 := wrap64 (by omega) (by omega)
    have hmx : max x y + 1 ≤ S.top := by omega
    have hrt := fun S => rightB_ev ts[i] i S
    simp only [Typ.v] at hr hrt
    have htr : ∀ B B' k, k ≤ y → ((S.put y B).push B').trunc k = S.trunc k := by
      intro B B' k hk
      rw [trunc_push _ _ _ (by rw [top_put]; omega), trunc_put_ge _ _ _ _ hk]
    cases hb : rightB ts[i] i with
    | false =>
      rw [hb] at hrt
      have hx : ∃ l S', loopL (some [1, 2, 10, 11, 12]) (S.top, S.pin) (kC (ev Q) loopL b11x0) ⟨80, [(1, .ptr x 0 2 0 0), (2, .ptr y 0 2 0 0), (10, tsV ts sp), (11, .int .i64 ts.length), (12, .int .i64 i)]⟩ S = some (.ret, ⟨80, l⟩, S') ∧ look 1 l = .ptr x 0 2 0 0 ∧ look 2 l = .ptr y 0 2 0 0 ∧
          S'.get y = some (.cells 2 [[.int .i64 92, .int .i64 i]] 0 0) ∧ (∀ k, k ≤ y → S'.trunc k = S.trunc k) ∧ S'.pin = S.pin ∧ S.top ≤ S'.top := by
        rw [loopL_eq]
        generalize loopL (some [1, 2, 10, 11, 12]) (S.top, S.pin) (kC (ev Q) loopL b11x0) = F
        simp [kC, b11x0, tsV, hi', hr, hy, below hyl, hrt]
        exact ⟨_, _, ⟨rfl, rfl⟩, by simp, by simp, by simp [below hyl], htr _ _, by simp, by simp⟩
      obtain ⟨l, S', h1, h2, h3, h4⟩ := hx
      exact ⟨_, l, S', h1, h2, h3, Or.inr ⟨rfl, i, by rw [ht]; simp [hb], fun j t h1 h2 => by omega, h4⟩⟩
    | true =>
      rw [hb] at hrt
      obtain ⟨r, l, S', h1, h2, h3, h4⟩ := ih (i + 1) S (by omega) hy
      refine ⟨r, l, S', ?_, h2, h3, ?_⟩
      · rw [← h1, loopL_eq]
        generalize loopL (some [1, 2, 10, 11, 12]) (S.top, S.pin) (kC (ev Q) loopL b11x0) = F
        simp [kC, b11x0, tsV, hi', hr, hy, below hyl, hrt, w3, hmx]
      · rcases h4 with ⟨a, b, c⟩ | ⟨a, k, b, c, d⟩
        · refine Or.inl ⟨a, b, fun j t hj ht' => ?_⟩
          rcases Nat.lt_or_ge i j with h | h
          · exact c j t h ht'
          · obtain rfl : i = j := by omega
            rw [ht] at ht'; cases ht'; exact hb
        · refine Or.inr ⟨a, k, b, fun j t hj hk ht' => ?_, d⟩
          rcases Nat.lt_or_ge i j with h | h
          · exact c j t h hk ht'
          · obtain rfl : i = j := by omega
            rw [ht] at ht'; cases ht'; exact hb
end Mev

/- The program's functions, one equation each: roots. -/

set_option maxRecDepth 100000
namespace Mev
open Go Go.Proofs

def rootV (p : List UInt8 × Int) : List V := [.str p.1, .int .i64 p.2]
def rootOk (n : Nat) (p : List UInt8 × Int) (i : Nat) (L : List (V × V)) : Bool :=
  nameB p.1 && decide (((putE (.str p.1) (.int .i64 i) L).length : Int) = (i : Int) + 1) && decide (0 ≤ p.2) && decide (p.2 < n) && decide ((i : Int) < 256)

theorem root_round (S : St) (x y m i len : Nat) (ts : List Typ) (sp rows : List (List V)) (L : List (V × V)) (p : List UInt8 × Int) (rv : V)
    (hx : S.get x = some (.cells 2 [[tsV ts sp, rv]] 0 0)) (hy : S.get y = some (.cells 2 [[.int .i64 0, .int .i64 0]] 0 0)) (hm : S.get m = some (.map L)) (h1 : x < y) (h2 : y < m) (hk : strK L) (hr : rows[i]? = some (rootV p)) (hi : i < len) (hlen : len ≤ 1073741824) :
    if rootOk ts.length p i L then
      loopL (some [1, 2, 6, 33, 34, 35]) (S.top, S.pin) (kC (ev Q) loopL b11x2) ⟨80, [(1, .ptr x 0 2 0 0), (2, .ptr y 0 2 0 0), (6, .mp m), (33, .rs 2 rows len), (34, .int .i64 len), (35, .int .i64 i)]⟩ S =
      loopL (some [1, 2, 6, 33, 34, 35]) (S.top, S.pin) (kC (ev Q) loopL b11x2) ⟨80, [(1, .ptr x 0 2 0 0), (2, .ptr y 0 2 0 0), (6, .mp m), (33, .rs 2 rows len), (34, .int .i64 len), (35, .int .i64 (i + 1 : Nat))]⟩ (S.put m (.map (putE (.str p.1) (.int .i64 i) L)))
    else ∃ l S', loopL (some [1, 2, 6, 33, 34, 35]) (S.top, S.pin) (kC (ev Q) loopL b11x2) ⟨80, [(1, .ptr x 0 2 0 0), (2, .ptr y 0 2 0 0), (6, .mp m), (33, .rs 2 rows len), (34, .int .i64 len), (35, .int .i64 i)]⟩ S =
      some (.ret, ⟨80, l⟩, S') ∧ look 2 l = .ptr y 0 2 0 0 ∧ S'.get y = some (.cells 2 [[.int .i64 92, .int .i64 (IntKind.i64.wrap ((ts.length : Int) + i))]] 0 0) ∧ (∀ k, k ≤ y → S'.trunc k = S.trunc k) ∧ S'.pin = S.pin ∧ S.top ≤ S'.top := by
  have hml := get_lt _ _ hm
  have hyl := get_lt _ _ hy
  have hxl := get_lt _ _ hx
  have hi' : (i : Int) < len := by omega
  have w3 : IntKind.i64.wrap ((i : Int) + 1) = (i : Int) + 1 := wrap64 (by omega) (by omega)
  have hmx : max x (max y m) + 1 ≤ S.top := by omega
  have htr : ∀ B B' B'' k, k ≤ y → (((S.put m B).put y B').push B'').trunc k = S.trunc k := by
    intro B B' B'' k hk
    rw [trunc_push _ _ _ (by rw [top_put, top_put]; omega), trunc_put_ge _ _ _ _ hk, trunc_put_ge _ _ _ _ (by omega)]
  obtain ⟨lab, ty⟩ := p
  have hf := strK_find lab L hk
  simp only [rootV] at hr
  simp only [tsV] at hx
  have hn := fun S => name_ev lab S
  simp only [rootOk]
  rw [loopL_eq]
  generalize loopL (some [1, 2, 6, 33, 34, 35]) (S.top, S.pin) (kC (ev Q) loopL b11x2) = F
  obtain ⟨nb, hb⟩ : ∃ nb, nameB lab = nb := ⟨_, rfl⟩
  cases nb with
  | false =>
    rw [hb] at hn
    simp [kC, b11x2, hb, hx, hy, hm, hr, hi', below hxl, below hyl, below hml, below h1, below h2, below (Nat.lt_trans h1 h2), hf, hn, keyOkK]
    exact ⟨_, _, ⟨rfl, rfl⟩, by simp, by simp [below hyl], htr _ _ _, by simp, by simp⟩
  | true =>
    rw [hb] at hn
    by_cases c4 : ((putE (.str lab) (.int .i64 i) L).length : Int) = (i : Int) + 1
    · by_cases c2 : ty < 0
      · have c2' : ¬ (0 ≤ ty) := by omega
        simp [kC, b11x2, hb, hx, hy, hm, hr, hi', below hxl, below hyl, below hml, below h1, below h2, below (Nat.lt_trans h1 h2), hf, hn, keyOkK, c4, c2, c2', w3]
        exact ⟨_, _, ⟨rfl, rfl⟩, by simp, by simp [below hyl], htr _ _ _, by simp, by simp⟩
      · have c2' : 0 ≤ ty := by omega
        by_cases c3 : (ts.length : Int) ≤ ty
        · have c3' : ¬ (ty < ts.length) := by omega
          simp [kC, b11x2, hb, hx, hy, hm, hr, hi', below hxl, below hyl, below hml, below h1, below h2, below (Nat.lt_trans h1 h2), hf, hn, keyOkK, c4, c2, c2', c3, c3', w3]
          exact ⟨_, _, ⟨rfl, rfl⟩, by simp, by simp [below hyl], htr _ _ _, by simp, by simp⟩
        · have c3' : ty < ts.length := by omega
          by_cases c5 : (256 : Int) ≤ i
          · have c5' : ¬ ((i : Int) < 256) := by omega
            have c5'' : ¬ (i < 256) := by omega
            simp [kC, b11x2, hb, hx, hy, hm, hr, hi', below hxl, below hyl, below hml, below h1, below h2, below (Nat.lt_trans h1 h2), hf, hn, keyOkK, c4, c2, c2', c3, c3', c5, c5', c5'', w3]
            exact ⟨_, _, ⟨rfl, rfl⟩, by simp, by simp [below hyl], htr _ _ _, by simp, by simp⟩
          · have c5' : (i : Int) < 256 := by omega
            have c5'' : i < 256 := by omega
            simp [kC, b11x2, hb, hx, hy, hm, hr, hi', below hxl, below hyl, below hml, below h1, below h2, below (Nat.lt_trans h1 h2), hf, hn, keyOkK, c4, c2, c2', c3, c3', c5, c5', c5'', w3, hmx]
    · simp [kC, b11x2, hb, hx, hy, hm, hr, hi', below hxl, below hyl, below hml, below h1, below h2, below (Nat.lt_trans h1 h2), hf, hn, keyOkK, c4, w3]
      exact ⟨_, _, ⟨rfl, rfl⟩, by simp, by simp [below hyl], htr _ _ _, by simp, by simp⟩

/-- what all roots say -/
def rootsE (n : Nat) : Nat → List (V × V) → List (List UInt8 × Int) → Int
  | _, _, [] => 0
  | i, L, p :: ps => if rootOk n p i L then rootsE n (i + 1) (putE (.str p.1) (.int .i64 i) L) ps else 92

theorem roots_loop (ts : List Typ) (sp rsp : List (List V)) (rs : List (List UInt8 × Int)) (hlen : rs.length ≤ 1073741824) : ∀ (n i : Nat) (L : List (V × V)), i + n = rs.length → strK L →
    ∃ a : Int, ∀ (S : St) (x y m : Nat), S.get x = some (.cells 2 [[tsV ts sp, .rs 2 (rs.map rootV ++ rsp) rs.length]] 0 0) → S.get y = some (.cells 2 [[.int .i64 0, .int .i64 0]] 0 0) → S.get m = some (.map L) → x < y → y < m →
      ∃ r l S', loopL (some [1, 2, 6, 33, 34, 35]) (S.top, S.pin) (kC (ev Q) loopL b11x2) ⟨80, [(1, .ptr x 0 2 0 0), (2, .ptr y 0 2 0 0), (6, .mp m), (33, .rs 2 (rs.map rootV ++ rsp) rs.length), (34, .int .i64 rs.length), (35, .int .i64 i)]⟩ S = some (r, ⟨80, l⟩, S') ∧ look 2 l = .ptr y 0 2 0 0 ∧
        (r = .ret ∨ r = .exit 2 ∧ rootsE ts.length i L (rs.drop i) = 0 ∧ a = 0) ∧ S'.get y = some (.cells 2 [[.int .i64 (rootsE ts.length i L (rs.drop i)), .int .i64 a]] 0 0) ∧ (∀ k, k ≤ y → S'.trunc k = S.trunc k) ∧ S'.pin = S.pin ∧ S.top ≤ S'.top := by
  intro n
  induction n with
  | zero =>
    intro i L hi hL
    rw [List.drop_of_length_le (by omega)]
    refine ⟨0, ?_⟩
    intro S x y m hx hy hm h1 h2
    have h3 : ¬ ((i : Int) < rs.length) := by omega
    refine ⟨.exit 2, [(36, .bool false), (1, .ptr x 0 2 0 0), (2, .ptr y 0 2 0 0), (6, .mp m), (33, .rs 2 (rs.map rootV ++ rsp) rs.length), (34, .int .i64 rs.length), (35, .int .i64 i)], S, ?_, rfl, Or.inr ⟨rfl, rfl, rfl⟩, hy, fun _ _ => rfl, rfl, Nat.le_refl _⟩
    rw [loopL_eq]
    simp [kC, b11x2, h3]
  | succ n ih =>
    intro i L hi hL
    have hil : i < rs.length := by omega
    have hp : rs[i]? = some rs[i] := List.getElem?_eq_getElem hil
    have hr : (rs.map rootV ++ rsp)[i]? = some (rootV rs[i]) := by
      rw [List.getElem?_append_left (by simpa using hil), List.getElem?_map, hp]; rfl
    rw [List.drop_eq_getElem_cons hil]
    simp only [rootsE]
    obtain ⟨ok, hb⟩ : ∃ ok, rootOk ts.length rs[i] i L = ok := ⟨_, rfl⟩
    rw [hb]
    cases ok with
    | false =>
      simp only [Bool.false_eq_true, if_false]
      refine ⟨IntKind.i64.wrap ((ts.length : Int) + i), ?_⟩
      intro S x y m hx hy hm h1 h2
      have := root_round S x y m i rs.length ts sp (rs.map rootV ++ rsp) L rs[i] _ hx hy hm h1 h2 hL hr hil hlen
      rw [hb] at this
      simp only [Bool.false_eq_true, if_false] at this
      obtain ⟨l, S', h3, h4, h5⟩ := this
      exact ⟨_, l, S', h3, h4, Or.inl rfl, h5⟩
    | true =>
      simp only [if_true]
      obtain ⟨a, h4⟩ := ih (i + 1) (putE (.str rs[i].1) (.int .i64 i) L) (by omega) (strK_put hL _ _)
      refine ⟨a, ?_⟩
      intro S x y m hx hy hm h1 h2
      have hml := get_lt _ _ hm
      have := root_round S x y m i rs.length ts sp (rs.map rootV ++ rsp) L rs[i] _ hx hy hm h1 h2 hL hr hil hlen
      rw [hb] at this
      simp only [if_true] at this
      rw [this]
      obtain ⟨r, l, S', h5, h6, h7, h8, h9, h10⟩ := h4 (S.put m (.map (putE (.str rs[i].1) (.int .i64 i) L))) x y m (by rw [put_get_if, if_neg (fun h => (by omega : m ≠ x) h.1)]; exact hx) (by rw [put_get_if, if_neg (fun h => (by omega : m ≠ y) h.1)]; exact hy) (by rw [put_get_if, if_pos ⟨rfl, hml⟩]) h1 h2
      simp only [top_put, pin_put] at h5 h10
      exact ⟨r, l, S', h5, h6, h7, h8, fun k hk => by rw [h9 k hk, trunc_put_ge _ _ _ _ (by omega)], h10⟩
end Mev

/- The program's functions, one equation each: may it be a schema, whole. -/

set_option maxRecDepth 100000
namespace Mev
open Go Go.Proofs

/-- a list of roots -/
def RootsV (rv : V) (rs : List (List UInt8 × Int)) : Prop := (rv = .nils ∧ rs = []) ∨ ∃ rsp, rv = .rs 2 (rs.map rootV ++ rsp) rs.length
def allRight (ts : List Typ) : Prop := ∀ (j : Nat) (t : Typ), ts[j]? = some t → rightB t j = true
theorem allRight_wf {ts : List Typ} (h : allRight ts) : WfTs ts := fun i t ht => rightB_wf (h i t ht)

theorem nil_roots (rv : V) (h : rv = .nils) (S : St) (x y m : Nat) : ∃ l, loopL (some [1, 2, 6, 33, 34, 35]) (S.top, S.pin) (kC (ev Q) loopL b11x2) ⟨80, [(1, .ptr x 0 2 0 0), (2, .ptr y 0 2 0 0), (6, .mp m), (33, rv), (34, .int .i64 0), (35, .int .i64 0)]⟩ S = some (.exit 2, ⟨80, l⟩, S) ∧ look 2 l = .ptr y 0 2 0 0 := by
  subst h
  rw [loopL_eq]
  simp [kC, b11x2]

theorem check_iff (ts : List Typ) (sp : List (List V)) (hn : ts.length ≤ 1073741824) (rv : V) (rs : List (List UInt8 × Int)) (hrv : RootsV rv rs) (hrs : rs.length ≤ 1073741824) :
    ∃ e a : Int, (e = 0 ↔ allRight ts ∧ (deepN [] ts).1 = 0 ∧ rootsE ts.length 0 [] rs = 0) ∧ Pure 11 [.agg [tsV ts sp, rv]] (.agg [.int .i64 e, .int .i64 a]) := by
  have hl0 := fun S => check_loop0 ts sp hn (St.top S) (St.top S + 1) (by omega) ts.length 0 ((St.push S (.cells 2 [[tsV ts sp, rv]] 0 0)).push (.cells 2 [[.int .i64 0, .int .i64 0]] 0 0)) (by omega) (by simp)
  have hkb : rv.kb = 0 := by rcases hrv with ⟨rfl, _⟩ | ⟨_, rfl⟩ <;> simp
  by_cases hall : allRight ts
  · have hd := deep_ev ts sp (allRight_wf hall) hn
    have hl0' : ∀ S : St, ∃ l, loopL (some [1, 2, 10, 11, 12]) (S.top + 2, S.pin) (kC (ev Q) loopL b11x0) ⟨80, [(1, .ptr S.top 0 2 0 0), (2, .ptr (S.top + 1) 0 2 0 0), (10, tsV ts sp), (11, .int .i64 ts.length), (12, .int .i64 0)]⟩ ((S.push (.cells 2 [[tsV ts sp, rv]] 0 0)).push (.cells 2 [[.int .i64 0, .int .i64 0]] 0 0)) =
        some (.exit 0, ⟨80, l⟩, ((S.push (.cells 2 [[tsV ts sp, rv]] 0 0)).push (.cells 2 [[.int .i64 0, .int .i64 0]] 0 0))) ∧ look 1 l = .ptr S.top 0 2 0 0 ∧ look 2 l = .ptr (S.top + 1) 0 2 0 0 := by
      intro S
      obtain ⟨r, l, S', h1, h2, h3, h4⟩ := hl0 S
      rcases h4 with ⟨rfl, rfl, _⟩ | ⟨rfl, k, h4, _⟩
      · refine ⟨l, ?_, h2, h3⟩
        simpa using h1
      · exfalso
        cases hk : ts[k]? with
        | none => rw [hk] at h4; simp at h4
        | some t => rw [hk] at h4; simp [hall k t hk] at h4
    by_cases hde : (deepN [] ts).1 = 0
    · rcases hrv with ⟨hnil, rfl⟩ | ⟨rsp, hrv⟩
      · refine ⟨0, 0, ⟨fun _ => ⟨hall, hde, rfl⟩, fun _ => rfl⟩, fun S => ?_⟩
        obtain ⟨l, h1, h2, h3⟩ := hl0' S
        obtain ⟨l', h4, h5⟩ := nil_roots rv hnil ((((S.push (.cells 2 [[tsV ts sp, rv]] 0 0)).push (.cells 2 [[.int .i64 0, .int .i64 0]] 0 0)).push (.cells 2 [[.int .i64 (deepN [] ts).1, .int .i64 (deepN [] ts).2]] 0 0)).push (.map [])) S.top (S.top + 1) (S.top + 3)
        subst hnil
        simp only [tsV] at h1 h4 hd
        rw [hde] at hd h4
        simp at h1 h4
        rw [ev_eq q11, c11, evFn_eq _ _ _ _ _ _ _ (by simp)]
        simp [tsV, h1, h2, h3, h4, h5, hd _, hde]
      · obtain ⟨a, h8⟩ := roots_loop ts sp rsp rs hrs rs.length 0 [] (by omega) (by intro e he; cases he)
        rw [List.drop_zero] at h8
        refine ⟨rootsE ts.length 0 [] rs, a, ⟨fun h => ⟨hall, hde, h⟩, fun h => h.2.2⟩, fun S => ?_⟩
        generalize rootsE ts.length 0 [] rs = e at *
        obtain ⟨l, h1, h2, h3⟩ := hl0' S
        obtain ⟨r, l', S', h4, h5, h6, h9, h10, h11, h12⟩ := h8 ((((S.push (.cells 2 [[tsV ts sp, rv]] 0 0)).push (.cells 2 [[.int .i64 0, .int .i64 0]] 0 0)).push (.cells 2 [[.int .i64 (deepN [] ts).1, .int .i64 (deepN [] ts).2]] 0 0)).push (.map [])) S.top (S.top + 1) (S.top + 3)
          (by simp [hrv]) (by simp) (by simp) (by omega) (by omega)
        have h13 := h10 S.top (by omega)
        have hst : S.top ≤ S'.top := by simp at h12; omega
        subst hrv
        simp only [tsV] at h1 h4 hd
        rw [hde] at hd h4
        simp at h1 h4 h9 h11 h13
        rw [ev_eq q11, c11, evFn_eq _ _ _ _ _ _ _ (by simp)]
        rcases h6 with rfl | ⟨rfl, rfl, rfl⟩
        · simp [tsV, h1, h2, h3, h4, h5, hd _, hde, h9, h11, h13, hst]
        · have hp := put_self _ _ h9
          simp [tsV, h1, h2, h3, h4, h5, hd _, hde, h9, h11, h13, hst, hp]
    · refine ⟨(deepN [] ts).1, (deepN [] ts).2, ⟨fun h => absurd h hde, fun h => absurd h.2.1 hde⟩, fun S => ?_⟩
      obtain ⟨l, h1, h2, h3⟩ := hl0' S
      simp only [tsV] at h1 hd
      rw [ev_eq q11, c11, evFn_eq _ _ _ _ _ _ _ (by simp)]
      simp [tsV, h1, h2, h3, hd _, hde, hkb]
  · have hk : ∃ k : Nat, ts[k]?.any (fun t => !rightB t k) = true ∧ ∀ (j : Nat) (t : Typ), j < k → ts[j]? = some t → rightB t j = true := by
      obtain ⟨r, l, S', h1, h2, h3, h4⟩ := hl0 ⟨[], 0⟩
      rcases h4 with ⟨_, _, h4⟩ | ⟨rfl, k, h4, h5, _⟩
      · exact absurd (fun j t => h4 j t (by omega)) hall
      · exact ⟨k, h4, fun j t => h5 j t (by omega)⟩
    obtain ⟨k, hk1, hk2⟩ := hk
    refine ⟨92, k, ⟨fun h => (by cases h), fun h => absurd h.1 hall⟩, fun S => ?_⟩
    obtain ⟨r, l, S', h1, h2, h3, h4⟩ := hl0 S
    rcases h4 with ⟨_, _, h4⟩ | ⟨rfl, k', h4, h5, h6, h7, h8, h9⟩
    · exact absurd (fun j t => h4 j t (by omega)) hall
    have hkk : k' = k := by
      rcases Nat.lt_trichotomy k' k with h | h | h
      · exfalso
        cases hk' : ts[k']? with
        | none => rw [hk'] at h4; simp at h4
        | some t => rw [hk'] at h4; simp [hk2 k' t h hk'] at h4
      · exact h
      · exfalso
        cases hk' : ts[k]? with
        | none => rw [hk'] at hk1; simp at hk1
        | some t => rw [hk'] at hk1; simp [h5 k t (by omega) h hk'] at hk1
    subst hkk
    have h13 := h7 S.top (by omega)
    have hst : S.top ≤ S'.top := by simp at h9; omega
    simp only [tsV] at h1
    simp [tsV] at h1 h6 h8 h13
    rw [ev_eq q11, c11, evFn_eq _ _ _ _ _ _ _ (by simp)]
    simp [tsV, h1, h2, h3, h6, h8, h13, hst, hkb]

theorem check_ex (ts : List Typ) (sp : List (List V)) (hn : ts.length ≤ 1073741824) (rv : V) (rs : List (List UInt8 × Int)) (hrv : RootsV rv rs) (hrs : rs.length ≤ 1073741824) :
    ∃ e a : Int, (e = 0 → allRight ts ∧ (deepN [] ts).1 = 0) ∧ (allRight ts → (deepN [] ts).1 = 0 → rs = [] → e = 0) ∧ Pure 11 [.agg [tsV ts sp, rv]] (.agg [.int .i64 e, .int .i64 a]) := by
  obtain ⟨e, a, h, hC⟩ := check_iff ts sp hn rv rs hrv hrs
  exact ⟨e, a, fun h0 => ⟨(h.1 h0).1, (h.1 h0).2.1⟩, fun h1 h2 h3 => h.2 ⟨h1, h2, by rw [h3]; rfl⟩, hC⟩
end Mev
