/- The document's answer, one equation each: the encoder: sizes, one type more. -/
import Derived.Test.YtfndbddlicbjpaaMevWi
import Derived.Test.YtfndbddlicbjpaaMevWg
import Derived.Test.YtfndbddlicbjpaaMevWf
import Derived.Test.YtfndbddlicbjpaaMevWc
import Derived.Test.YtfndbddlicbjpaaMevGA

set_option maxRecDepth 100000
namespace Mev
open Go Go.Proofs

theorem rbig_loop (es : List Ext') (hlen : es.length ≤ 1073741824) (x y : Nat) (S : St) (hx : x < S.top) (hy : S.get y = some (.cells 3 [[.bool false, .nils, .nils]] 0 0)) : ∀ (m i : Nat), i + m = es.length →
    ((∀ j e, i ≤ j → es[j]? = some e → e.most ≤ 16777216) → ∃ l, loopL (some [1, 2, 5, 7]) (S.top, S.pin) (kC (ev Q) loopL b8x0) ⟨95, [(1, .ptr x 0 2 0 0), (2, .ptr y 0 3 0 0), (5, .rs 4 (es.map Ext'.v) es.length), (7, .int .i64 i)]⟩ S =
      some (.exit 0, ⟨95, l⟩, S) ∧ look 1 l = .ptr x 0 2 0 0 ∧ look 2 l = .ptr y 0 3 0 0 ∧ look 5 l = .rs 4 (es.map Ext'.v) es.length) ∧
    (¬ (∀ j e, i ≤ j → es[j]? = some e → e.most ≤ 16777216) → ∃ l, loopL (some [1, 2, 5, 7]) (S.top, S.pin) (kC (ev Q) loopL b8x0) ⟨95, [(1, .ptr x 0 2 0 0), (2, .ptr y 0 3 0 0), (5, .rs 4 (es.map Ext'.v) es.length), (7, .int .i64 i)]⟩ S =
      some (.ret, ⟨95, l⟩, S) ∧ look 2 l = .ptr y 0 3 0 0 ∧ look 3 l = .int .i64 91) := by
  have hyl := get_lt _ _ hy
  have hps := put_self _ _ hy
  have hke := kbLL_ext es
  intro m
  induction m with
  | zero =>
    intro i hi
    have h1 : ¬ ((i : Int) < es.length) := by omega
    refine ⟨fun _ => ⟨[(26, .bool false), (25, .int .i64 es.length), (24, .rs 4 (es.map Ext'.v) es.length), (23, .int .i64 i), (1, .ptr x 0 2 0 0), (2, .ptr y 0 3 0 0), (5, .rs 4 (es.map Ext'.v) es.length), (7, .int .i64 i)], ?_, by simp, by simp, by simp⟩,
      fun h => absurd (fun j e h1 h2 => by have := (List.getElem?_eq_some_iff.1 h2).1; omega) h⟩
    rw [loopL_eq]
    simp [kC, b8x0, h1]
  | succ m ih =>
    intro i hi
    have hil : i < es.length := by omega
    have he : es[i]? = some es[i] := List.getElem?_eq_getElem hil
    have hrow : (es.map Ext'.v)[i]? = some (es[i]).v := by rw [List.getElem?_map, he]; rfl
    have hi' : (i : Int) < es.length := by omega
    have w3 : IntKind.i64.wrap ((i : Int) + 1) = (i : Int) + 1 := wrap64 (by omega) (by omega)
    have hmx : max x y + 1 ≤ S.top := by omega
    obtain ⟨ih1, ih2⟩ := ih (i + 1) (by omega)
    generalize hz : es[i] = z at *
    obtain ⟨z1, z2, z3, z4⟩ := z
    simp only [Ext'.v] at hrow
    generalize es.map Ext'.v = E at *
    by_cases hle : z3 ≤ 16777216
    · have hle' : ¬ ((16777216 : Int) < z3) := by omega
      have hstep : loopL (some [1, 2, 5, 7]) (S.top, S.pin) (kC (ev Q) loopL b8x0) ⟨95, [(1, .ptr x 0 2 0 0), (2, .ptr y 0 3 0 0), (5, .rs 4 E es.length), (7, .int .i64 i)]⟩ S =
          loopL (some [1, 2, 5, 7]) (S.top, S.pin) (kC (ev Q) loopL b8x0) ⟨95, [(1, .ptr x 0 2 0 0), (2, .ptr y 0 3 0 0), (5, .rs 4 E es.length), (7, .int .i64 (i + 1 : Nat))]⟩ S := by
        rw [loopL_eq]
        generalize loopL (some [1, 2, 5, 7]) (S.top, S.pin) (kC (ev Q) loopL b8x0) = F
        simp [kC, b8x0, hi', hil, hrow, hle', w3, hmx, hke]
      have hall : (∀ j e, i + 1 ≤ j → es[j]? = some e → e.most ≤ 16777216) ↔ (∀ j e, i ≤ j → es[j]? = some e → e.most ≤ 16777216) := by
        constructor
        · intro h j e hj hje
          rcases Nat.lt_or_ge i j with h5 | h5
          · exact h j e h5 hje
          · obtain rfl : i = j := by omega
            rw [he] at hje; cases hje; exact hle
        · intro h j e hj hje; exact h j e (by omega) hje
      rw [hstep, ← hall]
      exact ⟨ih1, ih2⟩
    · have hle' : (16777216 : Int) < z3 := by omega
      refine ⟨fun h => absurd (h i _ (Nat.le_refl _) he) hle, fun _ => ?_⟩
      rw [loopL_eq]
      generalize loopL (some [1, 2, 5, 7]) (S.top, S.pin) (kC (ev Q) loopL b8x0) = F
      simp [kC, b8x0, hi', hil, hrow, hle', w3, hmx, hke, hy, hps]

/-- the maker, its code and its entries -/
def RE (S : St) (c e r : Nat) (K : Kn) (en : List Int) (eg : Nat) (code : List Ins) (g : Nat) : St := RM (S.put e (.cells 1 (iV en) eg 0)) c r K (.sl e eg 1 0 en.length) code g

theorem rent_round (S : St) (c e r x y : Nat) (K : Kn) (hK : WfK K) (code : List Ins) (g t eg : Nat) (en : List Int) (hxy : x < y) (hyc : y < c) (hce : c < e) (her : e < r) (hr : r < S.top) (hx : S.get x = some (.cells 2 [[tsV K.ts K.sp, K.rv]] 0 0))
    (hb : code.length ≤ 1073730000) (hen : en.length ≤ 1073730000) (ht : t < K.ts.length) (hn : K.ts.length ≤ 1048576) :
    ∃ g', loopL (some [1, 2, 10, 11]) (S.top, S.pin) (kC (ev Q) loopL b8x2) ⟨95, [(1, .ptr x 0 2 0 0), (2, .ptr y 0 3 0 0), (10, .ptr r 0 7 0 0), (11, .int .i64 t)]⟩ (RE S c e r K en eg code g) =
      loopL (some [1, 2, 10, 11]) (S.top, S.pin) (kC (ev Q) loopL b8x2) ⟨95, [(1, .ptr x 0 2 0 0), (2, .ptr y 0 3 0 0), (10, .ptr r 0 7 0 0), (11, .int .i64 (t + 1 : Nat))]⟩ (RE S c e r K (en ++ [(code.length : Int)]) (eg + 1) (rroutI K t code) g') := by
  have ht' : (t : Int) < K.ts.length := by omega
  have w3 : IntKind.i64.wrap ((t : Int) + 1) = (t : Int) + 1 := wrap64 (by omega) (by omega)
  have hmx : max x (max y r) + 1 ≤ S.top := by omega
  obtain ⟨g', h1⟩ := rrout ((S.put e (.cells 1 (iV (en ++ [(code.length : Int)])) (eg + 1) 0)).push (.cells 1 [[.int .i64 code.length]] 0 0)) c r K hK (.sl e (eg + 1) 1 0 (en.length + 1)) code g t (by omega) (by simp; omega) hb ht
  rw [← RM_push _ _ _ _ _ _ _ _ (by simp; omega) (by simpa using hr), ← RM_push _ _ _ _ _ _ _ _ (by simp; omega) (by simpa using hr)] at h1
  have hXA : RM (S.put e (.cells 1 (iV (en ++ [(code.length : Int)])) (eg + 1) 0)) c r K (.sl e (eg + 1) 1 0 (en.length + 1)) code g =
      ((RE S c e r K en eg code g).put e (.cells 1 (iV en ++ [[.int .i64 code.length]]) (eg + 1) 0)).put r (.cells 7 [mkRow K c g code.length (.sl e (eg + 1) 1 0 (en.length + 1))] 0 0) := by
    unfold RE RM
    rw [put_comm (h := (by omega : r ≠ e)), put_comm (h := (by omega : c ≠ e)), put_put, put_put]
    have : iV (en ++ [(code.length : Int)]) = iV en ++ [[.int .i64 code.length]] := by simp [iV]
    rw [this]
  have hXB : RM (S.put e (.cells 1 (iV (en ++ [(code.length : Int)])) (eg + 1) 0)) c r K (.sl e (eg + 1) 1 0 (en.length + 1)) (rroutI K t code) g' = RE S c e r K (en ++ [(code.length : Int)]) (eg + 1) (rroutI K t code) g' := by
    unfold RE
    simp
  have hgr : (RE S c e r K en eg code g).get r = some (.cells 7 [mkRow K c g code.length (.sl e eg 1 0 en.length)] 0 0) := RM_get_r _ _ _ _ _ _ _ (by omega) (by simpa using hr)
  have hge : (RE S c e r K en eg code g).get e = some (.cells 1 (iV en) eg 0) := by
    unfold RE; rw [RM_get _ _ _ _ _ _ _ _ (by omega) (by omega), put_get]; omega
  have hgx : (RE S c e r K en eg code g).get x = some (.cells 2 [[tsV K.ts K.sp, K.rv]] 0 0) := by
    unfold RE; rw [RM_get _ _ _ _ _ _ _ _ (by omega) (by omega), put_get_ne _ _ _ _ (by omega), hx]
  have htop : (RE S c e r K en eg code g).top = S.top := by unfold RE; rw [RM_top]; simp
  have hpin : (RE S c e r K en eg code g).pin = S.pin := by unfold RE; rw [RM_pin]; simp
  have htop2 : (RE S c e r K (en ++ [(code.length : Int)]) (eg + 1) (rroutI K t code) g').top = S.top := by unfold RE; rw [RM_top]; simp
  have hpin2 : (RE S c e r K (en ++ [(code.length : Int)]) (eg + 1) (rroutI K t code) g').pin = S.pin := by unfold RE; rw [RM_pin]; simp
  refine ⟨g', ?_⟩
  rw [hXA, hXB] at h1
  have hiv : (iV en).length = en.length := by simp [iV]
  have hby : (en.length + 1) * 8 ≤ 140737488355328 := by omega
  have heA : e < S.top := by omega
  have htr : ∀ X : St, X.top = S.top → X.trunc S.top = X := fun X hX => by rw [← hX, trunc_top]
  have htr2 := htr _ htop2
  have htr1 := htr _ htop
  generalize RE S c e r K (en ++ [(code.length : Int)]) (eg + 1) (rroutI K t code) g' = B at *
  generalize RE S c e r K en eg code g = A at *
  clear hXA hXB
  simp only [mkRow, tsV] at hgr hgx h1
  generalize K.ts.map Typ.v ++ K.sp = rowsT at *
  generalize V.rs 4 (K.es.map Ext'.v) K.es.length = v2 at *
  generalize V.rs 2 (K.ls.map Lay'.v) K.ls.length = v3 at *
  generalize iV en = EnV at *
  generalize code.length = cl at *
  generalize en.length = el at *
  have q1 : S.top ≤ A.top := by omega
  rw [loopL_eq]
  generalize loopL (some [1, 2, 10, 11]) (S.top, S.pin) (kC (ev Q) loopL b8x2) = F
  simp [kC, b8x2, hgx, hgr, hge, ht', below heA, below hr, below her, hiv, hby, w3, hmx, h1, htop, hpin, htop2, hpin2, htr1, htr2]
end Mev

/- The document's answer, one equation each: the encoder, whole. -/

set_option maxRecDepth 100000
namespace Mev
open Go Go.Proofs

theorem prog_bd (K : Kn) (hK : WfK K) : ∀ n, n ≤ K.ts.length → (prog K n).1.length ≤ 301 * n := by
  intro n
  induction n with
  | zero => intro _; simp [prog]
  | succ n ih =>
    intro h
    have h1 := ih (by omega)
    have h2 := bodyR_len K hK n (by omega) (prog K n).1
    simp only [prog, routineR, List.length_append, List.length_singleton]
    omega

theorem rent_loop (c e r x y : Nat) (K : Kn) (hK : WfK K) (hq : ∀ t code, t < K.ts.length → rroutI K t code = routineR K t code) (hxy : x < y) (hyc : y < c) (hce : c < e) (her : e < r) (hn : K.ts.length ≤ 1048576) (S : St) (hr : r < S.top) (hx : S.get x = some (.cells 2 [[tsV K.ts K.sp, K.rv]] 0 0)) : ∀ (m t eg g : Nat), t + m = K.ts.length →
    ∃ eg' g' l, loopL (some [1, 2, 10, 11]) (S.top, S.pin) (kC (ev Q) loopL b8x2) ⟨95, [(1, .ptr x 0 2 0 0), (2, .ptr y 0 3 0 0), (10, .ptr r 0 7 0 0), (11, .int .i64 t)]⟩ (RE S c e r K (prog K t).2 eg (prog K t).1 g) =
      some (.exit 2, ⟨95, l⟩, RE S c e r K (prog K K.ts.length).2 eg' (prog K K.ts.length).1 g') ∧ look 2 l = .ptr y 0 3 0 0 ∧ look 10 l = .ptr r 0 7 0 0 := by
  intro m
  induction m with
  | zero =>
    intro t eg g ht
    have h1 : ¬ ((t : Int) < K.ts.length) := by omega
    obtain rfl : t = K.ts.length := by omega
    have hgx : (RE S c e r K (prog K K.ts.length).2 eg (prog K K.ts.length).1 g).get x = some (.cells 2 [[tsV K.ts K.sp, K.rv]] 0 0) := by
      unfold RE; rw [RM_get _ _ _ _ _ _ _ _ (by omega) (by omega), put_get_ne _ _ _ _ (by omega), hx]
    refine ⟨eg, g, [(51, .bool false), (50, .int .i64 K.ts.length), (49, tsV K.ts K.sp), (48, .ptr x 0 2 0 0), (47, .int .i64 K.ts.length), (1, .ptr x 0 2 0 0), (2, .ptr y 0 3 0 0), (10, .ptr r 0 7 0 0), (11, .int .i64 K.ts.length)], ?_, by simp, by simp⟩
    generalize RE S c e r K (prog K K.ts.length).2 eg (prog K K.ts.length).1 g = A at *
    rw [loopL_eq]
    simp only [tsV] at hgx
    simp [kC, b8x2, hgx, tsV]
  | succ m ih =>
    intro t eg g ht
    have hbd := prog_bd K hK t (by omega)
    have hln := prog_len K t
    obtain ⟨g1, h1⟩ := rent_round S c e r x y K hK (prog K t).1 g t eg (prog K t).2 hxy hyc hce her hr hx (by omega) (by omega) (by omega) hn
    rw [hq t _ (by omega)] at h1
    obtain ⟨eg', g', l, h2, h3⟩ := ih (t + 1) (eg + 1) g1 (by omega)
    exact ⟨eg', g', l, by rw [h1]; exact h2, h3⟩

section
variable (ts : List Typ) (sp : List (List V)) (hn : ts.length ≤ 1048576) (rv : V) (rs : List (List UInt8 × Int)) (hrv : RootsV rv rs)
include hn hrv

theorem renc_bad (e a : Int) (he : e ≠ 0) (hC : Pure 16 [.agg [tsV ts sp, rv]] (.agg [.int .i64 e, .int .i64 a])) : Pure 8 [.agg [tsV ts sp, rv]] (.tup [noProg, .int .i64 92]) := by
  intro S
  have _hn := hn
  have hkb := rv_kb rv rs hrv
  simp only [tsV] at hC
  rw [ev_eq q8, c8, evFn_eq _ _ _ _ _ _ _ (by simp)]
  simp [tsV, hC _, he, hkb, noProg]

theorem renc_big (hw : WfTs ts) (a : Int) (hC : Pure 16 [.agg [tsV ts sp, rv]] (.agg [.int .i64 0, .int .i64 a])) (hm : ¬ mostOk ts) : Pure 8 [.agg [tsV ts sp, rv]] (.tup [noProg, .int .i64 91]) := by
  intro S
  have hkb := rv_kb rv rs hrv
  have hS := rsizeOf_ev ts sp hn rv hkb hw a hC
  obtain ⟨l, h1, h2, h3⟩ := (rbig_loop (extsN ts) (by rw [extsN_len]; omega) S.top (S.top + 1) (((S.push (.cells 2 [[tsV ts sp, rv]] 0 0)).push (.cells 3 [[.bool false, .nils, .nils]] 0 0)).push (.cells 2 [[.int .i64 0, .int .i64 a]] 0 0)) (by simp) (by simp) (extsN ts).length 0 (by omega)).2 (fun h => hm fun j e => h j e (by omega))
  have hke := kbLL_ext (extsN ts)
  simp only [tsV, extsV] at hC hS h1
  generalize (extsN ts).length = EL at *
  generalize (extsN ts).map Ext'.v = EV at *
  simp at h1
  rw [ev_eq q8, c8, evFn_eq _ _ _ _ _ _ _ (by simp)]
  simp [tsV, hC _, hS _, hkb, hke, h1, h2, h3, noProg]

theorem renc_run (hw : WfTs ts) (a : Int) (hC : Pure 16 [.agg [tsV ts sp, rv]] (.agg [.int .i64 0, .int .i64 a])) (hm : mostOk ts) :
    Pure 8 [.agg [tsV ts sp, rv]] (if (prog (knOf ts sp rv) ts.length).1.length ≤ 1048576 then .tup [progV (prog (knOf ts sp rv) ts.length), .int .i64 0] else .tup [noProg, .int .i64 4]) := by
  intro S
  have hkb := rv_kb rv rs hrv
  have hS := rsizeOf_ev ts sp hn rv hkb hw a hC
  have hL := rlayoutOf_ev ts sp hn rv hkb hw a hC
  obtain ⟨l, h1, h2, h3, h4⟩ := (rbig_loop (extsN ts) (by rw [extsN_len]; omega) S.top (S.top + 1) (((S.push (.cells 2 [[tsV ts sp, rv]] 0 0)).push (.cells 3 [[.bool false, .nils, .nils]] 0 0)).push (.cells 2 [[.int .i64 0, .int .i64 a]] 0 0)) (by simp) (by simp) (extsN ts).length 0 (by omega)).1 (fun j e _ h => hm j e h)
  have hK := knOf_wf hw sp rv
  have hE := (exts_eq ts hw hn).2
  have hq : ∀ t code, t < (knOf ts sp rv).ts.length → rroutI (knOf ts sp rv) t code = routineR (knOf ts sp rv) t code := by
    intro t code ht
    have ht2 : t < ts.length := ht
    refine rrout_eq _ t (hw t _ (getD_some ht2 noT)) (fun j hj hf => ?_) code
    have hjl : j < (extsN ts).length := by rw [extsN_len]; omega
    exact (hE j _ (getD_some hjl default)).fx hf
  have hloop := rent_loop (S.top + 3) (S.top + 4) (S.top + 5) S.top (S.top + 1) (knOf ts sp rv) hK hq (by omega) (by omega) (by omega) (by omega) hn
    ((((((S.push (.cells 2 [[tsV ts sp, rv]] 0 0)).push (.cells 3 [[.bool false, .nils, .nils]] 0 0)).push (.cells 2 [[.int .i64 0, .int .i64 a]] 0 0)).push (.cells 4 [] 0 0)).push (.cells 1 [] 0 0)).push (.cells 7 [mkRow (knOf ts sp rv) (S.top + 3) 0 0 (.sl (S.top + 4) 0 1 0 0)] 0 0))
    (by simp) (by simp [knOf]) ts.length 0 0 0 (by simp [knOf])
  have hst : RE ((((((S.push (.cells 2 [[tsV ts sp, rv]] 0 0)).push (.cells 3 [[.bool false, .nils, .nils]] 0 0)).push (.cells 2 [[.int .i64 0, .int .i64 a]] 0 0)).push (.cells 4 [] 0 0)).push (.cells 1 [] 0 0)).push (.cells 7 [mkRow (knOf ts sp rv) (S.top + 3) 0 0 (.sl (S.top + 4) 0 1 0 0)] 0 0)) (S.top + 3) (S.top + 4) (S.top + 5) (knOf ts sp rv) (prog (knOf ts sp rv) 0).2 0 (prog (knOf ts sp rv) 0).1 0 =
      ((((((S.push (.cells 2 [[tsV ts sp, rv]] 0 0)).push (.cells 3 [[.bool false, .nils, .nils]] 0 0)).push (.cells 2 [[.int .i64 0, .int .i64 a]] 0 0)).push (.cells 4 [] 0 0)).push (.cells 1 [] 0 0)).push (.cells 7 [mkRow (knOf ts sp rv) (S.top + 3) 0 0 (.sl (S.top + 4) 0 1 0 0)] 0 0)) := by
    simp [RE, RM, prog, iV, mkRow]
  rw [hst] at hloop
  obtain ⟨eg', g', l2, h5, h6, h7⟩ := hloop
  have hke := kbLL_ext (extsN ts)
  have hkl := kbLL_lay (laysN ts)
  have hpl := prog_len (knOf ts sp rv) ts.length
  have hAx : ∃ A, A = RE ((((((S.push (.cells 2 [[tsV ts sp, rv]] 0 0)).push (.cells 3 [[.bool false, .nils, .nils]] 0 0)).push (.cells 2 [[.int .i64 0, .int .i64 a]] 0 0)).push (.cells 4 [] 0 0)).push (.cells 1 [] 0 0)).push (.cells 7 [mkRow (knOf ts sp rv) (S.top + 3) 0 0 (.sl (S.top + 4) 0 1 0 0)] 0 0)) (S.top + 3) (S.top + 4) (S.top + 5) (knOf ts sp rv) (prog (knOf ts sp rv) ts.length).2 eg' (prog (knOf ts sp rv) ts.length).1 g' ∧
      A.get (S.top + 5) = some (.cells 7 [mkRow (knOf ts sp rv) (S.top + 3) g' (prog (knOf ts sp rv) ts.length).1.length (.sl (S.top + 4) eg' 1 0 (prog (knOf ts sp rv) ts.length).2.length)] 0 0) ∧
      A.get (S.top + 3) = some (.cells 4 ((prog (knOf ts sp rv) ts.length).1.map Ins.v) g' 0) ∧ A.get (S.top + 4) = some (.cells 1 (iV (prog (knOf ts sp rv) ts.length).2) eg' 0) ∧
      A.get (S.top + 1) = some (.cells 3 [[.bool false, .nils, .nils]] 0 0) ∧ A.top = S.top + 6 ∧ A.pin = S.pin ∧ A.trunc S.top = S := by
    refine ⟨_, rfl, RM_get_r _ _ _ _ _ _ _ (by omega) (by simp), RM_get_c _ _ _ _ _ _ _ (by omega) (by simp), ?_, ?_, ?_, ?_, ?_⟩
    · unfold RE; rw [RM_get _ _ _ _ _ _ _ _ (by omega) (by omega)]; simp
    · unfold RE; rw [RM_get _ _ _ _ _ _ _ _ (by omega) (by omega)]; simp
    · unfold RE; rw [RM_top]; simp
    · unfold RE; rw [RM_pin]; simp
    · unfold RE RM; simp
  obtain ⟨A, hA, hAr, hAc, hAe, hAy, hAt, hAp, hAS⟩ := hAx
  have hkn : (knOf ts sp rv).ts.length = ts.length := rfl
  rw [hkn, ← hA] at h5
  clear hA hst hq hE hK
  have hk1 := kbLL_ins (prog (knOf ts sp rv) ts.length).1
  have hk2 := kbLL_iV (prog (knOf ts sp rv) ts.length).2
  have hln1 : ((prog (knOf ts sp rv) ts.length).1.map Ins.v).length = (prog (knOf ts sp rv) ts.length).1.length := by simp
  have hln2 : (iV (prog (knOf ts sp rv) ts.length).2).length = ts.length := by simp [iV, hpl]
  have hnn : ¬ ((1048576 : Int) < ts.length) := by omega
  have hmk : mkRow (knOf ts sp rv) (S.top + 3) 0 0 (.sl (S.top + 4) 0 1 0 0) = [tsV ts sp, rv, extsV ts, laysV ts, .bool true, .sl (S.top + 3) 0 4 0 0, .sl (S.top + 4) 0 1 0 0] := by simp [mkRow, knOf, extsV, laysV, extsN_len]
  have hmk2 : ∀ g n en, mkRow (knOf ts sp rv) (S.top + 3) g n en = [tsV ts sp, rv, extsV ts, laysV ts, .bool true, .sl (S.top + 3) g 4 0 n, en] := by intro g n en; simp [mkRow, knOf, extsV, laysV, extsN_len]
  rw [hmk2] at hAr
  rw [hmk] at h5
  simp only [progV]
  rw [hpl] at hAr ⊢
  generalize (prog (knOf ts sp rv) ts.length).1.map Ins.v = CV at *
  generalize (prog (knOf ts sp rv) ts.length).1.length = CL at *
  generalize iV (prog (knOf ts sp rv) ts.length).2 = EnV at *
  have hqA : S.top ≤ A.top := by omega
  simp only [tsV, extsV, laysV] at hC hS hL h1 h5 hAr h4
  generalize (laysN ts).map Lay'.v = LV at *
  generalize (laysN ts).length = LL at *
  generalize (extsN ts).map Ext'.v = EV at *
  generalize (extsN ts).length = EL at *
  simp at h1 h5
  have q1 : S.top + 1 < A.top := by omega
  have q3 : S.top + 3 < A.top := by omega
  have q4 : S.top + 4 < A.top := by omega
  have q5 : S.top + 5 < A.top := by omega
  rw [ev_eq Mev.q8, c8, evFn_eq _ _ _ _ _ _ _ (by simp)]
  by_cases hle : CL ≤ 1048576
  · have hle' : ¬ ((1048576 : Int) < CL) := by omega
    rw [if_pos hle]
    simp [tsV, hC _, hS _, hL _, hkb, hke, hkl, h1, h2, h3, h4, h5, h6, h7, hAr, hAc, hAe, hAy, hAt, hAp, hAS, hle', hnn, hk1, hk2, hln1, hln2, set_mk, q1, q3, q4, q5]
    rw [put_ge (h := (by omega : S.top ≤ S.top + 3)), put_ge (h := (by omega : S.top ≤ S.top + 4)), put_ge (h := (by omega : S.top ≤ S.top + 1))]
  · have hle' : (1048576 : Int) < CL := by omega
    rw [if_neg hle]
    simp [tsV, hC _, hS _, hL _, hkb, hke, hkl, h1, h2, h3, h4, h5, h6, h7, hAr, hAc, hAe, hAy, hAt, hAp, hAS, hle', hnn, hk1, hk2, hln1, hln2, set_mk, noProg]
    rw [put_ge (h := (by omega : S.top ≤ S.top + 1))]
end
end Mev

/- Both encoders' answers, exactly. -/

set_option maxRecDepth 100000
namespace Mev
open Go Go.Proofs

noncomputable def progOf (ts : List Typ) : List Ins × List Int := prog (knOf ts [] .nils) ts.length
def FineS (ts : List Typ) (rs : List (List UInt8 × Int)) : Prop := allRight ts ∧ (deepN [] ts).1 = 0 ∧ rootsE ts.length 0 [] rs = 0
open Classical in
/-- what an encoder answers: its error -/
noncomputable def errP (ts : List Typ) (rs : List (List UInt8 × Int)) : Int :=
  if FineS ts rs then (if mostOk ts then (if FitsTo (knOf ts [] .nils) 0 ts.length then 0 else 4) else 91) else 92

theorem fits_iff (K : Kn) (n : Nat) : FitsTo K 0 n ↔ (prog K n).1.length ≤ 1048576 := by
  constructor
  · intro h
    cases n with
    | zero => simp [prog]
    | succ n => exact h (n + 1) (by omega) (Nat.le_refl _)
  · intro h j _ hj
    have : ∀ k, (prog K j).1.length ≤ (prog K (j + k)).1.length := by
      intro k
      induction k with
      | zero => exact Nat.le_refl _
      | succ k ih => have := prog_rise K (j + k); rw [← Nat.add_assoc]; omega
    have := this (n - j)
    rw [show j + (n - j) = n by omega] at this
    omega

section
variable (ts : List Typ) (sp : List (List V)) (hn : ts.length ≤ 1048576) (rv : V) (rs : List (List UInt8 × Int)) (hrv : RootsV rv rs) (hrs : rs.length ≤ 1073741824)
include hn hrv hrs

theorem renc_ev : Pure 8 [.agg [tsV ts sp, rv]] (.tup [if errP ts rs = 0 then progV (progOf ts) else noProg, .int .i64 (errP ts rs)]) := by
  have hC := rcheck_ev ts sp (by omega) rv rs hrv hrs
  have hi := chk_iff ts rs
  by_cases hf : FineS ts rs
  · have h0 := hi.2 hf
    rw [h0, chk_zero ts rs h0] at hC
    have hw := allRight_wf hf.1
    by_cases hm : mostOk ts
    · have hr := renc_run ts sp hn rv rs hrv hw 0 hC hm
      rw [prog_indep] at hr
      by_cases hF : FitsTo (knOf ts [] .nils) 0 ts.length
      · have he : errP ts rs = 0 := by simp only [errP, if_pos hf, if_pos hm, if_pos hF]
        rw [if_pos ((fits_iff _ _).1 hF)] at hr
        rw [he, if_pos rfl]
        exact hr
      · have he : errP ts rs = 4 := by simp only [errP, if_pos hf, if_pos hm, if_neg hF]
        rw [if_neg (fun h => hF ((fits_iff _ _).2 h))] at hr
        rw [he, if_neg (by decide)]
        exact hr
    · have he : errP ts rs = 91 := by simp only [errP, if_pos hf, if_neg hm]
      rw [he, if_neg (by decide)]
      exact renc_big ts sp hn rv rs hrv hw 0 hC hm
  · have he : errP ts rs = 92 := by simp only [errP, if_neg hf]
    rw [he, if_neg (by decide)]
    exact renc_bad ts sp hn rv rs hrv _ _ (fun h => hf (hi.1 h)) hC

theorem enc_ev (S : St) :
    (errP ts rs = 0 → ∃ S' c ec g lo eg, ev Q 7 [.agg [tsV ts sp, rv]] S = some (.ret (.tup [.agg [.bool true, .sl c g 4 0 (progOf ts).1.length, .sl ec eg 1 0 (progOf ts).2.length], .int .i64 0]), S') ∧ Ups S S' ∧
      S.top ≤ c ∧ c < ec ∧ ec < S'.top ∧ lo ≤ g ∧ S'.get c = some (.cells 4 ((progOf ts).1.map Ins.v) g lo) ∧ S'.get ec = some (.cells 1 (iV (progOf ts).2) eg 0)) ∧
    (errP ts rs ≠ 0 → ∃ S', ev Q 7 [.agg [tsV ts sp, rv]] S = some (.ret (.tup [noProg, .int .i64 (errP ts rs)]), S') ∧ Ups S S') := by
  obtain ⟨e, a, hi, hC⟩ := check_iff ts sp (by omega) rv rs hrv hrs
  by_cases hf : FineS ts rs
  · have h0 := hi.2 hf
    subst h0
    have hw := allRight_wf hf.1
    by_cases hm : mostOk ts
    · have hr := enc_run ts sp hn rv rs hrv hw a hC hm S
      by_cases hF : FitsTo (knOf ts [] .nils) 0 ts.length
      · have he : errP ts rs = 0 := by simp only [errP, if_pos hf, if_pos hm, if_pos hF]
        have hF' : FitsTo (knOf ts sp rv) 0 ts.length := by rw [fits_iff, prog_indep]; exact (fits_iff _ _).1 hF
        refine ⟨fun _ => ?_, fun h => absurd he h⟩
        have := hr.1 hF'
        rw [prog_indep] at this
        exact this
      · have he : errP ts rs = 4 := by simp only [errP, if_pos hf, if_pos hm, if_neg hF]
        have hF' : ¬ FitsTo (knOf ts sp rv) 0 ts.length := by rw [fits_iff, prog_indep]; exact fun h => hF ((fits_iff _ _).2 h)
        rw [he]
        exact ⟨fun h => (by cases h), fun _ => hr.2 hF'⟩
    · have he : errP ts rs = 91 := by simp only [errP, if_pos hf, if_neg hm]
      rw [he]
      exact ⟨fun h => (by cases h), fun _ => enc_big ts sp (by omega) rv rs hrv hw a hC hm S⟩
  · have he : errP ts rs = 92 := by simp only [errP, if_neg hf]
    rw [he]
    exact ⟨fun h => (by cases h), fun _ => ⟨S, enc_bad ts sp rv rs hrv e a (fun h => hf (hi.1 h)) hC S, Ups.refl S⟩⟩
end
end Mev

/- awake, over encoders whose answers stay open to change. -/

set_option maxRecDepth 100000
namespace Mev
open Go Go.Proofs

def t2 : Typ := ⟨1, 2, 0, [], []⟩
def t0 : Typ := ⟨0, 0, 0, [], []⟩
theorem right_t2 : rightB t2 0 = true := by rfl
theorem right_t0 : rightB t0 0 = false := by rfl
theorem exts_t2 : extsN [t2] = [⟨true, 2, 2, 1⟩] := by simp [extsN, scan, extN, t2]
theorem prog_t2 : progOf [t2] = ([⟨33, 0, 2, 0⟩, ⟨20, 0, 0, 0⟩], [0]) := by
  simp [progOf, prog, routineR, bodyR, knOf, t2, fixI]
theorem err_t2 : errP [t2] [] = 0 := by
  have h1 : FineS [t2] [] := by
    refine ⟨fun j t ht => ?_, ?_, rfl⟩
    · cases j with
      | zero => simp at ht; subst ht; exact right_t2
      | succ j => simp at ht
    · simp [deepN, depN, depFold, depFirst, t2]
  have h2 : mostOk [t2] := fun j e he => by
    rw [exts_t2] at he
    cases j with
    | zero => simp at he; subst he; simp
    | succ j => simp at he
  have h3 : FitsTo (knOf [t2] [] .nils) 0 [t2].length := by
    rw [fits_iff]
    have := prog_t2
    unfold progOf at this
    rw [this]; simp
  simp only [errP, if_pos h1, if_pos h2, if_pos h3]
theorem err_t0 : errP [t0] [] = 92 := by
  have h1 : ¬ FineS [t0] [] := fun h => by
    have := h.1 0 t0 rfl
    rw [show ((0 : Nat) : Int) = 0 from rfl, right_t0] at this
    cases this
  simp only [errP, if_neg h1]

theorem awake_ev (S : St) : ∃ S', ev Q 5 [] S = some (.ret (.bool true), S') ∧ Ups S S' := by
  obtain ⟨S2, c, ec, g, lo, eg, h7, h8, hc1, hc2, hc3, hlo, hgc, hge⟩ := (enc_ev [t2] [] (by simp) .nils [] (Or.inl ⟨rfl, rfl⟩) (by simp) (S.push .dead)).1 err_t2
  have hlow2 : ∀ j, j < S.top → S2.get j = S.get j := fun j hj => by rw [h8.2 j (by simp; omega)]; simp [below hj]
  have hlt2 : S.top + 1 ≤ S2.top := by have := h8.1; simpa using this
  rw [prog_t2] at h7 hgc hge
  simp at hc1
  simp [tsV, t2, Typ.v, Ins.v, iV] at h7 hgc hge
  have hcl : c < S2.top := by omega
  obtain ⟨S4, h9, h10⟩ := (enc_ev [t0] [] (by simp) .nils [] (Or.inl ⟨rfl, rfl⟩) (by simp) (((((S2.put c .dead).put ec .dead).push (.cells 3 [[.bool true, .rs 4 [[.int .i64 33, .int .i64 0, .int .i64 2, .int .i64 0], [.int .i64 20, .int .i64 0, .int .i64 0, .int .i64 0]] 2, .rs 1 [[.int .i64 0]] 1]] 0 0)).push .dead))).2 (by rw [err_t0]; decide)
  rw [err_t0] at h9
  have hlow4 : ∀ j, j < S.top → S4.get j = S2.get j := fun j hj => by
    rw [h10.2 j (by simp; omega)]
    have q1 : j < S2.top := by omega
    have q2 : ¬ (c = j) := by omega
    have q3 : ¬ (ec = j) := by omega
    rw [push_get _ _ _ (by simp; omega), push_get _ _ _ (by simp; omega), put_get_ne _ _ _ _ (by omega), put_get_ne _ _ _ _ (by omega)]
  have hg4 : S4.get S2.top = some (.cells 3 [[.bool true, .rs 4 [[.int .i64 33, .int .i64 0, .int .i64 2, .int .i64 0], [.int .i64 20, .int .i64 0, .int .i64 0, .int .i64 0]] 2, .rs 1 [[.int .i64 0]] 1]] 0 0) := by rw [h10.2 _ (by simp)]; simp
  have hlt4 : S2.top + 2 ≤ S4.top := by have := h10.1; simpa using this
  have hlow : ∀ j, j < S.top → S4.get j = S.get j := fun j hj => by rw [hlow4 j hj, hlow2 j hj]
  have hq : S2.top < S4.top := by omega
  have hqq : S.top ≤ S4.top := by omega
  simp [noProg, tsV, t0, Typ.v] at h9
  rw [ev_eq q5, c5, evFn_eq _ _ _ _ _ _ _ (by simp)]
  simp [set_mk, h7, hgc, hge, h9, hg4, below hq, below hc2, below hc3, below hcl, hlo]
  by_cases hP : S4.pin = S.pin ∧ S.top ≤ S4.top + 1
  · rw [if_pos hP, if_pos hqq]
    exact ⟨by rw [top_trunc _ _ hqq]; exact Nat.le_refl _, fun i hi => by rw [trunc_get _ _ _ hi hqq, hlow i hi]⟩
  · rw [if_neg hP]
    exact ⟨by rw [top_push]; omega, fun i hi => by rw [push_get _ _ _ (by omega), hlow i hi]⟩
end Mev
