/- The program's functions, one equation each: the encoder, whole. -/
import Derived.Test.YtfndbddlicbjpaaMevWb

set_option maxRecDepth 100000
namespace Mev
open Go Go.Proofs

section
variable (ts : List Typ) (sp : List (List V)) (hn : ts.length ≤ 1073741824) (rv : V) (rs : List (List UInt8 × Int)) (hrv : RootsV rv rs)
include hn hrv

theorem enc_long (hw : WfTs ts) (a : Int) (hC : Pure 11 [.agg [tsV ts sp, rv]] (.agg [.int .i64 0, .int .i64 a])) (hm : mostOk ts) (hlong : 1048576 < ts.length) (S : St) :
    ∃ S', ev Q 7 [.agg [tsV ts sp, rv]] S = some (.ret (.tup [noProg, .int .i64 4]), S') ∧ Ups S S' := by
  have hkb := rv_kb rv rs hrv
  have hS := sizeOf_ev ts sp hn rv hkb hw a hC
  obtain ⟨l, h1, h2, h3, h4⟩ := (size_loop (extsN ts) (by rw [extsN_len]; exact hn) S.top (S.top + 1) (by omega) (extsN ts).length 0 ((S.push (.cells 2 [[tsV ts sp, rv]] 0 0)).push (.cells 3 [[.bool false, .nils, .nils]] 0 0)) (by omega) (by simp)).1 (fun j e _ h => hm j e h)
  obtain ⟨S3, hL, hU⟩ := layoutOf_ev ts sp hn rv hkb hw a hC ((S.push (.cells 2 [[tsV ts sp, rv]] 0 0)).push (.cells 3 [[.bool false, .nils, .nils]] 0 0))
  have hx : S3.get S.top = some (.cells 2 [[tsV ts sp, rv]] 0 0) := by rw [hU.2 _ (by simp)]; simp
  have hy : S3.get (S.top + 1) = some (.cells 3 [[.bool false, .nils, .nils]] 0 0) := by rw [hU.2 _ (by simp)]; simp
  have hlow : ∀ j, j < S.top → S3.get j = S.get j := fun j hj => by rw [hU.2 _ (by simp; omega)]; simp [below hj]
  have hlt : S.top ≤ S3.top := by have := hU.1; simp at this; omega
  have hlong' : (1048576 : Int) < ts.length := by omega
  have hps := put_self _ _ hy
  simp only [tsV, extsV, laysV] at hC hS h1 hL hx
  generalize hLV : (laysN ts).map Lay'.v = LV at *
  generalize (laysN ts).length = LL at *
  generalize (extsN ts).map Ext'.v = EV at *
  generalize (extsN ts).length = EL at *
  simp at h1
  rw [ev_eq q7, c7, evFn_eq _ _ _ _ _ _ _ (by simp)]
  simp [tsV, hC _, hS _, hkb, h1, h2, h3, h4, hL, hx, hlong', hy, hps, noProg]
  exact Ups_leave hlow hlt
end
end Mev

/- The program's functions, one equation each: the encoder, where it makes code. -/

set_option maxRecDepth 100000
namespace Mev
open Go Go.Proofs

section
variable (ts : List Typ) (sp : List (List V)) (hn : ts.length ≤ 1048576) (rv : V) (rs : List (List UInt8 × Int)) (hrv : RootsV rv rs)
include hn hrv

theorem enc_run (hw : WfTs ts) (a : Int) (hC : Pure 11 [.agg [tsV ts sp, rv]] (.agg [.int .i64 0, .int .i64 a])) (hm : mostOk ts) (S : St) :
    (FitsTo (knOf ts sp rv) 0 ts.length → ∃ S' c ec g lo eg, ev Q 7 [.agg [tsV ts sp, rv]] S = some (.ret (.tup [.agg [.bool true, .sl c g 4 0 (prog (knOf ts sp rv) ts.length).1.length, .sl ec eg 1 0 (prog (knOf ts sp rv) ts.length).2.length], .int .i64 0]), S') ∧ Ups S S' ∧
      S.top ≤ c ∧ c < ec ∧ ec < S'.top ∧ lo ≤ g ∧ S'.get c = some (.cells 4 ((prog (knOf ts sp rv) ts.length).1.map Ins.v) g lo) ∧ S'.get ec = some (.cells 1 (iV (prog (knOf ts sp rv) ts.length).2) eg 0)) ∧
    (¬ FitsTo (knOf ts sp rv) 0 ts.length → ∃ S', ev Q 7 [.agg [tsV ts sp, rv]] S = some (.ret (.tup [noProg, .int .i64 4]), S') ∧ Ups S S') := by
  have hkb := rv_kb rv rs hrv
  have hn' : ts.length ≤ 1073741824 := by omega
  have hS := sizeOf_ev ts sp hn' rv hkb hw a hC
  obtain ⟨l, h1, h2, h3, h4⟩ := (size_loop (extsN ts) (by rw [extsN_len]; exact hn') S.top (S.top + 1) (by omega) (extsN ts).length 0 ((S.push (.cells 2 [[tsV ts sp, rv]] 0 0)).push (.cells 3 [[.bool false, .nils, .nils]] 0 0)) (by omega) (by simp)).1 (fun j e _ h => hm j e h)
  obtain ⟨S3, hL, hU⟩ := layoutOf_ev ts sp hn' rv hkb hw a hC ((S.push (.cells 2 [[tsV ts sp, rv]] 0 0)).push (.cells 3 [[.bool false, .nils, .nils]] 0 0))
  have hx : S3.get S.top = some (.cells 2 [[tsV ts sp, rv]] 0 0) := by rw [hU.2 _ (by simp)]; simp
  have hy : S3.get (S.top + 1) = some (.cells 3 [[.bool false, .nils, .nils]] 0 0) := by rw [hU.2 _ (by simp)]; simp
  have hlow : ∀ j, j < S.top → S3.get j = S.get j := fun j hj => by rw [hU.2 _ (by simp; omega)]; simp [below hj]
  have hlt : S.top + 2 ≤ S3.top := by have := hU.1; simp at this; omega
  have hshort : ¬ ((1048576 : Int) < ts.length) := by omega
  have hps := put_self _ _ hy
  have hK := knOf_wf hw sp rv
  have hnK : (knOf ts sp rv).ts.length = ts.length := rfl
  have hyl : S.top + 1 < S3.top := by omega
  have hxl : S.top < S3.top := by omega
  have hloop := enc_loop S3.top (S3.top + 1) (S3.top + 2) (S3.top + 3) (S3.top + 4) (S.top + 1) (knOf ts sp rv) hK ts.length (by omega) (by omega) (by omega) (by omega) (by omega) hnK hn ts.length 0
    (((((S3.push (.cells 4 [] 0 0)).push (.cells 5 [[tsV ts sp, rv, extsV ts, laysV ts, .sl S3.top 0 4 0 0]] 0 0)).push (.cells 1 [[.ptr (S3.top + 1) 0 5 0 0]] 0 0)).push (.cells 1 [] 0 0)).push (.cells 3 [[.bool true, .nils, .sl (S3.top + 3) 0 1 0 0]] 0 0)) 0 0 0
    (by omega) (Nat.le_refl _) (by simp) (by simp) (by simp [below hyl, below hxl, hy]) (by simp [prog])
  have hst : RS (ES (((((S3.push (.cells 4 [] 0 0)).push (.cells 5 [[tsV ts sp, rv, extsV ts, laysV ts, .sl S3.top 0 4 0 0]] 0 0)).push (.cells 1 [[.ptr (S3.top + 1) 0 5 0 0]] 0 0)).push (.cells 1 [] 0 0)).push (.cells 3 [[.bool true, .nils, .sl (S3.top + 3) 0 1 0 0]] 0 0)) (S3.top + 3) (S3.top + 4) (prog (knOf ts sp rv) 0).2 0) S3.top (S3.top + 1) (knOf ts sp rv) (prog (knOf ts sp rv) 0).1 0 0 =
      (((((S3.push (.cells 4 [] 0 0)).push (.cells 5 [[tsV ts sp, rv, extsV ts, laysV ts, .sl S3.top 0 4 0 0]] 0 0)).push (.cells 1 [[.ptr (S3.top + 1) 0 5 0 0]] 0 0)).push (.cells 1 [] 0 0)).push (.cells 3 [[.bool true, .nils, .sl (S3.top + 3) 0 1 0 0]] 0 0)) := by
    simp [RS, ES, prog, iV, knOf, extsV, laysV, extsN_len]
  rw [hst] at hloop
  obtain ⟨hfit, hnofit⟩ := hloop
  constructor
  · intro hF
    obtain ⟨g', lo', eg', l2, h5, h6, h7, h8, h9⟩ := hfit hF
    have h5top : (((((S3.push (.cells 4 [] 0 0)).push (.cells 5 [[tsV ts sp, rv, extsV ts, laysV ts, .sl S3.top 0 4 0 0]] 0 0)).push (.cells 1 [[.ptr (S3.top + 1) 0 5 0 0]] 0 0)).push (.cells 1 [] 0 0)).push (.cells 3 [[.bool true, .nils, .sl (S3.top + 3) 0 1 0 0]] 0 0)).top = S3.top + 5 := by simp
    have h5get : ∀ j, j < S3.top → (((((S3.push (.cells 4 [] 0 0)).push (.cells 5 [[tsV ts sp, rv, extsV ts, laysV ts, .sl S3.top 0 4 0 0]] 0 0)).push (.cells 1 [[.ptr (S3.top + 1) 0 5 0 0]] 0 0)).push (.cells 1 [] 0 0)).push (.cells 3 [[.bool true, .nils, .sl (S3.top + 3) 0 1 0 0]] 0 0)).get j = S3.get j := fun j hj => by simp [below hj]
    have h5b : (((((S3.push (.cells 4 [] 0 0)).push (.cells 5 [[tsV ts sp, rv, extsV ts, laysV ts, .sl S3.top 0 4 0 0]] 0 0)).push (.cells 1 [[.ptr (S3.top + 1) 0 5 0 0]] 0 0)).push (.cells 1 [] 0 0)).push (.cells 3 [[.bool true, .nils, .sl (S3.top + 3) 0 1 0 0]] 0 0)).get (S3.top + 2) = some (.cells 1 [[.ptr (S3.top + 1) 0 5 0 0]] 0 0) := by simp
    have hAx : ∃ A, A = RS (ES (((((S3.push (.cells 4 [] 0 0)).push (.cells 5 [[tsV ts sp, rv, extsV ts, laysV ts, .sl S3.top 0 4 0 0]] 0 0)).push (.cells 1 [[.ptr (S3.top + 1) 0 5 0 0]] 0 0)).push (.cells 1 [] 0 0)).push (.cells 3 [[.bool true, .nils, .sl (S3.top + 3) 0 1 0 0]] 0 0)) (S3.top + 3) (S3.top + 4) (prog (knOf ts sp rv) ts.length).2 eg') S3.top (S3.top + 1) (knOf ts sp rv) (prog (knOf ts sp rv) ts.length).1 g' lo' ∧
        A.get (S3.top + 1) = some (.cells 5 [[tsV ts sp, rv, extsV ts, laysV ts, .sl S3.top g' 4 0 (prog (knOf ts sp rv) ts.length).1.length]] 0 0) ∧ A.get (S3.top + 2) = some (.cells 1 [[.ptr (S3.top + 1) 0 5 0 0]] 0 0) ∧
        A.get (S3.top + 4) = some (.cells 3 [[.bool true, .nils, .sl (S3.top + 3) eg' 1 0 (prog (knOf ts sp rv) ts.length).2.length]] 0 0) ∧ A.get S3.top = some (.cells 4 ((prog (knOf ts sp rv) ts.length).1.map Ins.v) g' lo') ∧
        A.get (S3.top + 3) = some (.cells 1 (iV (prog (knOf ts sp rv) ts.length).2) eg' 0) ∧ A.get (S.top + 1) = some (.cells 3 [[.bool false, .nils, .nils]] 0 0) ∧ (∀ j, j < S.top → A.get j = S.get j) ∧ A.top = S3.top + 5 := by
      generalize (((((S3.push (.cells 4 [] 0 0)).push (.cells 5 [[tsV ts sp, rv, extsV ts, laysV ts, .sl S3.top 0 4 0 0]] 0 0)).push (.cells 1 [[.ptr (S3.top + 1) 0 5 0 0]] 0 0)).push (.cells 1 [] 0 0)).push (.cells 3 [[.bool true, .nils, .sl (S3.top + 3) 0 1 0 0]] 0 0)) = S5 at *
      refine ⟨_, rfl, ?_, ?_, ?_, ?_, ?_, ?_, fun j hj => ?_, ?_⟩
      · exact RS_get_r _ _ _ (knOf ts sp rv) _ _ _ (by omega) (by rw [ES_top, h5top]; omega)
      · rw [RS_get _ _ _ _ _ _ _ _ (by omega) (by omega), ES_get _ _ _ _ _ _ (by omega) (by omega), h5b]
      · rw [RS_get _ _ _ _ _ _ _ _ (by omega) (by omega), ES_get_p _ _ _ _ _ (by omega) (by rw [h5top]; omega)]
      · exact RS_get_c _ _ _ _ _ _ _ (by omega) (by rw [ES_top, h5top]; omega)
      · rw [RS_get _ _ _ _ _ _ _ _ (by omega) (by omega), ES_get_ec _ _ _ _ _ (by omega) (by rw [h5top]; omega)]
      · rw [RS_get _ _ _ _ _ _ _ _ (by omega) (by omega), ES_get _ _ _ _ _ _ (by omega) (by omega), h5get _ hyl, hy]
      · rw [RS_get _ _ _ _ _ _ _ _ (by omega) (by omega), ES_get _ _ _ _ _ _ (by omega) (by omega), h5get _ (by omega), hlow j hj]
      · rw [RS_top, ES_top, h5top]
    obtain ⟨A, hA, hAr, hAb, hAp, hAc, hAe, hAy, hAl, hAt⟩ := hAx
    rw [← hA] at h6
    clear hA h5top h5get h5b hst hnofit hfit
    have hk1 := kbLL_ins (prog (knOf ts sp rv) ts.length).1
    have hk2 := kbLL_iV (prog (knOf ts sp rv) ts.length).2
    have hln1 : ((prog (knOf ts sp rv) ts.length).1.map Ins.v).length = (prog (knOf ts sp rv) ts.length).1.length := by simp
    have hln2 : (iV (prog (knOf ts sp rv) ts.length).2).length = (prog (knOf ts sp rv) ts.length).2.length := by simp [iV]
    generalize (prog (knOf ts sp rv) ts.length).1.map Ins.v = CV at *
    generalize (prog (knOf ts sp rv) ts.length).1.length = CL at *
    generalize iV (prog (knOf ts sp rv) ts.length).2 = EnV at *
    generalize (prog (knOf ts sp rv) ts.length).2.length = EnL at *
    have q1 : S.top + 1 < A.top := by omega
    have q2 : S3.top < A.top := by omega
    have q3 : S3.top + 1 < A.top := by omega
    have q4 : S3.top + 2 < A.top := by omega
    have q5 : S3.top + 3 < A.top := by omega
    have q6 : S3.top + 4 < A.top := by omega
    have qq7 : S.top ≤ A.top := by omega
    have hl1 : ∀ X Y Z W, ∀ j, j < S.top → ((((A.put (S3.top + 4) X).put S3.top Y).put (S3.top + 3) Z).put (S.top + 1) W).get j = S.get j := fun X Y Z W j hj => by
      rw [put_get_ne _ _ _ _ (by omega), put_get_ne _ _ _ _ (by omega), put_get_ne _ _ _ _ (by omega), put_get_ne _ _ _ _ (by omega), hAl j hj]
    simp only [tsV, extsV, laysV] at hC hS h1 hL hx h6 hAr
    generalize hLV : (laysN ts).map Lay'.v = LV at *
    generalize (laysN ts).length = LL at *
    generalize (extsN ts).map Ext'.v = EV at *
    generalize (extsN ts).length = EL at *
    simp at h1 h6
    rw [ev_eq Mev.q7, c7, evFn_eq _ _ _ _ _ _ _ (by simp)]
    simp [tsV, hC _, hS _, hkb, h1, h2, h3, h4, hL, hx, hy, below hxl, below hyl, hshort, h6, h7, h8, h9, hAr, hAb, hAp, hAc, hAe, hAy, hAt, q1, q2, q3, q4, q5, q6, h5, hk1, hk2, hln1, hln2, set_mk]
    refine ⟨_, S3.top, S3.top + 3, g', lo', eg', ⟨⟨⟨rfl, rfl⟩, rfl, rfl⟩, rfl⟩, ⟨?_, fun i hi => ?_⟩, by omega, by omega, ?_, h5, ?_, ?_⟩
    · show S.top ≤ St.top (St.put _ _ _)
      rw [top_put, top_put]; omega
    · show St.get (St.put _ _ _) _ = _
      rw [put_get_ne _ _ _ _ (by omega), put_get_ne _ _ _ _ (by omega), hAl i hi]
    · show S3.top + 3 < St.top (St.put _ _ _)
      rw [top_put, top_put]; omega
    · show St.get (St.put _ _ _) _ = _
      rw [put_get_ne _ _ _ _ (by omega), put_get_ne _ _ _ _ (by omega), hAc]
    · show St.get (St.put _ _ _) _ = _
      rw [put_get_ne _ _ _ _ (by omega), put_get_ne _ _ _ _ (by omega), hAe]
  · intro hF
    obtain ⟨l2, S', h5, h6, h7, h8, h9, h10⟩ := hnofit hF
    have hlow2 : ∀ j, j < S.top → S'.get j = S.get j := fun j hj => by
      have hj3 : j < S3.top := by omega
      rw [h9 j (by omega)]; simp [below hj3, hlow j hj]
    have hlt2 : S.top ≤ S'.top := by simp at h10; omega
    simp only [tsV, extsV, laysV] at hC hS h1 hL hx h5
    generalize hLV : (laysN ts).map Lay'.v = LV at *
    generalize (laysN ts).length = LL at *
    generalize (extsN ts).map Ext'.v = EV at *
    generalize (extsN ts).length = EL at *
    simp at h1 h5
    rw [ev_eq q7, c7, evFn_eq _ _ _ _ _ _ _ (by simp)]
    simp [tsV, hC _, hS _, hkb, h1, h2, h3, h4, hL, hx, hy, below hxl, below hyl, hshort, h5, h6, h7, h8, noProg]
    exact Ups_leave hlow2 hlt2
end
end Mev

/- The plain law: what is told of a front of the types. -/

set_option maxRecDepth 100000
namespace Mev
open Go Go.Proofs

/-! ### lists told one by one -/
theorem scan_append {α : Type} (f : List α → Typ → α) : ∀ (a b : List Typ) (es : List α), scan f es (a ++ b) = scan f (scan f es a) b := by
  intro a
  induction a with
  | nil => intro b es; rfl
  | cons t a ih => intro b es; rw [List.cons_append, scan, scan, ih]
theorem scan_prefix {α : Type} (f : List α → Typ → α) : ∀ (b : List Typ) (es : List α), (scan f es b).take es.length = es := by
  intro b
  induction b with
  | nil => intro es; simp [scan]
  | cons t b ih =>
    intro es
    rw [scan]
    have := ih (es ++ [f es t])
    have h2 : ((scan f (es ++ [f es t]) b).take (es ++ [f es t]).length).take es.length = (es ++ [f es t]).take es.length := by rw [this]
    rw [List.take_take] at h2
    simpa using h2
theorem extsN_take (ts : List Typ) (k : Nat) (hk : k ≤ ts.length) : extsN (ts.take k) = (extsN ts).take k := by
  have h1 : extsN ts = scan extN (extsN (ts.take k)) (ts.drop k) := by
    unfold extsN
    rw [← scan_append, List.take_append_drop]
  have h2 : (extsN (ts.take k)).length = k := by rw [extsN_len]; simp; omega
  have h3 := scan_prefix extN (ts.drop k) (extsN (ts.take k))
  rw [h2, ← h1] at h3
  exact h3.symm

theorem getD_take {α : Type} (l : List α) (k j : Nat) (d : α) (h : j < k) : (l.take k).getD j d = l.getD j d := by
  rw [List.getD_eq_getElem?_getD, List.getD_eq_getElem?_getD, List.getElem?_take, if_pos h]

theorem deepN_front : ∀ (a b : List Typ) (ds : List Int), (deepN ds (a ++ b)).1 = 0 → (deepN ds a).1 = 0 := by
  intro a
  induction a with
  | nil => intro b ds _; rfl
  | cons t a ih =>
    intro b ds h
    rw [List.cons_append, deepN] at h
    rw [deepN]
    split
    · rename_i h1; rw [if_pos h1] at h; exact ih b _ h
    · rename_i h1; rw [if_neg h1] at h; cases h

/-! ### layouts -/
theorem partE_congr {es es' : List Ext'} {i : Nat} (h : ∀ j, j < i → es.getD j default = es'.getD j default) {t : Typ} (hw : WfT t i) : t.parts.map (partE es) = t.parts.map (partE es') := by
  apply List.map_congr_left
  intro p hp
  have := hw.fine.2 p hp
  exact h _ (by omega)
theorem layN_congr {es es' : List Ext'} {i : Nat} (h : ∀ j, j < i → es.getD j default = es'.getD j default) {t : Typ} (hw : WfT t i) : layN es t = layN es' t := by
  simp only [layN]
  by_cases k8 : t.kind = 8
  · rw [if_pos k8, if_pos k8, structL, structL, partE_congr h hw]
  by_cases k4 : t.kind = 4
  · have := hw.elem (Or.inl k4)
    rw [h t.elem.toNat (by omega), if_neg k8, if_neg k8]
  by_cases k5 : t.kind = 5
  · have := hw.elem (Or.inr (Or.inl k5))
    rw [h t.elem.toNat (by omega), if_neg k8, if_neg k8]
  rw [if_neg k8, if_neg k4, if_neg k5, if_neg k8, if_neg k4, if_neg k5]

/-! ### routines -/
structure Agree (K K' : Kn) (k : Nat) : Prop where
  ts : ∀ j, j < k → K.ts.getD j noT = K'.ts.getD j noT
  es : ∀ j, j < k → K.es.getD j default = K'.es.getD j default
  ls : ∀ j, j < k → K.ls.getD j default = K'.ls.getD j default
theorem fixI_congr {K K' : Kn} {k t : Nat} (h : Agree K K' k) (ht : t < k) (p : Int) : fixI K t p = fixI K' t p := by
  have := h.ts t ht
  simp only [noT] at this
  simp only [fixI, this]
theorem itemI_congr {K K' : Kn} {k t : Nat} (h : Agree K K' k) (ht : t < k) : itemI K t = itemI K' t := by
  have h1 := h.ts t ht
  have h2 := h.es t ht
  simp only [noT] at h1
  simp only [itemI, h1, h2]
theorem itemsI_congr {K K' : Kn} {k t : Nat} (h : Agree K K' k) (ht : t < k) (l : Bool) (n : Int) : itemsI K t l n = itemsI K' t l n := by
  simp only [itemsI, h.es t ht, itemI_congr h ht]
theorem fieldsL_congr {K K' : Kn} {k : Nat} (h : Agree K K' k) : ∀ (l : List ((List UInt8 × Int × Int) × Slot')), (∀ x ∈ l, 0 ≤ x.1.2.2 ∧ x.1.2.2 < k) → fieldsL K l = fieldsL K' l := by
  intro l
  induction l with
  | nil => intro _; rfl
  | cons x l ih =>
    intro hx
    have h1 := hx x List.mem_cons_self
    have h2 := ih fun y hy => hx y (List.mem_cons_of_mem _ hy)
    simp only [fieldsL, List.flatMap_cons] at h2 ⊢
    rw [h2]
    congr 1
    simp only [fieldI]
    rw [fixI_congr h (by omega)]
theorem bodyR_congr {K K' : Kn} {k t : Nat} (h : Agree K K' k) (ht : t < k) (hw : WfT (K.ts.getD t noT) t) (code : List Ins) : bodyR K t code = bodyR K' t code := by
  have h1 := h.ts t ht
  have h2 := h.es t ht
  have h3 := h.ls t ht
  have hf := fixI_congr h ht 0
  have hfl := fieldsL_congr h ((K.ts.getD t noT).parts.zip (K.ls.getD t default).slots) (fun x hx => by
    have := hw.fine.2 _ (List.of_mem_zip hx).1
    omega)
  have hfi : fieldsI K t code = fieldsI K' t code := by
    have h1' := h1
    simp only [noT] at h1' hfl
    simp only [fieldsI]
    rw [hfl, h1', h2, h3]
  simp only [bodyR]
  rw [← h1]
  by_cases k1 : (K.ts.getD t noT).kind = 1 ∨ (K.ts.getD t noT).kind = 2
  · rw [if_pos k1, if_pos k1, hf]
  rw [if_neg k1, if_neg k1]
  by_cases k3 : (K.ts.getD t noT).kind = 3
  · rw [if_pos k3, if_pos k3]
  rw [if_neg k3, if_neg k3]
  by_cases k4 : (K.ts.getD t noT).kind = 4
  · have := hw.elem (Or.inl k4)
    rw [if_pos k4, if_pos k4, itemsI_congr h (by omega)]
  rw [if_neg k4, if_neg k4]
  by_cases k5 : (K.ts.getD t noT).kind = 5
  · have := hw.elem (Or.inr (Or.inl k5))
    rw [if_pos k5, if_pos k5, itemsI_congr h (by omega)]
  rw [if_neg k5, if_neg k5]
  by_cases k6 : (K.ts.getD t noT).kind = 6
  · rw [if_pos k6, if_pos k6]
  rw [if_neg k6, if_neg k6]
  by_cases k7 : (K.ts.getD t noT).kind = 7
  · rw [if_pos k7, if_pos k7]
  rw [if_neg k7, if_neg k7, hfi]

theorem prog_congr {K K' : Kn} {k : Nat} (h : Agree K K' k) (hw : ∀ t, t < k → WfT (K.ts.getD t noT) t) : ∀ n, n ≤ k → prog K n = prog K' n := by
  intro n
  induction n with
  | zero => intro _; rfl
  | succ n ih =>
    intro hn
    rw [prog, prog, ih (by omega), routineR, routineR, bodyR_congr h (by omega) (hw n (by omega))]

theorem prog_indep (ts : List Typ) (sp : List (List V)) (rv : V) : ∀ n, prog (knOf ts sp rv) n = prog (knOf ts [] .nils) n := by
  intro n
  induction n with
  | zero => rfl
  | succ n ih => rw [prog, prog, ih]; rfl

theorem agree_front (ts : List Typ) (k : Nat) (hk : k ≤ ts.length) (hw : WfTs ts) : Agree (knOf ts [] .nils) (knOf (ts.take k) [] .nils) k := by
  refine ⟨fun j hj => (getD_take ts k j noT hj).symm, fun j hj => ?_, fun j hj => ?_⟩
  · show (extsN ts).getD j default = (extsN (ts.take k)).getD j default
    rw [extsN_take ts k hk, getD_take _ _ _ _ hj]
  · show (laysN ts).getD j default = (laysN (ts.take k)).getD j default
    have hjl : j < ts.length := by omega
    have h1 : ts[j]? = some (ts.getD j noT) := getD_some hjl noT
    have h2 : (ts.take k)[j]? = some (ts.getD j noT) := by rw [List.getElem?_take, if_pos hj, h1]
    rw [List.getD_eq_getElem?_getD, List.getD_eq_getElem?_getD, laysN, laysN, List.getElem?_map, List.getElem?_map, h1, h2]
    show layN (extsN ts) _ = layN (extsN (ts.take k)) _
    rw [extsN_take ts k hk]
    exact layN_congr (fun i hi => (getD_take _ k i _ (by omega)).symm) (hw j _ h1)

/-! ### a program's routines -/
theorem bodyI_front (first len : Nat) (base : List Ins) (hf : base.length ≤ first) : ∀ (ps : List (List UInt8 × Int × Int)) (i : Nat) (X : List Ins), ∃ Y, bodyI first len i ps (base ++ X) = base ++ Y := by
  intro ps
  induction ps with
  | nil => intro i X; exact ⟨X, rfl⟩
  | cons p ps ih =>
    intro i X
    rw [bodyI]
    have h : first + i = base.length + (first + i - base.length) := by omega
    rw [h, List.append_assoc, setB_app, List.append_assoc]
    exact ih _ _
theorem bodyR_front (K : Kn) (t : Nat) (code : List Ins) : ∃ Y, bodyR K t code = code ++ Y := by
  simp only [bodyR]
  split
  · exact ⟨_, rfl⟩
  split
  · exact ⟨_, rfl⟩
  split
  · exact ⟨_, by rw [List.append_assoc]⟩
  split
  · exact ⟨_, by rw [List.append_assoc]⟩
  split
  · exact ⟨_, rfl⟩
  split
  · simp only [armsI]
    rw [List.append_assoc]
    exact bodyI_front _ _ code (by omega) _ _ _
  · simp only [fieldsI]
    exact ⟨_, by rw [List.append_assoc, List.append_assoc]⟩
theorem routineR_front (K : Kn) (t : Nat) (code : List Ins) : ∃ Y, routineR K t code = code ++ Y ++ [⟨20, 0, 0, 0⟩] := by
  obtain ⟨Y, h⟩ := bodyR_front K t code
  exact ⟨Y, by rw [routineR, h]⟩
theorem prog_front (K : Kn) : ∀ m n, ∃ Y, (prog K (n + m)).1 = (prog K n).1 ++ Y := by
  intro m
  induction m with
  | zero => intro n; exact ⟨[], by simp⟩
  | succ m ih =>
    intro n
    obtain ⟨Y, h⟩ := ih n
    obtain ⟨Z, h2⟩ := routineR_front K (n + m) (prog K (n + m)).1
    refine ⟨Y ++ Z ++ [⟨20, 0, 0, 0⟩], ?_⟩
    show (routineR K (n + m) (prog K (n + m)).1) = _
    rw [h2, h]; simp
theorem prog_entry (K : Kn) : ∀ n i, i < n → (prog K n).2[i]? = some ((prog K i).1.length : Int) := by
  intro n
  induction n with
  | zero => intro i h; omega
  | succ n ih =>
    intro i h
    show ((prog K n).2 ++ [((prog K n).1.length : Int)])[i]? = _
    rcases Nat.lt_or_ge i n with h1 | h1
    · rw [List.getElem?_append_left (by rw [prog_len]; exact h1), ih i h1]
    · obtain rfl : i = n := by omega
      rw [List.getElem?_append_right (by rw [prog_len]; exact Nat.le_refl _), prog_len]; simp
theorem prog_rise (K : Kn) (n : Nat) : (prog K n).1.length < (prog K (n + 1)).1.length := by
  obtain ⟨Z, h2⟩ := routineR_front K n (prog K n).1
  show _ < (routineR K n (prog K n).1).length
  rw [h2]; simp
theorem prog_last (K : Kn) (n m : Nat) : (prog K (n + 1 + m)).1[(prog K (n + 1)).1.length - 1]? = some ⟨20, 0, 0, 0⟩ := by
  obtain ⟨Y, h⟩ := prog_front K m (n + 1)
  obtain ⟨Z, h2⟩ := routineR_front K n (prog K n).1
  have h3 : (prog K (n + 1)).1 = (prog K n).1 ++ Z ++ [⟨20, 0, 0, 0⟩] := h2
  rw [h, List.getElem?_append_left (by rw [h3]; simp), h3]
  simp
end Mev
