/- The program's functions, one equation each: the encoder, where it makes code. -/
import Derived.Test.YtfndbddlicbjpaaMevWe

set_option maxRecDepth 100000
namespace Mev
open Go Go.Proofs

section
variable (ts : List Typ) (sp : List (List V)) (hn : ts.length ≤ 1048576) (rv : V) (rs : List (List UInt8 × Int)) (hrv : RootsV rv rs)
include hn hrv

theorem enc_run (hw : WfTs ts) (a : Int) (hC : Pure 11 [.agg [tsV ts sp, rv]] (.agg [.int .i64 0, .int .i64 a])) (hm : mostOk ts) (S : St) :
    (FitsTo (knOf ts sp rv) 0 ts.length → ∃ S', ev Q 7 [.agg [tsV ts sp, rv]] S = some (.ret (.tup [progV (prog (knOf ts sp rv) ts.length), .int .i64 0]), S') ∧ Ups S S') ∧
    (¬ FitsTo (knOf ts sp rv) 0 ts.length → ∃ S', ev Q 7 [.agg [tsV ts sp, rv]] S = some (.ret (.tup [noProg, .int .i64 4]), S') ∧ Ups S S') := by
  have hkb := rv_kb rv rs hrv
  have hn' : ts.length ≤ 1073741824 := by omega
  have hS := sizeOf_ev ts sp hn' rv hkb hw a hC
  obtain ⟨l, h1, h2, h3, h4⟩ := (size_loop (extsN ts) (by rw [extsN_len]; exact hn') S.top (S.top + 1) (by omega) (extsN ts).length 0 ((S.push (.cells 2 [[tsV ts sp, rv]] 0 0)).push (.cells 3 [[.bool false, .nils, .nils]] 0 0)) (by omega) (by simp)).1 (fun j e _ h => hm j e h)
  obtain ⟨S3, hL, hU⟩ := layoutOf_ev ts sp hn' rv hkb hw a hC ((S.push (.cells 2 [[tsV ts sp, rv]] 0 0)).push (.cells 3 [[.bool false, .nils, .nils]] 0 0))
  have hx : S3.get S.top = some (.cells 2 [[tsV ts sp, rv]] 0 0) := by rw [hU.2 _ (by simp)]; simp
  have hy : S3.get (S.top + 1) = some (.cells 3 [[.bool false, .nils, .nils]] 0 0) := by rw [hU.2 _ (by simp)]; simp
  have hlow : ∀ j, j < S.top → S3.get j = S.get j := fun j hj => by rw [hU.2 _ (by simp; omega)]; simp [below hj]
  have hlt : S.top + 2 ≤ S3.top := by have := hU.1; simp at this; omega
  have hshort : ¬ ((1048576 : Int) < ts.length) := by omega
  have hps := put_self _ _ hy
  have hK := knOf_wf hw sp rv
  have hnK : (knOf ts sp rv).ts.length = ts.length := rfl
  have hyl : S.top + 1 < S3.top := by omega
  have hxl : S.top < S3.top := by omega
  have hloop := enc_loop S3.top (S3.top + 1) (S3.top + 2) (S3.top + 3) (S3.top + 4) (S.top + 1) (knOf ts sp rv) hK ts.length (by omega) (by omega) (by omega) (by omega) (by omega) hnK hn ts.length 0
    (((((S3.push (.cells 4 [] 0 0)).push (.cells 5 [[tsV ts sp, rv, extsV ts, laysV ts, .sl S3.top 0 4 0 0]] 0 0)).push (.cells 1 [[.ptr (S3.top + 1) 0 5 0 0]] 0 0)).push (.cells 1 [] 0 0)).push (.cells 3 [[.bool true, .nils, .sl (S3.top + 3) 0 1 0 0]] 0 0)) 0 0 0
    (by omega) (Nat.le_refl _) (by simp) (by simp) (by simp [below hyl, below hxl, hy]) (by simp [prog])
  have hst : RS (ES (((((S3.push (.cells 4 [] 0 0)).push (.cells 5 [[tsV ts sp, rv, extsV ts, laysV ts, .sl S3.top 0 4 0 0]] 0 0)).push (.cells 1 [[.ptr (S3.top + 1) 0 5 0 0]] 0 0)).push (.cells 1 [] 0 0)).push (.cells 3 [[.bool true, .nils, .sl (S3.top + 3) 0 1 0 0]] 0 0)) (S3.top + 3) (S3.top + 4) (prog (knOf ts sp rv) 0).2 0) S3.top (S3.top + 1) (knOf ts sp rv) (prog (knOf ts sp rv) 0).1 0 0 =
      (((((S3.push (.cells 4 [] 0 0)).push (.cells 5 [[tsV ts sp, rv, extsV ts, laysV ts, .sl S3.top 0 4 0 0]] 0 0)).push (.cells 1 [[.ptr (S3.top + 1) 0 5 0 0]] 0 0)).push (.cells 1 [] 0 0)).push (.cells 3 [[.bool true, .nils, .sl (S3.top + 3) 0 1 0 0]] 0 0)) := by
    simp [RS, ES, prog, iV, knOf, extsV, laysV, extsN_len]
  rw [hst] at hloop
  obtain ⟨hfit, hnofit⟩ := hloop
  constructor
  · intro hF
    obtain ⟨g', lo', eg', l2, h5, h6, h7, h8, h9⟩ := hfit hF
    have h5top : (((((S3.push (.cells 4 [] 0 0)).push (.cells 5 [[tsV ts sp, rv, extsV ts, laysV ts, .sl S3.top 0 4 0 0]] 0 0)).push (.cells 1 [[.ptr (S3.top + 1) 0 5 0 0]] 0 0)).push (.cells 1 [] 0 0)).push (.cells 3 [[.bool true, .nils, .sl (S3.top + 3) 0 1 0 0]] 0 0)).top = S3.top + 5 := by simp
    have h5get : ∀ j, j < S3.top → (((((S3.push (.cells 4 [] 0 0)).push (.cells 5 [[tsV ts sp, rv, extsV ts, laysV ts, .sl S3.top 0 4 0 0]] 0 0)).push (.cells 1 [[.ptr (S3.top + 1) 0 5 0 0]] 0 0)).push (.cells 1 [] 0 0)).push (.cells 3 [[.bool true, .nils, .sl (S3.top + 3) 0 1 0 0]] 0 0)).get j = S3.get j := fun j hj => by simp [below hj]
    have h5b : (((((S3.push (.cells 4 [] 0 0)).push (.cells 5 [[tsV ts sp, rv, extsV ts, laysV ts, .sl S3.top 0 4 0 0]] 0 0)).push (.cells 1 [[.ptr (S3.top + 1) 0 5 0 0]] 0 0)).push (.cells 1 [] 0 0)).push (.cells 3 [[.bool true, .nils, .sl (S3.top + 3) 0 1 0 0]] 0 0)).get (S3.top + 2) = some (.cells 1 [[.ptr (S3.top + 1) 0 5 0 0]] 0 0) := by simp
    have hAx : ∃ A, A = RS (ES (((((S3.push (.cells 4 [] 0 0)).push (.cells 5 [[tsV ts sp, rv, extsV ts, laysV ts, .sl S3.top 0 4 0 0]] 0 0)).push (.cells 1 [[.ptr (S3.top + 1) 0 5 0 0]] 0 0)).push (.cells 1 [] 0 0)).push (.cells 3 [[.bool true, .nils, .sl (S3.top + 3) 0 1 0 0]] 0 0)) (S3.top + 3) (S3.top + 4) (prog (knOf ts sp rv) ts.length).2 eg') S3.top (S3.top + 1) (knOf ts sp rv) (prog (knOf ts sp rv) ts.length).1 g' lo' ∧
        A.get (S3.top + 1) = some (.cells 5 [[tsV ts sp, rv, extsV ts, laysV ts, .sl S3.top g' 4 0 (prog (knOf ts sp rv) ts.length).1.length]] 0 0) ∧ A.get (S3.top + 2) = some (.cells 1 [[.ptr (S3.top + 1) 0 5 0 0]] 0 0) ∧
        A.get (S3.top + 4) = some (.cells 3 [[.bool true, .nils, .sl (S3.top + 3) eg' 1 0 (prog (knOf ts sp rv) ts.length).2.length]] 0 0) ∧ A.get S3.top = some (.cells 4 ((prog (knOf ts sp rv) ts.length).1.map Ins.v) g' lo') ∧
        A.get (S3.top + 3) = some (.cells 1 (iV (prog (knOf ts sp rv) ts.length).2) eg' 0) ∧ A.get (S.top + 1) = some (.cells 3 [[.bool false, .nils, .nils]] 0 0) ∧ (∀ j, j < S.top → A.get j = S.get j) ∧ A.top = S3.top + 5 := by
      generalize (((((S3.push (.cells 4 [] 0 0)).push (.cells 5 [[tsV ts sp, rv, extsV ts, laysV ts, .sl S3.top 0 4 0 0]] 0 0)).push (.cells 1 [[.ptr (S3.top + 1) 0 5 0 0]] 0 0)).push (.cells 1 [] 0 0)).push (.cells 3 [[.bool true, .nils, .sl (S3.top + 3) 0 1 0 0]] 0 0)) = S5 at *
      refine ⟨_, rfl, ?_, ?_, ?_, ?_, ?_, ?_, fun j hj => ?_, ?_⟩
      · exact RS_get_r _ _ _ (knOf ts sp rv) _ _ _ (by omega) (by rw [ES_top, h5top]; omega)
      · rw [RS_get _ _ _ _ _ _ _ _ (by omega) (by omega), ES_get _ _ _ _ _ _ (by omega) (by omega), h5b]
      · rw [RS_get _ _ _ _ _ _ _ _ (by omega) (by omega), ES_get_p _ _ _ _ _ (by omega) (by rw [h5top]; omega)]
      · exact RS_get_c _ _ _ _ _ _ _ (by omega) (by rw [ES_top, h5top]; omega)
      · rw [RS_get _ _ _ _ _ _ _ _ (by omega) (by omega), ES_get_ec _ _ _ _ _ (by omega) (by rw [h5top]; omega)]
      · rw [RS_get _ _ _ _ _ _ _ _ (by omega) (by omega), ES_get _ _ _ _ _ _ (by omega) (by omega), h5get _ hyl, hy]
      · rw [RS_get _ _ _ _ _ _ _ _ (by omega) (by omega), ES_get _ _ _ _ _ _ (by omega) (by omega), h5get _ (by omega), hlow j hj]
      · rw [RS_top, ES_top, h5top]
    obtain ⟨A, hA, hAr, hAb, hAp, hAc, hAe, hAy, hAl, hAt⟩ := hAx
    rw [← hA] at h6
    clear hA h5top h5get h5b hst hnofit hfit
    have hk1 := kbLL_ins (prog (knOf ts sp rv) ts.length).1
    have hk2 := kbLL_iV (prog (knOf ts sp rv) ts.length).2
    have hln1 : ((prog (knOf ts sp rv) ts.length).1.map Ins.v).length = (prog (knOf ts sp rv) ts.length).1.length := by simp
    have hln2 : (iV (prog (knOf ts sp rv) ts.length).2).length = (prog (knOf ts sp rv) ts.length).2.length := by simp [iV]
    simp only [progV]
    generalize (prog (knOf ts sp rv) ts.length).1.map Ins.v = CV at *
    generalize (prog (knOf ts sp rv) ts.length).1.length = CL at *
    generalize iV (prog (knOf ts sp rv) ts.length).2 = EnV at *
    generalize (prog (knOf ts sp rv) ts.length).2.length = EnL at *
    have q1 : S.top + 1 < A.top := by omega
    have q2 : S3.top < A.top := by omega
    have q3 : S3.top + 1 < A.top := by omega
    have q4 : S3.top + 2 < A.top := by omega
    have q5 : S3.top + 3 < A.top := by omega
    have q6 : S3.top + 4 < A.top := by omega
    have qq7 : S.top ≤ A.top := by omega
    have hl1 : ∀ X Y Z W, ∀ j, j < S.top → ((((A.put (S3.top + 4) X).put S3.top Y).put (S3.top + 3) Z).put (S.top + 1) W).get j = S.get j := fun X Y Z W j hj => by
      rw [put_get_ne _ _ _ _ (by omega), put_get_ne _ _ _ _ (by omega), put_get_ne _ _ _ _ (by omega), put_get_ne _ _ _ _ (by omega), hAl j hj]
    simp only [tsV, extsV, laysV] at hC hS h1 hL hx h6 hAr
    generalize hLV : (laysN ts).map Lay'.v = LV at *
    generalize (laysN ts).length = LL at *
    generalize (extsN ts).map Ext'.v = EV at *
    generalize (extsN ts).length = EL at *
    simp at h1 h6
    rw [ev_eq Mev.q7, c7, evFn_eq _ _ _ _ _ _ _ (by simp)]
    simp [tsV, hC _, hS _, hkb, h1, h2, h3, h4, hL, hx, hy, below hxl, below hyl, hshort, h6, h7, h8, h9, hAr, hAb, hAp, hAc, hAe, hAy, hAt, q1, q2, q3, q4, q5, q6, h5, hk1, hk2, hln1, hln2, set_mk]
    have hqt : (A.trunc S.top).top = S.top := top_trunc _ _ qq7
    by_cases hP : A.pin = S.pin
    · rw [if_pos hP, put_ge (h := (by rw [hqt]; omega : (A.trunc S.top).top ≤ S3.top + 4)), put_ge (h := (by rw [hqt]; omega : (A.trunc S.top).top ≤ S3.top)), put_ge (h := (by rw [hqt]; omega : (A.trunc S.top).top ≤ S3.top + 3)), put_ge (h := (by rw [hqt]; omega : (A.trunc S.top).top ≤ S.top + 1))]
      exact ⟨by rw [hqt]; exact Nat.le_refl _, fun i hi => by rw [trunc_get _ _ _ hi qq7, hAl i hi]⟩
    · rw [if_neg hP]
      exact ⟨by simp; omega, hl1 _ _ _ _⟩
  · intro hF
    obtain ⟨l2, S', h5, h6, h7, h8, h9, h10⟩ := hnofit hF
    have hlow2 : ∀ j, j < S.top → S'.get j = S.get j := fun j hj => by
      have hj3 : j < S3.top := by omega
      rw [h9 j (by omega)]; simp [below hj3, hlow j hj]
    have hlt2 : S.top ≤ S'.top := by simp at h10; omega
    simp only [tsV, extsV, laysV] at hC hS h1 hL hx h5
    generalize hLV : (laysN ts).map Lay'.v = LV at *
    generalize (laysN ts).length = LL at *
    generalize (extsN ts).map Ext'.v = EV at *
    generalize (extsN ts).length = EL at *
    simp at h1 h5
    rw [ev_eq q7, c7, evFn_eq _ _ _ _ _ _ _ (by simp)]
    simp [tsV, hC _, hS _, hkb, h1, h2, h3, h4, hL, hx, hy, below hxl, below hyl, hshort, h5, h6, h7, h8, noProg]
    exact Ups_leave hlow2 hlt2
end
end Mev
