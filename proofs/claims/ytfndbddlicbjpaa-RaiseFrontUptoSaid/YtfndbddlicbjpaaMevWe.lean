/- The program's functions, one equation each: the encoder, whole. -/
import Derived.Test.YtfndbddlicbjpaaMevWd

set_option maxRecDepth 100000
namespace Mev
open Go Go.Proofs

section
variable (ts : List Typ) (sp : List (List V)) (hn : ts.length ≤ 1073741824) (rv : V) (rs : List (List UInt8 × Int)) (hrv : RootsV rv rs)
include hn hrv

theorem enc_long (hw : WfTs ts) (a : Int) (hC : Pure 11 [.agg [tsV ts sp, rv]] (.agg [.int .i64 0, .int .i64 a])) (hm : mostOk ts) (hlong : 1048576 < ts.length) (S : St) :
    ∃ S', ev Q 7 [.agg [tsV ts sp, rv]] S = some (.ret (.tup [noProg, .int .i64 4]), S') ∧ Ups S S' := by
  have hkb := rv_kb rv rs hrv
  have hS := sizeOf_ev ts sp hn rv hkb hw a hC
  obtain ⟨l, h1, h2, h3, h4⟩ := (size_loop (extsN ts) (by rw [extsN_len]; exact hn) S.top (S.top + 1) (by omega) (extsN ts).length 0 ((S.push (.cells 2 [[tsV ts sp, rv]] 0 0)).push (.cells 3 [[.bool false, .nils, .nils]] 0 0)) (by omega) (by simp)).1 (fun j e _ h => hm j e h)
  obtain ⟨S3, hL, hU⟩ := layoutOf_ev ts sp hn rv hkb hw a hC ((S.push (.cells 2 [[tsV ts sp, rv]] 0 0)).push (.cells 3 [[.bool false, .nils, .nils]] 0 0))
  have hx : S3.get S.top = some (.cells 2 [[tsV ts sp, rv]] 0 0) := by rw [hU.2 _ (by simp)]; simp
  have hy : S3.get (S.top + 1) = some (.cells 3 [[.bool false, .nils, .nils]] 0 0) := by rw [hU.2 _ (by simp)]; simp
  have hlow : ∀ j, j < S.top → S3.get j = S.get j := fun j hj => by rw [hU.2 _ (by simp; omega)]; simp [below hj]
  have hlt : S.top ≤ S3.top := by have := hU.1; simp at this; omega
  have hlong' : (1048576 : Int) < ts.length := by omega
  have hps := put_self _ _ hy
  simp only [tsV, extsV, laysV] at hC hS h1 hL hx
  generalize hLV : (laysN ts).map Lay'.v = LV at *
  generalize (laysN ts).length = LL at *
  generalize (extsN ts).map Ext'.v = EV at *
  generalize (extsN ts).length = EL at *
  simp at h1
  rw [ev_eq q7, c7, evFn_eq _ _ _ _ _ _ _ (by simp)]
  simp [tsV, hC _, hS _, hkb, h1, h2, h3, h4, hL, hx, hlong', hy, hps, noProg]
  exact Ups_leave hlow hlt
end
end Mev
