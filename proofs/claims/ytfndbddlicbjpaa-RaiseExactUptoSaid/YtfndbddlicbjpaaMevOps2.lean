/- Each operation of the evaluator is the model's: those that only reckon. -/
import Derived.Test.YtfndbddlicbjpaaMevOps1

set_option linter.unusedVariables false
namespace Mev
open Go (Value World Addr Obj Program Operand Op Oper Act Result Next undef Sem)

section
variable {P : Program} {a : Act} {T : Env} {S : St} {w : World} {φ : Phi} (hs : Sim φ S w) (ht : TR (Wr φ S.get) w φ T a) {o : Oper}
include hs ht

theorem sim_mv {x : Operand} {y : Od} (hy : compOd x = some y) (ho : o.op = .move x ∨ o.op = .assign x) : Good φ S w ((Go.execOp a.eval o).run P w) (opd T y) S := by
  refine Good.pure hs (u := a.eval x) ?_ (opd_vr ht hy)
  rcases ho with ho | ho <;> simp [Go.execOp, ho]

theorem sim_pick {c x y : Operand} {c' x' y' : Od} (hc : compOd c = some c') (hx : compOd x = some x') (hy : compOd y = some y') (ho : o.op = .pick c x y) {v : V} {S' : St}
    (h : evOp T S (.pick c' x' y') = some (v, S')) : Good φ S w ((Go.execOp a.eval o).run P w) v S' := by
  have hcv := opd_vr ht hc
  simp only [evOp] at h
  split at h
  · rename_i t e
    cases h
    rw [e] at hcv
    have hb := vr_bool hcv
    refine Good.pure hs (u := if t then a.eval x else a.eval y) ?_ ?_
    · simp [Go.execOp, ho, hb, Go.asBool]
    · cases t
      · exact opd_vr ht hy
      · exact opd_vr ht hx
  · cases h

theorem sim_nilchk {x : Operand} {x' : Od} (hx : compOd x = some x') (ho : o.op = .nilCheck x) {v : V} {S' : St} (h : evOp T S (.nilchk x') = some (v, S')) :
    Good φ S w ((Go.execOp a.eval o).run P w) v S' := by
  have hv := opd_vr ht hx
  simp only [evOp] at h
  split at h
  · rename_i e; cases h
    rw [e] at hv
    obtain ⟨c, n, tot, h1, h2, h3⟩ := vr_ptr hv
    exact Good.pure hs (u := a.eval x) (by simp [Go.execOp, ho, h3]) hv
  · rename_i e; cases h
    rw [e] at hv
    obtain ⟨c, o', h3, _⟩ := vr_rp hv
    exact Good.pure hs (u := a.eval x) (by simp [Go.execOp, ho, h3]) hv
  · rename_i e; cases h
    rw [e] at hv
    obtain ⟨us, h3, _⟩ := vr_fn hv
    exact Good.pure hs (u := a.eval x) (by simp [Go.execOp, ho, h3]) hv
  · cases h

theorem sim_conv {s d : Go.TypeId} {x : Operand} {x' : Od} {k k0 : Go.IntKind} (hx : compOd x = some x') (hs0 : kindOf P s = some k0) (hk : kindOf P d = some k) (ho : o.op = .convert s d x) {v : V} {S' : St}
    (h : evOp T S (.conv k x') = some (v, S')) : Good φ S w ((Go.execOp a.eval o).run P w) v S' := by
  have hv := opd_vr ht hx
  simp only [evOp] at h
  split at h
  · rename_i k1 n e; cases h
    rw [e] at hv
    have h3 := vr_int hv
    have hd : P.underlying d = some (.int k) := by
      unfold kindOf at hk; split at hk
      · rename_i hd; cases hk; exact hd
      · cases hk
    have hsd : P.underlying s = some (.int k0) := by
      unfold kindOf at hs0; split at hs0
      · rename_i hd; cases hs0; exact hd
      · cases hs0
    refine Good.pure hs (u := .int k (k.wrap n)) ?_ (.fr _ _ (.int _ _))
    simp [Go.execOp, ho, h3, Go.convert, Go.run_underlying hd, Go.run_underlying hsd, Go.Conv.intToInt]
  · cases h

theorem sim_convS {s d : Go.TypeId} {x : Operand} {x' : Od} (hx : compOd x = some x') (hs0 : isStr P s = true) (hk : isStr P d = true) (ho : o.op = .convert s d x) {v : V} {S' : St}
    (h : evOp T S (.convS x') = some (v, S')) : Good φ S w ((Go.execOp a.eval o).run P w) v S' := by
  have hv := opd_vr ht hx
  simp only [evOp] at h
  split at h
  · rename_i l e; cases h
    rw [e] at hv
    obtain ⟨b, h3, rfl⟩ := vr_str hv
    have hd : P.underlying d = some .string := by
      unfold isStr at hk; split at hk
      · assumption
      · cases hk
    have hsd : P.underlying s = some .string := by
      unfold isStr at hs0; split at hs0
      · assumption
      · cases hs0
    refine Good.pure hs (u := .string b) ?_ (.fr _ _ (.str _))
    simp [Go.execOp, ho, h3, Go.convert, Go.run_underlying hd, Go.run_underlying hsd]
  · cases h

theorem sim_extr {x : Operand} {x' : Od} {i : Nat} (hx : compOd x = some x') (ho : o.op = .extract x i) {v : V} {S' : St} (h : evOp T S (.extr x' i) = some (v, S')) :
    Good φ S w ((Go.execOp a.eval o).run P w) v S' := by
  have hv := opd_vr ht hx
  simp only [evOp] at h
  split at h
  · rename_i vs e
    rw [e] at hv
    obtain ⟨us, h3, hn, h2⟩ := vr_tup hv
    cases hi : vs[i]? with
    | none => rw [hi] at h; cases h
    | some y =>
      rw [hi] at h; cases h
      obtain ⟨u, hu⟩ := some_of_size hn hi
      refine Good.pure hs (u := u) ?_ (h2 i _ _ hi hu)
      simp [Go.execOp, ho, h3, Go.Instr.extract, hu]
  · cases h

omit hs in
theorem opds_vr : ∀ (l : List Operand) (l' : List Od), compOds l = some l' → l'.length = l.length ∧ ∀ (i : Nat) (v : V) (u : Value), (l'.map (opd T))[i]? = some v → (l.map a.eval)[i]? = some u → VR (Wr φ S.get) w φ v u := by
  intro l
  induction l with
  | nil => intro l' h; simp [compOds] at h; subst h; exact ⟨rfl, fun i v u hv => by simp at hv⟩
  | cons x l ih =>
    intro l' h
    simp only [compOds, List.mapM_cons, Option.bind_eq_bind, Option.bind_eq_some_iff] at h
    obtain ⟨y, hy, l'', hl, h⟩ := h
    cases h
    obtain ⟨h1, h2⟩ := ih l'' hl
    refine ⟨by simp [h1], fun i v u hv hu => ?_⟩
    cases i with
    | zero => simp at hv hu; subst hv hu; exact opd_vr ht hy
    | succ i => exact h2 i v u (by simpa using hv) (by simpa using hu)

theorem sim_mkfn {f : Go.FuncId} {first cap : Array Operand} {cap' : List Od} (hf : first.size = 0) (hc : compOds cap.toList = some cap') (ho : o.op = .makeFunc (.func f) first cap) :
    Good φ S w ((Go.execOp a.eval o).run P w) (.fn f (cap'.map (opd T))) S := by
  have hfirst : first = #[] := Array.eq_empty_of_size_eq_zero hf
  subst hfirst
  obtain ⟨h1, h2⟩ := opds_vr ht _ _ hc
  refine Good.pure hs (u := .func (.func f) #[] (cap.map a.eval)) ?_ (.fn _ _ _ (by simp [h1]) fun i v u hv hu => h2 i v u hv ?_)
  · simp [Go.execOp, ho, Go.Instr.makeFunc]
  · rw [← Array.toList_map, Array.getElem?_toList]; exact hu

theorem sim_faddr {t : Go.TypeId} {x : Operand} {x' : Od} {f off n : Nat} {ag : Bool} (hx : compOd x = some x') (hf : fieldOf P t f = some (off, n, ag)) (hn : n ≠ 0) (ho : o.op = .fieldAddr t x f) {v : V} {S' : St}
    (h : evOp T S (.faddr off x') = some (v, S')) : Good φ S w ((Go.execOp a.eval o).run P w) v S' := by
  have hv := opd_vr ht hx
  unfold fieldOf at hf
  split at hf
  · rename_i fs hu
    split at hf
    · rename_i fd hfd
      split at hf
      · rename_i n' ag' hsz hag
        cases hf
        have run : ∀ (ad : Addr), a.eval x = .pointer (some ad) → (Go.execOp a.eval o).run P w = .ok (.value (.pointer (some (ad.add fd.offset)))) w := by
          intro ad had
          simp [Go.execOp, ho, had, Go.Instr.fieldAt, Go.run_underlying hu, hfd, Go.Instr.sureAddr, Go.fieldPlace, run_sizeOf hsz, hn]
        simp only [evOp] at h
        split at h
        · rename_i id g sz idx off e; cases h
          rw [e] at hv
          obtain ⟨c, n, tot, h1, h2, h3⟩ := vr_ptr hv
          refine Good.pure hs (run _ h3) ?_
          rw [add_plain, Nat.add_assoc]
          exact .ptr _ _ _ _ _ _ _ _ h1 h2
        · rename_i row off e; cases h
          rw [e] at hv
          obtain ⟨c, o', h3, h4, h5, h6⟩ := vr_rp hv
          refine Good.pure hs (run _ h3) ?_
          rw [add_plain, Nat.add_assoc]
          exact .fr _ _ (.rp _ _ _ _ h4 h5 (fun j v hj => by obtain ⟨u, a, _, b⟩ := h6 j v hj; exact ⟨u, a, b⟩) (fun j v u hj hu => by obtain ⟨u', a, b, _⟩ := h6 j v hj; rw [a] at hu; cases hu; exact b))
        · cases h
      · cases hf
    · cases hf
  · cases hf

theorem sim_una {op : Go.UnOp} {t : Go.TypeId} {x : Operand} {x' : Od} (hx : compOd x = some x') (ho : o.op = .unOp op t x) {v : V} {S' : St} (h : evOp T S (.una op x') = some (v, S')) :
    Good φ S w ((Go.execOp a.eval o).run P w) v S' := by
  have hv := opd_vr ht hx
  simp only [evOp] at h
  cases hu : unOp op (opd T x') with
  | none => rw [hu] at h; cases h
  | some y =>
    rw [hu] at h; cases h
    unfold unOp at hu
    split at hu
    · rename_i k n e
      rw [e] at hv
      simp only [intOp] at hu; cases hu
      exact Good.pure hs (u := .int k (k.wrap (0 - n))) (by simp [Go.execOp, ho, vr_int hv, Go.Op.unary, Go.Op.intArith]) (.fr _ _ (.int _ _))
    · rename_i k n e
      rw [e] at hv
      simp only [intOp] at hu; cases hu
      refine Good.pure hs (u := .int k _) ?_ (.fr _ _ (.int _ _))
      simp [Go.execOp, ho, vr_int hv, Go.Op.unary, Go.Op.intBits]
    · rename_i b e
      rw [e] at hv
      cases hu
      exact Good.pure hs (u := .bool (!b)) (by simp [Go.execOp, ho, vr_bool hv, Go.Op.unary]) (.fr _ _ (.bool _))
    · cases hu

theorem sim_index {t : Go.TypeId} {x i : Operand} {x' i' : Od} (hx : compOd x = some x') (hi : compOd i = some i') (hst : isStr P t = true) (ho : o.op = .index t x i) {v : V} {S' : St}
    (h : evOp T S (.index x' i') = some (v, S')) : Good φ S w ((Go.execOp a.eval o).run P w) v S' := by
  have hv := opd_vr ht hx
  have hiv := opd_vr ht hi
  have hd : P.underlying t = some .string := by
    unfold isStr at hst; split at hst
    · assumption
    · cases hst
  simp only [evOp] at h
  split at h
  · rename_i s n e1 e2
    rw [e1] at hv
    obtain ⟨b, hb, rfl⟩ := vr_str hv
    cases hix : opd T i' <;> rw [hix] at e2 <;> simp [asI] at e2
    rename_i k m
    subst e2
    rw [hix] at hiv
    have hin := vr_int hiv
    split at h
    · rename_i h0
      cases hg : (b.data.toList)[m.toNat]? with
      | none => rw [hg] at h; cases h
      | some c =>
        rw [hg] at h; cases h
        refine Good.pure hs (u := .int .u8 c.toNat) ?_ (.fr _ _ (.int _ _))
        have hbg : b[m.toNat]? = some c := by
          rw [Array.getElem?_toList] at hg
          have hlt : m.toNat < b.size := (Array.getElem?_eq_some_iff.1 hg).1
          rw [getElem?_pos b m.toNat hlt]
          rw [Array.getElem?_eq_getElem hlt] at hg
          exact hg
        simp [Go.execOp, ho, hb, hin, Go.Instr.index, Go.asIntOf, Go.run_underlying hd, h0, hbg]
    · cases h
  · cases h

end
end Mev
