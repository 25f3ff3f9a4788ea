/- What the evaluator says, the model does: functions. -/
import Derived.Test.YtfndbddlicbjpaaMevSim2

set_option linter.unusedVariables false
namespace Mev
open Go (Value World Addr Obj Program Operand Op Oper Act Result Next undef Sem Builtin Code Exit Calls Ending Func)

section
variable {P : Program}

theorem load_run {φ : Phi} {S : St} {w : World} (hs : Sim φ S w) {t : Go.TypeId} {p : V} {pv : Value} {n : Nat} {ag : Bool} (hv : VR (Wr φ S.get) w φ p pv) (hag : aggOf P t = some ag) (hsz : sizeOf P t = some n) {v : V}
    (h : loadS S ag n p = some v) : ∃ ad u, pv = .pointer (some ad) ∧ (Go.loadVar t ad).run P w = .ok u w ∧ VR (Wr φ S.get) w φ v u := by
  have key : ∃ (c o' off : Nat) (row : List V), pv = .pointer (some ⟨c, o' + off, none⟩) ∧ (if ag then (if off + n ≤ row.length then some (.agg ((row.drop off).take n)) else none) else row[off]?) = some v ∧
      ∀ (j : Nat) x, row[j]? = some x → ∃ u, w.cell? ⟨c, o' + j, none⟩ = some u ∧ VR (Wr φ S.get) w φ x u ∧ u.oneCell' = true := by
    unfold loadS at h
    simp only at h
    split at h
    · rename_i row off
      obtain ⟨c, o', h1, h2, h3, h4⟩ := vr_rp hv
      exact ⟨c, o', off, row, h1, h, fun j x hj => by obtain ⟨u, a, b, c⟩ := h4 j x hj; exact ⟨u, a, .fr _ _ b, c⟩⟩
    · rename_i id g sz idx off
      obtain ⟨c, nn, tot, h1, h2, h3⟩ := vr_ptr hv
      split at h
      · rename_i sz' rows gen lo hg
        split at h
        · rename_i hl
          cases hr : rows[idx]? with
          | none => rw [hr] at h; cases h
          | some row =>
            rw [hr] at h
            simp only [Option.bind_some] at h
            obtain ⟨h4, h5, arr, e', h6, h7, h8⟩ := hs.rel.cells _ _ _ _ _ _ _ _ _ hg hl.2.1 hl.2.2 h1
            refine ⟨c, idx * sz, off, row, h3, h, fun j x hj => ?_⟩
            obtain ⟨u, hu, hvr, h9⟩ := h8 idx j x h2 (by simp [at2, hr, hj])
            refine ⟨u, ?_, hvr, h9⟩
            obtain ⟨rfl, _, _⟩ := hl
            unfold World.cell?
            simp only [h6]
            exact hu
        · cases h
      · cases h
    · cases h
  obtain ⟨c, o', off, row, h1, h2, h3⟩ := key
  cases ag with
  | true =>
    simp only [if_true] at h2
    split at h2
    · rename_i hle
      cases h2
      obtain ⟨us, hr, hn, hone, hvr⟩ := run_load_cells (P := P) (φ := φ) (w := w) (W := Wr φ S.get) (ad := ⟨c, o' + off, none⟩) (n := n) (row := (row.drop off).take n) (by simp; omega) (fun j x hj => by
        rw [List.getElem?_take] at hj
        split at hj
        · rw [List.getElem?_drop] at hj
          rw [add_plain, Nat.add_assoc]
          exact h3 _ _ hj
        · cases hj)
      exact ⟨_, .agg us, h1, by simp [Go.loadVar, run_isAgg hag, run_sizeOf hsz, hr], .agg _ _ hn hone hvr⟩
    · cases h2
  | false =>
    simp only [Bool.false_eq_true, if_false] at h2
    obtain ⟨u, hu, hvr, _⟩ := h3 off v h2
    exact ⟨_, u, h1, by simp [Go.loadVar, run_isAgg hag, hu], hvr⟩

def resSem (tmps : Array Value) : Go.ResultVar → Sem Value
  | .tmp t => pure (tmps.getD t undef)
  | .cell x t => do Go.loadVar t (← Go.asAddr (tmps.getD x undef))

theorem res_run {φ : Phi} {S : St} {w : World} {T : Env} {a : Act} (hs : Sim φ S w) (ht : TR (Wr φ S.get) w φ T a) : ∀ (rs : List Go.ResultVar) (cs : List CRes) (vs : List V), rs.mapM (compRes P) = some cs → resOf T S cs = some vs →
    ∃ us : List Value, (rs.mapM (m := Sem) (resSem a.tmps)).run P w = .ok us w ∧ us.length = vs.length ∧ ∀ (i : Nat) v u, vs[i]? = some v → us[i]? = some u → VR (Wr φ S.get) w φ v u := by
  intro rs
  induction rs with
  | nil => intro cs vs h h2; cases h; cases h2; exact ⟨[], by simp, rfl, by simp⟩
  | cons r rs ih =>
    intro cs vs h h2
    rw [List.mapM_cons] at h
    obtain ⟨c, hc, h⟩ := bind_some h
    obtain ⟨cs', hcs, h⟩ := bind_some h
    cases h
    have one : ∀ v u (vs' : List V), (resSem a.tmps r).run P w = .ok u w → VR (Wr φ S.get) w φ v u → resOf T S cs' = some vs' → vs = v :: vs' →
        ∃ us : List Value, ((r :: rs).mapM (m := Sem) (resSem a.tmps)).run P w = .ok us w ∧ us.length = vs.length ∧ ∀ (i : Nat) v u, vs[i]? = some v → us[i]? = some u → VR (Wr φ S.get) w φ v u := by
      intro v u vs' hr hv hrs e
      subst e
      obtain ⟨us, h3, h4, h5⟩ := ih cs' vs' hcs hrs
      refine ⟨u :: us, ?_, by simp [h4], fun i v' u' hv' hu' => ?_⟩
      · rw [List.mapM_cons, Sem.run_bind, hr]
        simp only [Result.andThen_ok, Sem.run_bind, h3]
        simp
      · cases i with
        | zero => simp at hv' hu'; subst hv'; subst hu'; exact hv
        | succ i => exact h5 i v' u' (by simpa using hv') (by simpa using hu')
    cases r with
    | tmp t =>
      cases hc
      simp only [resOf] at h2
      obtain ⟨vs', h3, h4⟩ := Option.map_eq_some_iff.1 h2
      exact one _ _ vs' rfl (ht.2.2 t) h3 h4.symm
    | cell x t =>
      obtain ⟨ag, hag, hc⟩ := bind_some hc
      obtain ⟨n, hn, hc⟩ := bind_some hc
      cases hc
      simp only [resOf] at h2
      split at h2
      · rename_i v vs' h3 h4
        cases h2
        obtain ⟨ad, u, h5, h6, h7⟩ := load_run hs (ht.2.2 x) hag hn h3
        refine one v u vs' ?_ h7 h4 rfl
        simp only [resSem, h5, Go.asAddr, Sem.run_bind, Sem.run_pure, Result.andThen_ok]
        exact h6
      · cases h2

theorem args_get (args : List V) : ∀ (i t : Nat), look t (argsEnv i args) = if i ≤ t then (args[t - i]?).getD .un else .un := by
  induction args with
  | nil => intro i t; simp [argsEnv, look]
  | cons v r ih =>
    intro i t
    simp only [argsEnv, look, ih]
    by_cases e : t = i
    · subst e; simp
    · rw [if_neg e]
      by_cases h : i ≤ t
      · rw [if_pos (by omega), if_pos h]
        have : t - i = (t - (i + 1)) + 1 := by omega
        rw [this, List.getElem?_cons_succ]
      · rw [if_neg (by omega), if_neg h]

theorem sim_leave {φ φ' : Phi} {S S' : St} {w w' : World} (hs : Sim φ S w) (h : Stp φ S w φ' S' w') {v : V} {u : Value} (hv : VR (Wr φ' S'.get) w' φ' v u) :
    ∃ φ'', Stp φ S w φ'' (leave (S.top, S.pin) v S') w' ∧ VR (Wr φ'' (leave (S.top, S.pin) v S').get) w' φ'' v u := by
  unfold leave
  split
  · rename_i hc
    obtain ⟨φ'', h1, h2⟩ := Stp.trunc hs h hc.2.1
    exact ⟨φ'', h1, h2 v u hc.1 hv⟩
  · exact ⟨φ', h, hv⟩

theorem sim_fn {C : Oracle} (hC : OkC P C) (hD : DrawOk P C) (A : Ann) (n : Nat) {f : Go.FuncId} {fn : CFn} (hf : compFn P A f = some fn) {args : List V} {S S' : St} {r : V} (h : evFn C (loopK n) fn args S = some (.ret r, S')) :
    (∃ fn, P.funcs[f]? = some fn ∧ fn.name ≠ "runtime.NumGoroutine" ∧ fn.body.isSome = true) ∧
    ∀ (φ : Phi) (w : World) (us : Array Value), Sim φ S w → VRs (Wr φ S.get) w φ args us →
      Calls P f us w fun e w' => ∃ u φ', e = .returned u ∧ VR (Wr φ' S'.get) w' φ' r u ∧ Stp φ S w φ' S' w' := by
  unfold compFn at hf
  split at hf
  · cases hf
  · rename_i F hF
    split at hf
    · cases hf
    · rename_i c hbody
      split at hf
      · cases hf
      · rename_i hname
        obtain ⟨rs, hrs, hf⟩ := bind_some hf
        obtain ⟨cc, hcc, hf⟩ := bind_some hf
        cases hf
        refine ⟨⟨F, hF, hname, by simp [hbody]⟩, fun φ w us hs hus => ?_⟩
        unfold evFn at h
        split at h
        · cases h
        · rename_i hlen
          simp only at hlen
          refine Go.calls_of_wp hF hbody ?_
          have ht : TR (Wr φ S.get) w φ ⟨F.ntmps, argsEnv 0 args⟩ { tmps := us ++ Array.replicate (F.ntmps - us.size) undef, defers := [] } := by
            refine ⟨rfl, by simp [hus.1]; omega, fun t => ?_⟩
            rw [get_mk, args_get, if_pos (Nat.zero_le _), Nat.sub_zero]
            rcases Nat.lt_or_ge t args.length with hlt | hge
            · obtain ⟨u, hu⟩ := some_of_size (us := us) hus.1 (List.getElem?_eq_getElem hlt)
              rw [List.getElem?_eq_getElem hlt]
              simp only [Option.getD_some]
              have hget : (us ++ Array.replicate (F.ntmps - us.size) undef).getD t undef = u := by
                rw [Array.getD_eq_getD_getElem?, Array.getElem?_append_left (by rw [hus.1]; exact hlt), hu]; rfl
              rw [hget]
              exact hus.2 t _ u (List.getElem?_eq_getElem hlt) hu
            · rw [List.getElem?_eq_none hge]; exact .fr _ _ (.un _)
          have hrun : ∀ (a' : Act) (φ' : Phi) (w' : World) (T' : Env) (S1 : St), Stp φ S w φ' S1 w' → TR (Wr φ' S1.get) w' φ' T' a' → ((resOf T' S1 rs).map fun vs => (Out.ret (oneOrTup vs), leave (S.top, S.pin) (oneOrTup vs) S1)) = some (.ret r, S') →
              a'.defers = [] ∧ ∃ v, (Go.results F a'.tmps).run P w' = .ok v w' ∧ ∃ u φ', Ending.returned v = .returned u ∧ VR (Wr φ' S'.get) w' φ' r u ∧ Stp φ S w φ' S' w' := by
            intro a' φ' w' T' S1 hst ht' hr
            refine ⟨ht'.1, ?_⟩
            obtain ⟨vs, h1, h2⟩ := Option.map_eq_some_iff.1 hr
            cases h2
            obtain ⟨us', h3, h4, h5⟩ := res_run hst.sim ht' _ _ _ hrs h1
            have hone : ∃ u, (Go.results F a'.tmps).run P w' = .ok u w' ∧ VR (Wr φ' S1.get) w' φ' (oneOrTup vs) u := by
              have hres : Go.results F a'.tmps = (do let vs ← F.results.mapM (resSem a'.tmps); pure (if h : vs.size = 1 then vs[0] else .tuple vs) : Sem Value) := by
                unfold Go.results
                congr 1
              rw [hres, Array.mapM_eq_mapM_toList]
              refine ⟨if h : us'.toArray.size = 1 then us'.toArray[0] else .tuple us'.toArray, ?_, ?_⟩
              · simp only [Sem.run_bind, map_eq_pure_bind, Sem.run_pure, Result.andThen_ok, h3]
              · cases vs with
                | nil =>
                  obtain rfl : us' = [] := List.length_eq_zero_iff.1 h4
                  simp only [oneOrTup]
                  exact .tup _ _ rfl (by simp)
                | cons v vs =>
                  cases vs with
                  | nil =>
                    obtain ⟨u, rfl⟩ := List.length_eq_one_iff.1 (by simpa using h4)
                    simp only [oneOrTup]
                    simpa using h5 0 v u rfl rfl
                  | cons v2 vs =>
                    have : ¬ (us'.toArray.size = 1) := by simp [h4]
                    rw [dif_neg this]
                    simp only [oneOrTup]
                    exact .tup _ _ (by simp [h4]) (fun i v u hv hu => h5 i v u hv (by simpa using hu))
            obtain ⟨u, h6, h7⟩ := hone
            obtain ⟨φ'', h8, h9⟩ := sim_leave hs hst h7
            exact ⟨u, h6, u, φ'', rfl, h9, h8⟩
          split at h
          · rename_i T' S1 h1
            exact sim_code hC hD A f n c none cc hcc _ _ _ _ _ φ w _ _ h1 (fun v e => by cases e) hs ht fun a' φ' w' h2 h3 => hrun a' φ' w' T' S1 h2 h3 h
          · rename_i T' S1 h1
            exact sim_code hC hD A f n c none cc hcc _ _ _ _ _ φ w _ _ h1 (fun v e => by cases e) hs ht fun a' φ' w' h2 h3 => hrun a' φ' w' T' S1 h2 h3 h
          · cases h
          · cases h

theorem sim_all (A : Ann) (hD : ∀ C, OkC P C → DrawOk P C) : ∀ n, OkC P (evF (table P A) n) := by
  intro n
  induction n with
  | zero => intro f args S r S' h; cases h
  | succ n ih =>
    intro f args S r S' h
    simp only [evF, evBody] at h
    split at h
    · cases h
    · rename_i fn hfn
      exact sim_fn ih (hD _ ih) A n hfn h

end
end Mev
