/- What the evaluator says, the model does: regions in the text's order, statements, functions. -/
import Derived.Test.YtfndbddlicbjpaaMevOpsC
import Derived.Tactics

set_option linter.unusedVariables false
namespace Mev
open Go (Value World Addr Obj Program Operand Op Oper Act Result Next undef Sem Builtin Code Exit Calls Ending)

/-- values that go together -/
def VRs (W : Nat → Prop) (w : World) (φ : Phi) (vs : List V) (us : Array Value) : Prop :=
  us.size = vs.length ∧ ∀ (i : Nat) v u, vs[i]? = some v → us[i]? = some u → VR W w φ v u

/-- what calls do, as an oracle says -/
def OkC (P : Program) (C : Oracle) : Prop :=
  ∀ f args S r S', C f args S = some (.ret r, S') → (∃ fn, P.funcs[f]? = some fn ∧ fn.name ≠ "runtime.NumGoroutine" ∧ fn.body.isSome = true) ∧
    ∀ (φ : Phi) (w : World) (us : Array Value), Sim φ S w → VRs (Wr φ S.get) w φ args us →
      Calls P f us w fun e w' => ∃ u φ', e = .returned u ∧ VR (Wr φ' S'.get) w' φ' r u ∧ Stp φ S w φ' S' w'

section
variable {P : Program}

theorem TR.put {W : Nat → Prop} {w : World} {φ : Phi} {T T' : Env} {a : Act} {d : Option Go.Tmp} {v : V} {u : Value} (ht : TR W w φ T a) (h : T.setO d v = some T') (hv : VR W w φ v u) : TR W w φ T' (a.put d u) := by
  cases d with
  | none => cases h; exact ht
  | some d =>
    simp only [Env.setO] at h
    refine ⟨ht.1, by rw [(Env.get_set h 0).1, ← ht.2.1]; simp [Act.put], fun t => ?_⟩
    obtain ⟨_, hlt, hg⟩ := Env.get_set h t
    rw [hg]
    have hsz : d < a.tmps.size := by rw [ht.2.1]; exact hlt
    split
    · rename_i e; subst e
      simp [Act.put, hsz]; exact hv
    · rename_i e
      have := ht.2.2 t
      simpa [Act.put, Array.getElem?_setIfInBounds_ne (Ne.symm e)] using this

theorem skip_vr {W : Nat → Prop} {w : World} {φ : Phi} : VR W w φ (.tup []) Go.undef :=
  .tup [] #[] rfl (fun i v u h _ => by simp at h)
theorem vr_skip {W : Nat → Prop} {w : World} {φ : Phi} {u : Value} (h : VR W w φ (.tup []) u) : u = .tuple #[] := by
  cases h with
  | fr _ _ h =>
    cases h with
    | tup _ us hn _ => have := Array.eq_empty_of_size_eq_zero hn; rw [this]
  | tup _ us hn _ => have := Array.eq_empty_of_size_eq_zero hn; rw [this]

theorem wanted_of {W : Nat → Prop} {w : World} {φ : Phi} {T : Env} {a : Act} (ht : TR W w φ T a) {ops : Array Oper} {o : Oper} {g : Option (Go.Tmp × Bool)} {c : Bool} (hg : guardOf ops o = some g) (h : wantedE T g = some c) :
    Go.Region.wanted o (Go.yielded ops a.tmps) = c := by
  unfold guardOf at hg
  unfold Go.Region.wanted
  split at hg
  · rename_i e
    cases hg; cases h; rw [e]
  · rename_i j b e
    rw [e]
    split at hg
    · rename_i t e2
      cases hg
      simp only [wantedE] at h
      split at h
      · rename_i c' e3
        cases h
        have hv := ht.2.2 t
        rw [e3] at hv
        have hu := vr_bool hv
        have : a.tmps[t]? = some (.bool c') := by
          rw [Array.getD_eq_getD_getElem?] at hu
          cases hx : a.tmps[t]? with
          | none => rw [hx] at hu; cases hu
          | some x => rw [hx] at hu; simp at hu; rw [hu]
        simp only [Go.yielded, e2, Option.bind_some, this]
        cases c' <;> cases b <;> rfl
      · rename_i e3
        cases h
        have hv := ht.2.2 t
        rw [e3] at hv
        have hu := vr_skip hv
        rw [Array.getD_eq_getD_getElem?] at hu
        have : ∀ c, a.tmps[t]? ≠ some (.bool c) := by
          intro c hx
          rw [hx] at hu; cases hu
        simp only [Go.yielded, e2, Option.bind_some]
        cases hx : a.tmps[t]? with
        | none => cases b <;> rfl
        | some x =>
          rw [hx] at hu
          simp at hu
          subst hu
          cases b <;> rfl
      · cases h
    · cases hg

theorem Good.upon {φ : Phi} {S S' : St} {w : World} {o : Oper} {a : Act} {v : V} {K : Act → World → Prop} {Q : Exit → Act → World → Prop} (h : Good φ S w ((Go.execOp a.eval o).run P w) v S')
    (hk : ∀ u φ' w', VR (Wr φ' S'.get) w' φ' v u → Stp φ S w φ' S' w' → K (a.put o.dst u) w') : o.wp P a w K Q := by
  obtain ⟨u, φ', w', nx, hr, hn, hv, hst⟩ := h
  unfold Oper.wp
  rw [hr]
  rcases hn with rfl | ⟨rfl, rfl⟩
  · exact hk u φ' w' hv hst
  · exact hk _ φ' w' hv hst

theorem vrs_of {S : St} {w : World} {φ : Phi} {T : Env} {a : Act} (ht : TR (Wr φ S.get) w φ T a) {l : List Operand} {l' : List Od} (h : compOds l = some l') : VRs (Wr φ S.get) w φ (l'.map (opd T)) (l.map a.eval).toArray := by
  obtain ⟨h1, h2⟩ := opds_vr ht l l' h
  exact ⟨by simp [h1], fun i v u hv hu => h2 i v u hv (by simpa using hu)⟩

theorem VRs.append {W : Nat → Prop} {w : World} {φ : Phi} {xs ys : List V} {us vs : Array Value} (h : VRs W w φ xs us) (k : VRs W w φ ys vs) : VRs W w φ (xs ++ ys) (us ++ vs) := by
  refine ⟨by simp [h.1, k.1], fun i v u hv hu => ?_⟩
  rcases Nat.lt_or_ge i xs.length with hi | hi
  · rw [List.getElem?_append_left hi] at hv
    rw [Array.getElem?_append_left (by rw [h.1]; exact hi)] at hu
    exact h.2 i v u hv hu
  · rw [List.getElem?_append_right hi] at hv
    rw [Array.getElem?_append_right (by rw [h.1]; exact hi), h.1] at hu
    exact k.2 _ v u hv hu

theorem comp_shape {op : Op} {c : CO} (hc : compOp P op = some c) : (∀ z, c = .alloc z → ∃ t, op = .alloc t ∧ zeroRow P t = some z) ∧
    (∀ f args, c = .call f args → ∃ c', op = .call c' ∧ ∃ fo, c'.callee = .value fo ∧ compOd fo = some f ∧ compOds c'.args.toList = some args) := by
  cases hop : op with
  | call c' =>
    rw [hop] at hc
    obtain ⟨callee, as, ats⟩ := c'
    cases callee with
    | value fo =>
      obtain ⟨f', h1, hc⟩ := bind_some hc
      obtain ⟨l, h2, hc⟩ := bind_some hc
      cases hc
      exact ⟨nofun, fun _ _ e => by cases e; exact ⟨_, rfl, fo, rfl, h1, h2⟩⟩
    | invoke r m => cases hc <;> exact ⟨nofun, nofun⟩
    | builtin b =>
      cases b with
      | len =>
        simp only [compOp] at hc
        split at hc
        · obtain ⟨q, h1, hc⟩ := bind_some hc
          obtain ⟨x', h2, hc⟩ := bind_some hc
          cases hc <;> exact ⟨nofun, nofun⟩
        · cases hc <;> exact ⟨nofun, nofun⟩
      | append =>
        simp only [compOp] at hc
        split at hc
        · obtain ⟨e, h1, hc⟩ := bind_some hc
          obtain ⟨z, h2, hc⟩ := bind_some hc
          obtain ⟨b, h3, hc⟩ := bind_some hc
          split at hc
          · obtain ⟨s', h4, hc⟩ := bind_some hc
            obtain ⟨x', h5, hc⟩ := bind_some hc
            cases hc <;> exact ⟨nofun, nofun⟩
          · cases hc <;> exact ⟨nofun, nofun⟩
        · cases hc <;> exact ⟨nofun, nofun⟩
      | max => obtain ⟨l, _, hc⟩ := Option.map_eq_some_iff.1 hc; cases hc <;> exact ⟨nofun, nofun⟩
      | min => obtain ⟨l, _, hc⟩ := Option.map_eq_some_iff.1 hc; cases hc <;> exact ⟨nofun, nofun⟩
      | _ => cases hc <;> exact ⟨nofun, nofun⟩
  | move x => rw [hop] at hc; obtain ⟨y, _, hc⟩ := Option.map_eq_some_iff.1 hc; cases hc <;> exact ⟨nofun, nofun⟩
  | assign x => rw [hop] at hc; obtain ⟨y, _, hc⟩ := Option.map_eq_some_iff.1 hc; cases hc <;> exact ⟨nofun, nofun⟩
  | alloc x => rw [hop] at hc; obtain ⟨y, hy, hc⟩ := Option.map_eq_some_iff.1 hc; cases hc; exact ⟨fun _ e => by cases e; exact ⟨_, rfl, hy⟩, nofun⟩
  | nilCheck x => rw [hop] at hc; obtain ⟨y, _, hc⟩ := Option.map_eq_some_iff.1 hc; cases hc <;> exact ⟨nofun, nofun⟩
  | unOp op t x => rw [hop] at hc; obtain ⟨y, _, hc⟩ := Option.map_eq_some_iff.1 hc; cases hc <;> exact ⟨nofun, nofun⟩
  | panic x => rw [hop] at hc; obtain ⟨y, _, hc⟩ := Option.map_eq_some_iff.1 hc; cases hc <;> exact ⟨nofun, nofun⟩
  | extract x i => rw [hop] at hc; obtain ⟨y, _, hc⟩ := Option.map_eq_some_iff.1 hc; cases hc <;> exact ⟨nofun, nofun⟩
  | makeMap t r => rw [hop] at hc; cases r <;> cases hc <;> exact ⟨nofun, nofun⟩
  | mapUpdate t m k x =>
    rw [hop] at hc
    obtain ⟨⟨q, z⟩, h1, hc⟩ := bind_some hc
    obtain ⟨m', h2, hc⟩ := bind_some hc
    obtain ⟨k', h3, hc⟩ := bind_some hc
    obtain ⟨x', h4, hc⟩ := bind_some hc
    cases hc <;> exact ⟨nofun, nofun⟩
  | pick c a b =>
    rw [hop] at hc
    obtain ⟨c', h1, hc⟩ := bind_some hc
    obtain ⟨a', h2, hc⟩ := bind_some hc
    obtain ⟨b', h3, hc⟩ := bind_some hc
    cases hc <;> exact ⟨nofun, nofun⟩
  | box t x =>
    rw [hop] at hc
    obtain ⟨c', h1, hc⟩ := bind_some hc
    obtain ⟨a', h2, hc⟩ := bind_some hc
    cases hc <;> exact ⟨nofun, nofun⟩
  | build t ps =>
    rw [hop] at hc
    simp only [compOp] at hc
    split at hc
    · obtain ⟨y, _, hc⟩ := Option.map_eq_some_iff.1 hc; cases hc <;> exact ⟨nofun, nofun⟩
    · cases hc <;> exact ⟨nofun, nofun⟩
  | buildSlice t n ps =>
    rw [hop] at hc
    obtain ⟨z, h1, hc⟩ := bind_some hc
    split at hc
    · obtain ⟨ps', h3, hc⟩ := bind_some hc; cases hc <;> exact ⟨nofun, nofun⟩
    · cases hc <;> exact ⟨nofun, nofun⟩
  | load t p =>
    rw [hop] at hc
    obtain ⟨c', h1, hc⟩ := bind_some hc
    obtain ⟨a', h2, hc⟩ := bind_some hc
    obtain ⟨b', h3, hc⟩ := bind_some hc
    cases hc <;> exact ⟨nofun, nofun⟩
  | store t p x =>
    rw [hop] at hc
    obtain ⟨c', h1, hc⟩ := bind_some hc
    obtain ⟨a', h2, hc⟩ := bind_some hc
    obtain ⟨b', h3, hc⟩ := bind_some hc
    cases hc <;> exact ⟨nofun, nofun⟩
  | binOp op t x y yt =>
    rw [hop] at hc
    obtain ⟨c', h1, hc⟩ := bind_some hc
    obtain ⟨a', h2, hc⟩ := bind_some hc
    cases hc <;> exact ⟨nofun, nofun⟩
  | convert s d x =>
    rw [hop] at hc
    simp only [compOp] at hc
    split at hc
    · obtain ⟨y, _, hc⟩ := Option.map_eq_some_iff.1 hc; cases hc <;> exact ⟨nofun, nofun⟩
    · split at hc
      · obtain ⟨y, _, hc⟩ := Option.map_eq_some_iff.1 hc; cases hc <;> exact ⟨nofun, nofun⟩
      · cases hc <;> exact ⟨nofun, nofun⟩
  | makeFunc fn first cap =>
    rw [hop] at hc
    simp only [compOp] at hc
    cases fn with
    | func f =>
      simp only at hc
      split at hc
      · obtain ⟨y, _, hc⟩ := Option.map_eq_some_iff.1 hc; cases hc <;> exact ⟨nofun, nofun⟩
      · cases hc <;> exact ⟨nofun, nofun⟩
    | _ => cases hc <;> exact ⟨nofun, nofun⟩
  | makeSlice t l c =>
    rw [hop] at hc
    obtain ⟨e, h1, hc⟩ := bind_some hc
    obtain ⟨z, h2, hc⟩ := bind_some hc
    obtain ⟨b, h3, hc⟩ := bind_some hc
    obtain ⟨l', h4, hc⟩ := bind_some hc
    obtain ⟨c', h5, hc⟩ := bind_some hc
    cases hc <;> exact ⟨nofun, nofun⟩
  | slice t x lo hi mx =>
    rw [hop] at hc
    cases mx with
    | some m => cases hc <;> exact ⟨nofun, nofun⟩
    | none =>
      simp only [compOp] at hc
      split at hc
      · obtain ⟨x', h3, hc⟩ := bind_some hc
        obtain ⟨l', h4, hc⟩ := bind_some hc
        obtain ⟨c', h5, hc⟩ := bind_some hc
        cases hc <;> exact ⟨nofun, nofun⟩
      · cases hc <;> exact ⟨nofun, nofun⟩
  | fieldAddr t x f =>
    rw [hop] at hc
    obtain ⟨⟨o', n, ag⟩, h1, hc⟩ := bind_some hc
    simp only at hc
    split at hc
    · cases hc <;> exact ⟨nofun, nofun⟩
    · obtain ⟨x', h3, hc⟩ := bind_some hc
      cases hc <;> exact ⟨nofun, nofun⟩
  | field t x f =>
    rw [hop] at hc
    obtain ⟨⟨o', n, ag⟩, h1, hc⟩ := bind_some hc
    obtain ⟨x', h3, hc⟩ := bind_some hc
    cases hc <;> exact ⟨nofun, nofun⟩
  | indexAddr t x i =>
    rw [hop] at hc
    obtain ⟨n, h1, hc⟩ := bind_some hc
    obtain ⟨x', h3, hc⟩ := bind_some hc
    obtain ⟨i', h4, hc⟩ := bind_some hc
    cases hc <;> exact ⟨nofun, nofun⟩
  | index t x i =>
    rw [hop] at hc
    simp only [compOp] at hc
    split at hc
    · obtain ⟨x', h3, hc⟩ := bind_some hc
      obtain ⟨i', h4, hc⟩ := bind_some hc
      cases hc <;> exact ⟨nofun, nofun⟩
    · cases hc <;> exact ⟨nofun, nofun⟩
  | _ => rw [hop] at hc; cases hc <;> exact ⟨nofun, nofun⟩

/-- one operation, called or not -/
theorem sim_oper {C : Oracle} (hC : OkC P C) {φ : Phi} {S S' : St} {w : World} {T : Env} {a : Act} {o : Oper} {c : CO} {mt : List (Nat × Nat)} {v : V} {K : Act → World → Prop} {Q : Exit → Act → World → Prop}
    (hs : Sim φ S w) (ht : TR (Wr φ S.get) w φ T a) (hc : compOp P o.op = some c) (h : evOper C T S mt c = some (.ret v, S'))
    (hk : ∀ u φ' w', VR (Wr φ' S'.get) w' φ' v u → Stp φ S w φ' S' w' → K (a.put o.dst u) w') : o.wp P a w K Q := by
  unfold evOper at h
  split at h
  · -- a call
    rename_i f args
    split at h
    · rename_i g cap hf
      have hop := (comp_shape hc).2 _ _ rfl
      obtain ⟨c', hop, fo, hcal, h1, h2⟩ := hop
      have hfv := opd_vr ht h1
      rw [hf] at hfv
      obtain ⟨us, e1, hcap⟩ := vr_fn hfv
      obtain ⟨⟨fn, hfn, hname, hbody⟩, hcall⟩ := hC _ _ _ _ _ h
      have hargs := vrs_of ht h2
      have := hcall φ w _ hs (hargs.append ⟨hcap.1, hcap.2⟩)
      have hrun : (Go.execOp a.eval o).run P w = .ok (.enter g ((c'.args.toList.map a.eval).toArray ++ us)) w := by
        have hb : fn.body ≠ none := by cases hb : fn.body <;> simp_all
        have hmap : c'.args.map a.eval = (c'.args.toList.map a.eval).toArray := by apply Array.ext'; simp
        simp [Go.execOp, hop, Go.resolve, hcal, e1, Go.Deferred.ofValue, Go.invoke, Go.callFunc, hfn, hname, hb, hmap]
      unfold Oper.wp
      rw [hrun]
      refine Calls.mono this fun e w' he => ?_
      obtain ⟨u, φ', rfl, hv, hst⟩ := he
      exact hk u φ' w' hv hst
    · cases h
  · split at h <;> cases h
  · rename_i z
    have hop := (comp_shape hc).1 _ rfl
    obtain ⟨t, hop, hz⟩ := hop
    obtain ⟨⟨z', S1⟩, h1, h2⟩ := Option.map_eq_some_iff.1 h
    cases h2
    exact Good.upon (sim_alloc hs hz hop h1) hk
  · split at h
    · rename_i v1 S1 h1
      cases hm : matV mt v1 S1 with
      | none => rw [hm] at h; cases h
      | some p =>
        rw [hm] at h; cases h
        exact Good.upon ((sim_op hs ht hc h1).mat hm) hk
    · cases h

end
end Mev
