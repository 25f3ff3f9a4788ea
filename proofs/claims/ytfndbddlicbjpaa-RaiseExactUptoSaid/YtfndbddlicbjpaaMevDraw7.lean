/- Regions that draw their order: each order comes to what the text's order comes to. -/
import Derived.Test.YtfndbddlicbjpaaMevDraw6

set_option linter.unusedVariables false
namespace Mev
open Go (Value World Addr Obj Program Operand Op Oper Act Result Next undef Sem Builtin Code Exit Calls Ending Func)

/-- what the last of those that have come has written -/
def lastW (vs : Nat → V) (ops : Array Oper) (v0 : V) (t : Go.Tmp) (p : Nat → Bool) : Nat → V
  | 0 => v0
  | m + 1 => if p m = true ∧ ((ops[m]?).bind (·.dst)) = some t then vs m else lastW vs ops v0 t p m

theorem lastW_cut {vs : Nat → V} {ops : Array Oper} {v0 : V} {t : Go.Tmp} {p : Nat → Bool} {j : Nat} : ∀ m, (∀ i, j ≤ i → i < j + m → ((ops[i]?).bind (·.dst)) = some t → p i = false) → lastW vs ops v0 t p (j + m) = lastW vs ops v0 t p j
  | 0, _ => rfl
  | m + 1, h => by
    rw [← Nat.add_assoc]
    simp only [lastW]
    rw [if_neg, lastW_cut m fun i h1 h2 => h i h1 (by omega)]
    rintro ⟨h1, h2⟩
    rw [h (j + m) (by omega) (by omega) h2] at h1; cases h1
theorem lastW_congr {vs : Nat → V} {ops : Array Oper} {v0 : V} {t : Go.Tmp} {p p' : Nat → Bool} : ∀ m, (∀ i, i < m → ((ops[i]?).bind (·.dst)) = some t → p i = p' i) → lastW vs ops v0 t p m = lastW vs ops v0 t p' m
  | 0, _ => rfl
  | m + 1, h => by
    simp only [lastW]
    rw [lastW_congr m fun i hi => h i (by omega)]
    by_cases hd : ((ops[m]?).bind (·.dst)) = some t
    · rw [h m (by omega) hd]
    · simp [hd]

theorem setO_get {T T' : Env} {d : Option Go.Tmp} {v : V} (h : T.setO d v = some T') (t : Go.Tmp) : T'.n = T.n ∧ (∀ x, d = some x → x < T.n) ∧ T'.get t = if d = some t then v else T.get t := by
  cases d with
  | none => cases h; exact ⟨rfl, by simp, by simp⟩
  | some d =>
    obtain ⟨h1, h2, h3⟩ := Env.get_set h t
    refine ⟨h1, fun x hx => by cases hx; exact h2, ?_⟩
    rw [h3]
    by_cases e : t = d
    · subst e; simp
    · rw [if_neg e, if_neg (fun h => e (Option.some.inj h).symm)]

theorem ds_set {C : Oracle} {q : COper} {x y : Stt} {v : V} (h : DS C q x y v) : x.T.setO q.d v = some y.T := by
  cases h <;> assumption

theorem pure_any {T : Env} {op : CO} {v : V} {S1 : St} (hc : clsOf op = .pure) (h : evOp T ⟨[], 0⟩ op = some (v, S1)) (S : St) : evOp T S op = some (v, S) := by
  have nog : ∀ i, (⟨[], 0⟩ : St).get i = none := fun i => by simp [St.get]
  cases op with
  | slice q x lo hi =>
    simp only [evOp] at h ⊢
    split at h
    · rename_i l h' e1 e2
      obtain ⟨y, hy, e⟩ := Option.map_eq_some_iff.1 h
      cases e
      have : cutS S q (opd T x) l h' = some v := by
        unfold cutS at hy ⊢
        split at hy
        · exact hy
        · unfold sliceS at hy ⊢
          split at hy
          · exact hy
          · exact hy
          · split at hy
            · rename_i hcond; simp only; rw [if_pos hcond]; exact hy
            · rw [nog] at hy; cases hy
          · cases hy
      rw [this]; rfl
    · cases h
  | len q x =>
    simp only [evOp] at h ⊢
    obtain ⟨y', hy', e⟩ := Option.map_eq_some_iff.1 h
    cases e
    obtain ⟨y, hy, e⟩ := bind_some hy'
    cases e
    have : lenOf S q (opd T x) = some y := by
      unfold lenOf at hy ⊢
      cases q with
      | str => exact hy
      | sl => exact hy
      | mp =>
        simp only at hy ⊢
        split at hy
        · exact hy
        · rw [nog] at hy; cases hy
        · cases hy
    rw [this]; rfl
  | mv x => cases h; rfl
  | pick c a b => simp only [evOp] at h ⊢; split at h <;> cases h <;> rfl
  | build z ps =>
    simp only [evOp] at h ⊢
    split at h
    · obtain ⟨y, hy, e⟩ := Option.map_eq_some_iff.1 h
      cases e; rw [hy]; rfl
    · cases h
  | nilchk x => simp only [evOp] at h ⊢; split at h <;> cases h <;> rfl
  | bin op q x y => simp only [evOp] at h ⊢; obtain ⟨y, hy, e⟩ := Option.map_eq_some_iff.1 h; cases e; rw [hy]; rfl
  | una op x => simp only [evOp] at h ⊢; obtain ⟨y, hy, e⟩ := Option.map_eq_some_iff.1 h; cases e; rw [hy]; rfl
  | conv k x => simp only [evOp] at h ⊢; split at h <;> cases h <;> rfl
  | convS x => simp only [evOp] at h ⊢; split at h <;> cases h <;> rfl
  | mkfn f cap => cases h; rfl
  | faddr o x => simp only [evOp] at h ⊢; split at h <;> cases h <;> rfl
  | field ag off n x =>
    simp only [evOp] at h ⊢
    split at h
    · split at h
      · split at h
        · rename_i h1 h2; rw [if_pos h1, if_pos h2]; cases h; rfl
        · cases h
      · rename_i h1
        rw [if_neg h1]
        obtain ⟨y, hy, e⟩ := Option.map_eq_some_iff.1 h; cases e; rw [hy]; rfl
    · cases h
  | iaddr sz x i =>
    simp only [evOp] at h ⊢
    split at h
    · obtain ⟨y, hy, e⟩ := Option.map_eq_some_iff.1 h; cases e; rw [hy]; rfl
    · cases h
  | index x i =>
    simp only [evOp] at h ⊢
    split at h
    · split at h
      · rename_i h1
        rw [if_pos h1]
        obtain ⟨y, hy, e⟩ := Option.map_eq_some_iff.1 h; cases e; rw [hy]; rfl
      · cases h
    · cases h
  | extr x i =>
    simp only [evOp] at h ⊢
    split at h
    · obtain ⟨y, hy, e⟩ := Option.map_eq_some_iff.1 h; cases e; rw [hy]; rfl
    · cases h
  | max xs =>
    simp only [evOp] at h ⊢
    split at h
    · cases h
    · obtain ⟨y, hy, e⟩ := Option.map_eq_some_iff.1 h; cases e; rw [hy]; rfl
  | min xs =>
    simp only [evOp] at h ⊢
    split at h
    · cases h
    · obtain ⟨y, hy, e⟩ := Option.map_eq_some_iff.1 h; cases e; rw [hy]; rfl
  | _ => cases hc

structure Inv (P : Program) (ops : Array Oper) (cl : List COper) (T0 : Env) (S0 : St) (tr : Nat → Stt) (vs : Nat → V) (φ0 : Phi) (w0 : World) (L : Nat → Bool) (a : Act) (w : World) (k : Nat) (φ : Phi) (Z : St) : Prop where
  closed : Closed ops L
  h : InvH P ops cl S0 tr φ0 w0 L k φ Z w
  defers : a.defers = []
  tsz : a.tmps.size = T0.n
  tmp : ∀ t, VR (Wr φ Z.get) w φ (lastW vs ops (T0.get t) t L ops.size) (a.tmps.getD t undef)

section
open Run
variable {P : Program} {C : Oracle} {ops : Array Oper} {cl : List COper} {T0 : Env} {S0 : St} {tr : Nat → Stt} {vs : Nat → V} (R : Run P C ops cl T0 S0 tr vs)
  {φ0 : Phi} {w0 : World} {L : Nat → Bool} {a : Act} {k : Nat} {φ : Phi} {Z : St} {w : World}
include R

theorem Run.T_get (t : Go.Tmp) : ∀ j, j ≤ ops.size → (tr j).T.n = T0.n ∧ (tr j).T.get t = lastW vs ops (T0.get t) t (fun _ => true) j
  | 0, _ => by rw [R.zero]; exact ⟨rfl, rfl⟩
  | j + 1, h => by
    obtain ⟨ih1, ih2⟩ := Run.T_get t j (by omega)
    obtain ⟨o, q, ho, hq, hdst, _, _, _, _, _, hd, _⟩ := R.at_ (j := j) (by omega)
    obtain ⟨h1, _, h3⟩ := setO_get (ds_set hd) t
    refine ⟨h1.trans ih1, ?_⟩
    rw [h3, ih2, hdst]
    simp only [lastW, ho, Option.bind_some, true_and]

theorem inv_step (hok : drawOk P ops = true) (hC : OkC P C) (I : Inv P ops cl T0 S0 tr vs φ0 w0 L a w k φ Z) {j : Nat} {o : Oper} (ho : ops[j]? = some o) (hl : L j = false) (hr : ∀ e ∈ o.after, Go.Region.binds .any e = true → L e.on = true)
    {K : Act → World → Prop} {Q : Exit → Act → World → Prop} (hK : ∀ a' w' k' φ' Z', Inv P ops cl T0 S0 tr vs φ0 w0 (mark L j) a' w' k' φ' Z' → K a' w') : Go.wpOp P ops Q j K a w := by
  have hj : j < ops.size := (Array.getElem?_eq_some_iff.1 ho).1
  obtain ⟨q, hq, hdst, hg, hco, hlo, hhi, hnm⟩ := R.comp j o ho
  have hd := R.step j q hq
  have heB : effB P ops j = (clsOf q.op == .eff) := by
    obtain ⟨o', q', ho', hq', _, _, _, _, _, _, _, he⟩ := R.at_ hj
    rw [hq] at hq'; cases hq'; exact he
  have hbef : ∀ i, befores ops i j = true → L i = true := by
    intro i hb
    obtain ⟨o', ho', e, he, hbd, h1⟩ := before_bit hb
    rw [ho] at ho'; cases ho'
    rcases h1 with h1 | ⟨_, h1⟩
    · rw [← h1]; exact hr e he hbd
    · exact I.closed.bef _ h1 (hr e he hbd)
  have hnot : ∀ i, befores ops j i = true → L i = false := by
    intro i hb
    cases h : L i with
    | false => rfl
    | true => rw [I.closed.bef i hb h] at hl; cases hl
  have hmark : ∀ i, i ≠ j → mark L j i = L i := fun i hi => by simp [mark, hi]
  have hclosed : Closed ops (mark L j) := by
    intro i o' ho' hi e he hb
    have : L e.on = true := by
      by_cases hij : i = j
      · subst hij; rw [ho] at ho'; cases ho'; exact hr e he hb
      · rw [hmark i hij] at hi; exact I.closed i o' ho' hi e he hb
    unfold mark; split
    · rfl
    · exact this
  have hafter : ∀ t, t ∈ namesOf ops o → ∀ i, j < i → ((ops[i]?).bind (·.dst)) = some t → L i = false := by
    intro t ht i hij hdi
    obtain ⟨q', hq', hd'⟩ := Option.bind_eq_some_iff.1 hdi
    rcases apart_any hok (show i ≠ j by omega) hq' ho hd' ht with ⟨h1, _⟩ | ⟨_, h1⟩
    · omega
    · exact hnot i h1
  have hlook : ∀ t, t ∈ looksOf ops o → lastW vs ops (T0.get t) t L ops.size = (tr j).T.get t := by
    intro t ht
    have htn : t ∈ namesOf ops o := List.mem_append_right _ ht
    rw [(Run.T_get R t j (by omega)).2]
    have h1 := lastW_cut (vs := vs) (ops := ops) (v0 := T0.get t) (t := t) (p := L) (j := j) (ops.size - j) (fun i h1 h2 hdi => by
      by_cases hij : i = j
      · subst hij; exact hl
      · exact hafter t htn i (by omega) hdi)
    rw [show j + (ops.size - j) = ops.size by omega] at h1
    rw [h1]
    refine lastW_congr j fun i hi hdi => ?_
    obtain ⟨q', hq', hd'⟩ := Option.bind_eq_some_iff.1 hdi
    rcases apart_any hok (show i ≠ j by omega) hq' ho hd' htn with ⟨_, h1⟩ | ⟨h1, _⟩
    · exact hbef i h1
    · omega
  have hTn := (Run.T_get R 0 j (by omega)).1
  have htr : ∀ nm : List Go.Tmp, (∀ t ∈ nm, t ∈ looksOf ops o) → TR (Wr φ Z.get) w φ ((tr j).T.keep nm) a := by
    intro nm hnm
    refine ⟨I.defers, by rw [I.tsz]; exact hTn.symm, fun t => ?_⟩
    rw [keep_get]
    split
    · rename_i hm
      rw [← hlook t (hnm t hm)]; exact I.tmp t
    · exact .fr _ _ (.un _)
  have htrN : TR (Wr φ Z.get) w φ ((tr j).T.keep q.nm) a := htr _ fun t ht => List.mem_append_right _ (by rw [← hnm]; exact ht)
  have hwant : ∀ c, wantedE (tr j).T q.g = some c → Go.Region.wanted o (Go.yielded ops a.tmps) = c := by
    intro c hc
    refine wanted_of (htr (looksOf ops o) fun t ht => ht) hg ?_
    unfold guardOf at hg
    unfold wantedE at hc ⊢
    split at hg
    · cases hg' : q.g with
      | none => rw [hg'] at hc; exact hc
      | some x => rw [hg'] at hg; cases hg
    · rename_i g b e
      split at hg
      · rename_i t e2
        cases hg' : q.g with
        | none => rw [hg'] at hg; cases hg
        | some x =>
          rw [hg'] at hg hc
          cases hg
          simp only at hc ⊢
          rw [keep_get, if_pos]
          · exact hc
          · exact List.mem_append_left _ (by unfold guardT; rw [e]; simp [e2])
      · cases hg
  have htmp : ∀ (φ' : Phi) (Z' : St) (w' : World) (u : Value), (∀ v u, VR (Wr φ Z.get) w φ v u → VR (Wr φ' Z'.get) w' φ' v u) → VR (Wr φ' Z'.get) w' φ' (vs j) u →
      ∀ t, VR (Wr φ' Z'.get) w' φ' (lastW vs ops (T0.get t) t (mark L j) ops.size) ((a.put o.dst u).tmps.getD t undef) := by
    intro φ' Z' w' u hold hv t
    have hset := setO_get (ds_set hd) t
    by_cases hdt : o.dst = some t
    · have htn : t ∈ namesOf ops o := List.mem_append_left _ (by rw [hdt]; simp)
      have h1 := lastW_cut (vs := vs) (ops := ops) (v0 := T0.get t) (t := t) (p := mark L j) (j := j + 1) (ops.size - (j + 1)) (fun i h1 h2 hdi => by
        rw [hmark i (by omega)]; exact hafter t htn i (by omega) hdi)
      rw [show j + 1 + (ops.size - (j + 1)) = ops.size by omega] at h1
      rw [h1]
      have h2 : lastW vs ops (T0.get t) t (mark L j) (j + 1) = vs j := by
        simp only [lastW]; rw [if_pos]; exact ⟨by simp [mark], by rw [ho]; exact hdt⟩
      rw [h2]
      have hlt : t < a.tmps.size := by
        rw [I.tsz, ← hTn]; exact hset.2.1 t (by rw [hdst]; exact hdt)
      rw [hdt]
      simp [Act.put, hlt]; exact hv
    · have h1 : lastW vs ops (T0.get t) t (mark L j) ops.size = lastW vs ops (T0.get t) t L ops.size := by
        refine lastW_congr _ fun i hi hdi => hmark i ?_
        rintro rfl
        rw [ho] at hdi; exact hdt hdi
      rw [h1]
      have h2 : (a.put o.dst u).tmps.getD t undef = a.tmps.getD t undef := by
        cases hdd : o.dst with
        | none => rfl
        | some d =>
          have : d ≠ t := by rintro rfl; exact hdt hdd
          simp [Act.put, Array.getElem?_setIfInBounds_ne this]
      rw [h2]; exact hold _ _ (I.tmp t)
  have hnext : ∀ (k' : Nat) (φ' : Phi) (Z' : St) (w' : World) (u : Value), InvH P ops cl S0 tr φ0 w0 (mark L j) k' φ' Z' w' → (∀ v u, VR (Wr φ Z.get) w φ v u → VR (Wr φ' Z'.get) w' φ' v u) → VR (Wr φ' Z'.get) w' φ' (vs j) u → K (a.put o.dst u) w' := by
    intro k' φ' Z' w' u h1 h2 h3
    refine hK _ _ _ _ _ ⟨hclosed, h1, ?_, ?_, htmp φ' Z' w' u h2 h3⟩
    · cases o.dst <;> exact I.defers
    · rw [← I.tsz]; cases o.dst <;> simp [Act.put]
  have hkj : effB P ops j = true → cnt (effB P ops) j = k := by
    intro he
    have h1 : ¬ cnt (effB P ops) j < k := fun h => by rw [(I.h.eff j hj he).2 h] at hl; cases hl
    rcases Nat.lt_or_ge k (cnt (effB P ops) j) with h2 | h2
    · obtain ⟨e, k1, k2, k3, k4⟩ := nth_eff (p := effB P ops) (n := ops.size) (c := k) (by have := cnt_lt hj he; omega)
      have h3 := hclosed.chain _ (drawOk_spec hok).1 k (cnt (effB P ops) j) e j h2 k1 (eff_nth hj he) (by simp [mark])
      have hej : e ≠ j := by rintro rfl; omega
      rw [hmark e hej] at h3
      have := (I.h.eff e k2 k3).1 h3
      omega
    · omega
  have hlok : q.lo ≤ k := by
    rw [hlo]; exact lo_le (L := L) fun e he hp hb => (I.h.eff e he hp).1 (hbef e hb)
  have hhik : k ≤ q.hi := by
    rw [hhi]
    refine le_hi I.h.kle fun e he hp hc => ?_
    cases hb : befores ops j e with
    | false => rfl
    | true => have h1 := (I.h.eff e he hp).2 hc; rw [hnot e hb] at h1; cases h1
  unfold Go.wpOp
  simp only [ho]
  have hstep1 := hd
  generalize hy : tr (j + 1) = y at hd
  generalize hvj : vs j = vj at hd
  cases hd with
  | skip T' h ht hc =>
    rw [hwant _ h]
    simp only [Bool.false_eq_true, if_false]
    refine hnext k φ Z w _ (InvH.mark I.h ?_ ?_) (fun _ _ h => h) (by rw [hvj]; exact skip_vr)
    · rintro ⟨q', hq', _, hw⟩
      rw [hq] at hq'; cases hq'; rw [h] at hw; cases hw
    · rw [heB]; exact beq_eq_false_iff_ne.2 hc
  | skipE T' h ht hc hp =>
    rw [hwant _ h]
    simp only [Bool.false_eq_true, if_false]
    have he : effB P ops j = true := by rw [heB, hc]; rfl
    have V := InvH.view R I.h hj he (hkj he)
    obtain ⟨φ', Z', h1, h2, _⟩ := InvH.doEff R I.h hj he (hkj he) hl (φ1 := φ.down (tr j).S.top) (w1 := w) (by rw [hy]; exact Stp.refl V.down)
    exact hnext _ φ' Z' w _ h1 h2 (by rw [hvj]; exact skip_vr)
  | pure v S1 T' h hc he ht =>
    rw [hwant _ h]
    simp only [if_true]
    refine .inl (Good.upon (sim_op I.h.sim htrN hco (pure_any hc he Z)) fun u φ' w' hv hst => ?_)
    refine hnext k φ' Z w' u (InvH.mark (InvH.stp I.h hst) ?_ ?_) (fun _ _ h => hst.vr h) (by rw [hvj]; exact hv)
    · rintro ⟨q', hq', hc', hw⟩
      rw [hq] at hq'; cases hq'; rw [hc] at hc'; cases hc'
    · rw [heB, hc]; rfl
  | alloc v S' T' h hc he ht hf =>
    rw [hwant _ h]
    simp only [if_true]
    obtain ⟨sz, rows, us, e, tot, w', u, hrun, hw', hlk, hus, hle, hS', hvr⟩ := fresh_op (P := P) htrN (fun hx => opd_vr htrN hx) hco hc he
    have hkb : kbLL rows ≤ (tr j).S.top := by
      rw [hS'] at hf
      unfold freshOk at hf
      simpa using hf
    rw [if_pos hkb, pinTo_zero] at hS'
    have hal : Al cl tr j := ⟨q, hq, hc, h⟩
    obtain ⟨φ', Z', h1, h2, h3⟩ := InvH.alloc R I.h hal hl hq hhik (sz := sz) (rows := rows) (by rw [hy]; exact hS') hkb hw' hlk hus hle
    left
    unfold Oper.wp
    rw [hrun]
    exact hnext k φ' Z' w' u h2 h3 (by rw [hvj]; exact hvr _ _ _ h1)
  | load ag n p v T' h hop hv ht hlg =>
    rw [hwant _ h]
    simp only [if_true]
    have hld := R.load_ok hj hq hop h hlok hhik I.h.kle
    rw [hvj] at hld
    have hldZ : evOp ((tr j).T.keep q.nm) Z q.op = some (vj, Z) := by
      rw [hop]
      simp only [evOp]
      have : loadS Z ag n (opd ((tr j).T.keep q.nm) p) = some vj := by
        unfold loadS at hld ⊢
        simp only at hld ⊢
        split at hld
        · exact hld
        · rename_i id g sz idx off e
          split at hld
          · rename_i sz' rows gen lo hg
            rw [I.h.low id (get_lt _ _ hg), hg]; exact hld
          · cases hld
        · cases hld
      rw [this]; rfl
    refine .inl (Good.upon (sim_op I.h.sim htrN hco hldZ) fun u φ' w' hv hst => ?_)
    refine hnext k φ' Z w' u (InvH.mark (InvH.stp I.h hst) ?_ ?_) (fun _ _ h => hst.vr h) (by rw [hvj]; exact hv)
    · rintro ⟨q', hq', hc', hw⟩
      rw [hq] at hq'; cases hq'; rw [hop] at hc'; cases hc'
    · rw [heB, hop]; rfl
  | eff v S' T' h hc he ht hk htop hp =>
    rw [hwant _ h]
    simp only [if_true]
    have heb : effB P ops j = true := by rw [heB, hc]; rfl
    have V := InvH.view R I.h hj heb (hkj heb)
    have htd : TR (Wr (φ.down (tr j).S.top) (tr j).S.get) w (φ.down (tr j).S.top) ((tr j).T.keep q.nm) a := by
      refine ⟨htrN.1, htrN.2.1, fun t => ?_⟩
      by_cases hm : t ∈ q.nm
      · exact V.vr (Nat.le_trans (Env.kb_mem (T := (tr j).T.keep q.nm) hm) hk) (htrN.2.2 t)
      · rw [keep_get, if_neg hm]; exact .fr _ _ (.un _)
    refine .inl (sim_oper hC V.down htd hco he fun u φ1 w1 hv hst => ?_)
    obtain ⟨φ', Z', h1, h2, h3⟩ := InvH.doEff R I.h hj heb (hkj heb) hl (φ1 := φ1) (w1 := w1) (by rw [hy]; exact hst)
    exact hnext _ φ' Z' w1 u h1 h2 (by rw [hvj]; exact h3 _ _ (by rw [hy]; exact hv))

end
end Mev
