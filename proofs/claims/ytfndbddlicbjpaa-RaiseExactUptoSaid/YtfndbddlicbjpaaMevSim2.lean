/- What the evaluator says, the model does: regions in the text's order, statements, functions. -/
import Derived.Test.YtfndbddlicbjpaaMevSim

set_option linter.unusedVariables false
namespace Mev
open Go (Value World Addr Obj Program Operand Op Oper Act Result Next undef Sem Builtin Code Exit Calls Ending Func)

section
variable {P : Program}

theorem sim_plain {C : Oracle} (hC : OkC P C) (A : Ann) (f id : Nat) (ops : Array Oper) (Q : Exit → Act → World → Prop) : ∀ (l : List Oper) (i : Nat) (cl : List COper) (T T' : Env) (S S' : St) (φ : Phi) (w : World) (a : Act),
    compPlain P A f id ops i l = some cl → evOps C cl T S = some (.norm, T', S') → Sim φ S w → TR (Wr φ S.get) w φ T a →
    (∀ a' φ' w', Stp φ S w φ' S' w' → TR (Wr φ' S'.get) w' φ' T' a' → Q .normal a' w') → Go.wpList P ops Q l a w := by
  intro l
  induction l with
  | nil => intro i cl T T' S S' φ w a hc h hs ht hk; cases hc; cases h; exact hk a φ w (Stp.refl hs) ht
  | cons o l ih =>
    intro i cl T T' S S' φ w a hc h hs ht hk
    obtain ⟨g, hg, hc⟩ := bind_some hc
    obtain ⟨c, hco, hc⟩ := bind_some hc
    obtain ⟨cl', hcl, hc⟩ := bind_some hc
    cases hc
    simp only [evOps] at h
    split at h
    · cases h
    · rename_i T1 S1 hgh
      obtain ⟨hst1, ht1⟩ := sim_ghosts a w φ _ _ _ _ _ hs ht hgh
      split at h
      · cases h
      · rename_i hw
        split at h
        · rename_i T2 hT2
          simp only [Go.wpList, wanted_of ht1 hg hw, Bool.false_eq_true, if_false]
          exact ih _ _ _ _ _ _ φ w _ hcl h hst1.sim (TR.put ht1 hT2 skip_vr) fun a' φ' w' h1 h2 => hk a' φ' w' (hst1.trans h1) h2
        · cases h
      · rename_i hw
        split at h
        · rename_i v S2 he
          split at h
          · rename_i T2 hT2
            simp only [Go.wpList, wanted_of ht1 hg hw, if_true]
            refine .inl (sim_oper hC hst1.sim ht1 hco he fun u φ2 w2 hv hst2 => ?_)
            exact ih _ _ _ _ _ _ φ2 w2 _ hcl h hst2.sim (TR.put (TR.stp hst2 ht1) hT2 hv) fun a' φ' w' h1 h2 => hk a' φ' w' (hst1.trans (hst2.trans h1)) h2
          · cases h
        · cases h
        · cases h

/-- what a region that draws its order does -/
def DrawOk (P : Program) (C : Oracle) : Prop :=
  ∀ (id : Nat) (ops : Array Oper) (cl : List COper) (T T' : Env) (S S' : St) (φ : Phi) (w : World) (a : Act) (Q : Exit → Act → World → Prop), drawOk P ops = true → compDraw P ops 0 ops.toList = some cl →
    evDraw C cl [S] [] T S = some (.norm, T', S') → Sim φ S w → TR (Wr φ S.get) w φ T a → (∀ a' φ' w', Stp φ S w φ' S' w' → TR (Wr φ' S'.get) w' φ' T' a' → Q .normal a' w') → (Code.region id ops true).wp P Q a w

theorem evOps_ex {C : Oracle} : ∀ (l : List COper) (T T' : Env) (S S' : St) (ex : Ex), evOps C l T S = some (ex, T', S') → ex = .norm ∨ ∃ v, ex = .pan v := by
  intro l
  induction l with
  | nil => intro T T' S S' ex h; cases h; exact .inl rfl
  | cons o l ih =>
    intro T T' S S' ex h
    simp only [evOps] at h
    split at h
    · cases h
    · split at h
      · cases h
      · split at h
        · exact ih _ _ _ _ _ h
        · cases h
      · split at h
        · split at h
          · exact ih _ _ _ _ _ h
          · cases h
        · cases h; exact .inr ⟨_, rfl⟩
        · cases h
theorem evDraw_ex {C : Oracle} : ∀ (l : List COper) (lg : List St) (pd : List Pend) (T T' : Env) (S S' : St) (ex : Ex), evDraw C l lg pd T S = some (ex, T', S') → ex = .norm ∨ ∃ v, ex = .pan v := by
  intro l
  induction l with
  | nil => intro lg pd T T' S S' ex h; cases h; exact .inl rfl
  | cons o l ih =>
    intro lg pd T T' S S' ex h
    simp only [evDraw] at h
    repeat' split at h
    all_goals first
      | (cases h; done)
      | exact ih _ _ _ _ _ _ _ h
      | (cases h; exact .inr ⟨_, rfl⟩)

def exitOf : Ex → Exit
  | .norm => .normal
  | .exit i => .exit i
  | .goto l => .goto l
  | .ret => .ret
  | .pan _ => .normal

theorem Env.kb_mem {T : Env} : ∀ {ts : List Go.Tmp} {t : Go.Tmp}, t ∈ ts → (T.get t).kb ≤ T.kb ts
  | u :: ts, t, h => by
    simp only [Env.kb]
    rcases List.mem_cons.1 h with rfl | h
    · omega
    · have := Env.kb_mem (T := T) h; omega

theorem keep_get (T : Env) : ∀ (ts : List Go.Tmp) (t : Go.Tmp), (T.keep ts).get t = if t ∈ ts then T.get t else .un := by
  intro ts t
  show look t (ts.map fun t => (t, T.get t)) = _
  induction ts with
  | nil => simp [look]
  | cons u ts ih =>
    simp only [List.map_cons, look, ih]
    by_cases e : t = u
    · subst e; simp
    · simp [e]

theorem TR.keep {W : Nat → Prop} {w : World} {φ : Phi} {T : Env} {a : Act} (ht : TR W w φ T a) (ts : List Go.Tmp) : TR W w φ (T.keep ts) a := by
  refine ⟨ht.1, ht.2.1, fun t => ?_⟩
  rw [keep_get]
  split
  · exact ht.2.2 t
  · exact .fr _ _ (.un _)

/-- the blocks of a round go -/
theorem Stp.trunc {φ φ' : Phi} {S S' : St} {w w' : World} (hs : Sim φ S w) (h : Stp φ S w φ' S' w') (hp : S'.pin = S.pin) : ∃ φ'' : Phi, Stp φ S w φ'' (S'.trunc S.top) w' ∧
    ∀ v u, v.kb ≤ S.top → VR (Wr φ' S'.get) w' φ' v u → VR (Wr φ'' (S'.trunc S.top).get) w' φ'' v u := by
  obtain ⟨φ'', h1, h2, h3, h4⟩ := h.sim.trunc S.top (by rw [hp]; exact hs.pinle) h.top
  refine ⟨φ'', ⟨h3, ⟨fun id g l e => ?_, h2.trans h.ext.x⟩, h.fr, fun c hc hn => h4 c (h.wr c hc hn), h.x, ?_, fun id g l e => ?_⟩, fun v u hv hvr => hvr.mono' (Fr.refl _ _) (fun c _ hn => h4 c hn) fun id g l e hi => ?_⟩
  · rw [h1 id g (hs.dom _ _ _ e)]; exact h.ext.e _ _ _ e
  · rw [top_trunc_min]; have := h.top; omega
  · by_cases hlt : id < S.top
    · rw [h1 id g hlt] at e; exact h.new _ _ _ e
    · exact .inr (by omega)
  · rw [h1 id g (by omega)]; exact e

theorem sim_settle {φ φ' : Phi} {S S' : St} {w w' : World} {T : Env} {a : Act} (hs : Sim φ S w) (h : Stp φ S w φ' S' w') (ht : TR (Wr φ' S'.get) w' φ' T a) (lv : Option (List Go.Tmp)) :
    ∃ φ'', Stp φ S w φ'' (settle lv (S.top, S.pin) T S').2 w' ∧ TR (Wr φ'' (settle lv (S.top, S.pin) T S').2.get) w' φ'' (settle lv (S.top, S.pin) T S').1 a := by
  cases lv with
  | none => exact ⟨φ', h, ht⟩
  | some ts =>
    simp only [settle]
    split
    · rename_i hc
      obtain ⟨φ'', h1, h2⟩ := Stp.trunc hs h hc.2.1
      refine ⟨φ'', h1, ht.1, ht.2.1, fun t => ?_⟩
      rw [keep_get]
      split
      · rename_i hm
        exact h2 _ _ (Nat.le_trans (Env.kb_mem hm) hc.1) (ht.2.2 t)
      · exact .fr _ _ (.un _)
    · exact ⟨φ', h, ht.keep ts⟩

/-- a loop, a number of rounds -/
def loopWp (P : Program) (c : Code) (Q : Exit → Act → World → Prop) : Nat → Act → World → Prop
  | 0, _, _ => False
  | n + 1, a, w => c.wp P (Exit.then (loopWp P c Q n) Q) a w

theorem wp_loop_n {c : Code} {Q : Exit → Act → World → Prop} (n : Nat) {a : Act} {w : World} (h : loopWp P c Q n a w) : (Code.loop c).wp P Q a w := by
  intro b k cs
  have key : ∀ n a w, loopWp P c Q n a w → ∃ e a' w', Q e a' w' ∧ Go.Arrives P (Go.lone (b.at a (.code c :: .inLoop c :: k)) cs w) b k cs e a' w' := by
    intro n
    induction n with
    | zero => intro a w h; exact h.elim
    | succ n ih =>
      intro a w h
      obtain ⟨e, a₁, w₁, hq, harr⟩ := h b (.inLoop c :: k) cs
      cases e with
      | normal =>
        obtain ⟨e₂, a₂, w₂, hq₂, harr₂⟩ := ih a₁ w₁ hq
        exact ⟨e₂, a₂, w₂, hq₂, .of_steps (Go.Steps.trans harr (.one Go.step_inLoop)) harr₂⟩
      | exit id => exact ⟨_, a₁, w₁, hq, .pass (x := .inLoop c) rfl (fun _ _ => .inl (by simp)) harr⟩
      | goto l => exact ⟨_, a₁, w₁, hq, .pass (x := .inLoop c) rfl (fun _ _ => .inl (by simp)) harr⟩
      | ret => exact ⟨_, a₁, w₁, hq, .pass (x := .inLoop c) rfl (fun _ _ => .inl (by simp)) harr⟩
      | panic ch => exact ⟨_, a₁, w₁, hq, .pass (x := .inLoop c) rfl (fun _ _ => .inl (by simp)) harr⟩
      | outgrown => exact ⟨_, a₁, w₁, hq, .pass (x := .inLoop c) rfl (fun _ _ => .inl (by simp)) harr⟩
  obtain ⟨e, a', w', hq, harr⟩ := key n a w h
  exact ⟨e, a', w', hq, .of_steps (.one Go.step_loop) harr⟩

/-- what a statement does -/
def StmtOk (P : Program) (c : Code) (ev : Env → St → Option (Ex × Env × St)) : Prop :=
  ∀ (T T' : Env) (S S' : St) (ex : Ex) (φ : Phi) (w : World) (a : Act) (Q : Exit → Act → World → Prop), ev T S = some (ex, T', S') → (∀ v, ex ≠ .pan v) → Sim φ S w → TR (Wr φ S.get) w φ T a →
    (∀ a' φ' w', Stp φ S w φ' S' w' → TR (Wr φ' S'.get) w' φ' T' a' → Q (exitOf ex) a' w') → c.wp P Q a w

theorem sim_loop {c : Code} {ev : Env → St → Option (Ex × Env × St)} (hb : StmtOk P c ev) (lv : Option (List Go.Tmp)) (S0 : St) (φ0 : Phi) (w0 : World) (hs0 : Sim φ0 S0 w0) (Q : Exit → Act → World → Prop) :
    ∀ (n : Nat) (T T' : Env) (S S' : St) (ex : Ex) (φ : Phi) (w : World) (a : Act), loopN lv (S0.top, S0.pin) ev n T S = some (ex, T', S') → (∀ v, ex ≠ .pan v) → Stp φ0 S0 w0 φ S w → TR (Wr φ S.get) w φ T a →
    (∀ a' φ' w', Stp φ0 S0 w0 φ' S' w' → TR (Wr φ' S'.get) w' φ' T' a' → Q (exitOf ex) a' w') → loopWp P c Q n a w := by
  intro n
  induction n with
  | zero => intro T T' S S' ex φ w a h; cases h
  | succ n ih =>
    intro T T' S S' ex φ w a h hp hst ht hk
    simp only [loopN] at h
    split at h
    · rename_i T1 S1 h1
      refine hb _ _ _ _ _ φ w a _ h1 (fun v e => by cases e) hst.sim ht fun a' φ' w' h2 h3 => ?_
      obtain ⟨φ2, h4, h5⟩ := sim_settle hs0 (hst.trans h2) h3 lv
      exact ih _ _ _ _ _ φ2 w' a' h hp h4 h5 hk
    · rename_i r hr
      have hne : ex ≠ .norm := by
        rintro rfl
        exact hr _ _ h
      refine hb _ _ _ _ _ φ w a _ h hp hst.sim ht fun a' φ' w' h2 h3 => ?_
      have := hk a' φ' w' (hst.trans h2) h3
      cases ex <;> simp_all [exitOf, Exit.then]

theorem sim_code {C : Oracle} (hC : OkC P C) (hD : DrawOk P C) (A : Ann) (f n : Nat) : ∀ (c : Code) (lv : Option (List Go.Tmp)) (cc : CC), compC P A f c lv = some cc → StmtOk P c (evC C (loopK n) cc) := by
  intro c
  induction c with
  | skip =>
    intro lv cc hc T T' S S' ex φ w a Q h hp hs ht hk
    cases hc; cases h
    exact Go.wp_skip (hk a φ w (Stp.refl hs) ht)
  | region id ops draw =>
    intro lv cc hc T T' S S' ex φ w a Q h hp hs ht hk
    cases draw with
    | true =>
      simp only [compC, if_true] at hc
      split at hc
      · rename_i hok
        obtain ⟨cl, hcl, rfl⟩ := Option.map_eq_some_iff.1 hc
        simp only [evC] at h
        rcases evDraw_ex _ _ _ _ _ _ _ _ h with rfl | ⟨v, rfl⟩
        · exact hD id ops cl T T' S S' φ w a Q hok hcl h hs ht hk
        · exact absurd rfl (hp v)
      · cases hc
    | false =>
      simp only [compC, Bool.false_eq_true, if_false] at hc
      obtain ⟨cl, hcl, rfl⟩ := Option.map_eq_some_iff.1 hc
      simp only [evC] at h
      rcases evOps_ex _ _ _ _ _ _ h with rfl | ⟨v, rfl⟩
      · exact Go.wp_region_list (sim_plain hC A f id ops Q _ 0 cl T T' S S' φ w a hcl h hs ht hk)
      · exact absurd rfl (hp v)
  | seq x y ihx ihy =>
    intro lv cc hc T T' S S' ex φ w a Q h hp hs ht hk
    obtain ⟨x', hx, hc⟩ := bind_some hc
    obtain ⟨y', hy, hc⟩ := bind_some hc
    cases hc
    simp only [evC] at h
    refine Go.wp_seq ?_
    unfold seqEx at h
    split at h
    · rename_i T1 S1 h1
      refine ihx none x' hx _ _ _ _ _ φ w a _ h1 (fun v e => by cases e) hs ht fun a' φ' w' h2 h3 => ?_
      exact ihy none y' hy _ _ _ _ _ φ' w' a' _ h hp h2.sim h3 fun a'' φ'' w'' h4 h5 => hk a'' φ'' w'' (h2.trans h4) h5
    · rename_i r hr
      have hne : ex ≠ .norm := by
        rintro rfl
        exact hr _ _ h
      refine ihx none x' hx _ _ _ _ _ φ w a _ h hp hs ht fun a' φ' w' h2 h3 => ?_
      have := hk a' φ' w' h2 h3
      cases ex <;> simp_all [exitOf, Exit.then]
  | cond cnd x y ihx ihy =>
    intro lv cc hc T T' S S' ex φ w a Q h hp hs ht hk
    obtain ⟨c', hcd, hc⟩ := bind_some hc
    obtain ⟨x', hx, hc⟩ := bind_some hc
    obtain ⟨y', hy, hc⟩ := bind_some hc
    cases hc
    have hv := opd_vr ht hcd
    simp only [evC] at h
    split at h
    · rename_i e
      rw [e] at hv
      exact Go.wp_cond_true (vr_bool hv) (ihx none x' hx _ _ _ _ _ φ w a _ h hp hs ht hk)
    · rename_i e
      rw [e] at hv
      exact Go.wp_cond_false (vr_bool hv) (ihy none y' hy _ _ _ _ _ φ w a _ h hp hs ht hk)
    · cases h
  | block id c ih =>
    intro lv cc hc T T' S S' ex φ w a Q h hp hs ht hk
    obtain ⟨c', hc', rfl⟩ := Option.map_eq_some_iff.1 hc
    simp only [evC] at h
    refine Go.wp_block ?_
    unfold blockEx at h
    split at h
    · rename_i i T1 S1 h1
      split at h
      · rename_i e
        subst e
        cases h
        exact ih _ c' hc' _ _ _ _ _ φ w a _ h1 (fun v e => by cases e) hs ht fun a' φ' w' h2 h3 => by
          simp only [exitOf, Exit.inBlock, if_true]; exact hk a' φ' w' h2 h3
      · rename_i e
        cases h
        exact ih _ c' hc' _ _ _ _ _ φ w a _ h1 (fun v e => by cases e) hs ht fun a' φ' w' h2 h3 => by
          simp only [exitOf, Exit.inBlock, if_neg e]; exact hk a' φ' w' h2 h3
    · rename_i r hr
      refine ih _ c' hc' _ _ _ _ _ φ w a _ h hp hs ht fun a' φ' w' h2 h3 => ?_
      have := hk a' φ' w' h2 h3
      cases ex with
      | exit i => exact absurd h (hr _ _ _)
      | _ => exact this
  | loop c ih =>
    intro lv cc hc T T' S S' ex φ w a Q h hp hs ht hk
    obtain ⟨c', hc', rfl⟩ := Option.map_eq_some_iff.1 hc
    simp only [evC, loopK] at h
    refine wp_loop_n n (sim_loop (ih none c' hc') lv S φ w hs Q n _ _ _ _ _ φ w a h hp (Stp.refl hs) ?_ hk)
    cases lv with
    | none => exact ht
    | some ts => exact ht.keep ts
  | exit id =>
    intro lv cc hc T T' S S' ex φ w a Q h hp hs ht hk
    cases hc; cases h
    exact Go.wp_exit (hk a φ w (Stp.refl hs) ht)
  | ret =>
    intro lv cc hc T T' S S' ex φ w a Q h hp hs ht hk
    cases hc; cases h
    exact Go.wp_ret (hk a φ w (Stp.refl hs) ht)
  | _ => intro lv cc hc; cases hc

end
end Mev
