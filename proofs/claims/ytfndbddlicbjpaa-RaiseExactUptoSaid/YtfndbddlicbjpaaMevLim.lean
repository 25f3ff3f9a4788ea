/- The evaluator without fuel: its limit, and the limit's own equations. -/
import Derived.Test.YtfndbddlicbjpaaMevCode

set_option linter.unusedVariables false
namespace Mev
open Go (TypeId FuncId Tmp)

def Le {α : Type} (a b : Option α) : Prop := ∀ r, a = some r → b = some r
theorem Le.refl {α : Type} (a : Option α) : Le a a := fun _ h => h
theorem Le.trans {α : Type} {a b c : Option α} (h : Le a b) (k : Le b c) : Le a c := fun r e => k r (h r e)

open Classical in
noncomputable def lim {α : Type} (f : Nat → Option α) : Option α := if h : ∃ r n, f n = some r then some (choose h) else none

theorem lim_some {α : Type} {f : Nat → Option α} {r : α} (h : lim f = some r) : ∃ n, f n = some r := by
  unfold lim at h
  split at h
  · rename_i hh
    have := Classical.choose_spec hh
    cases h
    exact this
  · cases h

theorem lim_eq {α : Type} {f : Nat → Option α} (mono : ∀ n, Le (f n) (f (n + 1))) {n : Nat} {r : α} (h : f n = some r) : lim f = some r := by
  have up : ∀ d m s, f m = some s → f (m + d) = some s := by
    intro d
    induction d with
    | zero => intro m s h; exact h
    | succ d ih => intro m s h; exact mono _ _ (ih m s h)
  have hh : ∃ r n, f n = some r := ⟨r, n, h⟩
  unfold lim
  rw [dif_pos hh]
  obtain ⟨m, hm⟩ := Classical.choose_spec hh
  have a := up n m _ hm
  have b := up m n _ h
  rw [Nat.add_comm] at b
  rw [b] at a
  exact a.symm

def OLe (C C' : Oracle) : Prop := ∀ f a S, Le (C f a S) (C' f a S)
def LLe (L L' : Looper) : Prop := ∀ lv k f f', (∀ T S, Le (f T S) (f' T S)) → ∀ T S, Le (L lv k f T S) (L' lv k f' T S)

section
variable {Q : Table} {C C' : Oracle} {L L' : Looper}

theorem evOper_mono (h : OLe C C') (T : Env) (S : St) (mt : List (Nat × Nat)) (o : CO) : Le (evOper C T S mt o) (evOper C' T S mt o) := by
  intro r hr
  unfold evOper at *
  split at hr
  · split at hr
    · exact h _ _ _ _ hr
    · cases hr
  all_goals exact hr

theorem evOps_mono (h : OLe C C') (l : List COper) : ∀ T S, Le (evOps C l T S) (evOps C' l T S) := by
  induction l with
  | nil => intro T S; exact Le.refl _
  | cons o l ih =>
    intro T S r hr
    simp only [evOps] at *
    split at hr
    · cases hr
    · rename_i T1 S1 hg
      split at hr
      · cases hr
      · split at hr
        · exact ih _ _ _ hr
        · cases hr
      · split at hr
        · rename_i v S2 ho
          rw [evOper_mono h _ _ _ _ _ ho]
          simp only
          split at hr
          · exact ih _ _ _ hr
          · cases hr
        · rename_i v S2 ho
          rw [evOper_mono h _ _ _ _ _ ho]
          exact hr
        · cases hr

theorem evDraw_mono (h : OLe C C') (l : List COper) : ∀ log pend T S, Le (evDraw C l log pend T S) (evDraw C' l log pend T S) := by
  induction l with
  | nil => intro log pend T S; exact Le.refl _
  | cons o l ih =>
    intro log pend T S r hr
    simp only [evDraw] at *
    split at hr
    · cases hr
    · split at hr
      · split at hr
        · split at hr
          · rename_i hp; rw [if_pos hp]; exact ih _ _ _ _ _ hr
          · cases hr
        · exact ih _ _ _ _ _ hr
      · cases hr
    · split at hr
      · split at hr
        · split at hr
          · exact ih _ _ _ _ _ hr
          · cases hr
        · cases hr
      · split at hr
        · split at hr
          · split at hr
            · rename_i hp; rw [if_pos hp]; exact ih _ _ _ _ _ hr
            · cases hr
          · cases hr
        · cases hr
      · split at hr
        · split at hr
          · split at hr
            · split at hr
              · rename_i hp; rw [if_pos hp]; exact ih _ _ _ _ _ hr
              · cases hr
            · cases hr
          · cases hr
        · cases hr
      · split at hr
        · rename_i v S2 ho
          rw [evOper_mono h _ _ _ _ _ ho]
          simp only
          split at hr
          · split at hr
            · rename_i hp; rw [if_pos hp]; exact ih _ _ _ _ _ hr
            · cases hr
          · cases hr
        · rename_i v S2 ho
          rw [evOper_mono h _ _ _ _ _ ho]
          exact hr
        · cases hr

theorem blockEx_mono (id : Nat) {a b : Option (Ex × Env × St)} (h : Le a b) : Le (blockEx id a) (blockEx id b) := by
  intro r hr
  cases a with
  | none => cases hr
  | some x => rw [h x rfl]; exact hr

theorem evC_mono (h : OLe C C') (hl : LLe L L') (c : CC) : ∀ T S, Le (evC C L c T S) (evC C' L' c T S) := by
  induction c with
  | reg ops => intro T S; simp only [evC]; exact evOps_mono h _ _ _
  | drw ops => intro T S; simp only [evC]; exact evDraw_mono h _ _ _ _ _
  | seq a b iha ihb =>
    intro T S r hr
    simp only [evC] at *
    cases ha : evC C L a T S with
    | none => rw [ha] at hr; cases hr
    | some x =>
      rw [ha] at hr
      rw [iha _ _ _ ha]
      obtain ⟨e, T1, S1⟩ := x
      cases e <;> first | exact ihb _ _ _ hr | exact hr
  | cond c a b iha ihb =>
    intro T S r hr
    simp only [evC] at *
    split at hr
    · exact iha _ _ _ hr
    · exact ihb _ _ _ hr
    · cases hr
  | block id c ih =>
    intro T S
    simp only [evC]
    exact blockEx_mono id (ih T S)
  | loop lv body ih =>
    intro T S
    simp only [evC]
    exact hl _ _ _ _ ih _ _
  | _ => intro T S; simp only [evC]; exact Le.refl _

theorem evFn_mono (h : OLe C C') (hl : LLe L L') (fn : CFn) (a : List V) (S : St) : Le (evFn C L fn a S) (evFn C' L' fn a S) := by
  intro r hr
  unfold evFn at *
  split at hr
  · cases hr
  · rename_i hn
    rw [if_neg hn]
    split at hr
    · rename_i T S' he; rw [evC_mono h hl _ _ _ _ he]; exact hr
    · rename_i T S' he; rw [evC_mono h hl _ _ _ _ he]; exact hr
    · rename_i v T S' he; rw [evC_mono h hl _ _ _ _ he]; exact hr
    · cases hr

theorem evBody_mono (h : OLe C C') (hl : LLe L L') : OLe (evBody Q C L) (evBody Q C' L') := by
  intro f a S r hr
  unfold evBody at *
  split at hr
  · cases hr
  · exact evFn_mono h hl _ _ _ _ hr

theorem loopN_mono (lv : Option (List Tmp)) (k : Nat × Nat) {f f' : Env → St → Option (Ex × Env × St)} (hf : ∀ T S, Le (f T S) (f' T S)) :
    ∀ n m, n ≤ m → ∀ T S, Le (loopN lv k f n T S) (loopN lv k f' m T S) := by
  intro n
  induction n with
  | zero => intro m _ T S r hr; cases hr
  | succ n ih =>
    intro m hm T S r hr
    obtain ⟨m, rfl⟩ : ∃ q, m = q + 1 := ⟨m - 1, by omega⟩
    simp only [loopN] at *
    cases h : f T S with
    | none => rw [h] at hr; cases hr
    | some x =>
      rw [h] at hr
      rw [hf _ _ _ h]
      obtain ⟨e, T1, S1⟩ := x
      cases e <;> first | exact ih m (by omega) _ _ _ hr | exact hr

theorem loopK_mono {n m : Nat} (h : n ≤ m) : LLe (loopK n) (loopK m) := fun lv k _ _ hf T S => loopN_mono lv k hf n m h T S

theorem evF_step (n : Nat) : OLe (evF Q n) (evF Q (n + 1)) := by
  induction n with
  | zero => intro f a S r hr; cases hr
  | succ n ih => exact evBody_mono ih (loopK_mono (Nat.le_succ n))

theorem evF_mono {n m : Nat} (h : n ≤ m) : OLe (evF Q n) (evF Q m) := by
  induction m with
  | zero => obtain rfl : n = 0 := by omega
            exact fun _ _ _ => Le.refl _
  | succ m ih =>
    by_cases e : n = m + 1
    · subst e; exact fun _ _ _ => Le.refl _
    · exact fun f a S => (ih (by omega) f a S).trans (evF_step m f a S)
end

/-- what a call comes to, without fuel -/
noncomputable def ev (Q : Table) : Oracle := fun f a S => lim fun n => evF Q n f a S
noncomputable def loopL : Looper := fun lv k f T S => lim fun n => loopN lv k f n T S

section
variable {Q : Table}

theorem ev_of {n : Nat} : OLe (evF Q n) (ev Q) := fun f a S r h => lim_eq (fun n => evF_step n f a S) h
theorem evF_of_ev {f : FuncId} {a : List V} {S : St} {r : Out × St} (h : ev Q f a S = some r) : ∃ n, evF Q n f a S = some r := lim_some h

theorem loopL_of {n : Nat} : LLe (loopK n) loopL := by
  intro lv k f f' hf T S r h
  exact lim_eq (fun n => loopN_mono lv k (fun T S => Le.refl _) n (n + 1) (Nat.le_succ n) T S) (loopN_mono lv k hf n n (Nat.le_refl _) T S r h)

theorem loopL_eq (lv : Option (List Tmp)) (k : Nat × Nat) (f : Env → St → Option (Ex × Env × St)) (T : Env) (S : St) :
    loopL lv k f T S = match f T S with
      | some (.norm, T', S') => loopL lv k f (settle lv k T' S').1 (settle lv k T' S').2
      | r => r := by
  have mono : ∀ T S n, Le (loopN lv k f n T S) (loopN lv k f (n + 1) T S) := fun T S n => loopN_mono lv k (fun T S => Le.refl _) n (n + 1) (Nat.le_succ n) T S
  cases h : f T S with
  | none =>
    cases hl : loopL lv k f T S with
    | none => rfl
    | some r =>
      obtain ⟨n, hn⟩ := lim_some hl
      cases n with
      | zero => cases hn
      | succ n => simp only [loopN, h] at hn; cases hn
  | some x =>
    obtain ⟨e, T1, S1⟩ := x
    by_cases he : e = .norm
    · subst he
      simp only
      cases hl : loopL lv k f (settle lv k T1 S1).1 (settle lv k T1 S1).2 with
      | some r =>
        obtain ⟨n, hn⟩ := lim_some hl
        exact lim_eq (mono T S) (n := n + 1) (by simp only [loopN, h]; exact hn)
      | none =>
        cases hl2 : loopL lv k f T S with
        | none => rfl
        | some r =>
          obtain ⟨n, hn⟩ := lim_some hl2
          cases n with
          | zero => cases hn
          | succ n =>
            simp only [loopN, h] at hn
            have := lim_eq (mono _ _) hn
            rw [← this]; exact hl
    · have : loopL lv k f T S = some (e, T1, S1) := lim_eq (mono T S) (n := 1) (by cases e <;> first | exact absurd rfl he | simp only [loopN, h])
      rw [this]
      cases e <;> first | exact absurd rfl he | rfl

/-! ### the limit meets its equation -/
theorem evOper_cpt (T : Env) (S : St) (mt : List (Nat × Nat)) (o : CO) {r : Out × St} (h : evOper (ev Q) T S mt o = some r) :
    ∃ n, evOper (evF Q n) T S mt o = some r := by
  unfold evOper at *
  split at h
  · split at h
    · exact evF_of_ev h
    · cases h
  all_goals exact ⟨0, h⟩

theorem evOps_cpt (l : List COper) : ∀ T S r, evOps (ev Q) l T S = some r → ∃ n, evOps (evF Q n) l T S = some r := by
  induction l with
  | nil => intro T S r h; exact ⟨0, h⟩
  | cons o l ih =>
    intro T S r h
    simp only [evOps] at h
    split at h
    · cases h
    · rename_i T1 S1 hg
      split at h
      · cases h
      · rename_i hw
        split at h
        · rename_i T2 ht
          obtain ⟨n, hn⟩ := ih _ _ _ h
          exact ⟨n, by simp only [evOps, hg, hw, ht]; exact hn⟩
        · cases h
      · rename_i hw
        split at h
        · rename_i v S2 ho
          obtain ⟨m, hm⟩ := evOper_cpt _ _ _ _ ho
          split at h
          · rename_i T2 ht
            obtain ⟨n, hn⟩ := ih _ _ _ h
            refine ⟨max n m, ?_⟩
            have e1 := evOper_mono (evF_mono (Q := Q) (Nat.le_max_right n m)) _ _ _ _ _ hm
            simp only [evOps, hg, hw, e1, ht]
            exact evOps_mono (evF_mono (Nat.le_max_left n m)) _ _ _ _ hn
          · cases h
        · rename_i v S2 ho
          obtain ⟨m, hm⟩ := evOper_cpt _ _ _ _ ho
          exact ⟨m, by simp only [evOps, hg, hw, hm]; exact h⟩
        · cases h

theorem evDraw_cpt (l : List COper) : ∀ log pend T S r, evDraw (ev Q) l log pend T S = some r → ∃ n, evDraw (evF Q n) l log pend T S = some r := by
  induction l with
  | nil => intro log pend T S r h; exact ⟨0, h⟩
  | cons o l ih =>
    intro log pend T S r h
    simp only [evDraw] at h
    split at h
    · cases h
    · rename_i hw
      split at h
      · rename_i T2 ht
        split at h
        · rename_i hc
          split at h
          · rename_i hp
            obtain ⟨n, hn⟩ := ih _ _ _ _ _ h
            exact ⟨n, by simp only [evDraw, hw, ht, hc]; rw [if_pos hp]; exact hn⟩
          · cases h
        · rename_i hc
          obtain ⟨n, hn⟩ := ih _ _ _ _ _ h
          refine ⟨n, ?_⟩
          simp only [evDraw, hw, ht]
          cases hcc : clsOf o.op <;> first | exact absurd hcc hc | exact hn
      · cases h
    · rename_i hw
      split at h
      · rename_i hc
        split at h
        · rename_i v S2 ho
          split at h
          · rename_i T2 ht
            obtain ⟨n, hn⟩ := ih _ _ _ _ _ h
            exact ⟨n, by simp only [evDraw, hw, hc, ho, ht]; exact hn⟩
          · cases h
        · cases h
      · rename_i hc
        split at h
        · rename_i v S2 ho
          split at h
          · rename_i T2 ht
            split at h
            · rename_i hp
              obtain ⟨n, hn⟩ := ih _ _ _ _ _ h
              exact ⟨n, by simp only [evDraw, hw, hc, ho, ht]; rw [if_pos hp]; exact hn⟩
            · cases h
          · cases h
        · cases h
      · rename_i hc
        split at h
        · rename_i ag sz p hop
          split at h
          · rename_i v hv
            split at h
            · rename_i T2 ht
              split at h
              · rename_i hp
                obtain ⟨n, hn⟩ := ih _ _ _ _ _ h
                refine ⟨n, ?_⟩
                simp only [evDraw, hw, hc]
                rw [hop]
                simp only [hv, ht]
                rw [if_pos hp]; exact hn
              · cases h
            · cases h
          · cases h
        · cases h
      · rename_i hc
        split at h
        · rename_i v S2 ho
          obtain ⟨m, hm⟩ := evOper_cpt _ _ _ _ ho
          split at h
          · rename_i T2 ht
            split at h
            · rename_i hp
              obtain ⟨n, hn⟩ := ih _ _ _ _ _ h
              refine ⟨max n m, ?_⟩
              have e1 := evOper_mono (evF_mono (Q := Q) (Nat.le_max_right n m)) _ _ _ _ _ hm
              simp only [evDraw, hw, hc, e1, ht]
              rw [if_pos hp]
              exact evDraw_mono (evF_mono (Nat.le_max_left n m)) _ _ _ _ _ _ hn
            · cases h
          · cases h
        · rename_i v S2 ho
          obtain ⟨m, hm⟩ := evOper_cpt _ _ _ _ ho
          exact ⟨m, by simp only [evDraw, hw, hc, hm]; exact h⟩
        · cases h

theorem blockEx_some {id : Nat} {a : Option (Ex × Env × St)} {r : Ex × Env × St} (h : blockEx id a = some r) : ∃ x, a = some x ∧ blockEx id (some x) = some r := by
  cases a with
  | none => cases h
  | some x => exact ⟨x, rfl, h⟩

theorem loopN_cpt (lv : Option (List Tmp)) (k : Nat × Nat) {f : Env → St → Option (Ex × Env × St)} {g : Nat → Env → St → Option (Ex × Env × St)}
    (mono : ∀ n m, n ≤ m → ∀ T S, Le (g n T S) (g m T S)) (cpt : ∀ T S r, f T S = some r → ∃ n, g n T S = some r) :
    ∀ q T S r, loopN lv k f q T S = some r → ∃ n, loopN lv k (g n) q T S = some r := by
  intro q
  induction q with
  | zero => intro T S r h; cases h
  | succ q ih =>
    intro T S r h
    simp only [loopN] at h
    cases hf : f T S with
    | none => rw [hf] at h; cases h
    | some x =>
      rw [hf] at h
      obtain ⟨m, hm⟩ := cpt _ _ _ hf
      obtain ⟨e, T1, S1⟩ := x
      by_cases he : e = .norm
      · subst he
        obtain ⟨n, hn⟩ := ih _ _ _ h
        refine ⟨max n m, ?_⟩
        simp only [loopN, mono _ _ (Nat.le_max_right n m) _ _ _ hm]
        exact loopN_mono lv k (mono _ _ (Nat.le_max_left n m)) q q (Nat.le_refl _) _ _ _ hn
      · exact ⟨m, by simp only [loopN, hm]; cases e <;> first | exact absurd rfl he | exact h⟩

theorem evC_cpt (c : CC) : ∀ T S r, evC (ev Q) loopL c T S = some r → ∃ n, evC (evF Q n) (loopK n) c T S = some r := by
  have mono : ∀ (c : CC) T S n m, n ≤ m → Le (evC (evF Q n) (loopK n) c T S) (evC (evF Q m) (loopK m) c T S) :=
    fun c T S n m h => evC_mono (evF_mono h) (loopK_mono h) c T S
  induction c with
  | reg ops => intro T S r h; simp only [evC] at h ⊢; exact evOps_cpt _ _ _ _ h
  | drw ops => intro T S r h; simp only [evC] at h ⊢; exact evDraw_cpt _ _ _ _ _ _ h
  | seq a b iha ihb =>
    intro T S r h
    simp only [evC] at h
    cases ha : evC (ev Q) loopL a T S with
    | none => rw [ha] at h; cases h
    | some x =>
      rw [ha] at h
      obtain ⟨m, hm⟩ := iha _ _ _ ha
      obtain ⟨e, T1, S1⟩ := x
      by_cases he : e = .norm
      · subst he
        obtain ⟨n, hn⟩ := ihb _ _ _ h
        refine ⟨max n m, ?_⟩
        simp only [evC, mono _ _ _ _ _ (Nat.le_max_right n m) _ hm]
        exact mono _ _ _ _ _ (Nat.le_max_left n m) _ hn
      · exact ⟨m, by simp only [evC, hm]; cases e <;> first | exact absurd rfl he | exact h⟩
  | cond c a b iha ihb =>
    intro T S r h
    simp only [evC] at h
    split at h
    · rename_i hc; obtain ⟨n, hn⟩ := iha _ _ _ h; exact ⟨n, by simp only [evC, hc]; exact hn⟩
    · rename_i hc; obtain ⟨n, hn⟩ := ihb _ _ _ h; exact ⟨n, by simp only [evC, hc]; exact hn⟩
    · cases h
  | block id c ih =>
    intro T S r h
    simp only [evC] at h
    obtain ⟨x, hx, h⟩ := blockEx_some h
    obtain ⟨n, hn⟩ := ih _ _ _ hx
    exact ⟨n, by simp only [evC, hn]; exact h⟩
  | loop lv body ih =>
    intro T S r h
    simp only [evC] at h
    obtain ⟨q, hq⟩ := lim_some h
    obtain ⟨n, hn⟩ := loopN_cpt lv (S.top, S.pin) (f := evC (ev Q) loopL body) (g := fun n => evC (evF Q n) (loopK n) body)
      (fun n m h T S => mono body T S n m h) (fun T S r h => ih T S r h) q _ _ _ hq
    refine ⟨max n q, ?_⟩
    simp only [evC]
    exact loopN_mono lv (S.top, S.pin) (fun T S => mono body T S _ _ (Nat.le_max_left n q)) q (max n q) (Nat.le_max_right n q) _ _ _ hn
  | _ => intro T S r h; exact ⟨0, h⟩

theorem evFn_cpt (fn : CFn) (a : List V) (S : St) (r : Out × St) (h : evFn (ev Q) loopL fn a S = some r) : ∃ n, evFn (evF Q n) (loopK n) fn a S = some r := by
  unfold evFn at h
  split at h
  · cases h
  · rename_i hn
    split at h
    · rename_i T S' he; obtain ⟨n, hn'⟩ := evC_cpt _ _ _ _ he
      exact ⟨n, by simp only [evFn, hn, if_false, hn']; exact h⟩
    · rename_i T S' he; obtain ⟨n, hn'⟩ := evC_cpt _ _ _ _ he
      exact ⟨n, by simp only [evFn, hn, if_false, hn']; exact h⟩
    · rename_i v T S' he; obtain ⟨n, hn'⟩ := evC_cpt _ _ _ _ he
      exact ⟨n, by simp only [evFn, hn, if_false, hn']; exact h⟩
    · cases h

theorem ev_eq {f : FuncId} {fn : CFn} (hf : Q f = some fn) (a : List V) (S : St) : ev Q f a S = evFn (ev Q) loopL fn a S := by
  cases h : evFn (ev Q) loopL fn a S with
  | some r =>
    obtain ⟨n, hn⟩ := evFn_cpt _ _ _ _ h
    exact ev_of (n := n + 1) f a S r (by simp only [evF, evBody, hf]; exact hn)
  | none =>
    cases h2 : ev Q f a S with
    | none => rfl
    | some r =>
      obtain ⟨n, hn⟩ := evF_of_ev h2
      cases n with
      | zero => cases hn
      | succ n =>
        simp only [evF, evBody, hf] at hn
        have := evFn_mono (fun f a S => ev_of (Q := Q) (n := n) f a S) loopL_of fn a S r hn
        rw [h] at this; cases this
end
end Mev
