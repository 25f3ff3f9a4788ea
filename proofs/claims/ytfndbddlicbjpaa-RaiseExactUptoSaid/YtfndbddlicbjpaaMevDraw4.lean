/- Regions that draw their order: snapshots behind the effects; allocations. -/
import Derived.Test.YtfndbddlicbjpaaMevDraw3

set_option linter.unusedVariables false
namespace Mev
open Go (Value World Addr Obj Program Operand Op Oper Act Result Next undef Sem Builtin Code Exit Calls Ending Func)

namespace Run
variable {P : Program} {C : Oracle} {ops : Array Oper} {cl : List COper} {T0 : Env} {S0 : St} {tr : Nat → Stt} {vs : Nat → V}

/-- the state behind so many effects -/
def sk (P : Program) (ops : Array Oper) (S0 : St) (tr : Nat → Stt) (i : Nat) : St := ((tr ops.size).log[cnt (effB P ops) ops.size - i]?).getD S0

variable (R : Run P C ops cl T0 S0 tr vs)
include R

theorem log_get {j i : Nat} (hj : j ≤ ops.size) (hi : i ≤ cnt (effB P ops) j) : (tr j).log[cnt (effB P ops) j - i]? = some (sk P ops S0 tr i) := by
  obtain ⟨pre, hp⟩ := R.log_suffix (j := j) (ops.size - j) (by omega)
  rw [show j + (ops.size - j) = ops.size by omega] at hp
  have h1 := R.log_len ops.size (Nat.le_refl _)
  have h2 := R.log_len j hj
  have hpl : pre.length = cnt (effB P ops) ops.size - cnt (effB P ops) j := by
    have := congrArg List.length hp
    simp at this; omega
  have hm := cnt_mono (p := effB P ops) hj
  have hlt : cnt (effB P ops) j - i < (tr j).log.length := by omega
  unfold sk
  rw [hp, List.getElem?_append_right (by omega), show cnt (effB P ops) ops.size - i - pre.length = cnt (effB P ops) j - i by omega, List.getElem?_eq_getElem hlt]
  rfl

theorem sk_zero : sk P ops S0 tr 0 = S0 := by
  have := R.log_get (j := 0) (i := 0) (Nat.zero_le _) (Nat.zero_le _)
  rw [R.zero] at this
  simpa [cnt] using this.symm

theorem sk_eff {j : Nat} (hj : j < ops.size) (he : effB P ops j = true) : sk P ops S0 tr (cnt (effB P ops) j + 1) = (tr (j + 1)).S := by
  have hc : cnt (effB P ops) (j + 1) = cnt (effB P ops) j + 1 := by simp [cnt, he]
  have := R.log_get (j := j + 1) (i := cnt (effB P ops) j + 1) hj (by omega)
  rw [hc, Nat.sub_self] at this
  obtain ⟨o, q, _, _, _, _, _, _, _, _, hd, he'⟩ := R.at_ hj
  rw [he] at he'
  have hq : clsOf q.op = .eff := eq_of_beq he'.symm
  generalize vs j = vj at hd
  generalize tr (j + 1) = y at hd this
  cases hd with
  | skip T' h ht hc => exact absurd hq hc
  | skipE T' h ht hc hp => simpa using this.symm
  | pure v S1 T' h hc _ ht => rw [hq] at hc; cases hc
  | alloc v S' T' h hc _ ht hf => rw [hq] at hc; cases hc
  | load ag n p v T' h ho hv ht hl => rw [ho] at hq; cases hq
  | eff v S' T' h hc _ ht hk htop hp => simpa using this.symm

/-- an operation that has allocated -/
def Al (cl : List COper) (tr : Nat → Stt) (j : Nat) : Prop := ∃ q, cl[j]? = some q ∧ clsOf q.op = .alloc ∧ wantedE (tr j).T q.g = some true

theorem al_push {j : Nat} (h : Al cl tr j) : ∃ sz rows, (tr (j + 1)).S = (tr j).S.push (.cells sz rows 0 0) ∧ kbLL rows ≤ (tr j).S.top ∧ (∀ row ∈ rows, row.length = sz) := by
  obtain ⟨q, hq, hc, hw⟩ := h
  have hd := R.step j q hq
  generalize vs j = vj at hd
  generalize tr (j + 1) = y at hd
  cases hd with
  | skip T' h ht _ => rw [hw] at h; cases h
  | skipE T' h ht hc hp => rw [hw] at h; cases h
  | pure v S1 T' h hc' _ ht => rw [hc] at hc'; cases hc'
  | alloc v S' T' h hc he ht hf => exact alloc_push hc he hf
  | load ag n p v T' h ho hv ht hl => rw [ho] at hc; cases hc
  | eff v S' T' h hc' _ ht hk htop hp => rw [hc] at hc'; cases hc'

theorem al_lt {j : Nat} (h : Al cl tr j) : j < ops.size := by
  obtain ⟨q, hq, _⟩ := h
  rw [← R.len]; exact (List.getElem?_eq_some_iff.1 hq).1

theorem al_before {i j : Nat} (h : Al cl tr i) (hij : i < j) (hj : j ≤ ops.size) : (tr i).S.top < (tr j).S.top := by
  obtain ⟨sz, rows, e, _⟩ := R.al_push h
  have := R.top_le (i := i + 1) (j := j) hij hj
  rw [e, top_push] at this; omega

theorem al_inj {i j : Nat} (h : Al cl tr i) (k : Al cl tr j) (e : (tr i).S.top = (tr j).S.top) : i = j := by
  rcases Nat.lt_trichotomy i j with hl | hl | hl
  · have := R.al_before h hl (Nat.le_of_lt (R.al_lt k)); omega
  · exact hl
  · have := R.al_before k hl (Nat.le_of_lt (R.al_lt h)); omega

theorem al_noteff {j : Nat} (h : Al cl tr j) : effB P ops j = false := by
  obtain ⟨o, q, _, h1, _, _, _, _, _, _, _, he⟩ := R.at_ (R.al_lt h)
  obtain ⟨q', hq, hc, _⟩ := h
  rw [h1] at hq; cases hq
  rw [he, hc]; rfl

/-- between two effects: the blocks behind the first, and those allocated since -/
structure Btw (P : Program) (ops : Array Oper) (cl : List COper) (S0 : St) (tr : Nat → Stt) (j : Nat) : Prop where
  low : ∀ id, id < (sk P ops S0 tr (cnt (effB P ops) j)).top → (tr j).S.get id = (sk P ops S0 tr (cnt (effB P ops) j)).get id
  pin : (tr j).S.pin = (sk P ops S0 tr (cnt (effB P ops) j)).pin
  top : (sk P ops S0 tr (cnt (effB P ops) j)).top ≤ (tr j).S.top
  new : ∀ id, (sk P ops S0 tr (cnt (effB P ops) j)).top ≤ id → id < (tr j).S.top → ∃ i, i < j ∧ Al cl tr i ∧ cnt (effB P ops) i = cnt (effB P ops) j ∧ (tr i).S.top = id ∧
    ∃ sz rows, (tr j).S.get id = some (.cells sz rows 0 0) ∧ kbLL rows ≤ id ∧ (∀ row ∈ rows, row.length = sz) ∧ (tr (i + 1)).S.get id = some (.cells sz rows 0 0)

theorem btw : ∀ j, j ≤ ops.size → Btw P ops cl S0 tr j
  | 0, _ => by
    have hz := R.sk_zero
    have h0 : (tr 0).S = S0 := by rw [R.zero]
    refine ⟨fun id _ => ?_, ?_, ?_, fun id h1 h2 => ?_⟩
    · simp only [cnt]; rw [hz, h0]
    · simp only [cnt]; rw [hz, h0]
    · simp only [cnt]; rw [hz, h0]; exact Nat.le_refl _
    · simp only [cnt] at h1; rw [hz] at h1; rw [h0] at h2; omega
  | j + 1, h => by
    have ih := btw j (by omega)
    obtain ⟨o, q, ho, hq, _, _, _, _, _, _, hd, he⟩ := R.at_ (j := j) (by omega)
    by_cases hb : effB P ops j = true
    · have hc : cnt (effB P ops) (j + 1) = cnt (effB P ops) j + 1 := by simp [cnt, hb]
      have hs := R.sk_eff (j := j) (by omega) hb
      refine ⟨fun id _ => ?_, ?_, ?_, fun id h1 h2 => ?_⟩
      · rw [hc, hs]
      · rw [hc, hs]
      · rw [hc, hs]; exact Nat.le_refl _
      · rw [hc, hs] at h1; omega
    · have hc : cnt (effB P ops) (j + 1) = cnt (effB P ops) j := by simp [cnt, hb]
      have hne : clsOf q.op ≠ .eff := by
        intro e; rw [he, e] at hb; exact hb rfl
      by_cases ha : Al cl tr j
      · obtain ⟨sz, rows, e, hk, hr⟩ := R.al_push ha
        refine ⟨fun id hid => ?_, ?_, ?_, fun id h1 h2 => ?_⟩
        · rw [hc] at hid ⊢
          have := ih.top
          rw [e, push_get _ _ _ (by omega)]
          exact ih.low id hid
        · rw [hc, e]; exact ih.pin
        · rw [hc, e, top_push]; have := ih.top; omega
        · rw [hc] at h1 ⊢
          rw [e, top_push] at h2
          by_cases hid : id = (tr j).S.top
          · subst hid
            refine ⟨j, Nat.lt_succ_self _, ha, rfl, rfl, sz, rows, ?_, hk, hr, ?_⟩ <;> rw [e, push_get_top]
          · obtain ⟨i, h3, h4, h5, h6, sz', rows', h7, h8, h9, h10⟩ := ih.new id h1 (by omega)
            exact ⟨i, by omega, h4, h5, h6, sz', rows', by rw [e, push_get _ _ _ (by omega)]; exact h7, h8, h9, h10⟩
      · have hS : (tr (j + 1)).S = (tr j).S := by
          generalize vs j = vj at hd
          generalize tr (j + 1) = y at hd
          cases hd with
          | skip T' h ht _ => rfl
          | skipE T' h ht hc hp => rfl
          | pure v S1 T' h hc' _ ht => rfl
          | alloc v S' T' h hc he ht hf => exact absurd ⟨q, hq, hc, h⟩ ha
          | load ag n p v T' h ho hv ht hl => rfl
          | eff v S' T' h hc' _ ht hk htop hp => exact absurd hc' hne
        refine ⟨fun id hid => ?_, ?_, ?_, fun id h1 h2 => ?_⟩
        · rw [hc] at hid ⊢; rw [hS]; exact ih.low id hid
        · rw [hc, hS]; exact ih.pin
        · rw [hc, hS]; exact ih.top
        · rw [hc] at h1 ⊢
          rw [hS] at h2
          obtain ⟨i, h3, h4, h5, h6, sz', rows', h7, h8, h9, h10⟩ := ih.new id h1 h2
          exact ⟨i, by omega, h4, h5, h6, sz', rows', by rw [hS]; exact h7, h8, h9, h10⟩

/-- what is pending holds behind each effect that it may be put behind -/
theorem pend_ok {j c : Nat} (hj : j ≤ ops.size) {x : Pend} (hx : x ∈ (tr j).pend) (h1 : cnt (effB P ops) j < c) (h2 : c ≤ cnt (effB P ops) ops.size) (h3 : c ≤ x.hi) : x.ok (sk P ops S0 tr c) := by
  obtain ⟨e, _, he, hp, hc⟩ := nth_eff (p := effB P ops) (n := ops.size) (c := c - 1) (by omega)
  have hje : j ≤ e := by
    rcases Nat.lt_or_ge e j with h | h
    · have := cnt_lt h hp; omega
    · exact h
  have hx' := R.pend_keep hx (e - j) (by omega)
  rw [show j + (e - j) = e by omega] at hx'
  have hs := R.sk_eff he hp
  rw [show cnt (effB P ops) e + 1 = c by omega] at hs
  have hl := R.log_len e (by omega)
  obtain ⟨o, q, ho, hq, _, _, _, _, _, _, hd, he'⟩ := R.at_ he
  rw [hp] at he'
  have hqe : clsOf q.op = .eff := eq_of_beq he'.symm
  have key : ∀ S', pendOk (tr e).pend (tr e).log.length S' = true → x.ok S' := by
    intro S' hk
    unfold pendOk at hk
    have := List.all_eq_true.1 hk x hx'
    simp only [Bool.or_eq_true, decide_eq_true_eq] at this
    rcases this with h | h
    · omega
    · exact h
  rw [hs]
  generalize vs e = vj at hd
  generalize tr (e + 1) = y at hd
  cases hd with
  | skip T' h ht hc => exact absurd hqe hc
  | skipE T' h ht hc hp => exact key _ hp
  | pure v S1 T' h hc _ ht => rw [hqe] at hc; cases hc
  | alloc v S' T' h hc _ ht hf => rw [hqe] at hc; cases hc
  | load ag n p v T' h ho hv ht hl => rw [ho] at hqe; cases hqe
  | eff v S' T' h hc _ ht hk htop hp => exact key _ hp

/-- a load finds the same behind each effect that it may be put behind -/
theorem load_ok {j c : Nat} (hj : j < ops.size) {q : COper} (hq : cl[j]? = some q) {ag : Bool} {n : Nat} {p : Od} (ho : q.op = .load ag n p) (hw : wantedE (tr j).T q.g = some true) (h1 : q.lo ≤ c) (h2 : c ≤ q.hi)
    (h3 : c ≤ cnt (effB P ops) ops.size) : loadS (sk P ops S0 tr c) ag n (opd ((tr j).T.keep q.nm) p) = some (vs j) := by
  have hd := R.step j q hq
  have hlen := R.log_len j (by omega)
  have hlog := fun i hi => R.log_get (j := j) (i := i) (by omega) hi
  have hpn := fun (x : Pend) hx h1 h3' => R.pend_ok (j := j + 1) (c := c) hj (x := x) hx h1 h3 h3'
  have hne : effB P ops j = false := by
    obtain ⟨o, q', _, hq', _, _, _, _, _, _, _, he⟩ := R.at_ hj
    rw [hq] at hq'; cases hq'
    rw [he, ho]; rfl
  have hcn : cnt (effB P ops) (j + 1) = cnt (effB P ops) j := by simp [cnt, hne]
  rw [hcn] at hpn
  generalize vs j = vj at hd
  generalize tr (j + 1) = y at hd hpn
  cases hd with
  | skip T' h ht _ => rw [hw] at h; cases h
  | skipE T' h ht hc hp => rw [hw] at h; cases h
  | pure v S1 T' h hc' _ ht => rw [ho] at hc'; cases hc'
  | alloc v S' T' h hc he ht hf => rw [ho] at hc; cases hc
  | load ag' n' p' v T' h ho' hv ht hl =>
    rw [ho] at ho'; cases ho'
    by_cases hc : c ≤ cnt (effB P ops) j
    · have := hlog c hc
      unfold logOk at hl
      have hm := List.all_eq_true.1 hl (sk P ops S0 tr c) (List.mem_iff_getElem?.2 ⟨cnt (effB P ops) j - c, by rw [List.getElem?_take_of_lt (by omega)]; exact this⟩)
      exact @of_decide_eq_true _ (Classical.propDecidable _) hm
    · exact hpn _ (List.mem_cons_self ..) (by omega) h2
  | eff v S' T' h hc' _ ht hk htop hp => rw [ho] at hc'; cases hc'

/-- an allocation's block is untouched behind each effect that it may be put behind -/
theorem al_ok {j c : Nat} (h : Al cl tr j) {q : COper} (hq : cl[j]? = some q) (h1 : cnt (effB P ops) j < c) (h2 : c ≤ cnt (effB P ops) ops.size) (h3 : c ≤ q.hi) :
    (sk P ops S0 tr c).get (tr j).S.top = (tr (j + 1)).S.get (tr j).S.top := by
  have hj := R.al_lt h
  have hne := R.al_noteff h
  have hcn : cnt (effB P ops) (j + 1) = cnt (effB P ops) j := by simp [cnt, hne]
  have hpn := fun (x : Pend) hx h3' => R.pend_ok (j := j + 1) (c := c) hj (x := x) hx (by rw [hcn]; exact h1) h2 h3'
  obtain ⟨q', hq', hc, hw⟩ := h
  rw [hq] at hq'; cases hq'
  have hd := R.step j q hq
  generalize vs j = vj at hd
  generalize tr (j + 1) = y at hd hpn
  cases hd with
  | skip T' h ht _ => rw [hw] at h; cases h
  | skipE T' h ht hc hp => rw [hw] at h; cases h
  | pure v S1 T' h hc' _ ht => rw [hc] at hc'; cases hc'
  | alloc v S' T' h hc he ht hf => exact hpn _ (List.mem_cons_self ..) h3
  | load ag n p v T' h ho hv ht hl => rw [ho] at hc; cases hc
  | eff v S' T' h hc' _ ht hk htop hp => rw [hc] at hc'; cases hc'

end Run
end Mev
