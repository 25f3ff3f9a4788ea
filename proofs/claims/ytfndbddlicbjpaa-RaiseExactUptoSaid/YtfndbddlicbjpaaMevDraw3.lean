/- Regions that draw their order: the run in the text's order, step by step. -/
import Derived.Test.YtfndbddlicbjpaaMevDraw2

set_option linter.unusedVariables false
namespace Mev
open Go (Value World Addr Obj Program Operand Op Oper Act Result Next undef Sem Builtin Code Exit Calls Ending Func)

structure Stt where
  log : List St
  pend : List Pend
  T : Env
  S : St

inductive DS (C : Oracle) (o : COper) (x : Stt) : Stt → V → Prop
  | skip (T' : Env) (h : wantedE x.T o.g = some false) (ht : x.T.setO o.d (.tup []) = some T') (hc : clsOf o.op ≠ .eff) : DS C o x ⟨x.log, x.pend, T', x.S⟩ (.tup [])
  | skipE (T' : Env) (h : wantedE x.T o.g = some false) (ht : x.T.setO o.d (.tup []) = some T') (hc : clsOf o.op = .eff) (hp : pendOk x.pend x.log.length x.S = true) : DS C o x ⟨x.S :: x.log, x.pend, T', x.S⟩ (.tup [])
  | pure (v : V) (S1 : St) (T' : Env) (h : wantedE x.T o.g = some true) (hc : clsOf o.op = .pure) (he : evOp (x.T.keep o.nm) ⟨[], 0⟩ o.op = some (v, S1)) (ht : x.T.setO o.d v = some T') : DS C o x ⟨x.log, x.pend, T', x.S⟩ v
  | alloc (v : V) (S' : St) (T' : Env) (h : wantedE x.T o.g = some true) (hc : clsOf o.op = .alloc) (he : evOp (x.T.keep o.nm) x.S o.op = some (v, S')) (ht : x.T.setO o.d v = some T') (hf : freshOk x.S S' = true) :
      DS C o x ⟨x.log, ⟨o.hi, fun S'' => S''.get x.S.top = S'.get x.S.top⟩ :: x.pend, T', S'⟩ v
  | load (ag : Bool) (n : Nat) (p : Od) (v : V) (T' : Env) (h : wantedE x.T o.g = some true) (ho : o.op = .load ag n p) (hv : loadS x.S ag n (opd (x.T.keep o.nm) p) = some v) (ht : x.T.setO o.d v = some T')
      (hl : logOk x.log o.lo (fun S' => loadS S' ag n (opd (x.T.keep o.nm) p) = some v) = true) : DS C o x ⟨x.log, ⟨o.hi, fun S' => loadS S' ag n (opd (x.T.keep o.nm) p) = some v⟩ :: x.pend, T', x.S⟩ v
  | eff (v : V) (S' : St) (T' : Env) (h : wantedE x.T o.g = some true) (hc : clsOf o.op = .eff) (he : evOper C (x.T.keep o.nm) x.S [] o.op = some (.ret v, S')) (ht : x.T.setO o.d v = some T')
      (hk : (x.T.keep o.nm).kb o.nm ≤ x.S.top) (htop : x.S.top ≤ S'.top) (hp : pendOk x.pend x.log.length S' = true) : DS C o x ⟨S' :: x.log, x.pend, T', S'⟩ v

theorem ds_of {C : Oracle} {o : COper} {r : List COper} {x : Stt} {T2 : Env} {S2 : St} (h : evDraw C (o :: r) x.log x.pend x.T x.S = some (.norm, T2, S2)) :
    ∃ y v, DS C o x y v ∧ evDraw C r y.log y.pend y.T y.S = some (.norm, T2, S2) := by
  simp only [evDraw] at h
  split at h
  · cases h
  · rename_i hw
    split at h
    · rename_i T' ht
      split at h
      · rename_i hc
        split at h
        · rename_i hp; exact ⟨_, _, .skipE T' hw ht hc hp, h⟩
        · cases h
      · rename_i hc
        exact ⟨_, _, .skip T' hw ht (fun e => hc e), h⟩
    · cases h
  · rename_i hw
    split at h
    · rename_i hc
      split at h
      · rename_i v S1 he
        split at h
        · rename_i T' ht; exact ⟨_, _, .pure v S1 T' hw hc he ht, h⟩
        · cases h
      · cases h
    · rename_i hc
      split at h
      · rename_i v S1 he
        split at h
        · rename_i T' ht
          split at h
          · rename_i hf; exact ⟨_, _, .alloc v S1 T' hw hc he ht hf, h⟩
          · cases h
        · cases h
      · cases h
    · rename_i hc
      split at h
      · rename_i ag n p hop
        split at h
        · rename_i v hv
          split at h
          · rename_i T' ht
            split at h
            · rename_i hl; exact ⟨_, _, .load ag n p v T' hw hop hv ht hl, h⟩
            · cases h
          · cases h
        · cases h
      · cases h
    · rename_i hc
      split at h
      · rename_i v S1 he
        split at h
        · rename_i T' ht
          split at h
          · rename_i hp
            simp only [Bool.and_eq_true, decide_eq_true_eq] at hp
            exact ⟨_, _, .eff v S1 T' hw hc he ht hp.1 hp.2.1 hp.2.2, h⟩
          · cases h
        · cases h
      · cases h
      · cases h

theorem trace {C : Oracle} {T2 : Env} {S2 : St} : ∀ (l : List COper) (x : Stt), evDraw C l x.log x.pend x.T x.S = some (.norm, T2, S2) →
    ∃ (tr : Nat → Stt) (vs : Nat → V), tr 0 = x ∧ (∀ j o, l[j]? = some o → DS C o (tr j) (tr (j + 1)) (vs j)) ∧ (tr l.length).T = T2 ∧ (tr l.length).S = S2 := by
  intro l
  induction l with
  | nil => intro x h; simp only [evDraw] at h; cases h; exact ⟨fun _ => x, fun _ => .un, rfl, by simp, rfl, rfl⟩
  | cons o l ih =>
    intro x h
    obtain ⟨y, v, hd, h2⟩ := ds_of h
    obtain ⟨tr, vs, h3, h4, h5, h6⟩ := ih y h2
    refine ⟨fun j => match j with | 0 => x | j + 1 => tr j, fun j => match j with | 0 => v | j + 1 => vs j, rfl, fun j q hq => ?_, h5, h6⟩
    cases j with
    | zero => simp at hq; subst hq; simp only [h3]; exact hd
    | succ j => exact h4 j q (by simpa using hq)

/-- an allocation, as the evaluator says it -/
theorem rowsParts_size {z : List V} {T : Env} : ∀ (ps : List (Nat × Od)) (rows r : List (List V)), rowsParts z.length T ps rows = some r → (∀ row ∈ rows, row.length = z.length) → ∀ row ∈ r, row.length = z.length := by
  intro ps
  induction ps with
  | nil => intro rows r h hr; cases h; exact hr
  | cons p ps ih =>
    intro rows r h hr
    obtain ⟨i, x⟩ := p
    simp only [rowsParts] at h
    split at h
    · split at h
      · rename_i cs hc hcond
        refine ih _ _ h fun row hm => ?_
        rcases List.mem_or_eq_of_mem_set hm with h | h
        · exact hr row h
        · rw [h]; exact hcond.1
      · cases h
    · cases h

theorem alloc_push {T : Env} {S S' : St} {c : CO} {v : V} (hc : clsOf c = .alloc) (h : evOp T S c = some (v, S')) (hf : freshOk S S' = true) :
    ∃ sz rows, S' = S.push (.cells sz rows 0 0) ∧ kbLL rows ≤ S.top ∧ ∀ row ∈ rows, row.length = sz := by
  have key : ∀ sz rows, S' = (S.push (.cells sz rows 0 0)).pinTo (if kbLL rows ≤ S.top then 0 else kbLL rows) → (∀ row ∈ rows, row.length = sz) → ∃ sz rows, S' = S.push (.cells sz rows 0 0) ∧ kbLL rows ≤ S.top ∧ ∀ row ∈ rows, row.length = sz := by
    intro sz rows e hr
    have hk : kbLL rows ≤ S.top := by
      rw [e] at hf
      unfold freshOk at hf
      simpa using hf
    rw [if_pos hk, pinTo_zero] at e
    exact ⟨sz, rows, e, hk, hr⟩
  cases c with
  | alloc z => cases h; exact key z.length [z] (by simp [kbLL]) (by simp)
  | box n x =>
    simp only [evOp] at h
    split at h
    · rename_i cs hcs
      split at h
      · cases h; exact key cs.length [cs] (by simp [kbLL]) (by simp)
      · cases h
    · cases h
  | bslice z n ps =>
    simp only [evOp] at h
    cases hr : rowsParts z.length T ps (List.replicate n z) with
    | none => rw [hr] at h; cases h
    | some r => rw [hr] at h; cases h; exact key z.length r rfl (rowsParts_size ps _ _ hr fun row hm => by rw [List.eq_of_mem_replicate hm])
  | mkslice z b l c =>
    simp only [evOp] at h
    split at h
    · split at h
      · cases h; exact key z.length _ rfl fun row hm => by rw [List.eq_of_mem_replicate hm]
      · cases h
    · cases h
  | _ => cases hc

def cnt (p : Nat → Bool) : Nat → Nat
  | 0 => 0
  | j + 1 => cnt p j + if p j then 1 else 0

theorem cnt_mono {p : Nat → Bool} {i j : Nat} (h : i ≤ j) : cnt p i ≤ cnt p j := by
  induction h with
  | refl => exact Nat.le_refl _
  | step _ ih => simp only [cnt]; omega
theorem cnt_lt {p : Nat → Bool} {i j : Nat} (h : i < j) (hp : p i = true) : cnt p i < cnt p j := by
  have := cnt_mono (p := p) (show i + 1 ≤ j from h)
  simp only [cnt, hp, if_true] at this; omega
theorem filter_cnt (p : Nat → Bool) : ∀ n, ((List.range n).filter p).map (cnt p) = List.range (cnt p n)
  | 0 => rfl
  | n + 1 => by
    rw [List.range_succ, List.filter_append, List.map_append, filter_cnt p n]
    by_cases h : p n = true
    · simp [h, cnt, List.range_succ]
    · simp [h, cnt]
theorem nth_eff {p : Nat → Bool} {n c : Nat} (h : c < cnt p n) : ∃ e, ((List.range n).filter p)[c]? = some e ∧ e < n ∧ p e = true ∧ cnt p e = c := by
  have hl : ((List.range n).filter p).length = cnt p n := by rw [← List.length_map (f := cnt p), filter_cnt, List.length_range]
  have hc : c < ((List.range n).filter p).length := by omega
  refine ⟨_, List.getElem?_eq_getElem hc, ?_⟩
  have hm := List.getElem_mem hc
  rw [List.mem_filter, List.mem_range] at hm
  refine ⟨hm.1, hm.2, ?_⟩
  have := congrArg (fun l => l[c]?) (filter_cnt p n)
  simp only [List.getElem?_map, List.getElem?_eq_getElem hc, List.getElem?_range h, Option.map_some, Option.some.injEq] at this
  exact this
theorem eff_nth {p : Nat → Bool} {n e : Nat} (he : e < n) (hp : p e = true) : ((List.range n).filter p)[cnt p e]? = some e := by
  obtain ⟨e', h1, h2, h3, h4⟩ := nth_eff (cnt_lt he hp)
  have : e' = e := by
    rcases Nat.lt_trichotomy e e' with h | h | h
    · have := cnt_lt h hp; omega
    · exact h.symm
    · have := cnt_lt h h3; omega
  rw [h1, this]

/-! ### the run -/
structure Run (P : Program) (C : Oracle) (ops : Array Oper) (cl : List COper) (T0 : Env) (S0 : St) (tr : Nat → Stt) (vs : Nat → V) : Prop where
  zero : tr 0 = ⟨[S0], [], T0, S0⟩
  len : cl.length = ops.size
  comp : ∀ j o, ops[j]? = some o → ∃ q, cl[j]? = some q ∧ q.d = o.dst ∧ guardOf ops o = some q.g ∧ compOp P o.op = some q.op ∧ q.lo = loOf P ops j ∧ q.hi = hiOf P ops j ∧ q.nm = readsOf o
  step : ∀ j q, cl[j]? = some q → DS C q (tr j) (tr (j + 1)) (vs j)

def effB (P : Program) (ops : Array Oper) (i : Nat) : Bool := (ops[i]?).any fun o => match compOp P o.op with | some c => clsOf c == .eff | none => true

theorem comp_draw {P : Program} {ops : Array Oper} : ∀ (l : List Oper) (i : Nat) (cl : List COper), compDraw P ops i l = some cl → cl.length = l.length ∧ ∀ j o, l[j]? = some o →
    ∃ q, cl[j]? = some q ∧ q.d = o.dst ∧ guardOf ops o = some q.g ∧ compOp P o.op = some q.op ∧ q.lo = loOf P ops (i + j) ∧ q.hi = hiOf P ops (i + j) ∧ q.nm = readsOf o := by
  intro l
  induction l with
  | nil => intro i cl h; cases h; exact ⟨rfl, by simp⟩
  | cons o l ih =>
    intro i cl h
    obtain ⟨g, hg, h⟩ := bind_some h
    obtain ⟨c, hc, h⟩ := bind_some h
    obtain ⟨cl', hcl, h⟩ := bind_some h
    cases h
    obtain ⟨h1, h2⟩ := ih _ _ hcl
    refine ⟨by simp [h1], fun j q hq => ?_⟩
    cases j with
    | zero => simp at hq; subst hq; exact ⟨_, rfl, rfl, hg, hc, rfl, rfl, rfl⟩
    | succ j =>
      obtain ⟨q', k1, k2, k3, k4, k5, k6, k7⟩ := h2 j q (by simpa using hq)
      exact ⟨q', by simpa using k1, k2, k3, k4, by rw [k5]; congr 1; omega, by rw [k6]; congr 1; omega, k7⟩

namespace Run
variable {P : Program} {C : Oracle} {ops : Array Oper} {cl : List COper} {T0 : Env} {S0 : St} {tr : Nat → Stt} {vs : Nat → V} (R : Run P C ops cl T0 S0 tr vs)
include R

theorem at_ {j : Nat} (h : j < ops.size) : ∃ o q, ops[j]? = some o ∧ cl[j]? = some q ∧ q.d = o.dst ∧ guardOf ops o = some q.g ∧ compOp P o.op = some q.op ∧ q.lo = loOf P ops j ∧ q.hi = hiOf P ops j ∧ q.nm = readsOf o ∧ DS C q (tr j) (tr (j + 1)) (vs j) ∧
    effB P ops j = (clsOf q.op == .eff) := by
  obtain ⟨q, h1, h2, h3, h4, h5, h6, h7⟩ := R.comp j ops[j] (Array.getElem?_eq_getElem h)
  exact ⟨_, q, Array.getElem?_eq_getElem h, h1, h2, h3, h4, h5, h6, h7, R.step j q h1, by unfold effB; rw [Array.getElem?_eq_getElem h]; simp [h4]⟩

theorem log_len : ∀ j, j ≤ ops.size → (tr j).log.length = cnt (effB P ops) j + 1
  | 0, _ => by rw [R.zero]; rfl
  | j + 1, h => by
    have ih := log_len j (by omega)
    obtain ⟨o, q, _, _, _, _, _, _, _, _, hd, he⟩ := R.at_ (j := j) (by omega)
    simp only [cnt, he]
    generalize vs j = vj at hd
    generalize tr (j + 1) = y at hd
    cases hd with
    | skip T' h ht hc =>
      have : (clsOf q.op == Cls.eff) = false := beq_eq_false_iff_ne.2 hc
      rw [this]; simp [ih]
    | skipE T' h ht hc hp => rw [hc]; simp [ih]
    | pure v S1 T' h hc _ ht => rw [hc]; simp [ih]
    | alloc v S' T' h hc _ ht hf => rw [hc]; simp [ih]
    | load ag n p v T' h ho hv ht hl => rw [ho]; simp [ih, clsOf]
    | eff v S' T' h hc _ ht hk htop hp => rw [hc]; simp [ih]

theorem log_suffix {j : Nat} : ∀ m, j + m ≤ ops.size → ∃ pre, (tr (j + m)).log = pre ++ (tr j).log
  | 0, _ => ⟨[], rfl⟩
  | m + 1, h => by
    obtain ⟨pre, ih⟩ := log_suffix (j := j) m (by omega)
    obtain ⟨o, q, _, _, _, _, _, _, _, _, hd, he⟩ := R.at_ (j := j + m) (by omega)
    have : ∃ pre', (tr (j + m + 1)).log = pre' ++ (tr (j + m)).log := by
      generalize vs (j + m) = vj at hd
      generalize tr (j + m + 1) = y at hd
      cases hd with
      | skip T' h ht hc => exact ⟨[], rfl⟩
      | skipE T' h ht hc hp => exact ⟨[_], rfl⟩
      | pure v S1 T' h hc _ ht => exact ⟨[], rfl⟩
      | alloc v S' T' h hc _ ht hf => exact ⟨[], rfl⟩
      | load ag n p v T' h ho hv ht hl => exact ⟨[], rfl⟩
      | eff v S' T' h hc _ ht hk htop hp => exact ⟨[_], rfl⟩
    obtain ⟨pre', h'⟩ := this
    exact ⟨pre' ++ pre, by rw [← Nat.add_assoc, h', ih, List.append_assoc]⟩

theorem pend_keep {j : Nat} {x : Pend} (hx : x ∈ (tr j).pend) : ∀ m, j + m ≤ ops.size → x ∈ (tr (j + m)).pend
  | 0, _ => hx
  | m + 1, h => by
    have ih := pend_keep hx m (by omega)
    obtain ⟨o, q, _, _, _, _, _, _, _, _, hd, he⟩ := R.at_ (j := j + m) (by omega)
    rw [← Nat.add_assoc]
    generalize vs (j + m) = vj at hd
    generalize tr (j + m + 1) = y at hd
    cases hd with
    | skip T' h ht hc => exact ih
    | skipE T' h ht hc hp => exact ih
    | pure v S1 T' h hc _ ht => exact ih
    | alloc v S' T' h hc _ ht hf => exact List.mem_cons_of_mem _ ih
    | load ag n p v T' h ho hv ht hl => exact List.mem_cons_of_mem _ ih
    | eff v S' T' h hc _ ht hk htop hp => exact ih

theorem top_step {j : Nat} (h : j < ops.size) : (tr j).S.top ≤ (tr (j + 1)).S.top := by
  obtain ⟨o, q, _, _, _, _, _, _, _, _, hd, he⟩ := R.at_ h
  generalize vs j = vj at hd
  generalize tr (j + 1) = y at hd
  cases hd with
  | skip T' h ht hc => exact Nat.le_refl _
  | skipE T' h ht hc hp => exact Nat.le_refl _
  | pure v S1 T' h hc _ ht => exact Nat.le_refl _
  | alloc v S' T' h hc he ht hf => obtain ⟨sz, rows, e, _⟩ := alloc_push hc he hf; rw [e]; simp
  | load ag n p v T' h ho hv ht hl => exact Nat.le_refl _
  | eff v S' T' h hc _ ht hk htop hp => exact htop
theorem top_mono {j : Nat} : ∀ m, j + m ≤ ops.size → (tr j).S.top ≤ (tr (j + m)).S.top
  | 0, _ => Nat.le_refl _
  | m + 1, h => Nat.le_trans (top_mono m (by omega)) (by rw [← Nat.add_assoc]; exact R.top_step (by omega))
theorem top_le {i j : Nat} (h : i ≤ j) (hj : j ≤ ops.size) : (tr i).S.top ≤ (tr j).S.top := by
  have := R.top_mono (j := i) (j - i) (by omega)
  rwa [show i + (j - i) = j by omega] at this

end Run
end Mev
