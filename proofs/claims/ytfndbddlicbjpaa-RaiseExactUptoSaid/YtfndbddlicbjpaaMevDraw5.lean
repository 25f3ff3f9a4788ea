/- Regions that draw their order: what the text's edges say. -/
import Derived.Test.YtfndbddlicbjpaaMevDraw4

set_option linter.unusedVariables false
namespace Mev
open Go (Value World Addr Obj Program Operand Op Oper Act Result Next undef Sem Builtin Code Exit Calls Ending Func)

section
variable {P : Program} {ops : Array Oper}

/-- one entry of the table of what comes ahead -/
def maskOf (acc : Array Nat) (o : Oper) : Nat := o.after.foldl (fun s e => if Go.Region.binds .any e then s ||| 2 ^ e.on ||| acc.getD e.on 0 else s) 0

theorem mask_bit {acc : Array Nat} {o : Oper} {i : Nat} (h : (maskOf acc o).testBit i = true) : ∃ e ∈ o.after, Go.Region.binds .any e = true ∧ (e.on = i ∨ (acc.getD e.on 0).testBit i = true) := by
  have key : ∀ (l : List Go.Edge) (s : Nat), (l.foldl (fun s e => if Go.Region.binds .any e then s ||| 2 ^ e.on ||| acc.getD e.on 0 else s) s).testBit i = true → s.testBit i = true ∨ ∃ e ∈ l, Go.Region.binds .any e = true ∧ (e.on = i ∨ (acc.getD e.on 0).testBit i = true) := by
    intro l
    induction l with
    | nil => intro s h; exact .inl h
    | cons e l ih =>
      intro s h
      simp only [List.foldl_cons] at h
      rcases ih _ h with h1 | ⟨e', h1, h2⟩
      · split at h1
        · rename_i hb
          simp only [Nat.testBit_or, Bool.or_eq_true, Nat.testBit_two_pow, decide_eq_true_eq] at h1
          rcases h1 with (h1 | h1) | h1
          · exact .inl h1
          · exact .inr ⟨e, List.mem_cons_self .., hb, .inl h1⟩
          · exact .inr ⟨e, List.mem_cons_self .., hb, .inr h1⟩
        · exact .inl h1
      · exact .inr ⟨e', List.mem_cons_of_mem _ h1, h2⟩
  unfold maskOf at h
  rw [← Array.foldl_toList] at h
  rcases key _ _ h with h1 | ⟨e, h1, h2⟩
  · simp at h1
  · exact ⟨e, by simpa using h1, h2⟩

theorem before_bit {j i : Nat} (h : befores ops i j = true) : ∃ o, ops[j]? = some o ∧ ∃ e ∈ o.after, Go.Region.binds .any e = true ∧ (e.on = i ∨ e.on < j ∧ befores ops i e.on = true) := by
  have key : ∀ (l : List Oper) (acc : Array Nat), (∀ k, k < acc.size → ∀ i, (acc.getD k 0).testBit i = true → ∃ o, (ops.toList)[k]? = some o ∧ ∃ e ∈ o.after, Go.Region.binds .any e = true ∧ (e.on = i ∨ e.on < k ∧ (acc.getD e.on 0).testBit i = true)) →
      (∀ k o, l[k]? = some o → (ops.toList)[acc.size + k]? = some o) →
      ∀ k, k < (l.foldl (fun acc o => acc.push (maskOf acc o)) acc).size → ∀ i, ((l.foldl (fun acc o => acc.push (maskOf acc o)) acc).getD k 0).testBit i = true →
        ∃ o, (ops.toList)[k]? = some o ∧ ∃ e ∈ o.after, Go.Region.binds .any e = true ∧ (e.on = i ∨ e.on < k ∧ ((l.foldl (fun acc o => acc.push (maskOf acc o)) acc).getD e.on 0).testBit i = true) := by
    intro l
    induction l with
    | nil => intro acc h _; exact h
    | cons o l ih =>
      intro acc hacc hl
      simp only [List.foldl_cons]
      refine ih _ (fun k hk i hb => ?_) (fun k q hq => ?_)
      · have old : ∀ x, x < acc.size → (acc.push (maskOf acc o)).getD x 0 = acc.getD x 0 := fun x hx => by
          simp [Array.getD_eq_getD_getElem?, Array.getElem?_push, Nat.ne_of_lt hx]
        have out : ∀ x, (acc.getD x 0).testBit i = true → x < acc.size := fun x hx => by
          rcases Nat.lt_or_ge x acc.size with h | h
          · exact h
          · simp [Array.getD_eq_getD_getElem?, Array.getElem?_eq_none h] at hx
        rw [Array.size_push] at hk
        by_cases hks : k = acc.size
        · subst hks
          have hv : (acc.push (maskOf acc o)).getD acc.size 0 = maskOf acc o := by simp [Array.getD_eq_getD_getElem?]
          rw [hv] at hb
          obtain ⟨e, h1, h2, h3⟩ := mask_bit hb
          refine ⟨o, by simpa using hl 0 o rfl, e, h1, h2, h3.imp id fun h => ⟨out _ h, by rw [old _ (out _ h)]; exact h⟩⟩
        · rw [old k (by omega)] at hb
          obtain ⟨q, h1, e, h2, h3, h4⟩ := hacc k (by omega) i hb
          exact ⟨q, h1, e, h2, h3, h4.imp id fun h => ⟨h.1, by rw [old _ (by omega)]; exact h.2⟩⟩
      · rw [Array.size_push]
        have := hl (k + 1) q (by simpa using hq)
        rw [← this]; congr 1; omega
  unfold befores at h
  have hb : Go.Region.before ops = ops.toList.foldl (fun acc o => acc.push (maskOf acc o)) #[] := by
    unfold Go.Region.before
    rw [← Array.foldl_toList]; rfl
  have hlt : j < (Go.Region.before ops).size := by
    rcases Nat.lt_or_ge j (Go.Region.before ops).size with h' | h'
    · exact h'
    · simp [Array.getD_eq_getD_getElem?, Array.getElem?_eq_none h'] at h
  obtain ⟨o, h1, e, h2, h3, h4⟩ := key ops.toList #[] (by simp) (by simp) j (by rw [← hb]; exact hlt) i (by rw [← hb]; exact h)
  refine ⟨o, by simpa using h1, e, h2, h3, h4.imp id fun h => ⟨h.1, ?_⟩⟩
  unfold befores
  rw [hb]; exact h.2

/-- what has come, has come with all that is ahead of it -/
def Closed (ops : Array Oper) (L : Nat → Bool) : Prop := ∀ j o, ops[j]? = some o → L j = true → ∀ e ∈ o.after, Go.Region.binds .any e = true → L e.on = true

theorem Closed.bef {L : Nat → Bool} (h : Closed ops L) {i : Nat} : ∀ j, befores ops i j = true → L j = true → L i = true := by
  intro j
  induction j using Nat.strongRecOn with
  | _ j ih =>
    intro hb hl
    obtain ⟨o, ho, e, he, hbd, h1 | ⟨h1, h2⟩⟩ := before_bit hb
    · rw [← h1]; exact h j o ho hl e he hbd
    · exact ih e.on h1 h2 (h j o ho hl e he hbd)

theorem Closed.chain {L : Nat → Bool} (h : Closed ops L) : ∀ (l : List Nat), chained ops l = true → ∀ (a b x y : Nat), a < b → l[a]? = some x → l[b]? = some y → L y = true → L x = true := by
  intro l
  induction l with
  | nil => intro _ a b x y _ hx; simp at hx
  | cons i l ih =>
    intro hc a b x y hab hx hy hl
    cases l with
    | nil => cases b with
      | zero => omega
      | succ b => simp at hy
    | cons j l =>
      simp only [chained, Bool.and_eq_true] at hc
      cases b with
      | zero => omega
      | succ b =>
        cases a with
        | succ a => exact ih hc.2 a b x y (by omega) (by simpa using hx) (by simpa using hy) hl
        | zero =>
          simp at hx; subst hx
          have hj : L j = true := by
            cases b with
            | zero => simp at hy; subst hy; exact hl
            | succ b => exact ih hc.2 0 (b + 1) j y (by omega) rfl (by simpa using hy) hl
          exact h.bef j hc.1 hj

/-- what 'drawOk' says of one operation -/
structure OpOk (P : Program) (ops : Array Oper) (j : Nat) (o : Oper) : Prop where
  guard : ∀ g b, o.guard = some (g, b) → befores ops g j = true
  edge : ∀ e ∈ o.after, Go.Region.binds .any e = true → e.on < j
  apart : ∀ i q, i < j → ops[i]? = some q → befores ops i j = true ∨ ((∀ d, q.dst = some d → d ∉ namesOf ops o) ∧ (∀ d, o.dst = some d → d ∉ namesOf ops q))

theorem drawOk_spec (h : drawOk P ops = true) : chained ops (effsOf P ops) = true ∧ ∀ j o, ops[j]? = some o → OpOk P ops j o := by
  unfold drawOk at h
  rw [Bool.and_eq_true] at h
  refine ⟨h.1, fun j o ho => ?_⟩
  have hj : j < ops.size := (Array.getElem?_eq_some_iff.1 ho).1
  have := List.all_eq_true.1 h.2 j (List.mem_range.2 hj)
  rw [ho] at this
  simp only [Bool.and_eq_true] at this
  obtain ⟨⟨h1, h2⟩, h3⟩ := this
  refine ⟨fun g b hg => ?_, fun e he hb => ?_, fun i q hi hq => ?_⟩
  · rw [hg] at h1
    simp only [Bool.and_eq_true] at h1
    exact h1.1.2
  · have := List.all_eq_true.1 h2 e (by simpa using he)
    simp only [hb, Bool.not_true, Bool.false_or, decide_eq_true_eq] at this
    exact this
  · have := List.all_eq_true.1 h3 i (List.mem_range.2 hi)
    rw [hq] at this
    simp only [Bool.or_eq_true, Bool.and_eq_true] at this
    refine this.imp id fun h => ⟨fun d hd => ?_, fun d hd => ?_⟩
    · have := h.1; rw [hd] at this; simpa using this
    · have := h.2; rw [hd] at this; simpa using this

theorem apart_any (h : drawOk P ops = true) {i j : Nat} {q o : Oper} (hne : i ≠ j) (hq : ops[i]? = some q) (ho : ops[j]? = some o) {d : Go.Tmp} (hd : q.dst = some d) (hm : d ∈ namesOf ops o) :
    (i < j ∧ befores ops i j = true) ∨ (j < i ∧ befores ops j i = true) := by
  rcases Nat.lt_or_gt_of_ne hne with hl | hl
  · rcases ((drawOk_spec h).2 j o ho).apart i q hl hq with h1 | ⟨h1, _⟩
    · exact .inl ⟨hl, h1⟩
    · exact absurd hm (h1 d hd)
  · rcases ((drawOk_spec h).2 i q hq).apart j o hl ho with h1 | ⟨_, h1⟩
    · exact .inr ⟨hl, h1⟩
    · exact absurd hm (h1 d hd)

theorem lo_le {L : Nat → Bool} {k j : Nat} (hL : ∀ e, e < ops.size → effB P ops e = true → befores ops e j = true → cnt (effB P ops) e < k) : loOf P ops j ≤ k := by
  have h1 : ((effsOf P ops).filter fun e => befores ops e j).length ≤ ((effsOf P ops).filter fun e => decide (cnt (effB P ops) e < k)).length := by
    rw [← List.countP_eq_length_filter, ← List.countP_eq_length_filter]
    refine List.countP_mono_left fun e he hb => ?_
    have := List.mem_filter.1 he
    rw [List.mem_range] at this
    exact decide_eq_true (hL e this.1 this.2 hb)
  have h2 : ((effsOf P ops).filter fun e => decide (cnt (effB P ops) e < k)).length = ((List.range (cnt (effB P ops) ops.size)).filter fun c => decide (c < k)).length := by
    rw [← filter_cnt (effB P ops) ops.size, List.filter_map, List.length_map]; rfl
  have h3 : ∀ m, ((List.range m).filter fun c => decide (c < k)).length ≤ k := by
    intro m
    have : ((List.range m).filter fun c => decide (c < k)).length = cnt (fun c => decide (c < k)) m := by
      rw [← List.length_map (f := cnt fun c => decide (c < k)), filter_cnt, List.length_range]
    rw [this]
    have : ∀ m, cnt (fun c => decide (c < k)) m ≤ min m k := by
      intro m
      induction m with
      | zero => simp [cnt]
      | succ m ih => simp only [cnt]; split <;> simp_all <;> omega
    have := this m; omega
  unfold loOf
  rw [h2] at h1
  exact Nat.le_trans h1 (h3 _)

theorem takeWhile_ge {p : Nat → Bool} : ∀ (l : List Nat) (k : Nat), (∀ i, i < k → ∃ x, l[i]? = some x ∧ p x = true) → k ≤ (l.takeWhile p).length
  | _, 0, _ => Nat.zero_le _
  | [], k + 1, h => by obtain ⟨x, hx, _⟩ := h 0 (by omega); simp at hx
  | y :: l, k + 1, h => by
    obtain ⟨x, hx, hp⟩ := h 0 (by omega)
    simp at hx; subst hx
    rw [List.takeWhile_cons_of_pos hp, List.length_cons]
    exact Nat.succ_le_succ (takeWhile_ge l k fun i hi => by obtain ⟨x, hx, hp⟩ := h (i + 1) (by omega); exact ⟨x, by simpa using hx, hp⟩)

theorem le_hi {k j : Nat} (hk : k ≤ cnt (effB P ops) ops.size) (hL : ∀ e, e < ops.size → effB P ops e = true → cnt (effB P ops) e < k → befores ops j e = false) : k ≤ hiOf P ops j := by
  unfold hiOf
  refine takeWhile_ge _ _ fun i hi => ?_
  obtain ⟨e, h1, h2, h3, h4⟩ := nth_eff (p := effB P ops) (n := ops.size) (c := i) (by omega)
  exact ⟨e, h1, by rw [hL e h2 h3 (by omega)]; rfl⟩

end
end Mev
