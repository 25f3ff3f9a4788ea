/- How the relation between abstract blocks and a world is kept: new blocks, and blocks that change. -/
import Derived.Test.YtfndbddlicbjpaaMevRel
import Derived.Laws.AppendOwn

set_option linter.unusedVariables false
namespace Mev
open Go (Value World Addr Obj Program Operand Op Oper Act)

/-- from one state to a later one -/
structure Stp (φ : Phi) (S : St) (w : World) (φ' : Phi) (S' : St) (w' : World) : Prop where
  sim : Sim φ' S' w'
  ext : Ext φ φ'
  fr : Fr (Wr φ S.get) w w'
  wr : ∀ c, c < w.heap.size → ¬ Wr φ S.get c → ¬ Wr φ' S'.get c
  x : ∀ c, φ.X c → w'.heap[c]? = w.heap[c]?
  top : S.top ≤ S'.top
  new : ∀ id g l, φ' id g = some l → (∃ g' l', φ id g' = some l') ∨ S.top ≤ id

theorem Stp.vr {φ φ' : Phi} {S S' : St} {w w' : World} (h : Stp φ S w φ' S' w') {v : V} {u : Value} (hv : VR (Wr φ S.get) w φ v u) : VR (Wr φ' S'.get) w' φ' v u :=
  hv.mono h.fr h.wr h.ext
theorem Stp.refl {φ : Phi} {S : St} {w : World} (h : Sim φ S w) : Stp φ S w φ S w := ⟨h, Ext.refl _, Fr.refl _ _, fun _ _ h => h, fun _ _ => rfl, Nat.le_refl _, fun _ _ _ h => .inl ⟨_, _, h⟩⟩
theorem Stp.trans {a b c : Phi} {A B C : St} {x y z : World} (h : Stp a A x b B y) (k : Stp b B y c C z) : Stp a A x c C z :=
  ⟨k.sim, h.ext.trans k.ext, h.fr.trans k.fr h.wr, fun i hi hn => k.wr i (Nat.lt_of_lt_of_le hi h.fr.size) (h.wr i hi hn),
    fun c hc => (k.x c (by rw [h.ext.x]; exact hc)).trans (h.x c hc), Nat.le_trans h.top k.top, fun id g l e => by
      rcases k.new id g l e with ⟨g', l', e'⟩ | h'
      · exact h.new id g' l' e'
      · exact .inr (Nat.le_trans h.top h')⟩

theorem Rel.update {φ φ' : Phi} {h h' : Nat → Option Blk} {w w' : World} (hr : Rel φ h w) (id0 : Nat) (he : Ext φ φ') (hf : Fr (Wr φ h) w w') (hw : ∀ c, c < w.heap.size → ¬ Wr φ h c → ¬ Wr φ' h' c)
    (hh : ∀ id, id ≠ id0 → h' id = h id) (hφ : ∀ id g, id ≠ id0 → φ' id g = φ id g)
    (hb : ∀ id g c n tot, id ≠ id0 → φ id g = some (.at_ c n tot) → w'.heap[c]? = w.heap[c]?)
    (h0 : ∀ sz rows gen lo, h' id0 = some (.cells sz rows gen lo) → (∀ row ∈ rows, row.length = sz) ∧ (∀ g l, φ' id0 g = some l → g ≤ gen) ∧ (φ' id0 gen = some .virt → rows = []) ∧
      ∀ g c n tot, lo ≤ g → g ≤ gen → φ' id0 g = some (.at_ c n tot) → n ≤ rows.length ∧ (g = gen → n = rows.length) ∧
        ∃ arr e, w'.heap[c]? = some (.cells arr e (0, 0)) ∧ arr.size = tot * sz ∧ Shows (Wr φ' h') w' φ' sz rows n arr)
    (hm : ∀ es c n tot, h' id0 = some (.map es) → φ' id0 0 = some (.at_ c n tot) → ∃ ms clock, w'.heap[c]? = some (.map ms clock) ∧ ms.size = es.length ∧
      ∀ (i : Nat) (e : V × V) (m : Go.MapEntry), es[i]? = some e → ms[i]? = some m → VR (Wr φ' h') w' φ' e.1 m.key ∧ VR (Wr φ' h') w' φ' e.2 m.val ∧ keyOk e.1 = true)
    (hi : ∀ g id' g' c n tot n' tot', φ' id0 g = some (.at_ c n tot) → φ' id' g' = some (.at_ c n' tot') → id0 = id')
    (hl : ∀ g c n tot, φ' id0 g = some (.at_ c n tot) → (c < w'.heap.size ∧ n ≤ tot) ∧ ¬ φ'.X c) : Rel φ' h' w' := by
  refine ⟨?_, ?_, ?_, ?_, ?_, ?_, ?_, ?_, fun c hc => Nat.lt_of_lt_of_le (hr.xlt c (by rw [← he.x]; exact hc)) hf.size⟩
  · intro id sz rows gen lo hg
    by_cases e : id = id0
    · subst e; exact (h0 _ _ _ _ hg).1
    · rw [hh id e] at hg; exact hr.size _ _ _ _ _ hg
  · intro id sz rows gen lo g l hg hp
    by_cases e : id = id0
    · subst e; exact (h0 _ _ _ _ hg).2.1 _ _ hp
    · rw [hh id e] at hg; rw [hφ id _ e] at hp; exact hr.age _ _ _ _ _ _ _ hg hp
  · intro id sz rows gen lo hg hv
    by_cases e : id = id0
    · subst e; exact (h0 _ _ _ _ hg).2.2.1 hv
    · rw [hh id e] at hg; rw [hφ id _ e] at hv; exact hr.virt _ _ _ _ _ hg hv
  · intro id sz rows gen lo g c n tot hg h1 h2 hp
    by_cases e : id = id0
    · subst e; exact (h0 _ _ _ _ hg).2.2.2 _ _ _ _ h1 h2 hp
    · rw [hh id e] at hg; rw [hφ id _ e] at hp
      obtain ⟨a, b, arr, el, hc, hsz, hs⟩ := hr.cells _ _ _ _ _ _ _ _ _ hg h1 h2 hp
      refine ⟨a, b, arr, el, (hb _ _ _ _ _ e hp).trans hc, hsz, fun i j v hi hv => ?_⟩
      obtain ⟨u, hu, hvr, h1⟩ := hs i j v hi hv
      exact ⟨u, hu, hvr.mono hf hw he, h1⟩
  · intro id es c n tot hg hp
    by_cases e : id = id0
    · subst e; exact hm _ _ _ _ hg hp
    · rw [hh id e] at hg; rw [hφ id _ e] at hp
      obtain ⟨ms, clock, hc, hsz, hs⟩ := hr.map _ _ _ _ _ hg hp
      refine ⟨ms, clock, (hb _ _ _ _ _ e hp).trans hc, hsz, fun i e m hi hv => ?_⟩
      obtain ⟨a, b, c⟩ := hs i e m hi hv
      exact ⟨a.mono hf hw he, b.mono hf hw he, c⟩
  · intro id id' g g' c n tot n' tot' h1 h2
    by_cases e : id = id0
    · subst e; exact hi _ _ _ _ _ _ _ _ h1 h2
    · by_cases e' : id' = id0
      · subst e'; exact (hi _ _ _ _ _ _ _ _ h2 h1).symm
      · rw [hφ _ _ e] at h1; rw [hφ _ _ e'] at h2; exact hr.inj _ _ _ _ _ _ _ _ _ h1 h2
  · intro id g c n tot h1
    by_cases e : id = id0
    · subst e; exact (hl _ _ _ _ h1).1
    · rw [hφ _ _ e] at h1
      obtain ⟨a, b⟩ := hr.lt _ _ _ _ _ h1
      exact ⟨Nat.lt_of_lt_of_le a hf.size, b⟩
  · intro id g c n tot h1
    by_cases e : id = id0
    · subst e; exact (hl _ _ _ _ h1).2
    · rw [hφ _ _ e] at h1; rw [he.x]; exact hr.out _ _ _ _ _ h1

theorem at2_mem {rows : List (List V)} {i j : Nat} {v : V} (h : at2 rows i j = some v) : ∃ row, rows[i]? = some row ∧ row[j]? = some v := by
  unfold at2 at h
  cases hr : rows[i]? with
  | none => rw [hr] at h; cases h
  | some row => rw [hr] at h; exact ⟨row, rfl, h⟩
theorem at2_lt {rows : List (List V)} {i j : Nat} {v : V} (h : at2 rows i j = some v) : i < rows.length := by
  obtain ⟨row, hr, _⟩ := at2_mem h
  exact (List.getElem?_eq_some_iff.1 hr).1
theorem at2_flatten {rows : List (List V)} {v : V} (h : v ∈ rows.flatten) : ∃ i j, at2 rows i j = some v := by
  rw [List.mem_flatten] at h
  obtain ⟨row, hr, hv⟩ := h
  obtain ⟨i, hi⟩ := List.mem_iff_getElem?.1 hr
  obtain ⟨j, hj⟩ := List.mem_iff_getElem?.1 hv
  exact ⟨i, j, by simp [at2, hi, hj]⟩
theorem flatten_at2 {rows : List (List V)} {i j : Nat} {v : V} (h : at2 rows i j = some v) : v ∈ rows.flatten := by
  obtain ⟨row, hr, hv⟩ := at2_mem h
  exact List.mem_flatten.2 ⟨row, List.mem_of_getElem? hr, List.mem_of_getElem? hv⟩
theorem kbLL_le {rows : List (List V)} {t : Nat} (h : ∀ v ∈ rows.flatten, v.kb ≤ t) : kbLL rows ≤ t := by
  induction rows with
  | nil => simp [kbLL]
  | cons r rs ih =>
    have h1 : kbL r ≤ t := kbL_le fun i v hv => h v (by simp; exact .inl (List.mem_of_getElem? hv))
    have h2 := ih fun v hv => h v (by rw [List.flatten_cons]; exact List.mem_append_right _ hv)
    simp only [kbLL]; omega
theorem kbLL_mem {rows : List (List V)} {v : V} (h : v ∈ rows.flatten) : v.kb ≤ kbLL rows := by
  induction rows with
  | nil => simp at h
  | cons r rs ih =>
    rw [List.flatten_cons, List.mem_append] at h
    simp only [kbLL]
    rcases h with h | h
    · obtain ⟨i, hi⟩ := List.mem_iff_getElem?.1 h
      have := kbL_mem hi; omega
    · have := ih h; omega

/-- A new block of cells. -/
theorem Sim.push_cells {φ : Phi} {S : St} {w : World} (hs : Sim φ S w) (sz : Nat) (rows : List (List V)) (us : Array Value) (e : Go.TypeId) (tot : Nat) (w' : World)
    (hw' : w' = { w with heap := w.heap.push (.cells us e (0, 0)), drawn := w'.drawn })
    (hrow : ∀ row ∈ rows, row.length = sz) (hus : us.size = tot * sz) (hle : rows.length ≤ tot) (hsh : Shows (Wr φ S.get) w φ sz rows rows.length us) :
    ∃ φ', φ' S.top 0 = some (.at_ w.heap.size rows.length tot) ∧
      Stp φ S w φ' ((S.push (.cells sz rows 0 0)).pinTo (if kbLL rows ≤ S.top then 0 else kbLL rows)) w' := by
  have hk : kbLL rows ≤ S.top := kbLL_le fun v hv => by
    obtain ⟨i, j, ha⟩ := at2_flatten hv
    obtain ⟨u, _, hvr, _⟩ := hsh i j v (at2_lt ha) ha
    exact hvr.kb hs.dom
  rw [if_pos hk, pinTo_zero]
  have hnone : ∀ g, φ S.top g = none := fun g => by
    cases hp : φ S.top g with
    | none => rfl
    | some l => exact absurd (hs.dom _ _ _ hp) (Nat.lt_irrefl _)
  refine ⟨⟨fun id g => if id = S.top ∧ g = 0 then some (.at_ w.heap.size rows.length tot) else φ id g, φ.X⟩, by simp, ?_⟩
  have he : Ext φ ⟨fun id g => if id = S.top ∧ g = 0 then some (.at_ w.heap.size rows.length tot) else φ id g, φ.X⟩ := by
    refine ⟨?_, rfl⟩
    intro id g l h
    have : ¬ (id = S.top ∧ g = 0) := by rintro ⟨rfl, rfl⟩; rw [hnone] at h; cases h
    simp only [if_neg this]; exact h
  have hold : ∀ c, c < w.heap.size → w'.heap[c]? = w.heap[c]? := by
    intro c hc
    rw [hw']
    show (w.heap.push _)[c]? = _
    rw [Array.getElem?_push, if_neg (by omega)]
  have hnew : w'.heap[w.heap.size]? = some (.cells us e (0, 0)) := by
    rw [hw']; show (w.heap.push _)[w.heap.size]? = _; simp
  have hf : Fr (Wr φ S.get) w w' := by
    refine ⟨by rw [hw'], by rw [hw'], by rw [hw'], by rw [hw']; simp, fun c hc _ => hold c hc⟩
  have hwr : ∀ c, c < w.heap.size → ¬ Wr φ S.get c →
      ¬ Wr ⟨fun id g => if id = S.top ∧ g = 0 then some (.at_ w.heap.size rows.length tot) else φ id g, φ.X⟩ (S.push (.cells sz rows 0 0)).get c := by
    rintro c hc hn (hX | ⟨id, g, n, t, hp, b, hb, hd⟩)
    · exact hn (.inl hX)
    by_cases e : id = S.top ∧ g = 0
    · simp only [if_pos e] at hp; cases hp; omega
    · simp only [if_neg e] at hp
      have hlt := hs.dom _ _ _ hp
      rw [push_get _ _ _ hlt] at hb
      exact hn (.inr ⟨id, g, n, t, hp, b, hb, hd⟩)
  refine ⟨⟨?_, ?_, ?_, ?_⟩, he, hf, hwr, fun c hc => hold c (hs.rel.xlt c hc), by simp, fun id g l e => by
    by_cases h : id = S.top ∧ g = 0
    · exact .inr (by omega)
    · simp only [if_neg h] at e; exact .inl ⟨_, _, e⟩⟩
  · refine hs.rel.update S.top he hf hwr (fun id e => ?_) (fun id g e => ?_) (fun id g c n t _ hp => hold c (hs.rel.lt _ _ _ _ _ hp).1) ?_ ?_ ?_ ?_
    · simp [e]
    · simp [e]
    · intro sz' rows' gen lo hg
      simp only [push_get_if, if_true] at hg
      cases hg
      refine ⟨hrow, fun g l hp => ?_, by simp, fun g c n t h1 h2 hp => ?_⟩
      · by_cases e : g = 0
        · omega
        · simp only [e, and_false, if_false] at hp
          rw [hnone] at hp; cases hp
      obtain rfl : g = 0 := by omega
      simp only [and_self, if_true] at hp
      cases hp
      refine ⟨Nat.le_refl _, fun _ => rfl, us, e, hnew, hus, fun i j v hi hv => ?_⟩
      obtain ⟨u, hu, hvr, h1⟩ := hsh i j v hi hv
      exact ⟨u, hu, hvr.mono hf hwr he, h1⟩
    · intro es c n t hg
      simp only [push_get_if, if_true] at hg
      cases hg
    · intro g id' g' c n t n' t' h1 h2
      by_cases e : g = 0
      · subst e
        simp only [and_self, if_true] at h1
        cases h1
        by_cases e' : id' = S.top ∧ g' = 0
        · exact e'.1.symm
        · simp only [if_neg e'] at h2
          have := (hs.rel.lt _ _ _ _ _ h2).1
          omega
      · simp only [e, and_false, if_false] at h1
        rw [hnone] at h1; cases h1
    · intro g c n t h1
      by_cases e : g = 0
      · subst e
        simp only [and_self, if_true] at h1
        cases h1
        exact ⟨⟨by rw [hw']; simp, hle⟩, fun hX => Nat.lt_irrefl _ (hs.rel.xlt _ hX)⟩
      · simp only [e, and_false, if_false] at h1
        rw [hnone] at h1; cases h1
  · intro j b hb v hv
    simp only [push_get_if] at hb
    split at hb
    · rename_i e; subst e
      cases hb
      have := kbLL_mem hv
      simp only [pin_push]; omega
    · exact hs.pin _ _ hb v hv
  · have := hs.pinle; simp; omega
  · intro id g l hp
    by_cases e : id = S.top ∧ g = 0
    · simp [e.1]
    · simp only [if_neg e] at hp
      have := hs.dom _ _ _ hp; simp; omega

/-- A block's content turns: its rows as they are now, its age, the oldest that may be read. -/
theorem Sim.turn {φ : Phi} {S : St} {w : World} (hs : Sim φ S w) {id sz : Nat} {rows : List (List V)} {gen lo : Nat} (hg : S.get id = some (.cells sz rows gen lo))
    (rows' : List (List V)) (gen' lo' : Nat) (c' tot' : Nat) (w' : World) (arr : Array Value) (e : Go.TypeId) (k : Nat) (hgen : gen' = gen ∨ gen' = gen + 1) (hex : ∃ g l, φ id g = some l)
    (hf : Fr (Wr φ S.get) w w') (hc' : w'.heap[c']? = some (.cells arr e (0, 0))) (hsz : arr.size = tot' * sz) (hle : rows'.length ≤ tot') (hrow : ∀ row ∈ rows', row.length = sz)
    (hin : (∃ g n t, φ id g = some (.at_ c' n t)) ∨ w.heap.size ≤ c')
    (hold : ∀ id1 g c n t, id1 ≠ id → φ id1 g = some (.at_ c n t) → w'.heap[c]? = w.heap[c]?)
    (hx : ∀ c, φ.X c → w'.heap[c]? = w.heap[c]?) (hsame : gen' = gen → φ id gen = some (.at_ c' rows'.length tot'))
    (hk : ∀ v ∈ rows'.flatten, v.kb ≤ max k (max id S.pin)) (hkt : k ≤ S.top)
    (hsh : ∀ φ' : Phi, Ext φ φ' → (∀ c, c < w.heap.size → ¬ Wr φ S.get c → ¬ Wr φ' (S.put id (.cells sz rows' gen' lo')).get c) →
      Shows (Wr φ' (S.put id (.cells sz rows' gen' lo')).get) w' φ' sz rows' rows'.length arr ∧
      ∀ g c1 n1 t1, lo' ≤ g → g ≤ gen → g ≠ gen' → φ id g = some (.at_ c1 n1 t1) → n1 ≤ rows'.length ∧
        ∃ arr e, w'.heap[c1]? = some (.cells arr e (0, 0)) ∧ arr.size = t1 * sz ∧ Shows (Wr φ' (S.put id (.cells sz rows' gen' lo')).get) w' φ' sz rows' n1 arr) :
    ∃ φ', φ' id gen' = some (.at_ c' rows'.length tot') ∧ Stp φ S w φ' ((S.put id (.cells sz rows' gen' lo')).pinTo k) w' := by
  have hidl := get_lt _ _ hg
  refine ⟨⟨fun i g => if i = id ∧ g = gen' then some (.at_ c' rows'.length tot') else φ i g, φ.X⟩, by simp, ?_⟩
  have he : Ext φ ⟨fun i g => if i = id ∧ g = gen' then some (.at_ c' rows'.length tot') else φ i g, φ.X⟩ := by
    refine ⟨?_, rfl⟩
    intro i g l h
    by_cases hq : i = id ∧ g = gen'
    · obtain ⟨rfl, rfl⟩ := hq
      simp only [and_self, if_true]
      rcases hgen with rfl | rfl
      · rw [← hsame rfl]; exact h
      · exact absurd (hs.rel.age _ _ _ _ _ _ _ hg h) (by omega)
    · simp only [if_neg hq]; exact h
  have hget : ∀ i, (S.put id (.cells sz rows' gen' lo')).get i = if id = i then some (.cells sz rows' gen' lo') else S.get i := by
    intro i
    rw [put_get_if]
    by_cases hq : id = i
    · rw [if_pos ⟨hq, hidl⟩, if_pos hq]
    · rw [if_neg (fun h => hq h.1), if_neg hq]
  have hwr : ∀ c, c < w.heap.size → ¬ Wr φ S.get c → ¬ Wr ⟨fun i g => if i = id ∧ g = gen' then some (.at_ c' rows'.length tot') else φ i g, φ.X⟩ (S.put id (.cells sz rows' gen' lo')).get c := by
    rintro c hc hn (hX | ⟨i, g, n, t, hp, b, hb, hd⟩)
    · exact hn (.inl hX)
    rw [hget] at hb
    by_cases hq : i = id ∧ g = gen'
    · simp only [if_pos hq] at hp
      cases hp
      rcases hin with ⟨g, n, t, h⟩ | h
      · exact hn (.inr ⟨id, g, n, t, h, _, hg, by simp⟩)
      · omega
    · simp only [if_neg hq] at hp
      by_cases hi : id = i
      · subst hi; exact hn (.inr ⟨id, g, n, t, hp, _, hg, by simp⟩)
      · rw [if_neg hi] at hb; exact hn (.inr ⟨i, g, n, t, hp, b, hb, hd⟩)
  obtain ⟨hsh1, hsh2⟩ := hsh _ he hwr
  refine ⟨⟨?_, ?_, ?_, ?_⟩, he, hf, hwr, hx, by simp, fun i g l e => by
    by_cases h : i = id ∧ g = gen'
    · rw [h.1]; exact .inl hex
    · simp only [if_neg h] at e; exact .inl ⟨_, _, e⟩⟩
  · show Rel _ (S.put id (.cells sz rows' gen' lo')).get w'
    refine hs.rel.update id he hf hwr (fun i hi => ?_) (fun i g hi => ?_) (fun i g c n t hi hp => hold i g c n t hi hp) ?_ ?_ ?_ ?_
    · rw [hget, if_neg (Ne.symm hi)]
    · simp [hi]
    · intro sz1 rows1 gen1 lo1 h1
      rw [hget, if_pos rfl] at h1
      cases h1
      refine ⟨hrow, fun g l hp => ?_, fun hv => ?_, fun g c n t h1 h2 hp => ?_⟩
      · by_cases hq : g = gen'
        · omega
        · simp only [hq, and_false, if_false] at hp
          have := hs.rel.age _ _ _ _ _ _ _ hg hp
          omega
      · simp at hv
      · by_cases hq : g = gen'
        · subst hq
          simp only [and_self, if_true] at hp
          cases hp
          exact ⟨Nat.le_refl _, fun _ => rfl, arr, e, hc', hsz, hsh1⟩
        · simp only [hq, and_false, if_false] at hp
          obtain ⟨a, b⟩ := hsh2 g c n t h1 (hs.rel.age _ _ _ _ _ _ _ hg hp) hq hp
          exact ⟨a, fun e => absurd e hq, b⟩
    · intro es c n t h1
      rw [hget, if_pos rfl] at h1
      cases h1
    · intro g id' g' c n t n' t' h1 h2
      have own : ∀ c n t, (if id = id ∧ g = gen' then some (Loc.at_ c' rows'.length tot') else φ id g) = some (.at_ c n t) → (∃ g n t, φ id g = some (.at_ c n t)) ∨ w.heap.size ≤ c := by
        intro c n t h
        by_cases hq : g = gen'
        · simp only [hq, and_self, if_true] at h; cases h; exact hin
        · simp only [hq, and_false, if_false] at h; exact .inl ⟨_, _, _, h⟩
      by_cases hi : id' = id
      · exact hi.symm
      · simp only [hi, false_and, if_false] at h2
        rcases own c n t h1 with ⟨g1, n1, t1, h⟩ | h
        · exact hs.rel.inj _ _ _ _ _ _ _ _ _ h h2
        · have := (hs.rel.lt _ _ _ _ _ h2).1; omega
    · intro g c n t h1
      by_cases hq : g = gen'
      · simp only [hq, and_self, if_true] at h1
        cases h1
        refine ⟨⟨(Array.getElem?_eq_some_iff.1 hc').1, hle⟩, fun hX => ?_⟩
        rcases hin with ⟨g, n, t, h⟩ | h
        · exact hs.rel.out _ _ _ _ _ h hX
        · have := hs.rel.xlt _ hX; omega
      · simp only [hq, and_false, if_false] at h1
        obtain ⟨a, b⟩ := hs.rel.lt _ _ _ _ _ h1
        exact ⟨⟨Nat.lt_of_lt_of_le a hf.size, b⟩, hs.rel.out _ _ _ _ _ h1⟩
  · intro j b hb v hv
    rw [get_pinTo, hget] at hb
    split at hb
    · rename_i hq; subst hq
      cases hb
      have := hk v hv
      simp only [pin_pinTo, pin_put]; omega
    · have := hs.pin _ _ hb v hv
      simp only [pin_pinTo, pin_put]; omega
  · have := hs.pinle; simp only [pin_pinTo, pin_put, top_pinTo, top_put]; omega
  · intro i g l hp
    simp only [top_pinTo, top_put]
    by_cases hq : i = id ∧ g = gen'
    · rw [hq.1]; exact hidl
    · simp only [if_neg hq] at hp; exact hs.dom _ _ _ hp

/-- An empty block that has no memory yet. -/
theorem Sim.push_virt {φ : Phi} {S : St} {w : World} (hs : Sim φ S w) (sz : Nat) : ∃ φ', φ' S.top 0 = some .virt ∧ Stp φ S w φ' (S.push (.cells sz [] 0 0)) w := by
  have hnone : ∀ g, φ S.top g = none := fun g => by
    cases hp : φ S.top g with
    | none => rfl
    | some l => exact absurd (hs.dom _ _ _ hp) (Nat.lt_irrefl _)
  refine ⟨⟨fun id g => if id = S.top ∧ g = 0 then some .virt else φ id g, φ.X⟩, by simp, ?_⟩
  have he : Ext φ ⟨fun id g => if id = S.top ∧ g = 0 then some .virt else φ id g, φ.X⟩ := by
    refine ⟨?_, rfl⟩
    intro id g l h
    have : ¬ (id = S.top ∧ g = 0) := by rintro ⟨rfl, rfl⟩; rw [hnone] at h; cases h
    simp only [if_neg this]; exact h
  have hwr : ∀ c, c < w.heap.size → ¬ Wr φ S.get c → ¬ Wr ⟨fun id g => if id = S.top ∧ g = 0 then some .virt else φ id g, φ.X⟩ (S.push (.cells sz [] 0 0)).get c := by
    rintro c hc hn (hX | ⟨id, g, n, t, hp, b, hb, hd⟩)
    · exact hn (.inl hX)
    by_cases e : id = S.top ∧ g = 0
    · simp only [if_pos e] at hp; cases hp
    · simp only [if_neg e] at hp
      rw [push_get _ _ _ (hs.dom _ _ _ hp)] at hb
      exact hn (.inr ⟨id, g, n, t, hp, b, hb, hd⟩)
  refine ⟨⟨?_, ?_, ?_, ?_⟩, he, Fr.refl _ _, hwr, fun _ _ => rfl, by simp, fun id g l e => by
    by_cases h : id = S.top ∧ g = 0
    · exact .inr (by omega)
    · simp only [if_neg h] at e; exact .inl ⟨_, _, e⟩⟩
  · refine hs.rel.update S.top he (Fr.refl _ _) hwr (fun id e => by simp [e]) (fun id g e => by simp [e]) (fun id g c n t _ hp => rfl) ?_ ?_ ?_ ?_
    · intro sz' rows' gen lo hg
      simp only [push_get_if, if_true] at hg
      cases hg
      refine ⟨by simp, fun g l hp => ?_, fun _ => rfl, fun g c n t h1 h2 hp => ?_⟩
      · by_cases e : g = 0
        · omega
        · simp only [e, and_false, if_false] at hp
          rw [hnone] at hp; cases hp
      · obtain rfl : g = 0 := by omega
        simp only [and_self, if_true] at hp
        cases hp
    · intro es c n t hg
      simp only [push_get_if, if_true] at hg
      cases hg
    · intro g id' g' c n t n' t' h1 h2
      by_cases e : g = 0
      · simp only [e, and_self, if_true] at h1; cases h1
      · simp only [e, and_false, if_false] at h1
        rw [hnone] at h1; cases h1
    · intro g c n t h1
      by_cases e : g = 0
      · simp only [e, and_self, if_true] at h1; cases h1
      · simp only [e, and_false, if_false] at h1
        rw [hnone] at h1; cases h1
  · intro j b hb v hv
    simp only [push_get_if] at hb
    split at hb
    · cases hb; simp [contents] at hv
    · exact hs.pin _ _ hb v hv
  · have := hs.pinle; simp; omega
  · intro id g l hp
    by_cases e : id = S.top ∧ g = 0
    · simp [e.1]
    · simp only [if_neg e] at hp
      have := hs.dom _ _ _ hp; simp; omega

/-- A block is given up: its memory is not changed any more. -/
theorem Sim.kill {φ : Phi} {S : St} {w : World} (hs : Sim φ S w) (id : Nat) : Stp φ S w φ (S.put id .dead) w := by
  by_cases hid : id < S.top
  · have hget : ∀ i, (S.put id .dead).get i = if id = i then some .dead else S.get i := by
      intro i
      rw [put_get_if]
      by_cases hq : id = i
      · rw [if_pos ⟨hq, hid⟩, if_pos hq]
      · rw [if_neg (fun h => hq h.1), if_neg hq]
    have hwr : ∀ c, c < w.heap.size → ¬ Wr φ S.get c → ¬ Wr φ (S.put id .dead).get c := by
      rintro c hc hn (hX | ⟨i, g, n, t, hp, b, hb, hd⟩)
      · exact hn (.inl hX)
      rw [hget] at hb
      split at hb
      · cases hb; exact hd rfl
      · exact hn (.inr ⟨i, g, n, t, hp, b, hb, hd⟩)
    refine ⟨⟨?_, ?_, ?_, ?_⟩, Ext.refl _, Fr.refl _ _, hwr, fun _ _ => rfl, by simp, fun _ _ _ h => .inl ⟨_, _, h⟩⟩
    · refine hs.rel.update id (Ext.refl _) (Fr.refl _ _) hwr (fun i hi => ?_) (fun _ _ _ => rfl) (fun _ _ _ _ _ _ _ => rfl) ?_ ?_ ?_ ?_
      · rw [hget, if_neg (Ne.symm hi)]
      · intro sz rows gen lo h; rw [hget, if_pos rfl] at h; cases h
      · intro es c n t h; rw [hget, if_pos rfl] at h; cases h
      · intro g id' g' c n t n' t' h1 h2; exact hs.rel.inj _ _ _ _ _ _ _ _ _ h1 h2
      · intro g c n t h1; exact ⟨hs.rel.lt _ _ _ _ _ h1, hs.rel.out _ _ _ _ _ h1⟩
    · intro j b hb v hv
      rw [hget] at hb
      split at hb
      · cases hb; simp [contents] at hv
      · simpa using hs.pin _ _ hb v hv
    · simpa using hs.pinle
    · intro i g l hp; simpa using hs.dom _ _ _ hp
  · have : S.put id .dead = S := put_ge S .dead id (by omega)
    rw [this]; exact Stp.refl hs

/-- The youngest blocks are dropped. -/
theorem Sim.trunc {φ : Phi} {S : St} {w : World} (hs : Sim φ S w) (k : Nat) (hp : S.pin ≤ k) (hk : k ≤ S.top) :
    ∃ φ' : Phi, (∀ id g, id < k → φ' id g = φ id g) ∧ φ'.X = φ.X ∧ Sim φ' (S.trunc k) w ∧ (∀ c, ¬ Wr φ S.get c → ¬ Wr φ' (S.trunc k).get c) := by
  refine ⟨⟨fun id g => if id < k then φ id g else none, φ.X⟩, fun id g h => by simp [h], ?_⟩
  have hget : ∀ i, i < k → (S.trunc k).get i = S.get i := fun i hi => trunc_get S i k hi hk
  have hge : ∀ i, k ≤ i → (S.trunc k).get i = none := fun i hi => get_ge (S.trunc k) i (by rw [top_trunc_min]; omega)
  have hwr : ∀ c, ¬ Wr φ S.get c → ¬ Wr ⟨fun id g => if id < k then φ id g else none, φ.X⟩ (S.trunc k).get c := by
    rintro c hn (hX | ⟨i, g, n, t, hq, b, hb, hd⟩)
    · exact hn (.inl hX)
    by_cases hi : i < k
    · simp only [hi, if_true] at hq; rw [hget i hi] at hb; exact hn (.inr ⟨i, g, n, t, hq, b, hb, hd⟩)
    · simp only [hi, if_false] at hq; cases hq
  have hvr : ∀ {v : V} {u : Value}, v.kb ≤ k → VR (Wr φ S.get) w φ v u → VR (Wr ⟨fun id g => if id < k then φ id g else none, φ.X⟩ (S.trunc k).get) w ⟨fun id g => if id < k then φ id g else none, φ.X⟩ v u := by
    intro v u hv h
    refine h.mono' (Fr.refl _ _) (fun c _ hn => hwr c hn) fun id g l e hi => ?_
    have : id < k := Nat.lt_of_lt_of_le hi hv
    simp only [this, if_true]; exact e
  have hkb : ∀ j b, j < k → S.get j = some b → ∀ v ∈ contents b, v.kb ≤ k := fun j b hj hb v hv => by
    have := hs.pin j b hb v hv; omega
  refine ⟨rfl, ⟨⟨?_, ?_, ?_, ?_, ?_, ?_, ?_, ?_, hs.rel.xlt⟩, ?_, ?_, ?_⟩, hwr⟩
  · intro id sz rows gen lo hg
    by_cases hi : id < k
    · rw [hget id hi] at hg; exact hs.rel.size _ _ _ _ _ hg
    · rw [hge id (by omega)] at hg; cases hg
  · intro id sz rows gen lo g l hg hq
    by_cases hi : id < k
    · rw [hget id hi] at hg; simp only [hi, if_true] at hq; exact hs.rel.age _ _ _ _ _ _ _ hg hq
    · rw [hge id (by omega)] at hg; cases hg
  · intro id sz rows gen lo hg hq
    by_cases hi : id < k
    · rw [hget id hi] at hg; simp only [hi, if_true] at hq; exact hs.rel.virt _ _ _ _ _ hg hq
    · rw [hge id (by omega)] at hg; cases hg
  · intro id sz rows gen lo g c n t hg h1 h2 hq
    by_cases hi : id < k
    · rw [hget id hi] at hg; simp only [hi, if_true] at hq
      obtain ⟨a, b, arr, e, hc, hsz, hsh⟩ := hs.rel.cells _ _ _ _ _ _ _ _ _ hg h1 h2 hq
      refine ⟨a, b, arr, e, hc, hsz, fun i j v hi' hv => ?_⟩
      obtain ⟨u, hu, hv', h1'⟩ := hsh i j v hi' hv
      exact ⟨u, hu, hvr (hkb id _ hi hg v (flatten_at2 hv)) hv', h1'⟩
    · rw [hge id (by omega)] at hg; cases hg
  · intro id es c n t hg hq
    by_cases hi : id < k
    · rw [hget id hi] at hg; simp only [hi, if_true] at hq
      obtain ⟨ms, clock, hc, hsz, hm⟩ := hs.rel.map _ _ _ _ _ hg hq
      refine ⟨ms, clock, hc, hsz, fun i e m he hm' => ?_⟩
      obtain ⟨a, b, c⟩ := hm i e m he hm'
      have hmem : ∀ x, x ∈ [e.1, e.2] → x ∈ contents (.map es) := fun x hx => List.mem_flatMap.2 ⟨e, List.mem_of_getElem? he, hx⟩
      exact ⟨hvr (hkb id _ hi hg _ (hmem e.1 (by simp))) a, hvr (hkb id _ hi hg _ (hmem e.2 (by simp))) b, c⟩
    · rw [hge id (by omega)] at hg; cases hg
  · intro id id' g g' c n t n' t' h1 h2
    by_cases hi : id < k <;> by_cases hi' : id' < k <;> simp only [hi, hi', if_true, if_false] at h1 h2
    · exact hs.rel.inj _ _ _ _ _ _ _ _ _ h1 h2
    · cases h2
    · cases h1
    · cases h1
  · intro id g c n t h1
    by_cases hi : id < k <;> simp only [hi, if_true, if_false] at h1
    · exact hs.rel.lt _ _ _ _ _ h1
    · cases h1
  · intro id g c n tot h1
    by_cases hi : id < k <;> simp only [hi, if_true, if_false] at h1
    · exact hs.rel.out _ _ _ _ _ h1
    · cases h1
  · intro j b hb v hv
    by_cases hi : j < k
    · rw [hget j hi] at hb; simpa using hs.pin _ _ hb v hv
    · rw [hge j (by omega)] at hb; cases hb
  · rw [top_trunc_min]; simp; omega
  · intro id g l hq
    by_cases hi : id < k <;> simp only [hi, if_true, if_false] at hq
    · rw [top_trunc_min]; omega
    · cases hq

end Mev
