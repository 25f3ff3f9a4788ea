/- Regions that draw their order: a step run upon the old blocks alone. -/
import Derived.Test.YtfndbddlicbjpaaMevDraw1

set_option linter.unusedVariables false
namespace Mev
open Go (Value World Addr Obj Program Operand Op Oper Act Result Next undef Sem Builtin Code Exit Calls Ending Func)

/-- the blocks of A, above them those of B -/
def St.splice (A B : St) : St := ⟨B.bs.take (B.bs.length - A.bs.length) ++ A.bs, A.pin⟩
theorem splice_top {A B : St} (h : A.top ≤ B.top) : (A.splice B).top = B.top := by
  unfold St.top St.splice at *; simp; omega
theorem splice_get {A B : St} (h : A.top ≤ B.top) (i : Nat) : (A.splice B).get i = if i < A.top then A.get i else B.get i := by
  have ht := splice_top h
  unfold St.get
  unfold St.top at ht h
  rw [ht]
  unfold St.splice St.top
  simp only
  by_cases hi : i < A.bs.length
  · rw [if_pos (by omega), if_pos hi, if_pos hi, List.getElem?_append_right (by simp; omega)]
    congr 1; simp; omega
  · rw [if_neg hi]
    by_cases hB : i < B.bs.length
    · rw [if_pos hB, if_pos hB, List.getElem?_append_left (by simp; omega), List.getElem?_take_of_lt (by omega)]
    · rw [if_neg hB, if_neg hB]

/-- the old blocks alone; the others are foreign -/
def Phi.down (φ : Phi) (q : Nat) : Phi := ⟨fun id g => if id < q then φ id g else none, fun c => φ.X c ∨ ∃ id g n t, q ≤ id ∧ φ id g = some (.at_ c n t)⟩

section
variable {φ : Phi} {Z Sp : St} {w : World} {q : Nat}

theorem down_some {id g : Nat} {l : Loc} (h : φ.down q id g = some l) : id < q ∧ φ id g = some l := by
  unfold Phi.down at h
  simp only at h
  split at h
  · exact ⟨by assumption, h⟩
  · cases h

structure View (φ : Phi) (Z : St) (w : World) (q : Nat) (Sp : St) : Prop where
  sim : Sim φ Z w
  top : Sp.top = q
  ag : ∀ id g l, φ id g = some l → id < q → Sp.get id = Z.get id
  sz : ∀ id sz rows gen lo, Sp.get id = some (.cells sz rows gen lo) → ∀ row ∈ rows, row.length = sz
  pin : ∀ j b, Sp.get j = some b → ∀ v ∈ contents b, v.kb ≤ max j Sp.pin
  pinle : Sp.pin ≤ q
  liv : ∀ id g l, φ id g = some l → q ≤ id → live Z.get id

theorem View.wr (h : View φ Z w q Sp) (c : Nat) : Wr (φ.down q) Sp.get c ↔ Wr φ Z.get c := by
  constructor
  · rintro ((hX | ⟨id, g, n, t, hq, hp⟩) | ⟨id, g, n, t, hp, hl⟩)
    · exact .inl hX
    · exact .inr ⟨id, g, n, t, hp, h.liv _ _ _ hp hq⟩
    · obtain ⟨h1, h2⟩ := down_some hp
      refine .inr ⟨id, g, n, t, h2, ?_⟩
      obtain ⟨b, hb, hd⟩ := hl
      exact ⟨b, by rw [← h.ag _ _ _ h2 h1]; exact hb, hd⟩
  · rintro (hX | ⟨id, g, n, t, hp, hl⟩)
    · exact .inl (.inl hX)
    · by_cases hq : id < q
      · refine .inr ⟨id, g, n, t, by unfold Phi.down; simp only [if_pos hq]; exact hp, ?_⟩
        obtain ⟨b, hb, hd⟩ := hl
        exact ⟨b, by rw [h.ag _ _ _ hp hq]; exact hb, hd⟩
      · exact .inl (.inr ⟨id, g, n, t, by omega, hp⟩)

theorem View.vr (h : View φ Z w q Sp) {v : V} {u : Value} (hk : v.kb ≤ q) (hv : VR (Wr φ Z.get) w φ v u) : VR (Wr (φ.down q) Sp.get) w (φ.down q) v u :=
  hv.mono' (Fr.refl _ _) (fun c _ hn hc => hn ((h.wr c).1 hc)) fun id g l e hi => by
    unfold Phi.down; simp only [if_pos (Nat.lt_of_lt_of_le hi hk)]; exact e

theorem View.down (h : View φ Z w q Sp) : Sim (φ.down q) Sp w := by
  have hkb : ∀ id b, Sp.get id = some b → ∀ v ∈ contents b, v.kb ≤ q := fun id b hb v hv => by
    have h1 := h.pin id b hb v hv
    have h2 := get_lt _ _ hb
    rw [h.top] at h2
    have := h.pinle
    omega
  refine ⟨⟨fun id sz rows gen lo hg => h.sz _ _ _ _ _ hg, ?_, ?_, ?_, ?_, ?_, ?_, ?_, ?_⟩, h.pin, by rw [h.top]; exact h.pinle, fun id g l hp => by rw [h.top]; exact (down_some hp).1⟩
  · intro id sz rows gen lo g l hg hp
    obtain ⟨h1, h2⟩ := down_some hp
    rw [h.ag _ _ _ h2 h1] at hg
    exact h.sim.rel.age _ _ _ _ _ _ _ hg h2
  · intro id sz rows gen lo hg hp
    obtain ⟨h1, h2⟩ := down_some hp
    rw [h.ag _ _ _ h2 h1] at hg
    exact h.sim.rel.virt _ _ _ _ _ hg h2
  · intro id sz rows gen lo g c n tot hg k1 k2 hp
    obtain ⟨h1, h2⟩ := down_some hp
    have hg' := hg
    rw [h.ag _ _ _ h2 h1] at hg
    obtain ⟨a, b, arr, e, hc, hs, hsh⟩ := h.sim.rel.cells _ _ _ _ _ _ _ _ _ hg k1 k2 h2
    refine ⟨a, b, arr, e, hc, hs, fun i j v hi hv => ?_⟩
    obtain ⟨u, hu, hvr, ho⟩ := hsh i j v hi hv
    exact ⟨u, hu, h.vr (hkb id _ hg' v (by simp only [contents]; exact flatten_at2 hv)) hvr, ho⟩
  · intro id es c n tot hg hp
    obtain ⟨h1, h2⟩ := down_some hp
    have hg' := hg
    rw [h.ag _ _ _ h2 h1] at hg
    obtain ⟨ms, clock, hc, hs, hm⟩ := h.sim.rel.map _ _ _ _ _ hg h2
    refine ⟨ms, clock, hc, hs, fun i e m he hm' => ?_⟩
    obtain ⟨a, b, c⟩ := hm i e m he hm'
    have hmem : ∀ x, x ∈ [e.1, e.2] → x ∈ contents (.map es) := fun x hx => List.mem_flatMap.2 ⟨e, List.mem_of_getElem? he, hx⟩
    exact ⟨h.vr (hkb id _ hg' _ (hmem e.1 (by simp))) a, h.vr (hkb id _ hg' _ (hmem e.2 (by simp))) b, c⟩
  · intro id id' g g' c n tot n' tot' h1 h2
    exact h.sim.rel.inj _ _ _ _ _ _ _ _ _ (down_some h1).2 (down_some h2).2
  · intro id g c n tot h1
    exact h.sim.rel.lt _ _ _ _ _ (down_some h1).2
  · rintro id g c n tot h1 (hX | ⟨id', g', n', t', hq, hp⟩)
    · exact h.sim.rel.out _ _ _ _ _ (down_some h1).2 hX
    · have := h.sim.rel.inj _ _ _ _ _ _ _ _ _ (down_some h1).2 hp
      have := (down_some h1).1
      omega
  · rintro c (hX | ⟨id', g', n', t', hq, hp⟩)
    · exact h.sim.rel.xlt c hX
    · exact (h.sim.rel.lt _ _ _ _ _ hp).1

/-- the old blocks as they are now, the others as they were -/
def Phi.up (φ1 φ : Phi) (t : Nat) : Phi := ⟨fun id g => if id < t then φ1 id g else φ id g, φ.X⟩

theorem View.up (h : View φ Z w q Sp) {φ1 : Phi} {So : St} {w1 : World} (hst : Stp (φ.down q) Sp w φ1 So w1) (hle : So.top ≤ Z.top) (early : ∀ id g l, φ id g = some l → q ≤ id → So.top ≤ id)
    (hpZ : ∀ j b, Z.get j = some b → So.top ≤ j → ∀ v ∈ contents b, v.kb ≤ j) :
    Sim (φ1.up φ So.top) (So.splice Z) w1 ∧ (∀ v u, VR (Wr φ Z.get) w φ v u → VR (Wr (φ1.up φ So.top) (So.splice Z).get) w1 (φ1.up φ So.top) v u) ∧
    (∀ v u, VR (Wr φ1 So.get) w1 φ1 v u → VR (Wr (φ1.up φ So.top) (So.splice Z).get) w1 (φ1.up φ So.top) v u) ∧ Ext φ (φ1.up φ So.top) ∧ Fr (Wr φ Z.get) w w1 ∧
    (∀ c, c < w.heap.size → ¬ Wr φ Z.get c → ¬ Wr (φ1.up φ So.top) (So.splice Z).get c) ∧ (∀ c, φ.X c → w1.heap[c]? = w.heap[c]?) ∧
    (∀ id g l, φ1.up φ So.top id g = some l → (∃ g' l', φ id g' = some l') ∨ (q ≤ id ∧ id < So.top)) := by
  have hqt : q ≤ So.top := by rw [← h.top]; exact hst.top
  have hget := splice_get hle
  have hX1 : φ1.X = fun c => φ.X c ∨ ∃ id g n t, q ≤ id ∧ φ id g = some (.at_ c n t) := hst.ext.x
  have hex : Ext φ (φ1.up φ So.top) := by
    refine ⟨fun id g l e => ?_, rfl⟩
    unfold Phi.up
    simp only
    split
    · rename_i hlt
      by_cases hq : id < q
      · exact hst.ext.e _ _ _ (by unfold Phi.down; simp only [if_pos hq]; exact e)
      · have := early _ _ _ e (by omega); omega
    · exact e
  have hup : ∀ {id g l}, φ1.up φ So.top id g = some l → (id < So.top ∧ φ1 id g = some l) ∨ (So.top ≤ id ∧ φ id g = some l) := by
    intro id g l e
    unfold Phi.up at e
    simp only at e
    split at e
    · exact .inl ⟨by assumption, e⟩
    · exact .inr ⟨by omega, e⟩
  have hwr : ∀ c, Wr (φ1.up φ So.top) (So.splice Z).get c ↔ Wr φ1 So.get c := by
    intro c
    constructor
    · rintro (hX | ⟨id, g, n, t, hp, b, hb, hd⟩)
      · exact .inl (by rw [hX1]; exact .inl hX)
      · rw [hget] at hb
        rcases hup hp with ⟨h1, h2⟩ | ⟨h1, h2⟩
        · rw [if_pos h1] at hb
          exact .inr ⟨id, g, n, t, h2, b, hb, hd⟩
        · exact .inl (by rw [hX1]; exact .inr ⟨id, g, n, t, by omega, h2⟩)
    · rintro (hX | ⟨id, g, n, t, hp, b, hb, hd⟩)
      · rw [hX1] at hX
        rcases hX with hX | ⟨id, g, n, t, hq, hp⟩
        · exact .inl hX
        · have h1 := early _ _ _ hp hq
          obtain ⟨b, hb, hd⟩ := h.liv _ _ _ hp hq
          exact .inr ⟨id, g, n, t, by unfold Phi.up; simp only [if_neg (Nat.not_lt.2 h1)]; exact hp, b, by rw [hget, if_neg (Nat.not_lt.2 h1)]; exact hb, hd⟩
      · have h1 := hst.sim.dom _ _ _ hp
        exact .inr ⟨id, g, n, t, by unfold Phi.up; simp only [if_pos h1]; exact hp, b, by rw [hget, if_pos h1]; exact hb, hd⟩
  have hfr : Fr (Wr φ Z.get) w w1 := ⟨hst.fr.os, hst.fr.tape, hst.fr.output, hst.fr.size, fun c hc hn => hst.fr.block c hc fun hw => hn ((h.wr c).1 hw)⟩
  have hwr2 : ∀ c, c < w.heap.size → ¬ Wr φ Z.get c → ¬ Wr (φ1.up φ So.top) (So.splice Z).get c := fun c hc hn hw => hst.wr c hc (fun hw => hn ((h.wr c).1 hw)) ((hwr c).1 hw)
  have hold : ∀ v u, VR (Wr φ Z.get) w φ v u → VR (Wr (φ1.up φ So.top) (So.splice Z).get) w1 (φ1.up φ So.top) v u := fun v u hv => hv.mono hfr hwr2 hex
  have hnew : ∀ v u, VR (Wr φ1 So.get) w1 φ1 v u → VR (Wr (φ1.up φ So.top) (So.splice Z).get) w1 (φ1.up φ So.top) v u := fun v u hv =>
    hv.mono' (Fr.refl _ _) (fun c _ hn hw => hn ((hwr c).1 hw)) fun id g l e _ => by
      have h1 := hst.sim.dom _ _ _ e
      unfold Phi.up; simp only [if_pos h1]; exact e
  have hXc : ∀ id g c n t, φ id g = some (.at_ c n t) → So.top ≤ id → w1.heap[c]? = w.heap[c]? := fun id g c n t hp hi => hst.x c (.inr ⟨id, g, n, t, by omega, hp⟩)
  refine ⟨⟨⟨?_, ?_, ?_, ?_, ?_, ?_, ?_, ?_, ?_⟩, ?_, ?_, ?_⟩, hold, hnew, hex, hfr, hwr2, fun c hX => hst.x c (.inl hX), ?_⟩
  · intro id sz rows gen lo hg
    rw [hget] at hg
    split at hg
    · exact hst.sim.rel.size _ _ _ _ _ hg
    · exact h.sim.rel.size _ _ _ _ _ hg
  · intro id sz rows gen lo g l hg hp
    rw [hget] at hg
    rcases hup hp with ⟨h1, h2⟩ | ⟨h1, h2⟩
    · rw [if_pos h1] at hg; exact hst.sim.rel.age _ _ _ _ _ _ _ hg h2
    · rw [if_neg (by omega)] at hg; exact h.sim.rel.age _ _ _ _ _ _ _ hg h2
  · intro id sz rows gen lo hg hp
    rw [hget] at hg
    rcases hup hp with ⟨h1, h2⟩ | ⟨h1, h2⟩
    · rw [if_pos h1] at hg; exact hst.sim.rel.virt _ _ _ _ _ hg h2
    · rw [if_neg (by omega)] at hg; exact h.sim.rel.virt _ _ _ _ _ hg h2
  · intro id sz rows gen lo g c n tot hg k1 k2 hp
    rw [hget] at hg
    rcases hup hp with ⟨h1, h2⟩ | ⟨h1, h2⟩
    · rw [if_pos h1] at hg
      obtain ⟨a, b, arr, e, hc, hs, hsh⟩ := hst.sim.rel.cells _ _ _ _ _ _ _ _ _ hg k1 k2 h2
      exact ⟨a, b, arr, e, hc, hs, fun i j v hi hv => by obtain ⟨u, hu, hvr, ho⟩ := hsh i j v hi hv; exact ⟨u, hu, hnew _ _ hvr, ho⟩⟩
    · rw [if_neg (by omega)] at hg
      obtain ⟨a, b, arr, e, hc, hs, hsh⟩ := h.sim.rel.cells _ _ _ _ _ _ _ _ _ hg k1 k2 h2
      exact ⟨a, b, arr, e, by rw [hXc _ _ _ _ _ h2 h1]; exact hc, hs, fun i j v hi hv => by obtain ⟨u, hu, hvr, ho⟩ := hsh i j v hi hv; exact ⟨u, hu, hold _ _ hvr, ho⟩⟩
  · intro id es c n tot hg hp
    rw [hget] at hg
    rcases hup hp with ⟨h1, h2⟩ | ⟨h1, h2⟩
    · rw [if_pos h1] at hg
      obtain ⟨ms, clock, hc, hs, hm⟩ := hst.sim.rel.map _ _ _ _ _ hg h2
      exact ⟨ms, clock, hc, hs, fun i e m he hm' => by obtain ⟨a, b, c⟩ := hm i e m he hm'; exact ⟨hnew _ _ a, hnew _ _ b, c⟩⟩
    · rw [if_neg (by omega)] at hg
      obtain ⟨ms, clock, hc, hs, hm⟩ := h.sim.rel.map _ _ _ _ _ hg h2
      exact ⟨ms, clock, by rw [hXc _ _ _ _ _ h2 h1]; exact hc, hs, fun i e m he hm' => by obtain ⟨a, b, c⟩ := hm i e m he hm'; exact ⟨hold _ _ a, hold _ _ b, c⟩⟩
  · intro id id' g g' c n tot n' tot' k1 k2
    rcases hup k1 with ⟨h1, h2⟩ | ⟨h1, h2⟩ <;> rcases hup k2 with ⟨h3, h4⟩ | ⟨h3, h4⟩
    · exact hst.sim.rel.inj _ _ _ _ _ _ _ _ _ h2 h4
    · exact absurd (by rw [hX1]; exact .inr ⟨id', g', n', tot', by omega, h4⟩) (hst.sim.rel.out _ _ _ _ _ h2)
    · exact absurd (by rw [hX1]; exact .inr ⟨id, g, n, tot, by omega, h2⟩) (hst.sim.rel.out _ _ _ _ _ h4)
    · exact h.sim.rel.inj _ _ _ _ _ _ _ _ _ h2 h4
  · intro id g c n tot k1
    rcases hup k1 with ⟨h1, h2⟩ | ⟨h1, h2⟩
    · exact hst.sim.rel.lt _ _ _ _ _ h2
    · obtain ⟨a, b⟩ := h.sim.rel.lt _ _ _ _ _ h2
      exact ⟨Nat.lt_of_lt_of_le a hst.fr.size, b⟩
  · intro id g c n tot k1 hX
    rcases hup k1 with ⟨h1, h2⟩ | ⟨h1, h2⟩
    · exact hst.sim.rel.out _ _ _ _ _ h2 (by rw [hX1]; exact .inl hX)
    · exact h.sim.rel.out _ _ _ _ _ h2 hX
  · intro c hX
    exact Nat.lt_of_lt_of_le (h.sim.rel.xlt c hX) hst.fr.size
  · intro j b hb v hv
    rw [hget] at hb
    show v.kb ≤ max j So.pin
    split at hb
    · exact hst.sim.pin _ _ hb v hv
    · have := hpZ j b hb (by omega) v hv; omega
  · rw [splice_top hle]
    show So.pin ≤ Z.top
    have := hst.sim.pinle; omega
  · intro id g l e
    rw [splice_top hle]
    rcases hup e with ⟨h1, h2⟩ | ⟨h1, h2⟩
    · omega
    · exact h.sim.dom _ _ _ h2
  · intro id g l e
    rcases hup e with ⟨h1, h2⟩ | ⟨h1, h2⟩
    · rcases hst.new _ _ _ h2 with ⟨g', l', h3⟩ | h3
      · exact .inl ⟨g', l', (down_some h3).2⟩
      · rw [h.top] at h3; exact .inr ⟨h3, h1⟩
    · exact .inl ⟨_, _, h2⟩

end
end Mev
