/- Regions that draw their order: begin, end, all orders; and so what the evaluator says, the model does. -/
import Derived.Test.YtfndbddlicbjpaaMevDraw7
import Derived.StillTail

set_option linter.unusedVariables false
namespace Mev
open Go (Value World Addr Obj Program Operand Op Oper Act Result Next undef Sem Builtin Code Exit Calls Ending Func)

/-- dead blocks above change nothing -/
theorem Sim.pad {φ : Phi} {S Z : St} {w : World} (hs : Sim φ S w) (ht : S.top ≤ Z.top) (hp : Z.pin = S.pin) (hlow : ∀ id, id < S.top → Z.get id = S.get id) (hhigh : ∀ id b, S.top ≤ id → Z.get id = some b → b = .dead) :
    Sim φ Z w ∧ ∀ c, Wr φ Z.get c ↔ Wr φ S.get c := by
  have hwr : ∀ c, Wr φ Z.get c ↔ Wr φ S.get c := by
    intro c
    constructor
    · rintro (hX | ⟨id, g, n, t, hq, b, hb, hd⟩)
      · exact .inl hX
      · exact .inr ⟨id, g, n, t, hq, b, by rw [← hlow id (hs.dom _ _ _ hq)]; exact hb, hd⟩
    · rintro (hX | ⟨id, g, n, t, hq, b, hb, hd⟩)
      · exact .inl hX
      · exact .inr ⟨id, g, n, t, hq, b, by rw [hlow id (hs.dom _ _ _ hq)]; exact hb, hd⟩
  have hvr : ∀ {v : V} {u : Value}, VR (Wr φ S.get) w φ v u → VR (Wr φ Z.get) w φ v u := fun h => h.mono (Fr.refl _ _) (fun c _ hn hc => hn ((hwr c).1 hc)) (Ext.refl _)
  have hcell : ∀ {id : Nat} {b : Blk}, Z.get id = some b → b ≠ .dead → S.get id = some b := fun {id b} hb hd => by
    rcases Nat.lt_or_ge id S.top with h | h
    · rw [← hlow id h]; exact hb
    · exact absurd (hhigh id b h hb) hd
  refine ⟨⟨⟨?_, ?_, ?_, ?_, ?_, hs.rel.inj, hs.rel.lt, hs.rel.out, hs.rel.xlt⟩, ?_, ?_, ?_⟩, hwr⟩
  · intro id sz rows gen lo hg; exact hs.rel.size _ _ _ _ _ (hcell hg (by simp))
  · intro id sz rows gen lo g l hg; exact hs.rel.age _ _ _ _ _ _ _ (hcell hg (by simp))
  · intro id sz rows gen lo hg; exact hs.rel.virt _ _ _ _ _ (hcell hg (by simp))
  · intro id sz rows gen lo g c n tot hg h1 h2 hq
    obtain ⟨a, b, arr, e, hc, hsz, hsh⟩ := hs.rel.cells _ _ _ _ _ _ _ _ _ (hcell hg (by simp)) h1 h2 hq
    exact ⟨a, b, arr, e, hc, hsz, fun i j v hi hv => by obtain ⟨u, hu, h3, h4⟩ := hsh i j v hi hv; exact ⟨u, hu, hvr h3, h4⟩⟩
  · intro id es c n tot hg hq
    obtain ⟨ms, clock, hc, hsz, hm⟩ := hs.rel.map _ _ _ _ _ (hcell hg (by simp)) hq
    exact ⟨ms, clock, hc, hsz, fun i e m he hm' => by obtain ⟨a, b, c⟩ := hm i e m he hm'; exact ⟨hvr a, hvr b, c⟩⟩
  · intro j b hb v hv
    by_cases hd : b = .dead
    · subst hd; simp [contents] at hv
    · rw [hp]; exact hs.pin j b (hcell hb hd) v hv
  · rw [hp]; have := hs.pinle; omega
  · intro id g l hq; have := hs.dom _ _ _ hq; omega

/-- what has been drawn matters to none -/
theorem Sim.drew {φ : Phi} {S : St} {w : World} (hs : Sim φ S w) (d : Nat) : Stp φ S w φ S { w with drawn := d } := by
  have hf : Fr (Wr φ S.get) w { w with drawn := d } := ⟨rfl, rfl, rfl, Nat.le_refl _, fun _ _ _ => rfl⟩
  have hvr : ∀ {v : V} {u : Value}, VR (Wr φ S.get) w φ v u → VR (Wr φ S.get) { w with drawn := d } φ v u := fun h => h.mono hf (fun _ _ h => h) (Ext.refl _)
  refine ⟨⟨⟨hs.rel.size, hs.rel.age, hs.rel.virt, ?_, ?_, hs.rel.inj, hs.rel.lt, hs.rel.out, hs.rel.xlt⟩, hs.pin, hs.pinle, hs.dom⟩, Ext.refl _, hf, fun _ _ h => h, fun _ _ => rfl, Nat.le_refl _, fun _ _ _ h => .inl ⟨_, _, h⟩⟩
  · intro id sz rows gen lo g c n tot hg h1 h2 hq
    obtain ⟨a, b, arr, e, hc, hsz, hsh⟩ := hs.rel.cells _ _ _ _ _ _ _ _ _ hg h1 h2 hq
    exact ⟨a, b, arr, e, hc, hsz, fun i j v hi hv => by obtain ⟨u, hu, h3, h4⟩ := hsh i j v hi hv; exact ⟨u, hu, hvr h3, h4⟩⟩
  · intro id es c n tot hg hq
    obtain ⟨ms, clock, hc, hsz, hm⟩ := hs.rel.map _ _ _ _ _ hg hq
    exact ⟨ms, clock, hc, hsz, fun i e m he hm' => by obtain ⟨a, b, c⟩ := hm i e m he hm'; exact ⟨hvr a, hvr b, c⟩⟩

theorem cnt_drop {p p' : Nat → Bool} {j : Nat} : ∀ n, j < n → p j = true → p' j = false → (∀ i, i ≠ j → p' i = p i) → cnt p n = cnt p' n + 1
  | 0, h, _, _, _ => by omega
  | n + 1, h, h1, h2, h3 => by
    by_cases e : j = n
    · subst e
      have same : ∀ m, m ≤ j → cnt p m = cnt p' m := by
        intro m
        induction m with
        | zero => intro _; rfl
        | succ m ih => intro hm; simp only [cnt]; rw [ih (by omega), h3 m (by omega)]
      simp only [cnt, h1, h2, if_true, Bool.false_eq_true, if_false]
      rw [same j (Nat.le_refl _)]
    · simp only [cnt]
      rw [cnt_drop n (by omega) h1 h2 h3, h3 n (Ne.symm e)]
      omega
theorem cnt_zero {p : Nat → Bool} : ∀ n, cnt p n = 0 → ∀ i, i < n → p i = false
  | 0, _, i, h => by omega
  | n + 1, h, i, hi => by
    simp only [cnt] at h
    by_cases e : i = n
    · subst e; cases hp : p i with
      | false => rfl
      | true => rw [hp] at h; simp at h
    · exact cnt_zero n (by omega) i (by omega)

section
open Run
variable {P : Program} {C : Oracle} {ops : Array Oper} {cl : List COper} {T0 : Env} {S0 : St} {tr : Nat → Stt} {vs : Nat → V} (R : Run P C ops cl T0 S0 tr vs)
  {φ0 : Phi} {w0 : World}
include R

theorem inv_start {a : Act} (hs : Sim φ0 S0 w0) (ht : TR (Wr φ0 S0.get) w0 φ0 T0 a) : ∃ Z, Inv P ops cl T0 S0 tr vs φ0 w0 (fun _ => false) a w0 0 φ0 Z := by
  have hz := R.sk_zero
  have htop : S0.top ≤ (tr ops.size).S.top := by
    have := R.top_le (i := 0) (j := ops.size) (Nat.zero_le _) (Nat.le_refl _)
    rw [R.zero] at this; exact this
  let D : St := ⟨List.replicate (tr ops.size).S.top .dead, 0⟩
  have hD : D.top = (tr ops.size).S.top := by simp [D, St.top]
  have hget := splice_get (A := S0) (B := D) (by rw [hD]; exact htop)
  have hst := splice_top (A := S0) (B := D) (by rw [hD]; exact htop)
  obtain ⟨h1, h2⟩ := hs.pad (Z := S0.splice D) (by rw [hst, hD]; exact htop) rfl (fun id hid => by rw [hget, if_pos hid]) (fun id b hid hb => by
    rw [hget, if_neg (by omega)] at hb
    unfold St.get at hb
    split at hb
    · have := List.mem_of_getElem? hb
      exact List.eq_of_mem_replicate this
    · cases hb)
  refine ⟨S0.splice D, fun j o _ h => (by cases h), ⟨fun j hj he => by simp, Nat.zero_le _, h1, by rw [hst, hD], by rw [hz]; rfl, by rw [hz]; exact hs.pinle, fun id hid => ?_, fun j _ h => (by cases h), fun id g l e hi => ?_, fun j ha _ g => ?_,
    Ext.refl _, Fr.refl _ _, fun c _ hn hc => hn ((h2 c).1 hc), fun _ _ => rfl, fun id g l e => .inl ⟨_, _, e⟩⟩, ht.1, ht.2.1, fun t => ?_⟩
  · rw [hz] at hid ⊢; rw [hget, if_pos hid]
  · rw [hz] at hi; have := hs.dom _ _ _ e; omega
  · cases e : φ0 (tr j).S.top g with
    | none => rfl
    | some l =>
      have := hs.dom _ _ _ e
      have h3 := R.top_le (i := 0) (j := j) (Nat.zero_le _) (Nat.le_of_lt (R.al_lt ha))
      rw [R.zero] at h3
      simp only at h3
      omega
  · have : lastW vs ops (T0.get t) t (fun _ => false) ops.size = T0.get t := by
      have := lastW_cut (vs := vs) (ops := ops) (v0 := T0.get t) (t := t) (p := fun _ => false) (j := 0) ops.size (fun _ _ _ _ => rfl)
      rw [Nat.zero_add] at this; exact this
    rw [this]
    exact (ht.2.2 t).mono (Fr.refl _ _) (fun c _ hn hc => hn ((h2 c).1 hc)) (Ext.refl _)

theorem inv_end {L : Nat → Bool} {a : Act} {k : Nat} {φ : Phi} {Z : St} {w : World} (I : Inv P ops cl T0 S0 tr vs φ0 w0 L a w k φ Z) (hall : ∀ j, j < ops.size → L j = true) :
    Stp φ0 S0 w0 φ (tr ops.size).S w ∧ TR (Wr φ (tr ops.size).S.get) w φ (tr ops.size).T a := by
  have hk : k = cnt (effB P ops) ops.size := by
    rcases Nat.lt_or_ge k (cnt (effB P ops) ops.size) with h | h
    · obtain ⟨e, _, h2, h3, h4⟩ := nth_eff h
      have := (I.h.eff e h2 h3).1 (hall e h2); omega
    · have := I.h.kle; omega
  have B := R.btw ops.size (Nat.le_refl _)
  have hlow := B.low
  have hpin := B.pin
  have hnew := B.new
  rw [← hk] at hlow hpin hnew
  have hget : (tr ops.size).S.get = Z.get := by
    funext id
    rcases Nat.lt_or_ge id (tr ops.size).S.top with h | h
    · rcases Nat.lt_or_ge id (sk P ops S0 tr k).top with h' | h'
      · rw [hlow id h', I.h.low id h']
      · obtain ⟨i, h1, h2, h3, h4, sz, rows, h5, h6, h7, h8⟩ := hnew id h' h
        have := I.h.high i h2 (hall i h1) (by omega)
        rw [h4, h8] at this
        rw [h5, this]
    · rw [get_ge _ _ h, get_ge _ _ (by rw [I.h.top]; exact h)]
  have hT := fun t => Run.T_get R t ops.size (Nat.le_refl _)
  refine ⟨⟨⟨?_, ?_, ?_, ?_⟩, I.h.ext, I.h.fr, ?_, I.h.x, ?_, I.h.new⟩, I.defers, by rw [I.tsz, (hT 0).1], fun t => ?_⟩
  · rw [hget]; exact I.h.sim.rel
  · rw [hget, hpin, ← I.h.pin]; exact I.h.sim.pin
  · rw [hpin, ← I.h.pin, ← I.h.top]; exact I.h.sim.pinle
  · rw [← I.h.top]; exact I.h.sim.dom
  · rw [hget]; exact I.h.wr
  · have := R.top_le (i := 0) (j := ops.size) (Nat.zero_le _) (Nat.le_refl _)
    rw [R.zero] at this; exact this
  · rw [hget, (hT t).2, ← lastW_congr (p := L) ops.size fun i hi _ => hall i hi]
    exact I.tmp t

theorem any_order (hok : drawOk P ops = true) (hC : OkC P C) {Q : Exit → Act → World → Prop} (hQ : ∀ a φ w, Stp φ0 S0 w0 φ (tr ops.size).S w → TR (Wr φ (tr ops.size).S.get) w φ (tr ops.size).T a → Q .normal a w) :
    ∀ (fuel : Nat) (listed : Array Bool) (a : Act) (w : World) (k : Nat) (φ : Phi) (Z : St), listed.size = ops.size → cnt (fun i => !listed.getD i false) ops.size ≤ fuel → Inv P ops cl T0 S0 tr vs φ0 w0 (fun i => listed.getD i false) a w k φ Z →
      Go.wpAny P .any ops Q fuel listed a w := by
  have done : ∀ (listed : Array Bool) (a : Act) (w : World) (k : Nat) (φ : Phi) (Z : St), (∀ j, j < ops.size → listed.getD j false = true) → Inv P ops cl T0 S0 tr vs φ0 w0 (fun i => listed.getD i false) a w k φ Z → Q .normal a w := by
    intro listed a w k φ Z hall I
    obtain ⟨h1, h2⟩ := inv_end R I hall
    exact hQ a φ w h1 h2
  intro fuel
  induction fuel with
  | zero =>
    intro listed a w k φ Z hsz hc I
    have hall : ∀ j, j < ops.size → listed.getD j false = true := fun j hj => by
      have := cnt_zero (p := fun i => !listed.getD i false) ops.size (by omega) j hj
      simpa using this
    refine ⟨?_, done listed a w k φ Z hall I⟩
    rw [List.eq_nil_iff_forall_not_mem]
    intro j hj
    obtain ⟨h1, o, ho, _⟩ := Go.mem_ready.1 hj
    have hj' : j < ops.size := (Array.getElem?_eq_some_iff.1 ho).1
    have h2 := hall j hj'
    rw [Go.getD_both h1] at h2; cases h2
  | succ fuel ih =>
    intro listed a w k φ Z hsz hc I
    refine ⟨fun hnil => done listed a w k φ Z (fun j => ?_) I, fun j hj => ?_⟩
    · induction j using Nat.strongRecOn with
      | _ j ihj =>
        intro hj
        cases hl : listed.getD j false with
        | true => rfl
        | false =>
          exfalso
          have : j ∈ Go.Region.ready .any ops listed := by
            refine Go.mem_ready.2 ⟨Go.getD_in (by omega) hl, ops[j], Array.getElem?_eq_getElem hj, fun e he hb => ?_⟩
            have := ((drawOk_spec hok).2 j ops[j] (Array.getElem?_eq_getElem hj)).edge e he hb
            exact ihj e.on this (by omega)
          rw [hnil] at this; cases this
    · obtain ⟨h1, o, ho, h2⟩ := Go.mem_ready.1 hj
      have hj' : j < ops.size := (Array.getElem?_eq_some_iff.1 ho).1
      have hl := Go.getD_both h1
      refine inv_step R hok hC I ho hl h2 fun a' w' k' φ' Z' I' => ?_
      have hm : mark (fun i => listed.getD i false) j = fun i => (listed.setIfInBounds j true).getD i false := by
        funext i
        unfold mark
        by_cases e : i = j
        · subst e
          rw [if_pos rfl]
          simp [show i < listed.size by omega]
        · rw [if_neg e, Go.getD_set_ne false (Ne.symm e)]
      rw [hm] at I'
      refine ih _ _ _ _ _ _ (by simp [hsz]) ?_ I'
      have := cnt_drop (p := fun i => !listed.getD i false) (p' := fun i => !(listed.setIfInBounds j true).getD i false) ops.size hj' (by simp only [hl]; rfl) (by simp [show j < listed.size by omega]) (fun i hi => by
        rw [Go.getD_set_ne false (Ne.symm hi)])
      omega

end

theorem draw_ok {P : Program} (hm : P.follows .mixedOrders = true) (C : Oracle) (hC : OkC P C) : DrawOk P C := by
  intro id ops cl T T' S S' φ w a Q hok hcl h hs ht hk
  obtain ⟨h1, h2⟩ := comp_draw _ _ _ hcl
  obtain ⟨tr, vs, t1, t2, t3, t4⟩ := trace cl ⟨[S], [], T, S⟩ h
  have hlen : cl.length = ops.size := by rw [h1]; simp
  have R : Run P C ops cl T S tr vs := ⟨t1, hlen, fun j o ho => by
    obtain ⟨q, k1, k2, k3, k4, k5, k6, k7⟩ := h2 j o (by simpa using ho)
    rw [Nat.zero_add] at k5 k6
    exact ⟨q, k1, k2, k3, k4, k5, k6, k7⟩, t2⟩
  have hst := hs.drew (w.drawn + 1)
  refine Go.wp_region_any hm ?_
  obtain ⟨Z, I⟩ := inv_start R hst.sim (TR.stp hst ht)
  have hL : (fun i => (Array.replicate ops.size false).getD i false) = fun _ => false := by
    funext i; exact Go.getD_replicate_false _ _
  refine any_order R hok hC (fun a' φ' w' h3 h4 => ?_) ops.size (Array.replicate ops.size false) a _ 0 φ Z (by simp) ?_ (by rw [hL]; exact I)
  · rw [hlen] at t3 t4
    rw [t4] at h3 h4
    rw [t3] at h4
    exact hk a' φ' w' (hst.trans h3) h4
  · have : ∀ (p : Nat → Bool) n, cnt p n ≤ n := by
      intro p n
      induction n with
      | zero => simp [cnt]
      | succ n ih => simp only [cnt]; split <;> omega
    exact this _ _

theorem sim_ev {P : Program} (hm : P.follows .mixedOrders = true) (A : Ann) (n : Nat) : OkC P (evF (table P A) n) := sim_all A (draw_ok hm) n

end Mev
