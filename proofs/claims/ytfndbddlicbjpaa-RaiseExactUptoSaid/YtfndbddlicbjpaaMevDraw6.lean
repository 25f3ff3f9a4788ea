/- Regions that draw their order: what holds behind any of the orders: the blocks. -/
import Derived.Test.YtfndbddlicbjpaaMevDraw5

set_option linter.unusedVariables false
namespace Mev
open Go (Value World Addr Obj Program Operand Op Oper Act Result Next undef Sem Builtin Code Exit Calls Ending Func)

def mark (L : Nat → Bool) (j : Nat) : Nat → Bool := fun i => if i = j then true else L i

open Run in
structure InvH (P : Program) (ops : Array Oper) (cl : List COper) (S0 : St) (tr : Nat → Stt) (φ0 : Phi) (w0 : World) (L : Nat → Bool) (k : Nat) (φ : Phi) (Z : St) (w : World) : Prop where
  eff : ∀ j, j < ops.size → effB P ops j = true → (L j = true ↔ cnt (effB P ops) j < k)
  kle : k ≤ cnt (effB P ops) ops.size
  sim : Sim φ Z w
  top : Z.top = (tr ops.size).S.top
  pin : Z.pin = (sk P ops S0 tr k).pin
  pinle : (sk P ops S0 tr k).pin ≤ (sk P ops S0 tr k).top
  low : ∀ id, id < (sk P ops S0 tr k).top → Z.get id = (sk P ops S0 tr k).get id
  high : ∀ j, Al cl tr j → L j = true → k ≤ cnt (effB P ops) j → Z.get (tr j).S.top = (tr (j + 1)).S.get (tr j).S.top
  phi : ∀ id g l, φ id g = some l → (sk P ops S0 tr k).top ≤ id → ∃ j, Al cl tr j ∧ L j = true ∧ (tr j).S.top = id ∧ k ≤ cnt (effB P ops) j
  unl : ∀ j, Al cl tr j → L j = false → ∀ g, φ (tr j).S.top g = none
  ext : Ext φ0 φ
  fr : Fr (Wr φ0 S0.get) w0 w
  wr : ∀ c, c < w0.heap.size → ¬ Wr φ0 S0.get c → ¬ Wr φ Z.get c
  x : ∀ c, φ0.X c → w.heap[c]? = w0.heap[c]?
  new : ∀ id g l, φ id g = some l → (∃ g' l', φ0 id g' = some l') ∨ S0.top ≤ id

section
open Run
variable {P : Program} {C : Oracle} {ops : Array Oper} {cl : List COper} {T0 : Env} {S0 : St} {tr : Nat → Stt} {vs : Nat → V} (R : Run P C ops cl T0 S0 tr vs)
  {φ0 : Phi} {w0 : World} {L : Nat → Bool} {k : Nat} {φ : Phi} {Z : St} {w : World} (H : InvH P ops cl S0 tr φ0 w0 L k φ Z w)
include H

theorem InvH.stp {φ' : Phi} {w' : World} (h : Stp φ Z w φ' Z w') : InvH P ops cl S0 tr φ0 w0 L k φ' Z w' := by
  have back : ∀ id g l, φ' id g = some l → ∃ g' l', φ id g' = some l' := fun id g l e => by
    rcases h.new id g l e with h1 | h1
    · exact h1
    · have := h.sim.dom _ _ _ e; omega
  refine ⟨H.eff, H.kle, h.sim, H.top, H.pin, H.pinle, H.low, H.high, fun id g l e hi => ?_, fun j ha hl g => ?_, H.ext.trans h.ext, H.fr.trans h.fr H.wr, fun c hc hn => ?_, fun c hc => ?_, fun id g l e => ?_⟩
  · obtain ⟨g', l', e'⟩ := back id g l e
    exact H.phi id g' l' e' hi
  · cases e : φ' (tr j).S.top g with
    | none => rfl
    | some l =>
      obtain ⟨g', l', e'⟩ := back _ _ _ e
      rw [H.unl j ha hl g'] at e'; cases e'
  · exact h.wr c (Nat.lt_of_lt_of_le hc H.fr.size) (H.wr c hc hn)
  · rw [h.x c (by rw [H.ext.x]; exact hc), H.x c hc]
  · obtain ⟨g', l', e'⟩ := back id g l e
    exact H.new id g' l' e'

theorem InvH.mark {j : Nat} (ha : ¬ Al cl tr j) (he : effB P ops j = false) : InvH P ops cl S0 tr φ0 w0 (mark L j) k φ Z w := by
  have hm : ∀ i, i ≠ j → Mev.mark L j i = L i := fun i hi => by simp [Mev.mark, hi]
  refine ⟨fun i hi hp => ?_, H.kle, H.sim, H.top, H.pin, H.pinle, H.low, fun i hi hl hk => ?_, fun id g l e hi => ?_, fun i hi hl g => ?_, H.ext, H.fr, H.wr, H.x, H.new⟩
  · rw [hm i (by rintro rfl; rw [hp] at he; cases he)]; exact H.eff i hi hp
  · rw [hm i (by rintro rfl; exact ha hi)] at hl; exact H.high i hi hl hk
  · obtain ⟨i, h1, h2, h3, h4⟩ := H.phi id g l e hi
    exact ⟨i, h1, by rw [hm i (by rintro rfl; exact ha h1)]; exact h2, h3, h4⟩
  · rw [hm i (by rintro rfl; exact ha hi)] at hl; exact H.unl i hi hl g

include R
omit H in
theorem InvH.sk_top {c : Nat} (hc : c ≤ cnt (effB P ops) ops.size) : (sk P ops S0 tr c).top ≤ (tr ops.size).S.top := by
  rcases Nat.eq_zero_or_pos c with rfl | hp
  · have := R.top_le (i := 0) (j := ops.size) (Nat.zero_le _) (Nat.le_refl _)
    rw [R.zero] at this
    rw [R.sk_zero]; exact this
  · obtain ⟨e, _, he, hpe, hce⟩ := nth_eff (p := effB P ops) (n := ops.size) (c := c - 1) (by omega)
    have := R.sk_eff he hpe
    rw [show cnt (effB P ops) e + 1 = c by omega] at this
    rw [this]
    exact R.top_le (by omega) (Nat.le_refl _)

omit H in
/-- where an allocation's block lies, against the effects -/
theorem InvH.al_top {i c : Nat} (ha : Al cl tr i) (hc : c ≤ cnt (effB P ops) ops.size) : (c ≤ cnt (effB P ops) i → (sk P ops S0 tr c).top ≤ (tr i).S.top) ∧ (cnt (effB P ops) i < c → (tr i).S.top < (sk P ops S0 tr c).top) := by
  have hi := R.al_lt ha
  constructor
  · intro h
    rcases Nat.eq_zero_or_pos c with rfl | hp
    · have := R.top_le (i := 0) (j := i) (Nat.zero_le _) (by omega)
      rw [R.zero] at this
      rw [R.sk_zero]; exact this
    · obtain ⟨e, _, he, hpe, hce⟩ := nth_eff (p := effB P ops) (n := ops.size) (c := c - 1) (by omega)
      have hs := R.sk_eff he hpe
      rw [show cnt (effB P ops) e + 1 = c by omega] at hs
      rw [hs]
      have hei : e < i := by
        rcases Nat.lt_or_ge e i with h' | h'
        · exact h'
        · have := cnt_mono (p := effB P ops) h'; omega
      exact R.top_le hei (by omega)
  · intro h
    obtain ⟨e, _, he, hpe, hce⟩ := nth_eff (p := effB P ops) (n := ops.size) (c := c - 1) (by omega)
    have hs := R.sk_eff he hpe
    rw [show cnt (effB P ops) e + 1 = c by omega] at hs
    rw [hs]
    have hei : i < e + 1 := by
      rcases Nat.lt_or_ge i (e + 1) with h' | h'
      · exact h'
      · have := cnt_lt (p := effB P ops) (show e < i by omega) hpe; omega
    exact R.al_before ha hei (by omega)

theorem InvH.alloc {j : Nat} (ha : Al cl tr j) (hl : L j = false) {q : COper} (hq : cl[j]? = some q) (hhi : k ≤ q.hi) {sz : Nat} {rows : List (List V)} (hS : (tr (j + 1)).S = (tr j).S.push (.cells sz rows 0 0)) (hk : kbLL rows ≤ (tr j).S.top)
    {us : Array Value} {e : Go.TypeId} {tot : Nat} {w' : World} (hw' : w' = { w with heap := w.heap.push (.cells us e (0, 0)), drawn := w'.drawn }) (hlk : LikeR (Wr φ Z.get) w φ sz rows us) (hus : us.size = tot * sz) (hle : rows.length ≤ tot) :
    ∃ φ' Z', φ' (tr j).S.top 0 = some (.at_ w.heap.size rows.length tot) ∧ InvH P ops cl S0 tr φ0 w0 (Mev.mark L j) k φ' Z' w' ∧ ∀ v u, VR (Wr φ Z.get) w φ v u → VR (Wr φ' Z'.get) w' φ' v u := by
  have hid : (tr j).S.top < Z.top := by
    rw [H.top]; exact R.al_before ha (R.al_lt ha) (Nat.le_refl _)
  obtain ⟨φ', h1, h2, h2', h3, h4, h5, h6, h7⟩ := H.sim.fresh_at hid (H.unl j ha hl) hw' hlk hus hle hk
  have hm : ∀ i, i ≠ j → Mev.mark L j i = L i := fun i hi => by simp [Mev.mark, hi]
  have hget : ∀ i, (Z.put (tr j).S.top (.cells sz rows 0 0)).get i = if (tr j).S.top = i then some (.cells sz rows 0 0) else Z.get i := by
    intro i
    rw [put_get_if]
    by_cases hq : (tr j).S.top = i
    · rw [if_pos ⟨hq, hid⟩, if_pos hq]
    · rw [if_neg (fun h => hq h.1), if_neg hq]
  have hblk : (tr (j + 1)).S.get (tr j).S.top = some (.cells sz rows 0 0) := by rw [hS, push_get_top]
  refine ⟨φ', _, h1, ⟨fun i hi hp => ?_, H.kle, h3, ?_, ?_, H.pinle, fun id hid' => ?_, fun i hi hl' hk' => ?_, fun id g l e hi => ?_, fun i hi hl' g => ?_, H.ext.trans h4, H.fr.trans h5 H.wr, fun c hc hn => ?_, fun c hc => ?_, fun id g l e => ?_⟩, fun v u hv => hv.mono h5 h6 h4⟩
  · have : i ≠ j := by rintro rfl; rw [R.al_noteff ha] at hp; cases hp
    rw [hm i this]; exact H.eff i hi hp
  · simpa using H.top
  · simpa using H.pin
  · rw [hget]
    split
    · rename_i he
      subst he
      have hlt : cnt (effB P ops) j < k := by
        rcases Nat.lt_or_ge (cnt (effB P ops) j) k with h' | h'
        · exact h'
        · have := (InvH.al_top R ha H.kle).1 h'; omega
      rw [R.al_ok ha hq hlt H.kle hhi, hblk]
    · exact H.low id hid'
  · rw [hget]
    by_cases hij : i = j
    · subst hij; rw [if_pos rfl, hblk]
    · rw [if_neg (fun e => hij (R.al_inj hi ha e.symm))]
      rw [hm i hij] at hl'
      exact H.high i hi hl' hk'
  · by_cases hij : id = (tr j).S.top
    · subst hij
      refine ⟨j, ha, by simp [Mev.mark], rfl, ?_⟩
      rcases Nat.lt_or_ge (cnt (effB P ops) j) k with h' | h'
      · have := (InvH.al_top R ha H.kle).2 h'; omega
      · exact h'
    · rw [h2 id g hij] at e
      obtain ⟨i, k1, k2, k3, k4⟩ := H.phi id g l e hi
      exact ⟨i, k1, by rw [hm i (by rintro rfl; exact hij k3.symm)]; exact k2, k3, k4⟩
  · have hij : i ≠ j := by rintro rfl; simp [Mev.mark] at hl'
    rw [hm i hij] at hl'
    rw [h2 _ g (fun e => hij (R.al_inj hi ha e))]
    exact H.unl i hi hl' g
  · exact h6 c (Nat.lt_of_lt_of_le hc H.fr.size) (H.wr c hc hn)
  · rw [h7 c (by rw [H.ext.x]; exact hc), H.x c hc]
  · by_cases hij : id = (tr j).S.top
    · right
      have := R.top_le (i := 0) (j := j) (Nat.zero_le _) (Nat.le_of_lt (R.al_lt ha))
      rw [R.zero] at this
      rw [hij]; exact this
    · rw [h2 id g hij] at e
      exact H.new id g l e

/-- at an effect: the blocks as the text's order has them -/
theorem InvH.view {j : Nat} (hj : j < ops.size) (he : effB P ops j = true) (hk : cnt (effB P ops) j = k) : View φ Z w (tr j).S.top (tr j).S := by
  have B := R.btw j (by omega)
  have hlow := B.low
  have hpin := B.pin
  have htop := B.top
  have hnew := B.new
  rw [hk] at hlow hpin htop hnew
  refine ⟨H.sim, rfl, fun id g l e hi => ?_, fun id sz rows gen lo hg => ?_, fun i b hb => ?_, ?_, fun id g l e hi => ?_⟩
  · by_cases hid : id < (sk P ops S0 tr k).top
    · rw [hlow id hid, H.low id hid]
    · obtain ⟨i, h1, h2, h3, h4⟩ := H.phi id g l e (by omega)
      obtain ⟨i', k1, k2, k3, k4, sz, rows, k5, k6, k7, k8⟩ := hnew id (by omega) hi
      obtain rfl := R.al_inj h1 k2 (h3.trans k4.symm)
      have := H.high i h1 h2 h4
      rw [h3, k8] at this
      rw [this, k5]
  · by_cases hid : id < (sk P ops S0 tr k).top
    · rw [hlow id hid, ← H.low id hid] at hg
      exact H.sim.rel.size _ _ _ _ _ hg
    · obtain ⟨i', k1, k2, k3, k4, sz', rows', k5, k6, k7, k8⟩ := hnew id (by omega) (get_lt _ _ hg)
      rw [k5] at hg; cases hg; exact k7
  · by_cases hid : i < (sk P ops S0 tr k).top
    · rw [hlow i hid, ← H.low i hid] at hb
      intro v hv
      have := H.sim.pin i b hb v hv
      rw [hpin, ← H.pin]; exact this
    · obtain ⟨i', k1, k2, k3, k4, sz', rows', k5, k6, k7, k8⟩ := hnew i (by omega) (get_lt _ _ hb)
      rw [k5] at hb; cases hb
      intro v hv
      have := kbLL_mem (rows := rows') (v := v) (by simpa [contents] using hv)
      omega
  · rw [hpin]; have := H.pinle; omega
  · obtain ⟨i, h1, h2, h3, h4⟩ := H.phi id g l e (by omega)
    obtain ⟨sz, rows, h5, _⟩ := R.al_push h1
    have := H.high i h1 h2 h4
    rw [h3, h5, ← h3, push_get_top] at this
    rw [← h3]
    exact ⟨_, this, by simp⟩

theorem InvH.doEff {j : Nat} (hj : j < ops.size) (he : effB P ops j = true) (hk : cnt (effB P ops) j = k) (hl : L j = false) {φ1 : Phi} {w1 : World} (hst : Stp (φ.down (tr j).S.top) (tr j).S w φ1 (tr (j + 1)).S w1) :
    ∃ φ' Z', InvH P ops cl S0 tr φ0 w0 (Mev.mark L j) (k + 1) φ' Z' w1 ∧ (∀ v u, VR (Wr φ Z.get) w φ v u → VR (Wr φ' Z'.get) w1 φ' v u) ∧ ∀ v u, VR (Wr φ1 (tr (j + 1)).S.get) w1 φ1 v u → VR (Wr φ' Z'.get) w1 φ' v u := by
  have V := InvH.view R H hj he hk
  have hs := R.sk_eff hj he
  rw [hk] at hs
  have hm : ∀ i, i ≠ j → Mev.mark L j i = L i := fun i hi => by simp [Mev.mark, hi]
  have hTop : (tr (j + 1)).S.top ≤ Z.top := by rw [H.top]; exact R.top_le hj (Nat.le_refl _)
  have hqk : (sk P ops S0 tr k).top ≤ (tr j).S.top := by have := (R.btw j (by omega)).top; rw [hk] at this; exact this
  have early : ∀ id g l, φ id g = some l → (tr j).S.top ≤ id → (tr (j + 1)).S.top ≤ id ∧ ∃ i, Al cl tr i ∧ L i = true ∧ (tr i).S.top = id ∧ k + 1 ≤ cnt (effB P ops) i := by
    intro id g l e hi
    obtain ⟨i, h1, h2, h3, h4⟩ := H.phi id g l e (by omega)
    have hij : j + 1 ≤ i := by
      rcases Nat.lt_or_ge i j with h | h
      · have := R.al_before h1 h (by omega); omega
      · rcases Nat.lt_or_ge j i with h' | h'
        · exact h'
        · obtain rfl : i = j := by omega
          rw [R.al_noteff h1] at he; cases he
    refine ⟨by rw [← h3]; exact R.top_le hij (Nat.le_of_lt (R.al_lt h1)), i, h1, h2, h3, ?_⟩
    have := cnt_lt (p := effB P ops) (show j < i by omega) he
    omega
  obtain ⟨U1, U2, U3, U4, U5, U6, U7, U8⟩ := V.up hst hTop (fun id g l e hi => (early id g l e hi).1) (fun i b hb hi v hv => by
    have h1 := H.sim.pin i b hb v hv
    have h2 := H.pinle
    have h3 := H.pin
    have h4 := hst.top
    omega)
  have hget := splice_get hTop
  have alpos : ∀ i, Al cl tr i → (tr i).S.top < (tr j).S.top ∨ (tr (j + 1)).S.top ≤ (tr i).S.top := by
    intro i h1
    rcases Nat.lt_or_ge i j with h | h
    · exact .inl (R.al_before h1 h (by omega))
    · rcases Nat.lt_or_ge j i with h' | h'
      · exact .inr (R.top_le h' (Nat.le_of_lt (R.al_lt h1)))
      · obtain rfl : i = j := by omega
        rw [R.al_noteff h1] at he; cases he
  refine ⟨_, _, ⟨fun i hi hp => ?_, ?_, U1, ?_, ?_, ?_, fun id hid => ?_, fun i hi hli hki => ?_, fun id g l e hi => ?_, fun i hi hli g => ?_, H.ext.trans U4, H.fr.trans U5 H.wr, fun c hc hn => ?_, fun c hc => ?_, fun id g l e => ?_⟩, U2, U3⟩
  · by_cases hij : i = j
    · subst hij; simp [Mev.mark, hk]
    · rw [hm i hij, H.eff i hi hp]
      constructor
      · intro h; omega
      · intro h
        rcases Nat.lt_trichotomy i j with h1 | h1 | h1
        · have := cnt_lt h1 hp; omega
        · exact absurd h1 hij
        · have := cnt_lt h1 he; omega
  · have := cnt_lt hj he; omega
  · rw [splice_top hTop]; exact H.top
  · rw [hs]; rfl
  · rw [hs]; exact hst.sim.pinle
  · rw [hs] at hid ⊢
    rw [hget, if_pos hid]
  · have hij : i ≠ j := by rintro rfl; rw [R.al_noteff hi] at he; cases he
    rw [hm i hij] at hli
    have hcmp : (tr (j + 1)).S.top ≤ (tr i).S.top := by
      rcases alpos i hi with h | h
      · have hlt : i < j := by
          rcases Nat.lt_or_ge i j with h' | h'
          · exact h'
          · have := R.top_le h' (Nat.le_of_lt (R.al_lt hi)); omega
        have := cnt_mono (p := effB P ops) (Nat.le_of_lt hlt); omega
      · exact h
    rw [hget, if_neg (by omega)]
    exact H.high i hi hli (by omega)
  · rw [hs] at hi
    have e' : φ id g = some l := by
      unfold Phi.up at e
      simp only at e
      rwa [if_neg (by omega)] at e
    have := hst.top
    obtain ⟨_, i, h1, h2, h3, h4⟩ := early id g l e' (by omega)
    exact ⟨i, h1, by rw [hm i (by rintro rfl; rw [R.al_noteff h1] at he; cases he)]; exact h2, h3, h4⟩
  · have hij : i ≠ j := by rintro rfl; simp [Mev.mark] at hli
    rw [hm i hij] at hli
    cases e : (φ1.up φ (tr (j + 1)).S.top) (tr i).S.top g with
    | none => rfl
    | some l =>
      rcases U8 _ _ _ e with ⟨g', l', h1⟩ | ⟨h1, h2⟩
      · rw [H.unl i hi hli g'] at h1; cases h1
      · rcases alpos i hi with h | h <;> omega
  · exact U6 c (Nat.lt_of_lt_of_le hc H.fr.size) (H.wr c hc hn)
  · rw [U7 c (by rw [H.ext.x]; exact hc), H.x c hc]
  · rcases U8 _ _ _ e with ⟨g', l', h1⟩ | ⟨h1, h2⟩
    · exact H.new _ _ _ h1
    · have := R.top_le (i := 0) (j := j) (Nat.zero_le _) (by omega)
      rw [R.zero] at this
      exact .inr (Nat.le_trans this h1)

end
end Mev
