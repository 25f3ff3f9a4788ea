/- Each operation of the evaluator is the model's: new rows, new maps; ghost blocks. -/
import Derived.Test.YtfndbddlicbjpaaMevOps6

set_option linter.unusedVariables false
namespace Mev
open Go (Value World Addr Obj Program Operand Op Oper Act Result Next undef Sem)

/-- A new map. -/
theorem Sim.push_map {φ : Phi} {S : St} {w : World} (hs : Sim φ S w) (w' : World) (hw' : w' = { w with heap := w.heap.push (.map #[] 0) }) :
    ∃ φ', φ' S.top 0 = some (.at_ w.heap.size 0 0) ∧ Stp φ S w φ' (S.push (.map [])) w' := by
  have hnone : ∀ g, φ S.top g = none := fun g => by
    cases hp : φ S.top g with
    | none => rfl
    | some l => exact absurd (hs.dom _ _ _ hp) (Nat.lt_irrefl _)
  refine ⟨⟨fun id g => if id = S.top ∧ g = 0 then some (.at_ w.heap.size 0 0) else φ id g, φ.X⟩, by simp, ?_⟩
  have he : Ext φ ⟨fun id g => if id = S.top ∧ g = 0 then some (.at_ w.heap.size 0 0) else φ id g, φ.X⟩ := by
    refine ⟨?_, rfl⟩
    intro id g l h
    have : ¬ (id = S.top ∧ g = 0) := by rintro ⟨rfl, rfl⟩; rw [hnone] at h; cases h
    simp only [if_neg this]; exact h
  have hold : ∀ c, c < w.heap.size → w'.heap[c]? = w.heap[c]? := by
    intro c hc
    rw [hw']
    show (w.heap.push _)[c]? = _
    rw [Array.getElem?_push, if_neg (by omega)]
  have hnew : w'.heap[w.heap.size]? = some (.map #[] 0) := by
    rw [hw']; show (w.heap.push _)[w.heap.size]? = _; simp
  have hf : Fr (Wr φ S.get) w w' := by
    refine ⟨by rw [hw'], by rw [hw'], by rw [hw'], by rw [hw']; simp, fun c hc _ => hold c hc⟩
  have hwr : ∀ c, c < w.heap.size → ¬ Wr φ S.get c → ¬ Wr ⟨fun id g => if id = S.top ∧ g = 0 then some (.at_ w.heap.size 0 0) else φ id g, φ.X⟩ (S.push (.map [])).get c := by
    rintro c hc hn (hX | ⟨id, g, n, t, hp, b, hb, hd⟩)
    · exact hn (.inl hX)
    by_cases e : id = S.top ∧ g = 0
    · simp only [if_pos e] at hp; cases hp; omega
    · simp only [if_neg e] at hp
      have hlt := hs.dom _ _ _ hp
      rw [push_get _ _ _ hlt] at hb
      exact hn (.inr ⟨id, g, n, t, hp, b, hb, hd⟩)
  refine ⟨⟨?_, ?_, ?_, ?_⟩, he, hf, hwr, fun c hc => hold c (hs.rel.xlt c hc), by simp, fun id g l e => by
    by_cases h : id = S.top ∧ g = 0
    · exact .inr (by omega)
    · simp only [if_neg h] at e; exact .inl ⟨_, _, e⟩⟩
  · refine hs.rel.update S.top he hf hwr (fun id e => ?_) (fun id g e => ?_) (fun id g c n t _ hp => hold c (hs.rel.lt _ _ _ _ _ hp).1) ?_ ?_ ?_ ?_
    · simp [e]
    · simp [e]
    · intro sz' rows' gen lo hg
      simp only [push_get_if, if_true] at hg
      cases hg
    · intro es c n t hg hp
      simp only [push_get_if, if_true] at hg
      cases hg
      simp only [and_self, if_true] at hp
      cases hp
      exact ⟨#[], 0, hnew, rfl, fun i e m he => by simp at he⟩
    · intro g id' g' c n t n' t' h1 h2
      by_cases e : g = 0
      · subst e
        simp only [and_self, if_true] at h1
        cases h1
        by_cases e' : id' = S.top ∧ g' = 0
        · exact e'.1.symm
        · simp only [if_neg e'] at h2
          have := (hs.rel.lt _ _ _ _ _ h2).1
          omega
      · simp only [e, and_false, if_false] at h1
        rw [hnone] at h1; cases h1
    · intro g c n t h1
      by_cases e : g = 0
      · subst e
        simp only [and_self, if_true] at h1
        cases h1
        exact ⟨⟨by rw [hw']; simp, Nat.le_refl _⟩, fun hX => Nat.lt_irrefl _ (hs.rel.xlt _ hX)⟩
      · simp only [e, and_false, if_false] at h1
        rw [hnone] at h1; cases h1
  · intro j b hb v hv
    simp only [push_get_if] at hb
    split at hb
    · cases hb; simp [contents] at hv
    · exact hs.pin _ _ hb v hv
  · have := hs.pinle; simp; omega
  · intro id g l hp
    by_cases e : id = S.top ∧ g = 0
    · simp [e.1]
    · simp only [if_neg e] at hp
      have := hs.dom _ _ _ hp; simp; omega

section
variable {P : Program} {a : Act} {T : Env} {S : St} {w : World} {φ : Phi}

/-- cells that rows show -/
def LikeR (W : Nat → Prop) (w : World) (φ : Phi) (sz : Nat) (rows : List (List V)) (arr : Array Value) : Prop :=
  (∀ row ∈ rows, row.length = sz) ∧ Shows W w φ sz rows rows.length arr

theorem made_get (z : Array Value) (n k : Nat) (hk : k < n) : ((Array.range n).map (z[· % z.size]!))[k]? = some z[k % z.size]! := by
  simp [hk]

theorem made_like {W : Nat → Prop} {z : List V} {zc : Array Value} (h : Like W w φ z zc) (hpos : 0 < z.length) (n m : Nat) (hnm : n ≤ m) :
    LikeR W w φ z.length (List.replicate n z) ((Array.range (m * z.length)).map (zc[· % zc.size]!)) := by
  refine ⟨fun row hr => by rw [List.eq_of_mem_replicate hr], fun i j v hi hv => ?_⟩
  obtain ⟨row, hr, hj⟩ := at2_mem hv
  rw [List.getElem?_replicate] at hr
  split at hr
  · rename_i hi'
    cases hr
    have hjl : j < z.length := (List.getElem?_eq_some_iff.1 hj).1
    obtain ⟨y, hy, h1, h2⟩ := h.2 j v hj
    have hlt : i * z.length + j < m * z.length := by
      have : (i + 1) * z.length ≤ m * z.length := Nat.mul_le_mul_right _ (by omega)
      rw [Nat.add_mul, Nat.one_mul] at this
      omega
    refine ⟨y, ?_, h1, h2⟩
    rw [made_get _ _ _ hlt, h.1, Nat.mul_comm i, Nat.mul_add_mod, Nat.mod_eq_of_lt hjl]
    have hjz : j < zc.size := by rw [h.1]; exact hjl
    rw [Array.getElem?_eq_getElem hjz] at hy
    rw [getElem!_pos zc j hjz]
    exact hy
  · cases hr

theorem rows_like {W : Nat → Prop} (sz : Nat) (ht : TR W w φ T a) : ∀ (ps : List (Nat × Operand)) (ps' : List (Nat × Od)) (rows r : List (List V)) (arr : Array Value), compRows ps = some ps' → rowsParts sz T ps' rows = some r →
    LikeR W w φ sz rows arr → rows.length * sz ≤ arr.size →
    ∃ arr', Go.Instr.fill (fun i => some (i * sz, sz)) arr (ps.map fun (i, x) => (i, a.eval x)) = some arr' ∧ arr'.size = arr.size ∧ r.length = rows.length ∧ LikeR W w φ sz r arr' := by
  intro ps
  induction ps with
  | nil => intro ps' rows r arr h h2 h3 h4; cases h; cases h2; exact ⟨arr, rfl, rfl, rfl, h3⟩
  | cons p ps ih =>
    intro ps' rows r arr h h2 h3 h4
    obtain ⟨i, x⟩ := p
    simp only [compRows] at h
    split at h
    · rename_i y r' h5 h6
      cases h
      simp only [rowsParts] at h2
      split at h2
      · rename_i cs hc
        split at h2
        · rename_i hcond
          have hv := opd_vr ht h5
          obtain ⟨k1, k2⟩ := vcells_vr hv hc
          have hle : i * sz + sz ≤ arr.size := by
            have : (i + 1) * sz ≤ rows.length * sz := Nat.mul_le_mul_right _ (by omega)
            rw [Nat.add_mul, Nat.one_mul] at this
            omega
          have hf := set_fold (i * sz) (a.eval x).cells.toList 0 arr (by simp [k1, hcond.1]; exact hle)
          have g1 : LikeR W w φ sz (rows.set i cs) ((a.eval x).cells.zipIdx.foldl (fun cs (c, j) => cs.setIfInBounds (i * sz + j) c) arr) := by
            rw [← Array.foldl_toList, Array.toList_zipIdx]
            refine ⟨fun row hr => ?_, fun i' j v hi' hv' => ?_⟩
            · rcases List.mem_or_eq_of_mem_set hr with h | h
              · exact h3.1 row h
              · rw [h]; exact hcond.1
            · obtain ⟨row, hr, hj⟩ := at2_mem hv'
              rw [hf.2]
              simp only [Nat.add_zero, Array.length_toList, k1, hcond.1]
              rw [List.getElem?_set] at hr
              by_cases e : i = i'
              · subst e
                rw [if_pos rfl, if_pos hcond.2] at hr
                cases hr
                have hjl : j < cs.length := (List.getElem?_eq_some_iff.1 hj).1
                rw [if_pos (by omega), Array.getElem?_toList]
                obtain ⟨y, hy, h7, h8⟩ := k2 j v hj
                exact ⟨y, by rw [← hy]; congr 1; omega, h7, h8⟩
              · rw [if_neg e] at hr
                have hi2 : i' < rows.length := (List.getElem?_eq_some_iff.1 hr).1
                have hlen := h3.1 row (List.mem_of_getElem? hr)
                have hjl : j < sz := by rw [← hlen]; exact (List.getElem?_eq_some_iff.1 hj).1
                have hne : ¬ (i * sz ≤ i' * sz + j ∧ i' * sz + j < i * sz + sz) := by
                  rintro ⟨q1, q2⟩
                  rcases Nat.lt_or_gt_of_ne e with hlt | hgt
                  · have : (i + 1) * sz ≤ i' * sz := Nat.mul_le_mul_right _ (by omega)
                    rw [Nat.add_mul, Nat.one_mul] at this; omega
                  · have : (i' + 1) * sz ≤ i * sz := Nat.mul_le_mul_right _ (by omega)
                    rw [Nat.add_mul, Nat.one_mul] at this; omega
                rw [if_neg hne]
                exact h3.2 i' j v hi2 (by simp [at2, hr, hj])
          have g2 : (rows.set i cs).length * sz ≤ ((a.eval x).cells.zipIdx.foldl (fun cs (c, j) => cs.setIfInBounds (i * sz + j) c) arr).size := by
            rw [← Array.foldl_toList, Array.toList_zipIdx, hf.1]; simpa using h4
          obtain ⟨arr', ha, hs', hl, hr⟩ := ih r' (rows.set i cs) r _ h6 h2 g1 g2
          refine ⟨arr', ?_, ?_, ?_, hr⟩
          · simp only [List.map_cons, Go.Instr.fill]
            rw [if_neg (by simp only [Bool.or_eq_true, decide_eq_true_eq]; omega)]
            exact ha
          · rw [hs', ← Array.foldl_toList, Array.toList_zipIdx]; exact hf.1
          · rw [hl]; simp
        · cases h2
      · cases h2
    · cases h

variable (hs : Sim φ S w) (ht : TR (Wr φ S.get) w φ T a) {o : Oper}

/-- new rows -/
theorem sim_newRows (hs : Sim φ S w) {sz : Nat} {rows : List (List V)} {arr : Array Value} (h : LikeR (Wr φ S.get) w φ sz rows arr) (e : Go.TypeId) (tot : Nat) (hsz : arr.size = tot * sz) (hle : rows.length ≤ tot) {w' : World}
    (hw' : w' = { w with heap := w.heap.push (.cells arr e), drawn := w'.drawn }) {r : Result Next} (hr : r = .ok (.value (.slice (some ⟨w.heap.size, 0, none⟩) rows.length tot)) w') : Good φ S w r (newRows S sz rows).1 (newRows S sz rows).2 := by
  obtain ⟨φ', hp, hst⟩ := hs.push_cells sz rows arr e tot w' hw' h.1 hsz hle h.2
  exact ⟨_, φ', _, _, hr, .inl rfl, .sl _ _ _ _ _ _ _ _ tot 0 hp (by omega) (by omega) (fun _ => by omega) hle, hst⟩

include hs ht

omit ht in
theorem sim_mkmap {t : Go.TypeId} (ho : o.op = .makeMap t none) : Good φ S w ((Go.execOp a.eval o).run P w) (.mp S.top) (S.push (.map [])) := by
  obtain ⟨φ', hp, hst⟩ := hs.push_map _ rfl
  exact ⟨.map (some w.heap.size), φ', _, _, by simp [Go.execOp, ho, Go.Instr.makeMap, Go.newObj, Sem.run], .inl rfl, .mp _ _ _ _ hp, hst⟩

theorem sim_bslice {t e : Go.TypeId} {n : Nat} {ps : Array (Nat × Operand)} {z : List V} {ps' : List (Nat × Od)} (he : elemOf P t = some e) (hz : zeroRow P e = some z) (hn : n * z.length ≤ 16777216)
    (hps : compRows ps.toList = some ps') (ho : o.op = .buildSlice t n ps) {v : V} {S' : St} (h : evOp T S (.bslice z n ps') = some (v, S')) : Good φ S w ((Go.execOp a.eval o).run P w) v S' := by
  simp only [evOp] at h
  cases hr : rowsParts z.length T ps' (List.replicate n z) with
  | none => rw [hr] at h; cases h
  | some r =>
    rw [hr] at h; cases h
    obtain ⟨i, zv, hi, hzv, hsz, hpos, hzl, hlike⟩ := zeroRow_like hz (Wr φ S.get) w φ
    have hd := elem_und he
    have hml := made_like hlike (by omega) n n (Nat.le_refl _)
    obtain ⟨arr', ha, hs', hl, hlk⟩ := rows_like z.length ht _ _ _ _ _ hps hr hml (by simp)
    have hsz' : arr'.size = n * z.length := by rw [hs']; simp
    refine sim_newRows (w' := { w with heap := w.heap.push (.cells arr' e) }) hs hlk e n hsz' (by rw [hl]; simp) rfl ?_
    rw [hl]
    simp only [List.length_replicate]
    have hle : ¬ (16777216 < n * i.size) := by rw [← hzl]; omega
    rw [hzl] at ha
    have hmap : (ps.map fun (i, x) => (i, a.eval x)).toList = ps.toList.map fun (i, x) => (i, a.eval x) := by simp
    by_cases h0 : n * i.size = 0
    · have hn0 : n = 0 := by rcases Nat.mul_eq_zero.1 h0 with h | h <;> omega
      subst hn0
      have h00 : ((Array.range (0 * i.size)).map (zv.cells[· % zv.cells.size]!)) = #[] := by simp
      rw [h00] at ha
      have h01 : (Array.map (fun _ => (default : Value)) (Array.range 0)) = #[] := by simp
      simp [Go.execOp, ho, Go.Instr.buildSlice, Go.run_underlying hd, Go.sizeOf, Go.typeInfo, hi, Go.newRow, Go.newObj]
      rw [h01]
      simp [ha, Sem.run]
    · simp [Go.execOp, ho, Go.Instr.buildSlice, Go.run_underlying hd, Go.sizeOf, Go.typeInfo, hi, Go.zeroValue, hzv, h0, hle, Go.newRow, Go.newObj, Sem.run, ha]

theorem sim_mkslice {t e : Go.TypeId} {l c : Operand} {l' c' : Od} {z : List V} {b : Nat} (hl : compOd l = some l') (hc : compOd c = some c') (he : elemOf P t = some e) (hz : zeroRow P e = some z) (hb : bytesOf P e = some b)
    (ho : o.op = .makeSlice t l c) {v : V} {S' : St} (h : evOp T S (.mkslice z b l' c') = some (v, S')) : Good φ S w ((Go.execOp a.eval o).run P w) v S' := by
  have hlv := opd_vr ht hl
  have hcv := opd_vr ht hc
  simp only [evOp] at h
  split at h
  · rename_i n m e1 e2
    rw [e1] at hlv; rw [e2] at hcv
    have h1 := vr_int hlv
    have h2 := vr_int hcv
    split at h
    · rename_i hcond
      obtain ⟨c1, c2, c3, c4⟩ := hcond
      cases h
      obtain ⟨i, zv, hi, hzv, hsz, hpos, hzl, hlike⟩ := zeroRow_like hz (Wr φ S.get) w φ
      have hd := elem_und he
      have hbi : i.bytes = b := by unfold bytesOf at hb; rw [hi] at hb; cases hb; rfl
      have hml := made_like hlike (by omega) n.toNat m.toNat (by omega)
      refine sim_newRows (w' := { w with heap := w.heap.push (.cells _ e) }) hs hml e m.toNat (by simp) (by simp; omega) rfl ?_
      have hr := Go.run_make (P := P) w t e i zv hd hi hzv .i64 .i64 n m c1 c2 (by rw [hbi, Int.mul_comm]; omega) (by omega)
      simp only [Go.execOp, ho, h1, h2, Sem.run_bind, hr, Result.andThen_ok, List.length_replicate, hzl]
      rfl
    · cases h
  · cases h

end
end Mev
