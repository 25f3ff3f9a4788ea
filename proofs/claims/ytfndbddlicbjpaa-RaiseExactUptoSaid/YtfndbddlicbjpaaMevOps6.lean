/- Each operation of the evaluator is the model's: new memory. -/
import Derived.Test.YtfndbddlicbjpaaMevOps5
import Derived.Laws.Tables
import Derived.Laws.MakeOwn

set_option linter.unusedVariables false
namespace Mev
open Go (Value World Addr Obj Program Operand Op Oper Act Result Next undef Sem)

section
variable {P : Program} {a : Act} {T : Env} {S : St} {w : World} {φ : Phi}

/-- cells that a row shows -/
def Like (W : Nat → Prop) (w : World) (φ : Phi) (row : List V) (arr : Array Value) : Prop :=
  arr.size = row.length ∧ ∀ (j : Nat) x, row[j]? = some x → ∃ y, arr[j]? = some y ∧ VR W w φ x y ∧ y.oneCell' = true

theorem zeroRow_like {t : Go.TypeId} {z : List V} (h : zeroRow P t = some z) (W : Nat → Prop) (w : World) (φ : Phi) :
    ∃ i zv, P.info? t = some i ∧ i.zero = some zv ∧ zv.cells.size = i.size ∧ 0 < i.size ∧ z.length = i.size ∧ Like W w φ z zv.cells := by
  unfold zeroRow at h
  split at h
  · rename_i i hi
    split at h
    · rename_i zv hz
      split at h
      · rename_i hc
        cases h
        refine ⟨i, zv, hi, hz, hc.1, hc.2.1, by simp [hc.1], by simp, fun j x hx => ?_⟩
        rw [List.getElem?_map, Array.getElem?_toList] at hx
        cases hu : zv.cells[j]? with
        | none => rw [hu] at hx; cases hx
        | some y =>
          rw [hu] at hx; cases hx
          exact ⟨y, rfl, .fr _ _ (leaf_fr W w y), Array.all_eq_true_iff_forall_mem.1 hc.2.2 y (Array.mem_of_getElem? hu)⟩
      · cases h
    · cases h
  · cases h

theorem shows_one {W : Nat → Prop} {row : List V} {arr : Array Value} (h : Like W w φ row arr) : Shows W w φ row.length [row] 1 arr := by
  intro i j v hi hv
  obtain rfl : i = 0 := by omega
  obtain ⟨r, hr, hj⟩ := at2_mem hv
  simp at hr; subst hr
  obtain ⟨y, hy, h1, h2⟩ := h.2 j v hj
  exact ⟨y, by rw [Nat.zero_mul, Nat.zero_add]; exact hy, h1, h2⟩

/-- a new variable -/
theorem sim_newVar (hs : Sim φ S w) {row : List V} {arr : Array Value} (h : Like (Wr φ S.get) w φ row arr) (e : Go.TypeId) {r : Result Next}
    (hr : r = .ok (.value (.pointer (some ⟨w.heap.size, 0, none⟩))) { w with heap := w.heap.push (.cells arr e) }) : Good φ S w r (newVar S row).1 (newVar S row).2 := by
  obtain ⟨φ', hp, hst⟩ := hs.push_cells row.length [row] arr e 1 { w with heap := w.heap.push (.cells arr e) } rfl (by simp) (by simp [h.1]) (by simp) (shows_one h)
  have hk : kbLL [row] = kbL row := by simp [kbLL]
  rw [hk] at hst
  refine ⟨_, φ', _, _, hr, .inl rfl, ?_, hst⟩
  have : (⟨w.heap.size, 0, none⟩ : Addr) = ⟨w.heap.size, 0 * row.length + 0, none⟩ := by simp
  rw [this]
  exact .ptr _ _ _ _ _ _ _ _ hp (by simp)

theorem set_fold (off : Nat) : ∀ (l : List Value) (i0 : Nat) (cells : Array Value), off + i0 + l.length ≤ cells.size →
    ((l.zipIdx i0).foldl (fun cs (x : Value × Nat) => cs.setIfInBounds (off + x.2) x.1) cells).size = cells.size ∧
    ∀ k : Nat, ((l.zipIdx i0).foldl (fun cs (x : Value × Nat) => cs.setIfInBounds (off + x.2) x.1) cells)[k]? = if off + i0 ≤ k ∧ k < off + i0 + l.length then l[k - (off + i0)]? else cells[k]? := by
  intro l
  induction l with
  | nil => intro i0 cells h; refine ⟨rfl, fun k => ?_⟩; rw [if_neg (by simp)]; rfl
  | cons v l ih =>
    intro i0 cells h
    simp only [List.length_cons] at h
    obtain ⟨h1, h2⟩ := ih (i0 + 1) (cells.setIfInBounds (off + i0) v) (by simp; omega)
    simp only [List.zipIdx_cons, List.foldl_cons]
    refine ⟨by rw [h1]; simp, fun k => ?_⟩
    rw [h2 k]
    simp only [List.length_cons]
    by_cases hk : k = off + i0
    · subst hk
      rw [if_neg (by omega), if_pos (by omega), Array.getElem?_setIfInBounds_self_of_lt (by omega)]
      simp
    · by_cases hk2 : off + (i0 + 1) ≤ k ∧ k < off + (i0 + 1) + l.length
      · rw [if_pos hk2, if_pos (by omega)]
        have : k - (off + i0) = (k - (off + (i0 + 1))) + 1 := by omega
        rw [this, List.getElem?_cons_succ]
      · rw [if_neg hk2, if_neg (by omega), Array.getElem?_setIfInBounds_ne (by omega)]

theorem setAt_get (row cs : List V) (off : Nat) (h : off + cs.length ≤ row.length) (k : Nat) : (setAt row off cs)[k]? = if off ≤ k ∧ k < off + cs.length then cs[k - off]? else row[k]? := by
  unfold setAt
  by_cases h1 : k < off
  · rw [if_neg (by omega), List.append_assoc, List.getElem?_append_left (by simp; omega), List.getElem?_take_of_lt h1]
  · by_cases h2 : k < off + cs.length
    · rw [if_pos (by omega), List.append_assoc, List.getElem?_append_right (by simp; omega), List.getElem?_append_left (by simp; omega)]
      congr 1; simp; omega
    · rw [if_neg (by omega), List.getElem?_append_right (by simp; omega), List.getElem?_drop]
      congr 1; simp; omega
theorem setAt_length (row cs : List V) (off : Nat) (h : off + cs.length ≤ row.length) : (setAt row off cs).length = row.length := by
  unfold setAt; simp; omega

theorem fill_like {W : Nat → Prop} (place : Nat → Option (Nat × Nat)) : ∀ (l : List ((Nat × Value) × (Nat × List V))) (row r : List V) (arr : Array Value),
    (∀ p ∈ l, place p.1.1 = some (p.2.1, p.2.2.length) ∧ p.1.2.cells.size = p.2.2.length ∧ ∀ (j : Nat) x, p.2.2[j]? = some x → ∃ y, p.1.2.cells[j]? = some y ∧ VR W w φ x y ∧ y.oneCell' = true) →
    Like W w φ row arr → fillS (l.map (·.2)) row = some r → ∃ arr', Go.Instr.fill place arr (l.map (·.1)) = some arr' ∧ Like W w φ r arr' := by
  intro l
  induction l with
  | nil => intro row r arr _ h hf; simp [fillS] at hf; subst hf; exact ⟨arr, rfl, h⟩
  | cons p l ih =>
    intro row r arr hp h hf
    obtain ⟨⟨i, v⟩, off, cs⟩ := p
    obtain ⟨h1, h2, h3⟩ := hp _ (List.mem_cons_self ..)
    simp only [List.map_cons, fillS] at hf
    split at hf
    · rename_i hle
      simp only at h1 h2 h3
      have hrest := ih (setAt row off cs) r (v.cells.zipIdx.foldl (fun cs (c, j) => cs.setIfInBounds (off + j) c) arr) (fun p hp' => hp p (List.mem_cons_of_mem _ hp')) ?_ hf
      · obtain ⟨arr', ha, hl⟩ := hrest
        refine ⟨arr', ?_, hl⟩
        simp only [List.map_cons, Go.Instr.fill, h1]
        rw [if_neg (by simp only [Bool.or_eq_true, decide_eq_true_eq]; rw [h.1]; omega)]
        exact ha
      · have hf := set_fold off v.cells.toList 0 arr (by simp [h2]; rw [h.1]; omega)
        rw [← Array.foldl_toList, Array.toList_zipIdx]
        refine ⟨by rw [hf.1, h.1, setAt_length _ _ _ hle], fun j x hx => ?_⟩
        rw [setAt_get _ _ _ hle] at hx
        rw [hf.2 j]
        simp only [Nat.add_zero, Array.length_toList, h2]
        split at hx
        · rename_i hc
          rw [if_pos hc, Array.getElem?_toList]
          exact h3 _ _ hx
        · rename_i hc
          rw [if_neg hc]
          exact h.2 _ _ hx
    · cases hf

variable (hs : Sim φ S w) (ht : TR (Wr φ S.get) w φ T a) {o : Oper}
include hs ht

omit hs in
theorem parts_like (place : Nat → Option (Nat × Nat)) : ∀ (ps : List (Nat × Operand)) (ps' : List (Nat × Nat × Od)) (l : List (Nat × List V)), compParts place ps = some ps' → partsOf T ps' = some l →
    ∃ q : List ((Nat × Value) × (Nat × List V)), q.map (·.2) = l ∧ q.map (·.1) = ps.map (fun (i, x) => (i, a.eval x)) ∧
      ∀ p ∈ q, place p.1.1 = some (p.2.1, p.2.2.length) ∧ p.1.2.cells.size = p.2.2.length ∧ ∀ (j : Nat) x, p.2.2[j]? = some x → ∃ y, p.1.2.cells[j]? = some y ∧ VR (Wr φ S.get) w φ x y ∧ y.oneCell' = true := by
  intro ps
  induction ps with
  | nil => intro ps' l h h2; cases h; cases h2; exact ⟨[], rfl, rfl, by simp⟩
  | cons p ps ih =>
    intro ps' l h h2
    obtain ⟨i, x⟩ := p
    simp only [compParts] at h
    split at h
    · rename_i off n y r' h1 h3 h4
      cases h
      simp only [partsOf] at h2
      split at h2
      · rename_i cs r2 h5 h6
        split at h2
        · rename_i hlen
          cases h2
          obtain ⟨q, hq1, hq2, hq3⟩ := ih r' r2 h4 h6
          have hv := opd_vr ht h3
          obtain ⟨k1, k2⟩ := vcells_vr hv h5
          refine ⟨((i, a.eval x), (off, cs)) :: q, by simp [hq1], by simp [hq2], fun p hp => ?_⟩
          rcases List.mem_cons.1 hp with rfl | hp
          · exact ⟨by rw [h1, hlen], k1, k2⟩
          · exact hq3 p hp
        · cases h2
      · cases h2
    · cases h

theorem sim_build {t : Go.TypeId} {ps : Array (Nat × Operand)} {z : List V} {place : Nat → Option (Nat × Nat)} {ps' : List (Nat × Nat × Od)} (hz : zeroRow P t = some z) (hpl : placesOf P t = some place)
    (hps : compParts place ps.toList = some ps') (ho : o.op = .build t ps) {v : V} {S' : St} (h : evOp T S (.build z ps') = some (v, S')) : Good φ S w ((Go.execOp a.eval o).run P w) v S' := by
  simp only [evOp] at h
  split at h
  · rename_i l hl
    cases hf : fillS l z with
    | none => rw [hf] at h; cases h
    | some r =>
      rw [hf] at h; cases h
      obtain ⟨q, hq1, hq2, hq3⟩ := parts_like ht place _ _ _ hps hl
      obtain ⟨i, zv, hi, hzv, hsz, _, _, hlike⟩ := zeroRow_like hz (Wr φ S.get) w φ
      obtain ⟨arr', ha, hlk⟩ := fill_like place q z r zv.cells hq3 hlike (by rw [hq1]; exact hf)
      rw [hq2] at ha
      have hb : P.built t (ps.map fun (i, x) => (i, a.eval x)).toList = some arr' := by
        rw [Array.toList_map]
        unfold Program.built
        unfold placesOf at hpl
        split at hpl
        · rename_i fs hu
          cases hm : fs.toList.mapM (fun f => (P.info? f.type).map fun i => (f.offset, i.size)) with
          | none => rw [hm] at hpl; cases hpl
          | some pl =>
            rw [hm] at hpl; cases hpl
            simp only [hi, hu, hzv, hm]
            simpa using ha
        · rename_i n e hu
          cases hm : P.info? e with
          | none => rw [hm] at hpl; cases hpl
          | some ie =>
            rw [hm] at hpl; cases hpl
            simp only [hi, hu, hzv, hm]
            exact ha
        · cases hpl
      refine Good.pure hs (u := .agg arr') ?_ (.agg _ _ hlk.1 (fun j u hu => ?_) (fun j x u hx hu => ?_))
      · simp only [Go.execOp, ho, Sem.run_bind, Go.run_build w t _ _ hb, Result.andThen_ok]; rfl
      · have hj : j < r.length := by rw [← hlk.1]; exact (Array.getElem?_eq_some_iff.1 hu).1
        obtain ⟨y, hy, _, h1⟩ := hlk.2 j _ (List.getElem?_eq_getElem hj)
        rw [hu] at hy; cases hy; exact h1
      · obtain ⟨y, hy, h1, _⟩ := hlk.2 j x hx
        rw [hu] at hy; cases hy; exact h1
  · cases h

theorem sim_box {t : Go.TypeId} {x : Operand} {x' : Od} {n : Nat} (hx : compOd x = some x') (hn : sizeOf P t = some n) (ho : o.op = .box t x) {v : V} {S' : St} (h : evOp T S (.box n x') = some (v, S')) :
    Good φ S w ((Go.execOp a.eval o).run P w) v S' := by
  have hv := opd_vr ht hx
  simp only [evOp] at h
  split at h
  · rename_i cs hc
    split at h
    · cases h
      refine sim_newVar hs (vcells_vr hv hc) t ?_
      simp [Go.execOp, ho, Go.Instr.box, Go.newVar, Go.newRow, Go.newObj, Sem.run]
    · cases h
  · cases h

end
end Mev
