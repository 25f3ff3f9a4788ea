/- Each operation of the evaluator is the model's: stores, appends. -/
import Derived.Test.YtfndbddlicbjpaaMevOps7
import Derived.Laws.CopyRow
import Derived.Deep.Upon

set_option linter.unusedVariables false
namespace Mev
open Go (Value World Addr Obj Program Operand Op Oper Act Result Next undef Sem)

theorem seg_get {α : Type} (l cs : List α) (off : Nat) (h : off + cs.length ≤ l.length) (k : Nat) : (l.take off ++ cs ++ l.drop (off + cs.length))[k]? = if off ≤ k ∧ k < off + cs.length then cs[k - off]? else l[k]? := by
  by_cases h1 : k < off
  · rw [if_neg (by omega), List.append_assoc, List.getElem?_append_left (by simp; omega), List.getElem?_take_of_lt h1]
  · by_cases h2 : k < off + cs.length
    · rw [if_pos (by omega), List.append_assoc, List.getElem?_append_right (by simp; omega), List.getElem?_append_left (by simp; omega)]
      congr 1; simp; omega
    · rw [if_neg (by omega), List.getElem?_append_right (by simp; omega), List.getElem?_drop]
      congr 1; simp; omega
theorem seg_arr (arr : Array Value) (cs : List Value) (off : Nat) (h : off + cs.length ≤ arr.size) (k : Nat) :
    ((arr.toList.take off ++ cs ++ arr.toList.drop (off + cs.length)).toArray)[k]? = if off ≤ k ∧ k < off + cs.length then cs[k - off]? else arr[k]? := by
  rw [List.getElem?_toArray, seg_get _ _ _ (by simpa using h)]
  split <;> simp
theorem seg_size (arr : Array Value) (cs : List Value) (off : Nat) (h : off + cs.length ≤ arr.size) : (arr.toList.take off ++ cs ++ arr.toList.drop (off + cs.length)).toArray.size = arr.size := by
  simp; omega

/-- two places in rows of the same size are one only where both numbers are -/
theorem place_eq {sz i j i' j' : Nat} (hj : j < sz) (hj' : j' < sz) (h : i * sz + j = i' * sz + j') : i = i' ∧ j = j' := by
  rcases Nat.lt_trichotomy i i' with hlt | rfl | hgt
  · have : (i + 1) * sz ≤ i' * sz := Nat.mul_le_mul_right _ (by omega)
    rw [Nat.add_mul, Nat.one_mul] at this; omega
  · exact ⟨rfl, by omega⟩
  · have : (i' + 1) * sz ≤ i * sz := Nat.mul_le_mul_right _ (by omega)
    rw [Nat.add_mul, Nat.one_mul] at this; omega

theorem Wr.of {φ : Phi} {h : Nat → Option Blk} {id g c n tot : Nat} {b : Blk} (hp : φ id g = some (.at_ c n tot)) (hb : h id = some b) (hd : b ≠ .dead) : Wr φ h c := .inr ⟨id, g, n, tot, hp, b, hb, hd⟩

theorem fr_setRow {W : Nat → Prop} {w : World} {c : Nat} (hc : W c) (cs : Array Value) : Fr W w (w.setRow c cs) :=
  ⟨rfl, rfl, rfl, by simp, fun k hk hn => Go.setRow_other w c k cs (by rintro rfl; exact hn hc)⟩

section
variable {P : Program} {a : Act} {T : Env} {S : St} {w : World} {φ : Phi}
variable (hs : Sim φ S w) (ht : TR (Wr φ S.get) w φ T a) {o : Oper}
include hs ht

theorem sim_store {t : Go.TypeId} {p x : Operand} {p' x' : Od} {n : Nat} (hp : compOd p = some p') (hx : compOd x = some x') (hn : sizeOf P t = some n) (ho : o.op = .store t p x) {S' : St}
    (h : storeS S n (opd T p') (opd T x') = some S') : Good φ S w ((Go.execOp a.eval o).run P w) .un S' := by
  have hv := opd_vr ht hp
  have hxv := opd_vr ht hx
  unfold storeS at h
  split at h
  · rename_i id g sz' idx off cs e1 e2
    rw [e1] at hv
    obtain ⟨c, n', tot, h1, h2, h3⟩ := vr_ptr hv
    obtain ⟨k1, k2⟩ := vcells_vr hxv e2
    split at h
    · rename_i sz rows gen lo hg
      split at h
      · rename_i hc
        obtain ⟨rfl, rfl, hlo, hlen⟩ := hc
        split at h
        · rename_i row hrow
          split at h
          · rename_i hle
            cases h
            obtain ⟨h4, h5, arr, e, h6, h7, h8⟩ := hs.rel.cells _ _ _ _ _ _ _ _ _ hg hlo (Nat.le_refl _) h1
            obtain rfl := h5 rfl
            have hrl := hs.rel.size _ _ _ _ _ hg row (List.mem_of_getElem? hrow)
            have htot := (hs.rel.lt _ _ _ _ _ h1).2
            have hidx : idx < rows.length := h2
            have hfit : idx * sz' + off + (a.eval x).cells.toList.length ≤ arr.size := by
              have : (idx + 1) * sz' ≤ tot * sz' := Nat.mul_le_mul_right _ (by omega)
              rw [Nat.add_mul, Nat.one_mul] at this
              rw [Array.length_toList, k1, h7]; omega
            have hone : ∀ v ∈ (a.eval x).cells.toList, v.oneCell' = true := by
              intro v hv'
              obtain ⟨i, hi⟩ := List.mem_iff_getElem?.1 hv'
              have hil : i < cs.length := by rw [← k1, ← Array.length_toList]; exact (List.getElem?_eq_some_iff.1 hi).1
              obtain ⟨y, hy, _, h⟩ := k2 i _ (List.getElem?_eq_getElem hil)
              rw [Array.getElem?_toList, hy] at hi
              cases hi; exact h
            have hst := Go.run_storeCells_at (P := P) c (idx * sz' + off) e (a.eval x).cells.toList 0 arr w h6 (by simpa using hfit) hone
            rw [Nat.add_zero] at hst
            have hseg := seg_arr arr (a.eval x).cells.toList (idx * sz' + off) hfit
            have hssz := seg_size arr (a.eval x).cells.toList (idx * sz' + off) hfit
            generalize harr : (arr.toList.take (idx * sz' + off) ++ (a.eval x).cells.toList ++ arr.toList.drop (idx * sz' + off + (a.eval x).cells.toList.length)).toArray = arr' at hst hseg hssz
            have hW : Wr φ S.get c := Wr.of h1 hg (by simp)
            have hf : Fr (Wr φ S.get) w (w.setRow c arr') := fr_setRow hW arr'
            have hkc : kbL cs ≤ S.top := kbL_le fun i v hi => by obtain ⟨y, _, hy, _⟩ := k2 i v hi; exact hy.kb hs.dom
            obtain ⟨φ', hp', hst'⟩ := hs.turn hg (rows.set idx (setAt row off cs)) g g c tot (w.setRow c arr') arr' e (if kbL cs ≤ id then 0 else kbL cs) (.inl rfl) ⟨_, _, h1⟩ hf
              (Go.setRow_heap w c arr arr' e _ h6) (by rw [hssz, h7]) (by simpa using htot)
              (fun r hr => by
                rcases List.mem_or_eq_of_mem_set hr with hr | rfl
                · exact hs.rel.size _ _ _ _ _ hg r hr
                · rw [setAt_length _ _ _ (by omega)]; exact hrl)
              (.inl ⟨g, _, _, h1⟩) (fun id1 g1 c1 n1 t1 hne hp1 => Go.setRow_other w c c1 arr' (by rintro rfl; exact hne (hs.rel.inj _ _ _ _ _ _ _ _ _ hp1 h1)))
              (fun c1 hX => Go.setRow_other w c c1 arr' (by rintro rfl; exact hs.rel.out _ _ _ _ _ h1 hX))
              (fun _ => by simpa using h1)
              (fun v hv' => by
                obtain ⟨i, j, hij⟩ := at2_flatten hv'
                obtain ⟨r, hr, hj⟩ := at2_mem hij
                by_cases hii : idx = i
                · subst hii
                  rw [List.getElem?_set_self hidx] at hr; cases hr
                  rw [setAt_get _ _ _ (by omega)] at hj
                  split at hj
                  · have := kbL_mem hj; split <;> omega
                  · have := hs.pin _ _ hg v (by simp only [contents]; exact flatten_at2 (i := idx) (j := j) (by simp [at2, hrow, hj])); omega
                · rw [List.getElem?_set_ne hii] at hr
                  have := hs.pin _ _ hg v (by simp only [contents]; exact flatten_at2 (i := i) (j := j) (by simp [at2, hr, hj])); omega)
              (by split <;> omega)
              (fun φ' he hwr => by
                refine ⟨fun i j v hi hij => ?_, fun g1 _ _ _ q1 q2 q3 => by omega⟩
                obtain ⟨r, hr, hj⟩ := at2_mem hij
                rw [hseg]
                simp only [Array.length_toList, k1]
                by_cases hii : idx = i
                · subst hii
                  rw [List.getElem?_set_self hidx] at hr; cases hr
                  rw [setAt_get _ _ _ (by omega)] at hj
                  split at hj
                  · rename_i hcc
                    rw [if_pos (by omega), Array.getElem?_toList]
                    obtain ⟨y, hy, q1, q2⟩ := k2 _ _ hj
                    exact ⟨y, by rw [← hy]; congr 1; omega, q1.mono hf hwr he, q2⟩
                  · rename_i hcc
                    rw [if_neg (by omega)]
                    obtain ⟨y, hy, q1, q2⟩ := h8 idx j v hidx (by simp [at2, hrow, hj])
                    exact ⟨y, hy, q1.mono hf hwr he, q2⟩
                · rw [List.getElem?_set_ne hii] at hr
                  have hrl' := hs.rel.size _ _ _ _ _ hg r (List.mem_of_getElem? hr)
                  have hjl : j < sz' := by rw [← hrl']; exact (List.getElem?_eq_some_iff.1 hj).1
                  have hne : ¬ (idx * sz' + off ≤ i * sz' + j ∧ i * sz' + j < idx * sz' + off + cs.length) := by
                    rintro ⟨q1, q2⟩
                    have : i * sz' + j = idx * sz' + (i * sz' + j - idx * sz') := by omega
                    exact hii (place_eq (j := j) (j' := i * sz' + j - idx * sz') hjl (by omega) this).1.symm
                  rw [if_neg hne]
                  obtain ⟨y, hy, q1, q2⟩ := h8 i j v (by simpa using hi) (by simp [at2, hr, hj])
                  exact ⟨y, hy, q1.mono hf hwr he, q2⟩)
            refine ⟨undef, φ', _, _, ?_, .inr ⟨rfl, rfl⟩, .fr _ _ (.un _), hst'⟩
            simp [Go.execOp, ho, h3, Go.Instr.storeAt, Go.Instr.sureAddr, Go.storeVar, run_sizeOf hn, k1, hlen, hst]
          · cases h
        · cases h
      · cases h
    · cases h
  · cases h

end
end Mev
