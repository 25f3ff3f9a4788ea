/- Each operation of the evaluator is the model's: appends. -/
import Derived.Test.YtfndbddlicbjpaaMevOps8

set_option linter.unusedVariables false
namespace Mev
open Go (Value World Addr Obj Program Operand Op Oper Act Result Next undef Sem Builtin)

section
variable {P : Program} {a : Act} {T : Env} {S : St} {w : World} {φ : Phi}

/-- the cells that rows are shown by, in one list -/
theorem cells_list {W : Nat → Prop} {c o' sz : Nat} {rows : List (List V)} (hsz : ∀ row ∈ rows, row.length = sz)
    (h : ∀ i j v, at2 rows i j = some v → ∃ u, w.cell? ⟨c, o' + (i * sz + j), none⟩ = some u ∧ VR W w φ v u ∧ u.oneCell' = true) :
    ∃ news : List Value, news.length = rows.length * sz ∧ (∀ j u, news[j]? = some u → w.cell? ((⟨c, o', none⟩ : Addr).add j) = some u) ∧ (∀ u ∈ news, u.oneCell' = true) ∧
      ∀ i j v, at2 rows i j = some v → ∃ u, news[i * sz + j]? = some u ∧ VR W w φ v u ∧ u.oneCell' = true := by
  have get : ∀ k, k < rows.length * sz → ∃ v, at2 rows (k / sz) (k % sz) = some v ∧ k / sz * sz + k % sz = k := by
    intro k hk
    have hpos : 0 < sz := by rcases Nat.eq_zero_or_pos sz with rfl | h <;> omega
    have hq : k / sz < rows.length := (Nat.div_lt_iff_lt_mul hpos).2 hk
    have hr := hsz rows[k / sz] (List.getElem_mem hq)
    have hm : k % sz < rows[k / sz].length := by rw [hr]; exact Nat.mod_lt _ hpos
    exact ⟨rows[k / sz][k % sz], by simp [at2, List.getElem?_eq_getElem hq, List.getElem?_eq_getElem hm], Nat.div_add_mod' _ _⟩
  have hg : ∀ k u, ((List.range (rows.length * sz)).map fun k => (w.cell? ⟨c, o' + k, none⟩).getD undef)[k]? = some u → w.cell? ⟨c, o' + k, none⟩ = some u ∧ u.oneCell' = true := by
    intro k u hu
    have hk : k < rows.length * sz := by
      rcases Nat.lt_or_ge k (rows.length * sz) with h | h
      · exact h
      · rw [List.getElem?_eq_none (by simpa using h)] at hu; cases hu
    rw [List.getElem?_map, List.getElem?_range hk] at hu
    obtain ⟨v, h1, h2⟩ := get k hk
    obtain ⟨u', h3, _, h4⟩ := h _ _ _ h1
    rw [h2] at h3
    simp [h3] at hu
    subst hu; exact ⟨h3, h4⟩
  refine ⟨(List.range (rows.length * sz)).map fun k => (w.cell? ⟨c, o' + k, none⟩).getD undef, by simp, fun j u hu => ?_, fun u hu => ?_, fun i j v hv => ?_⟩
  · rw [add_plain]; exact (hg j u hu).1
  · obtain ⟨k, hk⟩ := List.mem_iff_getElem?.1 hu
    exact (hg k u hk).2
  · obtain ⟨u, h1, h2, h3⟩ := h i j v hv
    obtain ⟨r, hr, hj⟩ := at2_mem hv
    have hrl := hsz r (List.mem_of_getElem? hr)
    have hjl : j < sz := by rw [← hrl]; exact (List.getElem?_eq_some_iff.1 hj).1
    have hil : i < rows.length := (List.getElem?_eq_some_iff.1 hr).1
    have hlt : i * sz + j < rows.length * sz := by
      have : (i + 1) * sz ≤ rows.length * sz := Nat.mul_le_mul_right _ hil
      rw [Nat.add_mul, Nat.one_mul] at this; omega
    exact ⟨u, by rw [List.getElem?_map, List.getElem?_range hlt]; simp [h1], h2, h3⟩

def ShowsL (W : Nat → Prop) (w : World) (φ : Phi) (sz : Nat) (rows : List (List V)) (news : List Value) : Prop :=
  news.length = rows.length * sz ∧ ∀ i j v, at2 rows i j = some v → ∃ u, news[i * sz + j]? = some u ∧ VR W w φ v u ∧ u.oneCell' = true

theorem at2_drop_take {rows : List (List V)} {off len i j : Nat} {v : V} (h : at2 ((rows.drop off).take len) i j = some v) : i < len ∧ at2 rows (off + i) j = some v := by
  obtain ⟨r, hr, hj⟩ := at2_mem h
  rw [List.getElem?_take] at hr
  split at hr
  · rename_i hi
    rw [List.getElem?_drop] at hr
    exact ⟨hi, by simp [at2, hr, hj]⟩
  · cases hr

/-- what is appended -/
theorem src_vr (hs : Sim φ S w) {sz : Nat} {tx : Go.TypeId} {x : V} {u : Value} {new : List (List V)} (hx : VR (Wr φ S.get) w φ x u) (hrow : isRow P tx = true) (hstr : isStr P tx = false ∨ sz = 1)
    (h : (if isStr P tx then textRows x else rowsOf S x) = some new) (hsz : ∀ row ∈ new, row.length = sz) : ∃ news, Go.Src P sz tx u new.length news w ∧ ShowsL (Wr φ S.get) w φ sz new news := by
  by_cases hst : isStr P tx = true
  · rw [if_pos hst] at h
    have hu : P.underlying tx = some .string := by
      unfold isStr at hst; split at hst
      · assumption
      · cases hst
    rcases hstr with e | rfl
    · rw [e] at hst; cases hst
    · unfold textRows at h
      split at h
      · rename_i s
        cases h
        obtain ⟨b, rfl, rfl⟩ := vr_str hx
        have hl : (b.data.toList.map fun b => [V.int .u8 b.toNat]).length = b.size := by rw [List.length_map, Array.length_toList]; rfl
        refine ⟨Go.byteCells b, by rw [hl]; exact Go.Src.ofString w hu b, by rw [Go.byteCells_length, hl, Nat.mul_one], fun i j v hv => ?_⟩
        obtain ⟨r, hr, hj⟩ := at2_mem hv
        rw [List.getElem?_map] at hr
        cases hb : b.data.toList[i]? with
        | none => rw [hb] at hr; cases hr
        | some y =>
          rw [hb] at hr; cases hr
          cases j with
          | zero =>
            simp at hj; subst hj
            exact ⟨.int .u8 y.toNat, by unfold Go.byteCells; rw [Nat.mul_one, Nat.add_zero, List.getElem?_map, hb]; rfl, .fr _ _ (.int _ _), rfl⟩
          | succ j => simp at hj
      · cases h
  · rw [if_neg hst] at h
    have hu : ∃ e', P.underlying tx = some (.slice e') := by
      unfold isRow at hrow; unfold isStr at hst
      split at hrow
      · exact ⟨_, by assumption⟩
      · rename_i hd; rw [hd] at hst; simp at hst
      · cases hrow
    obtain ⟨e', hu⟩ := hu
    have nil : ∀ c, Go.Src P sz tx (.slice none 0 c) ([] : List (List V)).length [] w := fun c => Go.Src.ofNil w hu c
    have triv : ShowsL (Wr φ S.get) w φ sz [] [] := ⟨by simp, fun i j v hv => by simp [at2] at hv⟩
    unfold rowsOf at h
    split at h
    · cases h
      cases vr_nils hx
      exact ⟨[], nil 0, triv⟩
    · rename_i sz' rows len
      split at h
      · rename_i hle
        cases h
        rcases vr_rs hx with ⟨rfl, rfl, ad, cap, rfl⟩ | ⟨c, o', cap, rfl, h3, h4, h5, h6, h7, h8⟩
        · refine ⟨[], ?_, by simpa using triv⟩
          cases ad with
          | none => simpa using nil cap
          | some ad => simpa using Go.Src.ofSlice w hu ad 0 cap [] (by simp) (by simp) (by simp)
        · rcases Nat.eq_zero_or_pos len with rfl | hpos
          · refine ⟨[], ?_, by simpa using triv⟩
            simpa using Go.Src.ofSlice w hu ⟨c, o', none⟩ 0 cap [] (by simp) (by simp) (by simp)
          · have hz : sz' = sz := by
              have hr0 : rows[0] ∈ rows.take len := List.mem_iff_getElem?.2 ⟨0, by rw [List.getElem?_take_of_lt hpos, List.getElem?_eq_getElem (by omega)]⟩
              rw [← hsz _ hr0, h5 _ (List.mem_of_mem_take hr0)]
            subst hz
            obtain ⟨news, q1, q2, q3, q4⟩ := cells_list (w := w) (φ := φ) (W := Wr φ S.get) (c := c) (o' := o') (rows := rows.take len) hsz (fun i j v hv => by
              obtain ⟨_, hv'⟩ := at2_drop_take (off := 0) (by simpa using hv)
              rw [Nat.zero_add] at hv'
              obtain ⟨u, r1, r2, r3⟩ := h8 i j v hv'
              exact ⟨u, r1, .fr _ _ r2, r3⟩)
            have hl : (rows.take len).length = len := by simp; omega
            rw [hl] at q1
            exact ⟨news, by rw [hl]; exact Go.Src.ofSlice w hu _ _ _ _ q1 q2 q3, by rw [hl]; exact q1, q4⟩
      · cases h
    · rename_i id g sz' off len
      split at h
      · rename_i sz'' rows gen lo hg
        split at h
        · rename_i hc
          obtain ⟨rfl, hlo, hge, hle⟩ := hc
          cases h
          rcases vr_sl hx with ⟨rfl, rfl, hp, rfl⟩ | ⟨c, n, tot, cap, o', hp, k1, k2, k3, k4, rfl⟩
          · exact ⟨[], by simpa using nil 0, by simpa using triv⟩
          · obtain ⟨h4, h5, arr, e, h6, h7, h8⟩ := hs.rel.cells _ _ _ _ _ _ _ _ _ hg hlo hge hp
            have hl : ((rows.drop off).take len).length = len := by simp; omega
            rcases Nat.eq_zero_or_pos len with rfl | hpos
            · refine ⟨[], ?_, by simpa using triv⟩
              simpa using Go.Src.ofSlice w hu ⟨c, o', none⟩ 0 cap [] (by simp) (by simp) (by simp)
            · have hz : sz' = sz := by
                have hr0 : rows[off] ∈ (rows.drop off).take len := List.mem_iff_getElem?.2 ⟨0, by rw [List.getElem?_take_of_lt hpos, List.getElem?_drop, Nat.add_zero, List.getElem?_eq_getElem (by omega)]⟩
                rw [← hsz _ hr0, hs.rel.size _ _ _ _ _ hg _ (List.getElem_mem _)]
              subst hz
              have ho := k3 (by omega)
              obtain ⟨news, q1, q2, q3, q4⟩ := cells_list (w := w) (φ := φ) (W := Wr φ S.get) (c := c) (o' := o') (rows := (rows.drop off).take len) hsz (fun i j v hv => by
                obtain ⟨hi, hv'⟩ := at2_drop_take hv
                obtain ⟨u, r1, r2, r3⟩ := h8 (off + i) j v (by omega) hv'
                refine ⟨u, ?_, r2, r3⟩
                rw [ho]
                unfold World.cell?
                simp only [h6]
                have : off * sz' + (i * sz' + j) = (off + i) * sz' + j := by rw [Nat.add_mul, Nat.add_assoc]
                rw [this]
                exact r1)
              rw [hl] at q1
              exact ⟨news, by rw [hl]; exact Go.Src.ofSlice w hu _ _ _ _ q1 q2 q3, by rw [hl]; exact q1, q4⟩
        · cases h
      · cases h
    · cases h

end
end Mev
