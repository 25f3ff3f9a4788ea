/- Each operation of the evaluator is the model's: those that make no memory. -/
import Derived.Test.YtfndbddlicbjpaaMevRel2
import Derived.Deep.AppendSrc

set_option linter.unusedVariables false
namespace Mev
open Go (Value World Addr Obj Program Operand Op Oper Act Result Next undef Sem)

def TR (W : Nat → Prop) (w : World) (φ : Phi) (T : Env) (a : Act) : Prop :=
  a.defers = [] ∧ a.tmps.size = T.n ∧ ∀ t, VR W w φ (T.get t) (a.tmps.getD t undef)

/-- a run of the model that comes to a value, or to none, as the evaluator says -/
def Good (φ : Phi) (S : St) (w : World) (r : Result Next) (v : V) (S' : St) : Prop :=
  ∃ u φ' w' nx, r = .ok nx w' ∧ (nx = .value u ∨ nx = .skip ∧ u = undef) ∧ VR (Wr φ' S'.get) w' φ' v u ∧ Stp φ S w φ' S' w'

section
variable {P : Program} {a : Act} {T : Env} {S : St} {w : World} {φ : Phi}

theorem leaf_fr (W : Nat → Prop) (w : World) (v : Value) : FR W w (leaf v) v := by
  unfold leaf
  split
  · exact .int _ _
  · exact .bool _
  · exact .str _
  · exact .nilp
  · exact .nils
  · exact .nilf
  · exact .nili
  · exact .nilm
  · exact .un _

theorem ofConst_fr (W : Nat → Prop) (w : World) (v : Value) : FR W w (ofConst v) v := by
  unfold ofConst
  split
  · rename_i cs
    split
    · rename_i h1
      refine .agg _ _ (by simp) (fun i u hu => ?_) (fun i x u hx hu => ?_)
      · exact Array.all_eq_true_iff_forall_mem.1 h1 u (Array.mem_of_getElem? hu)
      · rw [List.getElem?_map, Array.getElem?_toList, hu] at hx
        cases hx
        exact leaf_fr W w u
    · exact .un _
  · exact leaf_fr W w v

theorem opd_vr {W : Nat → Prop} (ht : TR W w φ T a) {x : Operand} {y : Od} (h : compOd x = some y) : VR W w φ (opd T y) (a.eval x) := by
  cases x with
  | tmp t => cases h; exact ht.2.2 t
  | const v => cases h; exact .fr _ _ (ofConst_fr W w v)
  | func f => cases h; exact .fr _ _ (.fn f [] #[] rfl (fun i v u hv => by simp at hv))
  | global g => cases h

/-! ### what values look like -/
theorem vr_int {W : Nat → Prop} {k : Go.IntKind} {n : Int} {u : Value} (h : VR W w φ (.int k n) u) : u = .int k n := by
  cases h with | fr _ _ h => cases h; rfl
theorem vr_bool {W : Nat → Prop} {b : Bool} {u : Value} (h : VR W w φ (.bool b) u) : u = .bool b := by
  cases h with | fr _ _ h => cases h; rfl
theorem vr_str {W : Nat → Prop} {s : List UInt8} {u : Value} (h : VR W w φ (.str s) u) : ∃ b : ByteArray, u = .string b ∧ s = b.data.toList := by
  cases h with | fr _ _ h => cases h; exact ⟨_, rfl, rfl⟩
theorem vr_nils {W : Nat → Prop} {u : Value} (h : VR W w φ .nils u) : u = .slice none 0 0 := by
  cases h with | fr _ _ h => cases h; rfl
theorem vr_nilp {W : Nat → Prop} {u : Value} (h : VR W w φ .nilp u) : u = .pointer none := by
  cases h with | fr _ _ h => cases h; rfl
theorem vr_agg {W : Nat → Prop} {cs : List V} {u : Value} (h : VR W w φ (.agg cs) u) : ∃ us : Array Value, u = .agg us ∧ us.size = cs.length ∧ (∀ (i : Nat) u, us[i]? = some u → u.oneCell' = true) ∧
    ∀ (i : Nat) v u, cs[i]? = some v → us[i]? = some u → VR W w φ v u := by
  cases h with
  | fr _ _ h => cases h with | agg _ us hn h1 h2 => exact ⟨us, rfl, hn, h1, fun i v u hv hu => .fr _ _ (h2 i v u hv hu)⟩
  | agg _ us hn h1 h2 => exact ⟨us, rfl, hn, h1, h2⟩
theorem vr_tup {W : Nat → Prop} {cs : List V} {u : Value} (h : VR W w φ (.tup cs) u) : ∃ us : Array Value, u = .tuple us ∧ us.size = cs.length ∧
    ∀ (i : Nat) v u, cs[i]? = some v → us[i]? = some u → VR W w φ v u := by
  cases h with
  | fr _ _ h => cases h with | tup _ us hn h2 => exact ⟨us, rfl, hn, fun i v u hv hu => .fr _ _ (h2 i v u hv hu)⟩
  | tup _ us hn h2 => exact ⟨us, rfl, hn, h2⟩
theorem vr_fn {W : Nat → Prop} {f : Go.FuncId} {cs : List V} {u : Value} (h : VR W w φ (.fn f cs) u) : ∃ us : Array Value, u = .func (.func f) #[] us ∧ us.size = cs.length ∧
    ∀ (i : Nat) v u, cs[i]? = some v → us[i]? = some u → VR W w φ v u := by
  cases h with
  | fr _ _ h => cases h with | fn _ _ us hn h2 => exact ⟨us, rfl, hn, fun i v u hv hu => .fr _ _ (h2 i v u hv hu)⟩
  | fn _ _ us hn h2 => exact ⟨us, rfl, hn, h2⟩
theorem vr_ptr {W : Nat → Prop} {id g sz idx off : Nat} {u : Value} (h : VR W w φ (.ptr id g sz idx off) u) : ∃ c n tot, φ id g = some (.at_ c n tot) ∧ idx < n ∧ u = .pointer (some ⟨c, idx * sz + off, none⟩) := by
  cases h with
  | fr _ _ h => cases h
  | ptr _ _ _ _ _ c n tot h hi => exact ⟨c, n, tot, h, hi, rfl⟩
theorem vr_rp {W : Nat → Prop} {row : List V} {off : Nat} {u : Value} (h : VR W w φ (.rp row off) u) : ∃ c o, u = .pointer (some ⟨c, o + off, none⟩) ∧ ¬ W c ∧ c < w.heap.size ∧
    (∀ j v, row[j]? = some v → ∃ u, w.cell? ⟨c, o + j, none⟩ = some u ∧ FR W w v u ∧ u.oneCell' = true) := by
  cases h with
  | fr _ _ h => cases h with
    | rp _ _ c o hW hc h1 h2 => exact ⟨c, o, rfl, hW, hc, fun j v hj => by obtain ⟨u, hu, h⟩ := h1 j v hj; exact ⟨u, hu, h2 j v u hj hu, h⟩⟩
theorem vr_ifc {W : Nat → Prop} {t : Go.TypeId} {v : V} {u : Value} (h : VR W w φ (.ifc t v) u) : ∃ u', u = .iface t u' ∧ VR W w φ v u' := by
  cases h with
  | fr _ _ h => cases h with | ifc _ _ u h => exact ⟨u, rfl, .fr _ _ h⟩
  | ifc _ _ u h => exact ⟨u, rfl, h⟩

/-! ### cells -/
theorem vcells_vr {W : Nat → Prop} {v : V} {u : Value} {cs : List V} (h : VR W w φ v u) (hc : vcells v = some cs) : u.cells.size = cs.length ∧
    ∀ (j : Nat) x, cs[j]? = some x → ∃ y, u.cells[j]? = some y ∧ VR W w φ x y ∧ y.oneCell' = true := by
  have one : ∀ {v : V} {u : Value}, VR W w φ v u → u.oneCell' = true → u.cells = #[u] → u.cells.size = [v].length ∧ ∀ (j : Nat) x, [v][j]? = some x → ∃ y, u.cells[j]? = some y ∧ VR W w φ x y ∧ y.oneCell' = true := by
    intro v u h h1 hcs
    rw [hcs]
    refine ⟨rfl, fun j x hx => ?_⟩
    cases j with
    | zero => simp at hx; subst hx; exact ⟨u, rfl, h, h1⟩
    | succ j => simp at hx
  cases v with
  | agg cs' =>
    cases hc
    obtain ⟨us, rfl, hn, h1, h2⟩ := vr_agg h
    refine ⟨hn, fun j x hx => ?_⟩
    obtain ⟨y, hy⟩ := some_of_size hn hx
    exact ⟨y, hy, h2 j x y hx hy, h1 j y hy⟩
  | tup cs' => cases hc
  | un => cases hc
  | _ =>
    cases hc
    refine one h ?_ ?_
    all_goals (cases h with
      | fr _ _ h => cases h <;> rfl
      | _ => rfl)

theorem oneOf {W : Nat → Prop} {v : V} {u : Value} (h : VR W w φ v u) : True := trivial

theorem Good.pure {φ : Phi} {S : St} {w : World} (hs : Sim φ S w) {r : Result Next} {v : V} {u : Value} (h : r = .ok (.value u) w) (hv : VR (Wr φ S.get) w φ v u) : Good φ S w r v S :=
  ⟨u, φ, w, _, h, .inl rfl, hv, Stp.refl hs⟩

end

section
variable {P : Program} {a : Act} {T : Env} {S : St} {w : World} {φ : Phi}

/-- cells that follow one another, read -/
theorem run_load_cells {ad : Addr} {n : Nat} {row : List V} {W : Nat → Prop} (hrow : row.length = n) (h : ∀ (j : Nat) v, row[j]? = some v → ∃ u, w.cell? (ad.add j) = some u ∧ VR W w φ v u ∧ u.oneCell' = true) :
    ∃ us : Array Value, (Go.loadCells ad n).run P w = .ok us w ∧ us.size = row.length ∧ (∀ (i : Nat) u, us[i]? = some u → u.oneCell' = true) ∧ ∀ (i : Nat) v u, row[i]? = some v → us[i]? = some u → VR W w φ v u := by
  let f : Nat → Value := fun j => (w.cell? (ad.add j)).getD undef
  have hf : ∀ j, j < n → w.cell? (ad.add j) = some (f j) := by
    intro j hj
    obtain ⟨u, hu, _⟩ := h j row[j] (List.getElem?_eq_getElem (by omega))
    simp only [f, hu, Option.getD_some]
  have hr := Go.run_loadCellsFrom (P := P) (w := w) ad f n 0 #[] (fun j hj => by rw [Nat.zero_add]; exact hf j hj)
  have hget : ∀ i : Nat, i < n → (#[] ++ ((List.range n).map fun j => f (0 + j)).toArray)[i]? = some (f i) := by
    intro i hi
    simp [hi]
  refine ⟨_, hr, by simp [hrow], fun i u hu => ?_, fun i v u hv hu => ?_⟩
  · have hi : i < n := by
      have := (Array.getElem?_eq_some_iff.1 hu).1
      simpa using this
    rw [hget i hi] at hu
    obtain ⟨u', hu', _, h1⟩ := h i row[i] (List.getElem?_eq_getElem (by omega))
    rw [hf i hi] at hu'
    cases hu'; cases hu; exact h1
  · have hi : i < n := by rw [← hrow]; exact (List.getElem?_eq_some_iff.1 hv).1
    rw [hget i hi] at hu
    obtain ⟨u', hu', hvr, _⟩ := h i v hv
    rw [hf i hi] at hu'
    cases hu'; cases hu; exact hvr

theorem run_isAgg {t : Go.TypeId} {ag : Bool} (h : aggOf P t = some ag) : (Go.isAgg t).run P w = .ok ag w := by
  unfold aggOf at h
  cases hd : P.underlying t with
  | none => rw [hd] at h; cases h
  | some d =>
    rw [hd] at h
    simp only [Go.isAgg, Sem.run_bind, Go.run_underlying hd, Result.andThen_ok]
    cases d <;> cases h <;> rfl
theorem run_sizeOf {t : Go.TypeId} {n : Nat} (h : sizeOf P t = some n) : (Go.sizeOf t).run P w = .ok n w := by
  unfold sizeOf at h
  cases hi : P.info? t with
  | none => rw [hi] at h; cases h
  | some i =>
    rw [hi] at h; cases h
    simp [Go.sizeOf, Go.typeInfo, hi]

theorem add_plain (c o j : Nat) : (⟨c, o, none⟩ : Addr).add j = ⟨c, o + j, none⟩ := by unfold Addr.add; split <;> simp_all

end
end Mev
