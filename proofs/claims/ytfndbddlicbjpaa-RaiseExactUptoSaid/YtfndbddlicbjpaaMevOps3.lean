/- Each operation of the evaluator is the model's: those that look into values and memory. -/
import Derived.Test.YtfndbddlicbjpaaMevOps2

set_option linter.unusedVariables false
namespace Mev
open Go (Value World Addr Obj Program Operand Op Oper Act Result Next undef Sem)

section
variable {P : Program} {a : Act} {T : Env} {S : St} {w : World} {φ : Phi}

/-- what a slice's value is -/
theorem vr_sl {W : Nat → Prop} {id g sz off len : Nat} {u : Value} (h : VR W w φ (.sl id g sz off len) u) :
    (off = 0 ∧ len = 0 ∧ φ id g = some .virt ∧ u = .slice none 0 0) ∨
    ∃ c n tot cap o, φ id g = some (.at_ c n tot) ∧ off + len ≤ n ∧ off + cap = tot ∧ (cap ≠ 0 → o = off * sz) ∧ len ≤ cap ∧ u = .slice (some ⟨c, o, none⟩) len cap := by
  cases h with
  | fr _ _ h => cases h
  | slv _ _ _ h => exact .inl ⟨rfl, rfl, h, rfl⟩
  | sl _ _ _ _ _ c n tot cap o h hl hcap ho hlc => exact .inr ⟨c, n, tot, cap, o, h, hl, hcap, ho, hlc, rfl⟩
theorem vr_rs {W : Nat → Prop} {sz len : Nat} {rows : List (List V)} {u : Value} (h : VR W w φ (.rs sz rows len) u) :
    (rows = [] ∧ len = 0 ∧ ∃ ad cap, u = .slice ad 0 cap) ∨
    ∃ c o cap, u = .slice (some ⟨c, o, none⟩) len cap ∧ ¬ W c ∧ c < w.heap.size ∧ (∀ row ∈ rows, row.length = sz) ∧ len ≤ rows.length ∧ rows.length ≤ cap ∧
      (∀ i j v, at2 rows i j = some v → ∃ u, w.cell? ⟨c, o + (i * sz + j), none⟩ = some u ∧ FR W w v u ∧ u.oneCell' = true) := by
  cases h with
  | fr _ _ h => cases h with
    | rs0 _ ad cap => exact .inl ⟨rfl, rfl, ad, cap, rfl⟩
    | rs _ _ _ cap c o hW hc hsz hl hcap h1 h2 =>
      exact .inr ⟨c, o, cap, rfl, hW, hc, hsz, hl, hcap, fun i j v hv => by obtain ⟨u, hu, hh⟩ := h1 i j v hv; exact ⟨u, hu, h2 i j v u hv hu, hh⟩⟩
theorem fr_rs {W : Nat → Prop} {sz len : Nat} {rows : List (List V)} {c o cap : Nat} (hW : ¬ W c) (hc : c < w.heap.size) (hsz : ∀ row ∈ rows, row.length = sz) (hl : len ≤ rows.length) (hcap : rows.length ≤ cap)
    (h : ∀ i j v, at2 rows i j = some v → ∃ u, w.cell? ⟨c, o + (i * sz + j), none⟩ = some u ∧ FR W w v u ∧ u.oneCell' = true) : FR W w (.rs sz rows len) (.slice (some ⟨c, o, none⟩) len cap) :=
  .rs _ _ _ _ _ _ hW hc hsz hl hcap (fun i j v hv => by obtain ⟨u, hu, _, hh⟩ := h i j v hv; exact ⟨u, hu, hh⟩)
    (fun i j v u hv hu => by obtain ⟨u', hu', hh, _⟩ := h i j v hv; rw [hu] at hu'; cases hu'; exact hh)
theorem fr_rp {W : Nat → Prop} {row : List V} {off c o : Nat} (hW : ¬ W c) (hc : c < w.heap.size)
    (h : ∀ j v, row[j]? = some v → ∃ u, w.cell? ⟨c, o + j, none⟩ = some u ∧ FR W w v u ∧ u.oneCell' = true) : FR W w (.rp row off) (.pointer (some ⟨c, o + off, none⟩)) :=
  .rp _ _ _ _ hW hc (fun j v hv => by obtain ⟨u, hu, _, hh⟩ := h j v hv; exact ⟨u, hu, hh⟩) (fun j v u hv hu => by obtain ⟨u', hu', hh, _⟩ := h j v hv; rw [hu] at hu'; cases hu'; exact hh)

theorem elem_und {t e : Go.TypeId} (h : elemOf P t = some e) : P.underlying t = some (.slice e) := by
  unfold elemOf at h
  split at h
  · rename_i hd; cases h; exact hd
  · cases h

theorem asI_some {v : V} {n : Int} (h : asI v = some n) : ∃ k, v = .int k n := by
  cases v <;> simp [asI] at h
  subst h; exact ⟨_, rfl⟩

variable (hs : Sim φ S w) (ht : TR (Wr φ S.get) w φ T a) {o : Oper}
include hs ht

theorem sim_field {t : Go.TypeId} {x : Operand} {x' : Od} {f off n : Nat} {ag : Bool} (hx : compOd x = some x') (hf : fieldOf P t f = some (off, n, ag)) (ho : o.op = .field t x f) {v : V} {S' : St}
    (h : evOp T S (.field ag off n x') = some (v, S')) : Good φ S w ((Go.execOp a.eval o).run P w) v S' := by
  have hv := opd_vr ht hx
  unfold fieldOf at hf
  split at hf
  · rename_i fs hu
    split at hf
    · rename_i fd hfd
      split at hf
      · rename_i n' ag' hsz hag
        cases hf
        simp only [evOp] at h
        split at h
        · rename_i cs e
          rw [e] at hv
          obtain ⟨us, h3, hn, h1, h2⟩ := vr_agg hv
          have run : (Go.execOp a.eval o).run P w = (do let v ← Go.part fd.type us fd.offset; Pure.pure (.value v) : Sem Next).run P w := by
            simp [Go.execOp, ho, h3, Go.Instr.field, Go.run_underlying hu, hfd, Go.asAgg]
          cases ag with
          | true =>
            simp only [if_true] at h
            split at h
            · rename_i hle
              cases h
              refine Good.pure hs (u := .agg (us.extract fd.offset (fd.offset + n))) ?_ ?_
              · rw [run]; simp [Go.part, run_isAgg hag, run_sizeOf hsz]
              · refine .agg _ _ (by simp; omega) (fun i u hi => ?_) (fun i v u hi hi' => ?_)
                · rw [Array.getElem?_extract] at hi
                  split at hi
                  · exact h1 _ _ hi
                  · cases hi
                · rw [Array.getElem?_extract] at hi'
                  rw [List.getElem?_take] at hi
                  split at hi
                  · rw [List.getElem?_drop] at hi
                    split at hi'
                    · exact h2 _ _ _ hi hi'
                    · cases hi'
                  · cases hi
            · cases h
          | false =>
            simp only [Bool.false_eq_true, if_false] at h
            cases hc : cs[fd.offset]? with
            | none => rw [hc] at h; cases h
            | some y =>
              rw [hc] at h; cases h
              obtain ⟨u, hu'⟩ := some_of_size hn hc
              refine Good.pure hs (u := u) ?_ (h2 _ _ _ hc hu')
              rw [run]; simp [Go.part, run_isAgg hag, hu']
        · cases h
      · cases hf
    · cases hf
  · cases hf

theorem sim_iaddr {t e : Go.TypeId} {x i : Operand} {x' i' : Od} {sz : Nat} (hx : compOd x = some x') (hi : compOd i = some i') (he : elemOf P t = some e) (hsz : sizeOf P e = some sz) (ho : o.op = .indexAddr t x i) {v : V} {S' : St}
    (h : evOp T S (.iaddr sz x' i') = some (v, S')) : Good φ S w ((Go.execOp a.eval o).run P w) v S' := by
  have hv := opd_vr ht hx
  have hiv := opd_vr ht hi
  have hd := elem_und he
  simp only [evOp] at h
  split at h
  · rename_i n e2
    obtain ⟨k, e3⟩ := asI_some e2
    rw [e3] at hiv
    have hin := vr_int hiv
    have run : ∀ (ad : Addr) (len cap : Nat), a.eval x = .slice (some ad) len cap → 0 ≤ n → n < len → (Go.execOp a.eval o).run P w = .ok (.value (.pointer (some (ad.add (n.toNat * sz))))) w := by
      intro ad len cap had h0 h1
      simp [Go.execOp, ho, had, hin, Go.Instr.indexAt, Go.asIntOf, Go.run_underlying hd, h0, h1, run_sizeOf hsz]
    cases hi : idxAddr sz (opd T x') n with
    | none => rw [hi] at h; cases h
    | some y =>
      rw [hi] at h; cases h
      unfold idxAddr at hi
      split at hi
      · rename_i id g sz' off len e4
        split at hi
        · rename_i hc
          obtain ⟨rfl, h0, h1⟩ := hc
          cases hi
          rw [e4] at hv
          rcases vr_sl hv with ⟨rfl, rfl, _, _⟩ | ⟨c, nn, tot, cap, o', h2, h3, h4, h5, h6, h7⟩
          · omega
          · refine Good.pure hs (run _ _ _ h7 h0 h1) ?_
            rw [add_plain, h5 (by omega)]
            have : off * sz + n.toNat * sz = (off + n.toNat) * sz + 0 := by rw [Nat.add_mul, Nat.add_zero]
            rw [this]
            exact .ptr _ _ _ _ _ _ _ _ h2 (by omega)
        · cases hi
      · rename_i sz' rows len e4
        split at hi
        · rename_i hc
          obtain ⟨rfl, h0, h1⟩ := hc
          rw [e4] at hv
          cases hr : rows[n.toNat]? with
          | none => rw [hr] at hi; cases hi
          | some row =>
            rw [hr] at hi; cases hi
            rcases vr_rs hv with ⟨rfl, _, _⟩ | ⟨c, o', cap, h2, h3, h4, h5, h6, h7, h8⟩
            · simp at hr
            · refine Good.pure hs (run _ _ _ h2 h0 h1) ?_
              rw [add_plain]
              refine .fr _ _ (fr_rp (o := o' + n.toNat * sz) h3 h4 fun j v hj => ?_)
              obtain ⟨u, hu, hh⟩ := h8 n.toNat j v (by simp [at2, hr, hj])
              exact ⟨u, by rw [Nat.add_assoc]; exact hu, hh⟩
        · cases hi
      · cases hi
  · cases h

theorem sim_load {t : Go.TypeId} {p : Operand} {p' : Od} {n : Nat} {ag : Bool} (hp : compOd p = some p') (hag : aggOf P t = some ag) (hsz : sizeOf P t = some n) (ho : o.op = .load t p) {v : V}
    (h : loadS S ag n (opd T p') = some v) : Good φ S w ((Go.execOp a.eval o).run P w) v S := by
  have hv := opd_vr ht hp
  -- the cells at hand
  have key : ∃ (c o' off : Nat) (row : List V), a.eval p = .pointer (some ⟨c, o' + off, none⟩) ∧ (if ag then (if off + n ≤ row.length then some (.agg ((row.drop off).take n)) else none) else row[off]?) = some v ∧
      ∀ (j : Nat) x, row[j]? = some x → ∃ u, w.cell? ⟨c, o' + j, none⟩ = some u ∧ VR (Wr φ S.get) w φ x u ∧ u.oneCell' = true := by
    unfold loadS at h
    simp only at h
    split at h
    · rename_i row off e
      rw [e] at hv
      obtain ⟨c, o', h1, h2, h3, h4⟩ := vr_rp hv
      exact ⟨c, o', off, row, h1, h, fun j x hj => by obtain ⟨u, a, b, c⟩ := h4 j x hj; exact ⟨u, a, .fr _ _ b, c⟩⟩
    · rename_i id g sz idx off e
      rw [e] at hv
      obtain ⟨c, nn, tot, h1, h2, h3⟩ := vr_ptr hv
      split at h
      · rename_i sz' rows gen lo hg
        split at h
        · rename_i hl
          cases hr : rows[idx]? with
          | none => rw [hr] at h; cases h
          | some row =>
            rw [hr] at h
            simp only [Option.bind_some] at h
            obtain ⟨h4, h5, arr, e', h6, h7, h8⟩ := hs.rel.cells _ _ _ _ _ _ _ _ _ hg hl.2.1 hl.2.2 h1
            refine ⟨c, idx * sz, off, row, h3, h, fun j x hj => ?_⟩
            obtain ⟨u, hu, hvr, h9⟩ := h8 idx j x h2 (by simp [at2, hr, hj])
            refine ⟨u, ?_, hvr, h9⟩
            obtain ⟨rfl, _, _⟩ := hl
            unfold World.cell?
            simp only [h6]
            exact hu
        · cases h
      · cases h
    · cases h
  obtain ⟨c, o', off, row, h1, h2, h3⟩ := key
  cases ag with
  | true =>
    simp only [if_true] at h2
    split at h2
    · rename_i hle
      cases h2
      obtain ⟨us, hr, hn, hone, hvr⟩ := run_load_cells (P := P) (φ := φ) (w := w) (W := Wr φ S.get) (ad := ⟨c, o' + off, none⟩) (n := n) (row := (row.drop off).take n) (by simp; omega) (fun j x hj => by
        rw [List.getElem?_take] at hj
        split at hj
        · rw [List.getElem?_drop] at hj
          rw [add_plain, Nat.add_assoc]
          exact h3 _ _ hj
        · cases hj)
      refine Good.pure hs (u := .agg us) ?_ (.agg _ _ hn hone hvr)
      simp [Go.execOp, ho, h1, Go.Instr.loadAt, Go.Instr.sureAddr, Go.loadVar, run_isAgg hag, run_sizeOf hsz, hr]
    · cases h2
  | false =>
    simp only [Bool.false_eq_true, if_false] at h2
    obtain ⟨u, hu, hvr, _⟩ := h3 off v h2
    refine Good.pure hs (u := u) ?_ hvr
    simp [Go.execOp, ho, h1, Go.Instr.loadAt, Go.Instr.sureAddr, Go.loadVar, run_isAgg hag, hu]

end
end Mev
