/- Each operation of the evaluator is the model's: cuts, lengths, extremes; new memory. -/
import Derived.Test.YtfndbddlicbjpaaMevOps4

set_option linter.unusedVariables false
namespace Mev
open Go (Value World Addr Obj Program Operand Op Oper Act Result Next undef Sem)

section
variable {P : Program} {a : Act} {T : Env} {S : St} {w : World} {φ : Phi}

theorem vr_nilm {W : Nat → Prop} {u : Value} (h : VR W w φ .nilm u) : u = .map none := by
  cases h with | fr _ _ h => cases h; rfl
theorem vr_mp {W : Nat → Prop} {id : Nat} {u : Value} (h : VR W w φ (.mp id) u) : ∃ c n tot, φ id 0 = some (.at_ c n tot) ∧ u = .map (some c) := by
  cases h with
  | fr _ _ h => cases h
  | mp _ c n tot h => exact ⟨c, n, tot, h, rfl⟩

theorem row_und {t : Go.TypeId} (h : isRow P t = true) (h2 : isStr P t = false) : ∃ e, P.underlying t = some (.slice e) := by
  unfold isRow at h
  unfold isStr at h2
  split at h
  · exact ⟨_, by assumption⟩
  · rename_i hd; rw [hd] at h2; cases h2
  · cases h

theorem run_bound {k : Go.IntKind} {i : Int} {y : Nat} {code : Go.BoundsCode} (h0 : 0 ≤ i) (h1 : i ≤ y) : (Go.Instr.sliceBound (.int k i) y code).run P w = .ok i.toNat w := by
  simp [Go.Instr.sliceBound, Go.asIntOf, h0, h1]

/-- the bounds of a cut -/
theorem run_bounds {isSlice : Bool} {len cap : Nat} {lo hi : Option Value} {l h : Option Int} (hl : ∀ v, lo = some v → ∃ k n, v = .int k n ∧ l = some n) (hl' : lo = none → l = none)
    (hh : ∀ v, hi = some v → ∃ k n, v = .int k n ∧ h = some n) (hh' : hi = none → h = none) (h1 : 0 ≤ l.getD 0) (h2 : l.getD 0 ≤ h.getD len) (h3 : h.getD len ≤ cap) (h4 : len ≤ cap) :
    (Go.Instr.sliceBounds isSlice len cap lo hi none).run P w = .ok ((l.getD 0).toNat, (h.getD len).toNat, cap) w := by
  unfold Go.Instr.sliceBounds
  cases hi with
  | none =>
    have := hh' rfl; subst this
    cases lo with
    | none => have := hl' rfl; subst this; simp
    | some v =>
      obtain ⟨k, n, rfl, rfl⟩ := hl v rfl
      simp at h1 h2
      simp [run_bound h1 h2]
  | some v =>
    obtain ⟨k, n, rfl, rfl⟩ := hh v rfl
    simp at h2 h3
    have hn : 0 ≤ n := by omega
    cases lo with
    | none => have := hl' rfl; subst this; simp [run_bound hn h3]
    | some v =>
      obtain ⟨k', n', rfl, rfl⟩ := hl v rfl
      simp at h1 h2
      have : n' ≤ (n.toNat : Int) := by omega
      simp [run_bound hn h3, run_bound h1 this]

variable (hs : Sim φ S w) (ht : TR (Wr φ S.get) w φ T a) {o : Oper}
include hs ht

omit hs in
theorem bound_vr {x : Option Operand} {x' : Option Od} (h : compO x = some x') {l : Option Int} (hl : bound T x' = some l) :
    (∀ v, x.map a.eval = some v → ∃ k n, v = .int k n ∧ l = some n) ∧ (x.map a.eval = none → l = none) := by
  cases x with
  | none => cases h; cases hl; exact ⟨fun v hv => (by cases hv), fun _ => rfl⟩
  | some x =>
    simp only [compO] at h
    cases hx : compOd x with
    | none => rw [hx] at h; cases h
    | some y =>
      rw [hx] at h; cases h
      simp only [bound] at hl
      cases hi : asI (opd T y) with
      | none => rw [hi] at hl; cases hl
      | some n =>
        rw [hi] at hl; cases hl
        obtain ⟨k, e⟩ := asI_some hi
        have hv := opd_vr ht hx
        rw [e] at hv
        exact ⟨fun v hv' => (by cases hv'; exact ⟨k, n, vr_int hv, rfl⟩), fun hn => (by cases hn)⟩

theorem sim_slice {t : Go.TypeId} {x : Operand} {lo hi : Option Operand} {x' : Od} {lo' hi' : Option Od} {q : Option Nat} (hx : compOd x = some x') (hlo : compO lo = some lo') (hhi : compO hi = some hi') (hq : cutOf P t = some q)
    (ho : o.op = .slice t x lo hi none) {v : V} {S' : St} (h : evOp T S (.slice q x' lo' hi') = some (v, S')) : Good φ S w ((Go.execOp a.eval o).run P w) v S' := by
  have hv := opd_vr ht hx
  simp only [evOp] at h
  split at h
  · rename_i l hh e1 e2
    obtain ⟨hl1, hl2⟩ := bound_vr ht hlo e1
    obtain ⟨hh1, hh2⟩ := bound_vr ht hhi e2
    cases hc : cutS S q (opd T x') l hh with
    | none => rw [hc] at h; cases h
    | some y =>
      rw [hc] at h; cases h
      unfold cutOf at hq
      split at hq
      · rename_i hd
        cases hq
        simp only [cutS] at hc
        unfold sliceT at hc
        split at hc
        · rename_i s e
          rw [e] at hv
          obtain ⟨b, hb, rfl⟩ := vr_str hv
          simp only at hc
          split at hc
          · rename_i hcond
            cases hc
            have hsz : b.data.toList.length = b.size := by simp
            rw [hsz] at hcond
            refine Good.pure hs (u := .string (b.extract (l.getD 0).toNat (hh.getD b.size).toNat)) ?_ ?_
            · have hr := run_bounds (P := P) (w := w) (isSlice := false) hl1 hl2 hh1 hh2 hcond.1 hcond.2.1 hcond.2.2 (Nat.le_refl _)
              simp [Go.execOp, ho, hb, Go.Instr.sliceAt, Go.run_underlying hd, Go.Instr.slice, hr]
            · rw [hsz]
              have : (b.data.toList.take (hh.getD ↑b.size).toNat).drop (l.getD 0).toNat = (b.extract (l.getD 0).toNat (hh.getD ↑b.size).toNat).data.toList := by
                rw [Go.Lib.extract_data, List.take_drop]
                congr 2
                omega
              rw [this]; exact .fr _ _ (.str _)
          · cases hc
        · cases hc
      · rename_i e hd
        cases hsz : sizeOf P e with
        | none => rw [hsz] at hq; cases hq
        | some sz0 =>
          rw [hsz] at hq; cases hq
          simp only [cutS] at hc
          have hnotarr : ∀ X, (Go.Instr.sliceAt t X (lo.map a.eval) (hi.map a.eval) none).run P w = (Go.Instr.slice t X (lo.map a.eval) (hi.map a.eval) none).run P w := by
            intro X; simp [Go.Instr.sliceAt, Go.run_underlying hd]
          -- the run, at a slice's value
          have run : ∀ (ad : Option Addr) (len cap : Nat), a.eval x = .slice ad len cap → len ≤ cap → 0 ≤ l.getD 0 → l.getD 0 ≤ hh.getD len → hh.getD len ≤ cap →
              (Go.execOp a.eval o).run P w = .ok (.value (.slice (if cap = (l.getD 0).toNat then ad else ad.map (·.add ((l.getD 0).toNat * sz0))) ((hh.getD len).toNat - (l.getD 0).toNat) (cap - (l.getD 0).toNat))) w := by
            intro ad len cap hb h4 h1 h2 h3
            have hr := run_bounds (P := P) (w := w) (isSlice := true) hl1 hl2 hh1 hh2 h1 h2 h3 h4
            simp [Go.execOp, ho, hb, hnotarr, Go.Instr.slice, Go.run_underlying hd, hr, run_sizeOf hsz]
          -- a cut of a slice of a block
          have cut : ∀ (id g sz off len : Nat), VR (Wr φ S.get) w φ (.sl id g sz off len) (a.eval x) → sz0 = sz → 0 ≤ l.getD 0 → l.getD 0 ≤ hh.getD len →
              (∀ c n tot, φ id g = some (.at_ c n tot) → off + hh.getD len ≤ n) → (φ id g = some .virt → hh.getD len ≤ 0) →
              Good φ S w ((Go.execOp a.eval o).run P w) (.sl id g sz (off + (l.getD 0).toNat) (hh.getD len - l.getD 0).toNat) S := by
            intro id g sz off len hv hse h1 h2 h3 h4
            subst hse
            rcases vr_sl hv with ⟨rfl, rfl, hp, hb⟩ | ⟨c, n, tot, cap, o', hp, k1, k2, k3, k4, hb⟩
            · have h5 := h4 hp
              simp only [Int.natCast_zero] at h2 h5
              refine Good.pure hs (u := .slice none 0 0) ?_ ?_
              · rw [run none 0 0 hb (Nat.le_refl _) h1 h2 h5]
                have e1 : (l.getD 0).toNat = 0 := by omega
                simp only [Int.natCast_zero, e1]
                have e2 : (hh.getD 0).toNat = 0 := by omega
                simp [e2]
              · have e1 : (l.getD 0).toNat = 0 := by omega
                have e2 : (hh.getD 0 - l.getD 0).toNat = 0 := by omega
                simp only [Int.natCast_zero, e1, e2]
                exact .slv _ _ _ hp
            · have h5 := h3 _ _ _ hp
              have h6 := (hs.rel.lt _ _ _ _ _ hp).2
              have h7 : hh.getD (len : Int) ≤ cap := by omega
              refine Good.pure hs (run _ len cap hb k4 h1 h2 h7) ?_
              have e1 : (hh.getD (len : Int)).toNat - (l.getD 0).toNat = (hh.getD (len : Int) - l.getD 0).toNat := by omega
              rw [e1]
              by_cases hcap : cap = (l.getD 0).toNat
              · rw [if_pos hcap]
                exact .sl _ _ _ _ _ c n tot _ o' hp (by omega) (by omega) (fun hne => by omega) (by omega)
              · rw [if_neg hcap]
                simp only [Option.map_some, add_plain]
                refine .sl _ _ _ _ _ c n tot _ _ hp (by omega) (by omega) (fun hne => ?_) (by omega)
                rw [k3 (by omega), Nat.add_mul]
          unfold sliceS at hc
          split at hc
          · rename_i e3
            rw [e3] at hv
            have hb := vr_nils hv
            split at hc
            · rename_i hz
              cases hc
              refine Good.pure hs (u := .slice none 0 0) ?_ (.fr _ _ .nils)
              have hz2 : hh.getD ((0 : Nat) : Int) = 0 := hz.2
              rw [run none 0 0 hb (Nat.le_refl _) (by rw [hz.1]; exact Int.le_refl _) (by rw [hz.1, hz2]; exact Int.le_refl _) (by rw [hz2]; exact Int.le_refl _)]
              rw [hz.1, hz2]
              simp
            · cases hc
          · rename_i sz rows len e3
            rw [e3] at hv
            simp only at hc
            split at hc
            · rename_i hcond
              obtain ⟨rfl, c1, c2, c3⟩ := hcond
              cases hc
              rcases vr_rs hv with ⟨rfl, rfl, ad, cap, hb⟩ | ⟨c, o', cap, hb, h3, h4, h5, h6, h7, h8⟩
              · simp only [List.length_nil, Int.natCast_zero] at c2 c3
                refine Good.pure hs (run ad 0 cap hb (Nat.zero_le _) c1 c2 (by simp only [Int.natCast_zero]; omega)) ?_
                have e1 : (hh.getD 0).toNat = 0 := by omega
                have e2 : (l.getD 0).toNat = 0 := by omega
                have e3 : (hh.getD 0 - l.getD 0).toNat = 0 := by omega
                simp only [List.drop_nil, Int.natCast_zero, e1, e3, Nat.zero_sub]
                exact .fr _ _ (.rs0 _ _ _)
              · have hle : hh.getD (len : Int) ≤ cap := by omega
                refine Good.pure hs (run _ len cap hb (by omega) c1 c2 hle) ?_
                have e1 : (hh.getD (len : Int)).toNat - (l.getD 0).toNat = (hh.getD (len : Int) - l.getD 0).toNat := by omega
                rw [e1]
                by_cases hcap : cap = (l.getD 0).toNat
                · rw [if_pos hcap]
                  have hd0 : rows.drop (l.getD 0).toNat = [] := List.drop_eq_nil_of_le (by omega)
                  have hd1 : (hh.getD (len : Int) - l.getD 0).toNat = 0 := by omega
                  rw [hd0, hd1]
                  exact .fr _ _ (.rs0 _ _ _)
                · rw [if_neg hcap]
                  simp only [Option.map_some, add_plain]
                  refine .fr _ _ (fr_rs h3 h4 (fun row hr => h5 row (List.mem_of_mem_drop hr)) (by simp; omega) (by simp; omega) fun i j v hat => ?_)
                  have hat' : at2 rows ((l.getD 0).toNat + i) j = some v := by
                    unfold at2 at hat ⊢
                    rw [List.getElem?_drop] at hat
                    exact hat
                  obtain ⟨u, hu, hh⟩ := h8 _ _ _ hat'
                  refine ⟨u, ?_, hh⟩
                  rw [← hu, Nat.add_mul]
                  congr 2
                  omega
            · cases hc
          · rename_i id g sz off len e3
            rw [e3] at hv
            split at hc
            · rename_i hcond
              cases hc
              refine cut id g sz off len hv hcond.1 hcond.2.1 hcond.2.2.1 (fun c n tot hp => ?_) (fun hp => ?_)
              · rcases vr_sl hv with ⟨_, _, hp', _⟩ | ⟨c', n', tot', cap, o', hp', k1, _⟩
                · rw [hp] at hp'; cases hp'
                · rw [hp] at hp'; cases hp'
                  omega
              · rcases vr_sl hv with ⟨_, rfl, _, _⟩ | ⟨c', n', tot', cap, o', hp', k1, _⟩
                · have := hcond.2.2.2; omega
                · rw [hp] at hp'; cases hp'
            · split at hc
              · rename_i sz' rows gen lo' hg
                simp only at hc
                split at hc
                · rename_i hcond
                  obtain ⟨z1, z2, z3, z4, c1, c2, c3⟩ := hcond
                  cases hc
                  subst z3
                  refine cut id g sz off len hv z1 c1 c2 (fun c n tot hp => ?_) (fun hp => ?_)
                  · obtain ⟨_, hn, _⟩ := hs.rel.cells _ _ _ _ _ _ _ _ _ hg z4 (Nat.le_refl _) hp
                    rw [hn rfl]; exact c3
                  · have := hs.rel.virt _ _ _ _ _ hg hp
                    subst this
                    simp only [List.length_nil, Int.natCast_zero] at c3
                    omega
                · cases hc
              · cases hc
          · cases hc
      · cases hq
  · cases h

theorem sim_len {t ty : Go.TypeId} {x : Operand} {x' : Od} {q : LenK} {args : Array Operand} {ts : Array Go.TypeId} (hx : compOd x = some x') (hq : lenKOf P t = some q) (hargs : args.toList = [x]) (hts : ts.toList = [t])
    (ho : o.op = .call { callee := .builtin .len, args := args, argTypes := ts }) {v : V} {S' : St} (h : evOp T S (.len q x') = some (v, S')) : Good φ S w ((Go.execOp a.eval o).run P w) v S' := by
  have hv := opd_vr ht hx
  obtain rfl : args = #[x] := Array.ext' hargs
  obtain rfl : ts = #[t] := Array.ext' hts
  simp only [evOp] at h
  cases hl : lenOf S q (opd T x') with
  | none => rw [hl] at h; cases h
  | some n =>
    rw [hl] at h; cases h
    refine Good.pure hs (u := .int .i64 n) ?_ (.fr _ _ (.int _ _))
    unfold lenKOf at hq
    split at hq <;> (try cases hq; done) <;> rename_i hd <;> cases hq
    · unfold lenOf at hl
      simp only at hl
      split at hl
      · rename_i s e; cases hl
        rw [e] at hv
        obtain ⟨b, hb, rfl⟩ := vr_str hv
        simp [Go.execOp, ho, Go.resolve, Go.invoke, Go.builtin, Go.Builtin.len_, Go.run_underlying hd, hb, Go.goInt]
      · cases hl
    · unfold lenOf at hl
      have key : ∀ ad n c, a.eval x = .slice ad n c → (Go.execOp a.eval o).run P w = .ok (.value (.int .i64 n)) w := by
        intro ad n c hb
        simp [Go.execOp, ho, Go.resolve, Go.invoke, Go.builtin, Go.Builtin.len_, Go.run_underlying hd, hb, Go.goInt]
      simp only at hl
      split at hl
      · rename_i e; cases hl; rw [e] at hv; exact key _ _ _ (vr_nils hv)
      · rename_i e; cases hl; rw [e] at hv
        rcases vr_sl hv with ⟨_, rfl, _, h1⟩ | ⟨c, nn, tot, cap, o', _, _, _, _, _, h1⟩
        · exact key _ _ _ h1
        · exact key _ _ _ h1
      · rename_i e; cases hl; rw [e] at hv
        rcases vr_rs hv with ⟨_, rfl, ad, cap, h1⟩ | ⟨c, o', cap, h1, _⟩
        · exact key _ _ _ h1
        · exact key _ _ _ h1
      · cases hl
    · unfold lenOf at hl
      simp only at hl
      split at hl
      · rename_i e; cases hl; rw [e] at hv
        have h1 := vr_nilm hv
        simp [Go.execOp, ho, Go.resolve, Go.invoke, Go.builtin, Go.Builtin.len_, Go.run_underlying hd, h1, Go.goInt]
      · rename_i id e
        rw [e] at hv
        split at hl
        · rename_i es hg
          cases hl
          obtain ⟨c, nn, tot, hp, h1⟩ := vr_mp hv
          obtain ⟨ms, clock, hc, hsz, _⟩ := hs.rel.map _ _ _ _ _ hg hp
          have hget : (Go.getObj c).run P w = .ok (.map ms clock) w := by simp [Go.getObj, Sem.run, hc]
          simp [Go.execOp, ho, Go.resolve, Go.invoke, Go.builtin, Go.Builtin.len_, Go.run_underlying hd, h1, hget, Go.goInt, hsz]
        · cases hl
      · cases hl

end
end Mev
