/- Each operation of the evaluator is the model's: numbers, ghosts, all together. -/
import Derived.Test.YtfndbddlicbjpaaMevOpsA

set_option linter.unusedVariables false
namespace Mev
open Go (Value World Addr Obj Program Operand Op Oper Act Result Next undef Sem Builtin)

section
variable {P : Program} {a : Act} {T : Env} {S : St} {w : World} {φ : Phi}

theorem fold_max {W : Nat → Prop} : ∀ (l : List V) (us : List Value) (x : V) (u : Value) (z : V), (∀ (i : Nat) v u, l[i]? = some v → us[i]? = some u → VR W w φ v u) → us.length = l.length → VR W w φ x u → foldV maxV x l = some z →
    ∃ r, (us.foldlM Builtin.max2 u).run P w = .ok r w ∧ VR W w φ z r := by
  intro l
  induction l with
  | nil => intro us x u z _ hl hx h; cases h; rw [List.length_nil, List.length_eq_zero_iff] at hl; subst hl; exact ⟨u, rfl, hx⟩
  | cons y l ih =>
    intro us x u z hv hl hx h
    cases us with
    | nil => simp at hl
    | cons u1 us =>
      have hy := hv 0 y u1 rfl rfl
      simp only [foldV] at h
      split at h
      · rename_i z' hz
        unfold maxV at hz
        split at hz
        · split at hz
          · rename_i hk
            subst hk
            cases hz
            have e1 := vr_int hx
            have e2 := vr_int hy
            subst e1 e2
            obtain ⟨r, h1, h2⟩ := ih us _ _ z (fun i v u hv' hu => hv (i + 1) v u (by simpa using hv') (by simpa using hu)) (by simpa using hl) (.fr _ _ (.int _ _)) h
            exact ⟨r, by simp only [List.foldlM_cons, Builtin.max2, Sem.run_bind, Sem.run_pure, Result.andThen_ok]; exact h1, h2⟩
          · cases hz
        · cases hz
      · cases h
theorem fold_min {W : Nat → Prop} : ∀ (l : List V) (us : List Value) (x : V) (u : Value) (z : V), (∀ (i : Nat) v u, l[i]? = some v → us[i]? = some u → VR W w φ v u) → us.length = l.length → VR W w φ x u → foldV minV x l = some z →
    ∃ r, (us.foldlM Builtin.min2 u).run P w = .ok r w ∧ VR W w φ z r := by
  intro l
  induction l with
  | nil => intro us x u z _ hl hx h; cases h; rw [List.length_nil, List.length_eq_zero_iff] at hl; subst hl; exact ⟨u, rfl, hx⟩
  | cons y l ih =>
    intro us x u z hv hl hx h
    cases us with
    | nil => simp at hl
    | cons u1 us =>
      have hy := hv 0 y u1 rfl rfl
      simp only [foldV] at h
      split at h
      · rename_i z' hz
        unfold minV at hz
        split at hz
        · split at hz
          · rename_i hk
            subst hk
            cases hz
            have e1 := vr_int hx
            have e2 := vr_int hy
            subst e1 e2
            obtain ⟨r, h1, h2⟩ := ih us _ _ z (fun i v u hv' hu => hv (i + 1) v u (by simpa using hv') (by simpa using hu)) (by simpa using hl) (.fr _ _ (.int _ _)) h
            exact ⟨r, by simp only [List.foldlM_cons, Builtin.min2, Sem.run_bind, Sem.run_pure, Result.andThen_ok]; exact h1, h2⟩
          · cases hz
        · cases hz
      · cases h

theorem sim_max (hs : Sim φ S w) (ht : TR (Wr φ S.get) w φ T a) {o : Oper} {c : Go.Call} {l' : List Od} (hl : compOds c.args.toList = some l') (hc : c.callee = .builtin .max) (ho : o.op = .call c) {v : V} {S' : St}
    (h : evOp T S (.max l') = some (v, S')) : Good φ S w ((Go.execOp a.eval o).run P w) v S' := by
  obtain ⟨h1, h2⟩ := opds_vr ht _ _ hl
  cases l' with
  | nil => simp [evOp] at h
  | cons x r =>
    simp only [evOp] at h
    cases hf : foldV maxV (opd T x) (r.map (opd T)) with
    | none => rw [hf] at h; cases h
    | some zz =>
      rw [hf] at h; simp only [Option.map_some, Option.some.injEq, Prod.mk.injEq] at h; obtain ⟨rfl, rfl⟩ := h
      cases ha : c.args.toList with
      | nil => rw [ha] at h1; simp at h1
      | cons u us =>
        rw [ha] at h1 h2
        obtain ⟨q, hr, hv⟩ := fold_max (P := P) (r.map (opd T)) (us.map a.eval) (opd T x) (a.eval u) zz (fun i v u' hv hu => h2 (i + 1) v u' (by simpa using hv) (by simpa using hu)) (by simpa using h1.symm) (h2 0 _ _ rfl rfl) hf
        refine Good.pure hs (u := q) ?_ hv
        simp [Go.execOp, ho, Go.resolve, hc, Go.invoke, Go.builtin, Builtin.max_, ha, hr]
theorem sim_min (hs : Sim φ S w) (ht : TR (Wr φ S.get) w φ T a) {o : Oper} {c : Go.Call} {l' : List Od} (hl : compOds c.args.toList = some l') (hc : c.callee = .builtin .min) (ho : o.op = .call c) {v : V} {S' : St}
    (h : evOp T S (.min l') = some (v, S')) : Good φ S w ((Go.execOp a.eval o).run P w) v S' := by
  obtain ⟨h1, h2⟩ := opds_vr ht _ _ hl
  cases l' with
  | nil => simp [evOp] at h
  | cons x r =>
    simp only [evOp] at h
    cases hf : foldV minV (opd T x) (r.map (opd T)) with
    | none => rw [hf] at h; cases h
    | some zz =>
      rw [hf] at h; simp only [Option.map_some, Option.some.injEq, Prod.mk.injEq] at h; obtain ⟨rfl, rfl⟩ := h
      cases ha : c.args.toList with
      | nil => rw [ha] at h1; simp at h1
      | cons u us =>
        rw [ha] at h1 h2
        obtain ⟨q, hr, hv⟩ := fold_min (P := P) (r.map (opd T)) (us.map a.eval) (opd T x) (a.eval u) zz (fun i v u' hv hu => h2 (i + 1) v u' (by simpa using hv) (by simpa using hu)) (by simpa using h1.symm) (h2 0 _ _ rfl rfl) hf
        refine Good.pure hs (u := q) ?_ hv
        simp [Go.execOp, ho, Go.resolve, hc, Go.invoke, Go.builtin, Builtin.min_, ha, hr]

/-! ### blocks that have no memory yet -/
theorem Like.stp {S' : St} {w' : World} {φ' : Phi} (hst : Stp φ S w φ' S' w') {row : List V} {arr : Array Value} (h : Like (Wr φ S.get) w φ row arr) : Like (Wr φ' S'.get) w' φ' row arr :=
  ⟨h.1, fun j x hx => by obtain ⟨y, a, b, c⟩ := h.2 j x hx; exact ⟨y, a, hst.vr b, c⟩⟩

theorem mat_row : ∀ (l : List (Nat × Nat)) (cs cs' : List V) (S S' : St) (φ : Phi) (arr : Array Value), Sim φ S w → Like (Wr φ S.get) w φ cs arr → matRow l cs S = some (cs', S') →
    ∃ φ', Stp φ S w φ' S' w ∧ Like (Wr φ' S'.get) w φ' cs' arr := by
  intro l
  induction l with
  | nil => intro cs cs' S S' φ arr hs hl h; cases h; exact ⟨φ, Stp.refl hs, hl⟩
  | cons p l ih =>
    intro cs cs' S S' φ arr hs hl h
    obtain ⟨p, sz⟩ := p
    simp only [matRow] at h
    split at h
    · rename_i hp
      obtain ⟨φ1, h1, hst⟩ := hs.push_virt sz
      have hl1 := hl.stp hst
      have hl2 : Like (Wr φ1 (S.push (.cells sz [] 0 0)).get) w φ1 (cs.set p (.sl S.top 0 sz 0 0)) arr := by
        refine ⟨by simp [hl.1], fun j x hx => ?_⟩
        by_cases e : p = j
        · subst e
          have hlt : p < cs.length := (List.getElem?_eq_some_iff.1 hp).1
          rw [List.getElem?_set_self hlt] at hx
          cases hx
          obtain ⟨y, a, b, c⟩ := hl1.2 p .nils hp
          cases vr_nils b
          exact ⟨_, a, .slv _ _ _ h1, c⟩
        · rw [List.getElem?_set_ne e] at hx; exact hl1.2 j x hx
      obtain ⟨φ2, h2, h3⟩ := ih _ _ _ _ φ1 arr hst.sim hl2 h
      exact ⟨φ2, hst.trans h2, h3⟩
    · cases h

theorem Good.mat {r : Result Next} {v v' : V} {S1 S2 : St} {mt : List (Nat × Nat)} (h : Good φ S w r v S1) (hm : matV mt v S1 = some (v', S2)) : Good φ S w r v' S2 := by
  obtain ⟨u, φ1, w1, nx, hr, hn, hv, hst⟩ := h
  unfold matV at hm
  split at hm
  · cases hm; exact ⟨u, φ1, w1, nx, hr, hn, hv, hst⟩
  · split at hm
    · rename_i cs
      cases hm2 : matRow mt cs S1 with
      | none => rw [hm2] at hm; cases hm
      | some p =>
        obtain ⟨cs', S3⟩ := p
        rw [hm2] at hm; cases hm
        obtain ⟨us, rfl, h1, h2, h3⟩ := vr_agg hv
        obtain ⟨φ2, h4, h5⟩ := mat_row mt cs cs' S1 S2 φ1 us hst.sim ⟨h1, fun j x hx => by obtain ⟨y, hy⟩ := some_of_size h1 hx; exact ⟨y, hy, h3 j x y hx hy, h2 j y hy⟩⟩ hm2
        refine ⟨_, φ2, w1, nx, hr, hn, .agg _ _ h5.1 h2 (fun i v u hv hu => ?_), hst.trans h4⟩
        obtain ⟨y, a, b, c⟩ := h5.2 i v hv
        rw [hu] at a; cases a; exact b
    · split at hm
      · rename_i sz _
        cases hm
        obtain ⟨φ2, h1, h4⟩ := hst.sim.push_virt sz
        cases vr_nils hv
        exact ⟨_, φ2, w1, nx, hr, hn, .slv _ _ _ h1, hst.trans h4⟩
      · cases hm
    · cases hm

theorem sim_alloc (hs : Sim φ S w) {o : Oper} {t : Go.TypeId} {z : List V} (hz : zeroRow P t = some z) (ho : o.op = .alloc t) {mt : List (Nat × Nat)} {z' : List V} {S1 : St} (h : matRow mt z S = some (z', S1)) :
    Good φ S w ((Go.execOp a.eval o).run P w) (newVar S1 z').1 (newVar S1 z').2 := by
  obtain ⟨i, zv, hi, hzv, hsz, hpos, hzl, hlike⟩ := zeroRow_like hz (Wr φ S.get) w φ
  obtain ⟨φ1, h1, h2⟩ := mat_row mt z z' S S1 φ _ hs hlike h
  obtain ⟨u, φ2, w2, nx, hr, hn, hv, hst⟩ := sim_newVar h1.sim h2 t (r := (Go.execOp a.eval o).run P w) (by
    simp [Go.execOp, ho, Go.Instr.alloc, Go.zeroValue, Go.typeInfo, hi, hzv, Go.newVar, Go.newRow, Go.newObj, Sem.run])
  exact ⟨u, φ2, w2, nx, hr, hn, hv, h1.trans hst⟩

/-! ### ghosts -/
theorem Env.get_set {T T' : Env} {t : Go.Tmp} {v : V} (h : T.set t v = some T') (x : Go.Tmp) : T'.n = T.n ∧ t < T.n ∧ T'.get x = if x = t then v else T.get x := by
  unfold Env.set at h
  split at h
  · rename_i hl; cases h; refine ⟨rfl, hl, ?_⟩; unfold Env.get; simp only [look]
  · cases h

theorem TR.reset {W : Nat → Prop} {T' : Env} {t : Go.Tmp} {v : V} (ht : TR W w φ T a) (h : T.set t v = some T') (hv : VR W w φ v (a.tmps.getD t undef)) : TR W w φ T' a := by
  refine ⟨ht.1, by rw [(Env.get_set h 0).1]; exact ht.2.1, fun x => ?_⟩
  rw [(Env.get_set h x).2.2]
  split
  · rename_i e; subst e; exact hv
  · exact ht.2.2 x

theorem TR.stp {S' : St} {w' : World} {φ' : Phi} (hst : Stp φ S w φ' S' w') (ht : TR (Wr φ S.get) w φ T a) : TR (Wr φ' S'.get) w' φ' T a := ⟨ht.1, ht.2.1, fun t => hst.vr (ht.2.2 t)⟩

theorem kbLL_zero {rows : List (List V)} (h : kbLL rows = 0) {i j : Nat} {v : V} (hv : at2 rows i j = some v) : v.kb = 0 := by
  have := kbLL_mem (flatten_at2 hv); omega

theorem freeze_vr (hs : Sim φ S w) {sz : Nat} {v v' : V} {S' : St} {u : Value} (hv : VR (Wr φ S.get) w φ v u) (h : freezeV S sz v = some (v', S')) : Stp φ S w φ S' w ∧ VR (Wr φ S'.get) w φ v' u := by
  unfold freezeV at h
  split at h
  · cases h; cases vr_nils hv; exact ⟨Stp.refl hs, .fr _ _ (.rs0 _ _ _)⟩
  · cases h; exact ⟨Stp.refl hs, hv⟩
  · rename_i id g sz' off len
    split at h
    · rename_i sz'' rows gen lo hg
      split at h
      · rename_i hc
        obtain ⟨rfl, h1, rfl, hlo, hk, hle⟩ := hc
        subst h1
        cases h
        have hst := hs.kill id
        refine ⟨hst, .fr _ _ ?_⟩
        rcases vr_sl hv with ⟨rfl, rfl, hp, rfl⟩ | ⟨c, n, tot, cap, o', hp, k1, k2, k3, k4, rfl⟩
        · obtain rfl := hs.rel.virt _ _ _ _ _ hg hp
          exact .rs0 _ _ _
        · obtain ⟨h4, h5, arr, e, h6, h7, h8⟩ := hs.rel.cells _ _ _ _ _ _ _ _ _ hg hlo (Nat.le_refl _) hp
          obtain rfl := h5 rfl
          have hntot := (hs.rel.lt _ _ _ _ _ hp).2
          by_cases hnil : rows.drop off = []
          · have hl0 : rows.length ≤ off := by rw [List.drop_eq_nil_iff] at hnil; exact hnil
            obtain rfl : len = 0 := by omega
            rw [hnil]; exact .rs0 _ _ _
          · have hl0 : off < rows.length := by
              rcases Nat.lt_or_ge off rows.length with h | h
              · exact h
              · exact absurd (List.drop_eq_nil_iff.2 h) hnil
            have ho := k3 (by omega)
            refine fr_rs ?_ (hs.rel.lt _ _ _ _ _ hp).1 (fun row hr => hs.rel.size _ _ _ _ _ hg row (List.mem_of_mem_drop hr)) (by simp; omega) (by simp; omega) (fun i j v hij => ?_)
            · rintro (hX | ⟨id', g', n', t', hp', b, hb, hd⟩)
              · exact hs.rel.out _ _ _ _ _ hp hX
              · obtain rfl := hs.rel.inj _ _ _ _ _ _ _ _ _ hp hp'
                rw [put_get_if, if_pos ⟨rfl, get_lt _ _ hg⟩] at hb
                cases hb; exact hd rfl
            · obtain ⟨r, hr, hj⟩ := at2_mem hij
              rw [List.getElem?_drop] at hr
              have hij' : at2 rows (off + i) j = some v := by simp [at2, hr, hj]
              have hil : off + i < rows.length := (List.getElem?_eq_some_iff.1 hr).1
              obtain ⟨u, hu, hvr, h1⟩ := h8 (off + i) j v hil hij'
              refine ⟨u, ?_, (hvr.frozen (kbLL_zero hk hij')).mono hst.fr hst.wr, h1⟩
              unfold World.cell?
              simp only [h6]
              have : o' + (i * sz'' + j) = (off + i) * sz'' + j := by rw [ho, Nat.add_mul, Nat.add_assoc]
              rw [this]; exact hu
      · cases h
    · cases h
  · cases h

theorem trimL_map : ∀ l, trimL l = l.map trimV
  | [] => by simp [trimL]
  | v :: r => by simp [trimL, trimL_map r]
theorem trimLL_map : ∀ (n : Nat) (l : List (List V)), trimLL n l = (l.take n).map trimL
  | n, [] => by cases n <;> simp [trimLL]
  | 0, r :: rs => by simp [trimLL]
  | n + 1, r :: rs => by simp [trimLL, trimLL_map n rs]

theorem trim_fr {W : Nat → Prop} {v : V} {u : Value} (h : FR W w v u) : FR W w (trimV v) u := by
  induction h with
  | agg cs us hn h1 h2 ih =>
    simp only [trimV, trimL_map]
    refine .agg _ _ (by simp [hn]) h1 (fun i v u hv hu => ?_)
    rw [List.getElem?_map] at hv
    cases hc : cs[i]? with
    | none => rw [hc] at hv; cases hv
    | some c => rw [hc] at hv; cases hv; exact ih i c u hc hu
  | rs0 sz a cap => simp only [trimV, trimLL]; exact .rs0 _ _ _
  | rs sz rows len cap c o hW hc hsz hl hcap h1 h2 ih =>
    simp only [trimV, trimLL_map]
    have key : ∀ i j v, at2 ((rows.take len).map trimL) i j = some v → ∃ v0, at2 rows i j = some v0 ∧ v = trimV v0 := by
      intro i j v hv
      obtain ⟨r, hr, hj⟩ := at2_mem hv
      rw [List.getElem?_map] at hr
      cases hc : (rows.take len)[i]? with
      | none => rw [hc] at hr; cases hr
      | some r0 =>
        rw [hc] at hr; cases hr
        rw [trimL_map, List.getElem?_map] at hj
        cases hc2 : r0[j]? with
        | none => rw [hc2] at hj; cases hj
        | some v0 =>
          rw [hc2] at hj; cases hj
          exact ⟨v0, (at2_take (n := len) (by simp [at2, hc, hc2])).2, rfl⟩
    refine .rs _ _ _ _ c o hW hc (fun row hr => ?_) (by simp; omega) (by simp; omega) (fun i j v hv => ?_) (fun i j v u hv hu => ?_)
    · obtain ⟨r0, hr0, rfl⟩ := List.mem_map.1 hr
      rw [trimL_map, List.length_map]; exact hsz r0 (List.mem_of_mem_take hr0)
    · obtain ⟨v0, h3, rfl⟩ := key i j v hv
      exact h1 i j v0 h3
    · obtain ⟨v0, h3, rfl⟩ := key i j v hv
      exact ih i j v0 u h3 hu
  | un u => simp only [trimV]; exact .un u
  | int k n => simp only [trimV]; exact .int k n
  | bool b => simp only [trimV]; exact .bool b
  | str s => simp only [trimV]; exact .str s
  | nilp => simp only [trimV]; exact .nilp
  | nils => simp only [trimV]; exact .nils
  | nilf => simp only [trimV]; exact .nilf
  | nili => simp only [trimV]; exact .nili
  | nilm => simp only [trimV]; exact .nilm
  | fn f cs us hn h2 ih => simp only [trimV]; exact .fn f cs us hn h2
  | tup cs us hn h2 ih => simp only [trimV]; exact .tup cs us hn h2
  | rp row off c o hW hc h1 h2 ih => simp only [trimV]; exact .rp row off c o hW hc h1 h2
  | ifc t v u h ih => simp only [trimV]; exact .ifc t v u h

theorem trim_vr {W : Nat → Prop} {v : V} {u : Value} (h : VR W w φ v u) : VR W w φ (trimV v) u := by
  induction h with
  | fr v u h => exact .fr _ _ (trim_fr h)
  | agg cs us hn h1 h2 ih =>
    simp only [trimV, trimL_map]
    refine .agg _ _ (by simp [hn]) h1 (fun i v u hv hu => ?_)
    rw [List.getElem?_map] at hv
    cases hc : cs[i]? with
    | none => rw [hc] at hv; cases hv
    | some c => rw [hc] at hv; cases hv; exact ih i c u hc hu
  | ptr id g sz idx off c n tot h hi => simp only [trimV]; exact .ptr id g sz idx off c n tot h hi
  | slv id g sz h => simp only [trimV]; exact .slv id g sz h
  | sl id g sz off len c n tot cap o h hl hcap ho hlc => simp only [trimV]; exact .sl id g sz off len c n tot cap o h hl hcap ho hlc
  | tup cs us hn h2 ih => simp only [trimV]; exact .tup cs us hn h2
  | fn f cs us hn h2 ih => simp only [trimV]; exact .fn f cs us hn h2
  | ifc t v u h ih => simp only [trimV]; exact .ifc t v u h
  | mp id c n tot h => simp only [trimV]; exact .mp id c n tot h

theorem sim_ghost (hs : Sim φ S w) (ht : TR (Wr φ S.get) w φ T a) {g : Gh} {T' : Env} {S' : St} (h : ghost g T S = some (T', S')) : Stp φ S w φ S' w ∧ TR (Wr φ S'.get) w φ T' a := by
  unfold ghost at h
  split at h
  · rename_i t
    cases hs' : T.set t (trimV (T.get t)) with
    | none => rw [hs'] at h; cases h
    | some T1 =>
      rw [hs'] at h; cases h
      exact ⟨Stp.refl hs, ht.reset hs' (trim_vr (ht.2.2 t))⟩
  · rename_i t sz
    split at h
    · rename_i v S1 hf
      cases hs' : T.set t v with
      | none => rw [hs'] at h; cases h
      | some T1 =>
        rw [hs'] at h; cases h
        obtain ⟨h1, h2⟩ := freeze_vr hs (ht.2.2 t) hf
        exact ⟨h1, (TR.stp h1 ht).reset hs' h2⟩
    · cases h
  · rename_i t p sz
    split at h
    · rename_i cs hcs
      split at h
      · rename_i c hc
        split at h
        · rename_i v S1 hf
          cases hs' : T.set t (.agg (cs.set p v)) with
          | none => rw [hs'] at h; cases h
          | some T1 =>
            rw [hs'] at h; cases h
            have hv := ht.2.2 t
            rw [hcs] at hv
            obtain ⟨us, e, hn, h1, h2⟩ := vr_agg hv
            obtain ⟨u, hu⟩ := some_of_size hn hc
            obtain ⟨h3, h4⟩ := freeze_vr hs (h2 p c u hc hu) hf
            refine ⟨h3, (TR.stp h3 ht).reset hs' ?_⟩
            rw [e]
            refine .agg _ _ (by simp [hn]) h1 (fun i v' u' hv' hu' => ?_)
            by_cases e : p = i
            · subst e
              rw [List.getElem?_set_self (List.getElem?_eq_some_iff.1 hc).1] at hv'
              cases hv'
              rw [hu] at hu'; cases hu'; exact h4
            · rw [List.getElem?_set_ne e] at hv'
              exact h3.vr (h2 i v' u' hv' hu')
        · cases h
      · cases h
    · cases h

theorem sim_ghosts (a : Act) (w : World) (φ : Phi) : ∀ (l : List Gh) (T T' : Env) (S S' : St), Sim φ S w → TR (Wr φ S.get) w φ T a → ghosts l T S = some (T', S') → Stp φ S w φ S' w ∧ TR (Wr φ S'.get) w φ T' a := by
  intro l
  induction l with
  | nil => intro T T' S S' hs ht h; cases h; exact ⟨Stp.refl hs, ht⟩
  | cons g l ih =>
    intro T T' S S' hs ht h
    simp only [ghosts] at h
    split at h
    · rename_i T1 S1 hg
      obtain ⟨h1, h2⟩ := sim_ghost hs ht hg
      obtain ⟨h3, h4⟩ := ih _ _ _ _ h1.sim h2 h
      exact ⟨h1.trans h3, h4⟩
    · cases h

end
end Mev
