/- Regions that draw their order: allocations out of their order; a step run upon the old blocks alone. -/
import Derived.Test.YtfndbddlicbjpaaMevSim3
import Derived.Orders

set_option linter.unusedVariables false
namespace Mev
open Go (Value World Addr Obj Program Operand Op Oper Act Result Next undef Sem Builtin Code Exit Calls Ending Func)

section
variable {P : Program}

/-- what an allocation does, wherever its block's name comes from -/
def Fresh (W : Nat → Prop) (φ : Phi) (S : St) (w : World) (r : Result Next) (v : V) (S' : St) : Prop :=
  ∃ (sz : Nat) (rows : List (List V)) (arr : Array Value) (e : Go.TypeId) (tot : Nat) (w' : World) (u : Value), r = .ok (.value u) w' ∧ w' = { w with heap := w.heap.push (.cells arr e), drawn := w'.drawn } ∧
    LikeR W w φ sz rows arr ∧ arr.size = tot * sz ∧ rows.length ≤ tot ∧ S' = (S.push (.cells sz rows 0 0)).pinTo (if kbLL rows ≤ S.top then 0 else kbLL rows) ∧
    ∀ (W' : Nat → Prop) (w'' : World) (φ' : Phi), φ' S.top 0 = some (.at_ w.heap.size rows.length tot) → VR W' w'' φ' v u

theorem fresh_var {W : Nat → Prop} {φ : Phi} {S : St} {w : World} {row : List V} {arr : Array Value} (h : Like W w φ row arr) (e : Go.TypeId) {r : Result Next}
    (hr : r = .ok (.value (.pointer (some ⟨w.heap.size, 0, none⟩))) { w with heap := w.heap.push (.cells arr e) }) : Fresh W φ S w r (newVar S row).1 (newVar S row).2 := by
  refine ⟨row.length, [row], arr, e, 1, _, _, hr, rfl, ⟨by simp, shows_one h⟩, by simp [h.1], by simp, by simp [newVar, kbLL], fun W' w'' φ' hp => ?_⟩
  have : (⟨w.heap.size, 0, none⟩ : Addr) = ⟨w.heap.size, 0 * row.length + 0, none⟩ := by simp
  rw [this]
  exact .ptr _ _ _ _ _ _ _ _ hp (by simp)

theorem fresh_rows {W : Nat → Prop} {φ : Phi} {S : St} {w : World} {sz : Nat} {rows : List (List V)} {arr : Array Value} (h : LikeR W w φ sz rows arr) (e : Go.TypeId) (tot : Nat) (hsz : arr.size = tot * sz) (hle : rows.length ≤ tot)
    {r : Result Next} (hr : r = .ok (.value (.slice (some ⟨w.heap.size, 0, none⟩) rows.length tot)) { w with heap := w.heap.push (.cells arr e) }) : Fresh W φ S w r (newRows S sz rows).1 (newRows S sz rows).2 := by
  refine ⟨sz, rows, arr, e, tot, _, _, hr, rfl, h, hsz, hle, rfl, fun W' w'' φ' hp => ?_⟩
  exact .sl _ _ _ _ _ _ _ _ tot 0 hp (by omega) (by omega) (fun _ => by omega) hle

theorem alloc_shape {op : Op} {c : CO} (hc : compOp P op = some c) : clsOf c = .alloc → (∃ t, op = .alloc t) ∨ (∃ t x, op = .box t x) ∨ (∃ t n ps, op = .buildSlice t n ps) ∨ ∃ t l cp, op = .makeSlice t l cp := by
  cases hop : op with
  | call c' =>
    rw [hop] at hc
    obtain ⟨callee, as, ats⟩ := c'
    cases callee with
    | value fo =>
      obtain ⟨f', h1, hc⟩ := bind_some hc
      obtain ⟨l, h2, hc⟩ := bind_some hc
      cases hc
      exact nofun
    | invoke r m => cases hc <;> first | exact nofun | simp
    | builtin b =>
      cases b with
      | len =>
        simp only [compOp] at hc
        split at hc
        · obtain ⟨q, h1, hc⟩ := bind_some hc
          obtain ⟨x', h2, hc⟩ := bind_some hc
          cases hc <;> first | exact nofun | simp
        · cases hc <;> first | exact nofun | simp
      | append =>
        simp only [compOp] at hc
        split at hc
        · obtain ⟨e, h1, hc⟩ := bind_some hc
          obtain ⟨z, h2, hc⟩ := bind_some hc
          obtain ⟨b, h3, hc⟩ := bind_some hc
          split at hc
          · obtain ⟨s', h4, hc⟩ := bind_some hc
            obtain ⟨x', h5, hc⟩ := bind_some hc
            cases hc <;> first | exact nofun | simp
          · cases hc <;> first | exact nofun | simp
        · cases hc <;> first | exact nofun | simp
      | max => obtain ⟨l, _, hc⟩ := Option.map_eq_some_iff.1 hc; cases hc <;> first | exact nofun | simp
      | min => obtain ⟨l, _, hc⟩ := Option.map_eq_some_iff.1 hc; cases hc <;> first | exact nofun | simp
      | _ => cases hc <;> first | exact nofun | simp
  | move x => rw [hop] at hc; obtain ⟨y, _, hc⟩ := Option.map_eq_some_iff.1 hc; cases hc <;> first | exact nofun | simp
  | assign x => rw [hop] at hc; obtain ⟨y, _, hc⟩ := Option.map_eq_some_iff.1 hc; cases hc <;> first | exact nofun | simp
  | alloc x => rw [hop] at hc; obtain ⟨y, hy, hc⟩ := Option.map_eq_some_iff.1 hc; cases hc; simp
  | nilCheck x => rw [hop] at hc; obtain ⟨y, _, hc⟩ := Option.map_eq_some_iff.1 hc; cases hc <;> first | exact nofun | simp
  | unOp op t x => rw [hop] at hc; obtain ⟨y, _, hc⟩ := Option.map_eq_some_iff.1 hc; cases hc <;> first | exact nofun | simp
  | panic x => rw [hop] at hc; obtain ⟨y, _, hc⟩ := Option.map_eq_some_iff.1 hc; cases hc <;> first | exact nofun | simp
  | extract x i => rw [hop] at hc; obtain ⟨y, _, hc⟩ := Option.map_eq_some_iff.1 hc; cases hc <;> first | exact nofun | simp
  | makeMap t r => rw [hop] at hc; cases r <;> cases hc <;> first | exact nofun | simp
  | mapUpdate t m k x =>
    rw [hop] at hc
    obtain ⟨⟨q, z⟩, h1, hc⟩ := bind_some hc
    obtain ⟨m', h2, hc⟩ := bind_some hc
    obtain ⟨k', h3, hc⟩ := bind_some hc
    obtain ⟨x', h4, hc⟩ := bind_some hc
    cases hc <;> first | exact nofun | simp
  | pick c a b =>
    rw [hop] at hc
    obtain ⟨c', h1, hc⟩ := bind_some hc
    obtain ⟨a', h2, hc⟩ := bind_some hc
    obtain ⟨b', h3, hc⟩ := bind_some hc
    cases hc <;> first | exact nofun | simp
  | box t x =>
    rw [hop] at hc
    obtain ⟨c', h1, hc⟩ := bind_some hc
    obtain ⟨a', h2, hc⟩ := bind_some hc
    cases hc <;> (first | (simp; done) | exact nofun)
  | build t ps =>
    rw [hop] at hc
    simp only [compOp] at hc
    split at hc
    · obtain ⟨y, _, hc⟩ := Option.map_eq_some_iff.1 hc; cases hc <;> first | exact nofun | simp
    · cases hc <;> first | exact nofun | simp
  | buildSlice t n ps =>
    rw [hop] at hc
    obtain ⟨z, h1, hc⟩ := bind_some hc
    split at hc
    · obtain ⟨ps', h3, hc⟩ := bind_some hc; cases hc <;> (first | (simp; done) | exact nofun)
    · cases hc <;> first | exact nofun | simp
  | load t p =>
    rw [hop] at hc
    obtain ⟨c', h1, hc⟩ := bind_some hc
    obtain ⟨a', h2, hc⟩ := bind_some hc
    obtain ⟨b', h3, hc⟩ := bind_some hc
    cases hc <;> first | exact nofun | simp
  | store t p x =>
    rw [hop] at hc
    obtain ⟨c', h1, hc⟩ := bind_some hc
    obtain ⟨a', h2, hc⟩ := bind_some hc
    obtain ⟨b', h3, hc⟩ := bind_some hc
    cases hc <;> first | exact nofun | simp
  | binOp op t x y yt =>
    rw [hop] at hc
    obtain ⟨c', h1, hc⟩ := bind_some hc
    obtain ⟨a', h2, hc⟩ := bind_some hc
    cases hc <;> first | exact nofun | simp
  | convert s d x =>
    rw [hop] at hc
    simp only [compOp] at hc
    split at hc
    · obtain ⟨y, _, hc⟩ := Option.map_eq_some_iff.1 hc; cases hc <;> first | exact nofun | simp
    · split at hc
      · obtain ⟨y, _, hc⟩ := Option.map_eq_some_iff.1 hc; cases hc <;> first | exact nofun | simp
      · cases hc <;> first | exact nofun | simp
  | makeFunc fn first cap =>
    rw [hop] at hc
    simp only [compOp] at hc
    cases fn with
    | func f =>
      simp only at hc
      split at hc
      · obtain ⟨y, _, hc⟩ := Option.map_eq_some_iff.1 hc; cases hc <;> first | exact nofun | simp
      · cases hc <;> first | exact nofun | simp
    | _ => cases hc <;> first | exact nofun | simp
  | makeSlice t l c =>
    rw [hop] at hc
    obtain ⟨e, h1, hc⟩ := bind_some hc
    obtain ⟨z, h2, hc⟩ := bind_some hc
    obtain ⟨b, h3, hc⟩ := bind_some hc
    obtain ⟨l', h4, hc⟩ := bind_some hc
    obtain ⟨c', h5, hc⟩ := bind_some hc
    cases hc <;> (first | (simp; done) | exact nofun)
  | slice t x lo hi mx =>
    rw [hop] at hc
    cases mx with
    | some m => cases hc <;> first | exact nofun | simp
    | none =>
      simp only [compOp] at hc
      split at hc
      · obtain ⟨x', h3, hc⟩ := bind_some hc
        obtain ⟨l', h4, hc⟩ := bind_some hc
        obtain ⟨c', h5, hc⟩ := bind_some hc
        cases hc <;> first | exact nofun | simp
      · cases hc <;> first | exact nofun | simp
  | fieldAddr t x f =>
    rw [hop] at hc
    obtain ⟨⟨o', n, ag⟩, h1, hc⟩ := bind_some hc
    simp only at hc
    split at hc
    · cases hc <;> first | exact nofun | simp
    · obtain ⟨x', h3, hc⟩ := bind_some hc
      cases hc <;> first | exact nofun | simp
  | field t x f =>
    rw [hop] at hc
    obtain ⟨⟨o', n, ag⟩, h1, hc⟩ := bind_some hc
    obtain ⟨x', h3, hc⟩ := bind_some hc
    cases hc <;> first | exact nofun | simp
  | indexAddr t x i =>
    rw [hop] at hc
    obtain ⟨n, h1, hc⟩ := bind_some hc
    obtain ⟨x', h3, hc⟩ := bind_some hc
    obtain ⟨i', h4, hc⟩ := bind_some hc
    cases hc <;> first | exact nofun | simp
  | index t x i =>
    rw [hop] at hc
    simp only [compOp] at hc
    split at hc
    · obtain ⟨x', h3, hc⟩ := bind_some hc
      obtain ⟨i', h4, hc⟩ := bind_some hc
      cases hc <;> first | exact nofun | simp
    · cases hc <;> first | exact nofun | simp
  | _ => rw [hop] at hc; cases hc <;> first | exact nofun | simp

theorem fresh_op {W : Nat → Prop} {φ : Phi} {S : St} {w : World} {T : Env} {a : Act} {o : Oper} (ht : TR W w φ T a) (hw : ∀ {x : Operand} {y : Od}, compOd x = some y → VR W w φ (opd T y) (a.eval x)) {c : CO} (hc : compOp P o.op = some c) (hcl : clsOf c = .alloc)
    {v : V} {S' : St} (h : evOp T S c = some (v, S')) : Fresh W φ S w ((Go.execOp a.eval o).run P w) v S' := by
  cases hop : o.op with
  | alloc t =>
    rw [hop] at hc
    obtain ⟨z, hz, rfl⟩ := Option.map_eq_some_iff.1 hc
    cases h
    obtain ⟨i, zv, hi, hzv, hsz, hpos, hzl, hlike⟩ := zeroRow_like hz W w φ
    exact fresh_var hlike t (by simp [Go.execOp, hop, Go.Instr.alloc, Go.zeroValue, Go.typeInfo, hi, hzv, Go.newVar, Go.newRow, Go.newObj, Sem.run])
  | box t x =>
    rw [hop] at hc
    obtain ⟨n, h1, hc⟩ := bind_some hc
    obtain ⟨x', h2, hc⟩ := bind_some hc
    cases hc
    have hv := hw h2
    simp only [evOp] at h
    split at h
    · rename_i cs hcs
      split at h
      · cases h
        exact fresh_var (vcells_vr hv hcs) t (by simp [Go.execOp, hop, Go.Instr.box, Go.newVar, Go.newRow, Go.newObj, Sem.run])
      · cases h
    · cases h
  | buildSlice t n ps =>
    rw [hop] at hc
    obtain ⟨z, h1, hc⟩ := bind_some hc
    obtain ⟨e, he, hz⟩ := bind_some h1
    split at hc
    · rename_i hn
      obtain ⟨ps', hps, hc⟩ := bind_some hc
      cases hc
      simp only [evOp] at h
      cases hr : rowsParts z.length T ps' (List.replicate n z) with
      | none => rw [hr] at h; cases h
      | some r =>
        rw [hr] at h; cases h
        obtain ⟨i, zv, hi, hzv, hsz, hpos, hzl, hlike⟩ := zeroRow_like hz W w φ
        have hd := elem_und he
        have hml := made_like hlike (by omega) n n (Nat.le_refl _)
        obtain ⟨arr', ha, hs', hl, hlk⟩ := rows_like z.length ht _ _ _ _ _ hps hr hml (by simp)
        have hsz' : arr'.size = n * z.length := by rw [hs']; simp
        refine fresh_rows hlk e n hsz' (by rw [hl]; simp) ?_
        rw [hl]
        simp only [List.length_replicate]
        have hle : ¬ (16777216 < n * i.size) := by rw [← hzl]; omega
        rw [hzl] at ha
        by_cases h0 : n * i.size = 0
        · have hn0 : n = 0 := by rcases Nat.mul_eq_zero.1 h0 with h | h <;> omega
          subst hn0
          have h00 : ((Array.range (0 * i.size)).map (zv.cells[· % zv.cells.size]!)) = #[] := by simp
          rw [h00] at ha
          have h01 : (Array.map (fun _ => (default : Value)) (Array.range 0)) = #[] := by simp
          simp [Go.execOp, hop, Go.Instr.buildSlice, Go.run_underlying hd, Go.sizeOf, Go.typeInfo, hi, Go.newRow, Go.newObj]
          rw [h01]
          simp [ha, Sem.run]
        · simp [Go.execOp, hop, Go.Instr.buildSlice, Go.run_underlying hd, Go.sizeOf, Go.typeInfo, hi, Go.zeroValue, hzv, h0, hle, Go.newRow, Go.newObj, Sem.run, ha]
    · cases hc
  | makeSlice t l cp =>
    rw [hop] at hc
    obtain ⟨e, he, hc⟩ := bind_some hc
    obtain ⟨z, hz, hc⟩ := bind_some hc
    obtain ⟨b, hb, hc⟩ := bind_some hc
    obtain ⟨l', hl, hc⟩ := bind_some hc
    obtain ⟨c', hcp, hc⟩ := bind_some hc
    cases hc
    have hlv := hw hl
    have hcv := hw hcp
    simp only [evOp] at h
    split at h
    · rename_i n m e1 e2
      rw [e1] at hlv; rw [e2] at hcv
      have h1 := vr_int hlv
      have h2 := vr_int hcv
      split at h
      · rename_i hcond
        obtain ⟨c1, c2, c3, c4⟩ := hcond
        cases h
        obtain ⟨i, zv, hi, hzv, hsz, hpos, hzl, hlike⟩ := zeroRow_like hz W w φ
        have hd := elem_und he
        have hbi : i.bytes = b := by unfold bytesOf at hb; rw [hi] at hb; cases hb; rfl
        have hml := made_like hlike (by omega) n.toNat m.toNat (by omega)
        refine fresh_rows hml e m.toNat (by simp) (by simp; omega) ?_
        have hr := Go.run_make (P := P) w t e i zv hd hi hzv .i64 .i64 n m c1 c2 (by rw [hbi, Int.mul_comm]; omega) (by omega)
        simp only [Go.execOp, hop, h1, h2, Sem.run_bind, hr, Result.andThen_ok, List.length_replicate, hzl]
        rfl
      · cases h
    · cases h
  | _ =>
    rcases alloc_shape hc hcl with ⟨_, e⟩ | ⟨_, _, e⟩ | ⟨_, _, _, e⟩ | ⟨_, _, _, e⟩ <;> rw [hop] at e <;> cases e

/-- an allocation whose block has its name already -/
theorem Sim.fresh_at {φ : Phi} {Z : St} {w : World} (hs : Sim φ Z w) {id0 : Nat} (hid : id0 < Z.top) (hnone : ∀ g, φ id0 g = none) {sz : Nat} {rows : List (List V)} {us : Array Value} {e : Go.TypeId} {tot : Nat} {w' : World}
    (hw' : w' = { w with heap := w.heap.push (.cells us e (0, 0)), drawn := w'.drawn }) (hl : LikeR (Wr φ Z.get) w φ sz rows us) (hus : us.size = tot * sz) (hle : rows.length ≤ tot) (hk : kbLL rows ≤ id0) :
    ∃ φ' : Phi, φ' id0 0 = some (.at_ w.heap.size rows.length tot) ∧ (∀ id g, id ≠ id0 → φ' id g = φ id g) ∧ (∀ g, g ≠ 0 → φ' id0 g = none) ∧ Sim φ' (Z.put id0 (.cells sz rows 0 0)) w' ∧ Ext φ φ' ∧ Fr (Wr φ Z.get) w w' ∧
      (∀ c, c < w.heap.size → ¬ Wr φ Z.get c → ¬ Wr φ' (Z.put id0 (.cells sz rows 0 0)).get c) ∧ ∀ c, φ.X c → w'.heap[c]? = w.heap[c]? := by
  have hget : ∀ i, (Z.put id0 (.cells sz rows 0 0)).get i = if id0 = i then some (.cells sz rows 0 0) else Z.get i := by
    intro i
    rw [put_get_if]
    by_cases hq : id0 = i
    · rw [if_pos ⟨hq, hid⟩, if_pos hq]
    · rw [if_neg (fun h => hq h.1), if_neg hq]
  refine ⟨⟨fun id g => if id = id0 ∧ g = 0 then some (.at_ w.heap.size rows.length tot) else φ id g, φ.X⟩, by simp, fun id g h => by simp [h], fun g h => by simp [h, hnone], ?_⟩
  have he : Ext φ ⟨fun id g => if id = id0 ∧ g = 0 then some (.at_ w.heap.size rows.length tot) else φ id g, φ.X⟩ := by
    refine ⟨?_, rfl⟩
    intro id g l h
    have : ¬ (id = id0 ∧ g = 0) := by rintro ⟨rfl, rfl⟩; rw [hnone] at h; cases h
    simp only [if_neg this]; exact h
  have hold : ∀ c, c < w.heap.size → w'.heap[c]? = w.heap[c]? := by
    intro c hc
    rw [hw']
    show (w.heap.push _)[c]? = _
    rw [Array.getElem?_push, if_neg (by omega)]
  have hnew : w'.heap[w.heap.size]? = some (.cells us e (0, 0)) := by
    rw [hw']; show (w.heap.push _)[w.heap.size]? = _; simp
  have hf : Fr (Wr φ Z.get) w w' := by
    refine ⟨by rw [hw'], by rw [hw'], by rw [hw'], by rw [hw']; simp, fun c hc _ => hold c hc⟩
  have hwr : ∀ c, c < w.heap.size → ¬ Wr φ Z.get c → ¬ Wr ⟨fun id g => if id = id0 ∧ g = 0 then some (.at_ w.heap.size rows.length tot) else φ id g, φ.X⟩ (Z.put id0 (.cells sz rows 0 0)).get c := by
    rintro c hc hn (hX | ⟨id, g, n, t, hp, b, hb, hd⟩)
    · exact hn (.inl hX)
    by_cases e : id = id0 ∧ g = 0
    · simp only [if_pos e] at hp; cases hp; omega
    · simp only [if_neg e] at hp
      have hne : id0 ≠ id := by rintro rfl; rw [hnone] at hp; cases hp
      rw [hget, if_neg hne] at hb
      exact hn (.inr ⟨id, g, n, t, hp, b, hb, hd⟩)
  refine ⟨⟨?_, ?_, ?_, ?_⟩, he, hf, hwr, fun c hc => hold c (hs.rel.xlt c hc)⟩
  · refine hs.rel.update id0 he hf hwr (fun id e => ?_) (fun id g e => ?_) (fun id g c n t _ hp => hold c (hs.rel.lt _ _ _ _ _ hp).1) ?_ ?_ ?_ ?_
    · rw [hget, if_neg (Ne.symm e)]
    · simp [e]
    · intro sz' rows' gen lo hg
      rw [hget, if_pos rfl] at hg
      cases hg
      refine ⟨hl.1, fun g l hp => ?_, by simp, fun g c n t h1 h2 hp => ?_⟩
      · by_cases e : g = 0
        · omega
        · simp only [e, and_false, if_false] at hp
          rw [hnone] at hp; cases hp
      obtain rfl : g = 0 := by omega
      simp only [and_self, if_true] at hp
      cases hp
      refine ⟨Nat.le_refl _, fun _ => rfl, us, e, hnew, hus, fun i j v hi hv => ?_⟩
      obtain ⟨u, hu, hvr, h1⟩ := hl.2 i j v hi hv
      exact ⟨u, hu, hvr.mono hf hwr he, h1⟩
    · intro es c n t hg
      rw [hget, if_pos rfl] at hg
      cases hg
    · intro g id' g' c n t n' t' h1 h2
      by_cases e : g = 0
      · subst e
        simp only [and_self, if_true] at h1
        cases h1
        by_cases e' : id' = id0 ∧ g' = 0
        · exact e'.1.symm
        · simp only [if_neg e'] at h2
          have := (hs.rel.lt _ _ _ _ _ h2).1
          omega
      · simp only [e, and_false, if_false] at h1
        rw [hnone] at h1; cases h1
    · intro g c n t h1
      by_cases e : g = 0
      · subst e
        simp only [and_self, if_true] at h1
        cases h1
        exact ⟨⟨by rw [hw']; simp, hle⟩, fun hX => Nat.lt_irrefl _ (hs.rel.xlt _ hX)⟩
      · simp only [e, and_false, if_false] at h1
        rw [hnone] at h1; cases h1
  · intro j b hb v hv
    rw [hget] at hb
    split at hb
    · rename_i e; subst e
      cases hb
      have := kbLL_mem hv
      simp only [pin_put]; omega
    · simpa using hs.pin _ _ hb v hv
  · simpa using hs.pinle
  · intro id g l hp
    by_cases e : id = id0 ∧ g = 0
    · simp [e.1, hid]
    · simp only [if_neg e] at hp
      have := hs.dom _ _ _ hp; simpa using this

end
end Mev
