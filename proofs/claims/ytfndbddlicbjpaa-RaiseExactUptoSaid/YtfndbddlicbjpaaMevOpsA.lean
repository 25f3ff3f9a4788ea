/- Each operation of the evaluator is the model's: appends. -/
import Derived.Test.YtfndbddlicbjpaaMevOps9

set_option linter.unusedVariables false
namespace Mev
open Go (Value World Addr Obj Program Operand Op Oper Act Result Next undef Sem Builtin)

section
variable {P : Program} {a : Act} {T : Env} {S : St} {w : World} {φ : Phi}

theorem at2_append {rows new : List (List V)} {i j : Nat} {v : V} (h : at2 (rows ++ new) i j = some v) : (i < rows.length ∧ at2 rows i j = some v) ∨ (rows.length ≤ i ∧ at2 new (i - rows.length) j = some v) := by
  obtain ⟨r, hr, hj⟩ := at2_mem h
  rcases Nat.lt_or_ge i rows.length with h | h
  · rw [List.getElem?_append_left h] at hr; exact .inl ⟨h, by simp [at2, hr, hj]⟩
  · rw [List.getElem?_append_right h] at hr; exact .inr ⟨h, by simp [at2, hr, hj]⟩
theorem at2_take {rows : List (List V)} {n i j : Nat} {v : V} (h : at2 (rows.take n) i j = some v) : i < n ∧ at2 rows i j = some v := by
  have := at2_drop_take (off := 0) (rows := rows) (len := n) (i := i) (j := j) (v := v) (by simpa using h)
  simpa using this
theorem at2_col {rows : List (List V)} {sz i j : Nat} {v : V} (hsz : ∀ row ∈ rows, row.length = sz) (h : at2 rows i j = some v) : i < rows.length ∧ j < sz := by
  obtain ⟨r, hr, hj⟩ := at2_mem h
  exact ⟨(List.getElem?_eq_some_iff.1 hr).1, by rw [← hsz r (List.mem_of_getElem? hr)]; exact (List.getElem?_eq_some_iff.1 hj).1⟩
theorem lt_place {sz i j n : Nat} (hi : i < n) (hj : j < sz) : i * sz + j < n * sz := by
  have : (i + 1) * sz ≤ n * sz := Nat.mul_le_mul_right _ hi
  rw [Nat.add_mul, Nat.one_mul] at this; omega

/-- rows, rows behind them, and what follows -/
theorem shows_append {W : Nat → Prop} {sz : Nat} {r0 new : List (List V)} {olds news rest : List Value} (hsz : ∀ row ∈ r0 ++ new, row.length = sz) (h0 : ShowsL W w φ sz r0 olds) (h1 : ShowsL W w φ sz new news) :
    Shows W w φ sz (r0 ++ new) (r0 ++ new).length (olds ++ news ++ rest).toArray := by
  intro i j v hi hv
  obtain ⟨hil, hjl⟩ := at2_col hsz hv
  rw [List.getElem?_toArray]
  rcases at2_append hv with ⟨hi, hv⟩ | ⟨hi, hv⟩
  · have := lt_place hi hjl
    rw [List.append_assoc, List.getElem?_append_left (by rw [h0.1]; exact this)]
    exact h0.2 i j v hv
  · have hlt : (i - r0.length) * sz + j < new.length * sz := lt_place (by simp at hil; omega) hjl
    have he : i * sz + j - olds.length = (i - r0.length) * sz + j := by
      rw [h0.1, Nat.sub_mul]
      have : r0.length * sz ≤ i * sz := Nat.mul_le_mul_right _ hi
      omega
    have hge : olds.length ≤ i * sz + j := by
      rw [h0.1]
      have : r0.length * sz ≤ i * sz := Nat.mul_le_mul_right _ hi
      omega
    rw [List.append_assoc, List.getElem?_append_right hge, he, List.getElem?_append_left (by rw [h1.1]; exact hlt)]
    exact h1.2 _ j v hv

theorem run_append_room {t tx ty e : Go.TypeId} {i : Go.TypeInfo} (ht : P.underlying t = some (.slice e)) (hi : P.info? e = some i) (c o' sLen sCap : Nat) (x : Value) (n : Nat) (news : List Value) (hs : Go.Src P i.size tx x n news w)
    (hroom : sLen + n ≤ sCap) (arr : Array Value) (el : Go.TypeId) (hc : w.heap[c]? = some (.cells arr el (0, 0))) (hfit : o' + sLen * i.size + news.length ≤ arr.size) :
    (Builtin.append_ #[t, tx] ty #[.slice (some ⟨c, o', none⟩) sLen sCap, x]).run P w = .ok (.slice (some ⟨c, o', none⟩) (sLen + n) sCap)
      (w.setRow c (arr.toList.take (o' + sLen * i.size) ++ news ++ arr.toList.drop (o' + sLen * i.size + news.length)).toArray) := by
  have hst := Go.run_storeCells_at (P := P) c (o' + sLen * i.size) el news 0 arr w hc (by simpa using hfit) hs.one
  simp only [Nat.add_zero] at hst
  rcases hs.kind with ⟨e', hk⟩ | hk <;> simp [Builtin.append_, Go.run_underlying ht, Go.run_underlying hk, Go.sizeOf, Go.typeInfo, hi, hs.len, hroom, hs.cells, Go.Addr.add_lit, hst]

theorem ShowsL.kb (hs : Sim φ S w) {sz : Nat} {rows : List (List V)} {news : List Value} {W : Nat → Prop} (h : ShowsL W w φ sz rows news) : kbLL rows ≤ S.top := kbLL_le fun v hv => by
  obtain ⟨i, j, hij⟩ := at2_flatten hv
  obtain ⟨u, _, hu, _⟩ := h.2 i j v hij
  exact hu.kb hs.dom

theorem ShowsL.mono {W W' : Nat → Prop} {w' : World} {φ' : Phi} {sz : Nat} {rows : List (List V)} {news : List Value} (hf : Fr W w w') (hw : ∀ x, x < w.heap.size → ¬ W x → ¬ W' x) (he : Ext φ φ') (h : ShowsL W w φ sz rows news) :
    ShowsL W' w' φ' sz rows news :=
  ⟨h.1, fun i j v hv => by obtain ⟨u, a, b, c⟩ := h.2 i j v hv; exact ⟨u, a, b.mono hf hw he, c⟩⟩

def AppTo (P : Program) (φ : Phi) (S : St) (w : World) (ts : Array Go.TypeId) (ty : Go.TypeId) (u x : Value) (v : V) (S' : St) : Prop :=
  ∃ u' φ' w', (Builtin.append_ ts ty #[u, x]).run P w = .ok u' w' ∧ VR (Wr φ' S'.get) w' φ' v u' ∧ Stp φ S w φ' S' w'

/-- Appending to a block of cells, from its begin on. -/
theorem sim_append_at (hs : Sim φ S w) {t tx ty e : Go.TypeId} {i : Go.TypeInfo} {z : Value} (hd : P.underlying t = some (.slice e)) (hi : P.info? e = some i) (hz : i.zero = some z) (hzs : z.cells.size = i.size) (hb : 0 < i.bytes)
    {id sz g len : Nat} {u x : Value} {rows new : List (List V)} {news : List Value} {lo lo' : Nat} (hu : VR (Wr φ S.get) w φ (.sl id g sz 0 len) u) (hg : S.get id = some (.cells sz rows g lo)) (hlo : lo ≤ g) (hsz : i.size = sz)
    (hsrc : Go.Src P sz tx x new.length news w) (hsh : ShowsL (Wr φ S.get) w φ sz new news) (hnew : ∀ row ∈ new, row.length = sz) (hpos : 0 < new.length) (hle : len ≤ rows.length)
    (hlo' : lo' = g + 1 ∨ len = rows.length ∧ lo' = lo) (hby : (len + new.length) * i.bytes ≤ 140737488355328) :
    AppTo P φ S w #[t, tx] ty u x (.sl id (g + 1) sz 0 (len + new.length)) ((S.put id (.cells sz (rows.take len ++ new) (g + 1) lo')).pinTo (if kbLL new ≤ id then 0 else kbLL new)) := by
  have hex : ∃ g l, φ id g = some l := by
    rcases vr_sl hu with ⟨_, _, hp, _⟩ | ⟨c, n, tot, cap, o', hp, _⟩
    · exact ⟨_, _, hp⟩
    · exact ⟨_, _, hp⟩
  have hsize := hs.rel.size _ _ _ _ _ hg
  have hrow : ∀ row ∈ rows.take len ++ new, row.length = sz := by
    intro row hr
    rcases List.mem_append.1 hr with hr | hr
    · exact hsize row (List.mem_of_mem_take hr)
    · exact hnew row hr
  have hl : (rows.take len ++ new).length = len + new.length := by simp; omega
  have hkb : kbLL new ≤ S.top := hsh.kb hs
  have hk : ∀ v ∈ (rows.take len ++ new).flatten, v.kb ≤ max (if kbLL new ≤ id then 0 else kbLL new) (max id S.pin) := by
    intro v hv
    obtain ⟨i, j, hij⟩ := at2_flatten hv
    rcases at2_append hij with ⟨_, h⟩ | ⟨_, h⟩
    · have := hs.pin _ _ hg v (by simp only [contents]; exact flatten_at2 (at2_take h).2); omega
    · have := kbLL_mem (flatten_at2 h); split <;> omega
  have hkt : (if kbLL new ≤ id then 0 else kbLL new) ≤ S.top := by split <;> omega
  -- the old ages, where nothing of their memory has changed
  have old : ∀ (w' : World) (φ' : Phi), Ext φ φ' → Fr (Wr φ S.get) w w' → (∀ c, c < w.heap.size → ¬ Wr φ S.get c → ¬ Wr φ' (S.put id (.cells sz (rows.take len ++ new) (g + 1) lo')).get c) →
      (∀ g1 c1 n1 t1 arr1 e1, g1 ≤ g → φ id g1 = some (.at_ c1 n1 t1) → w.heap[c1]? = some (.cells arr1 e1 (0, 0)) → n1 ≤ len → arr1.size = t1 * sz →
        ∃ arr2 e2, w'.heap[c1]? = some (.cells arr2 e2 (0, 0)) ∧ arr2.size = arr1.size ∧ ∀ k, k < len * sz → arr2[k]? = arr1[k]?) →
      ∀ g1 c1 n1 t1, lo' ≤ g1 → g1 ≤ g → g1 ≠ g + 1 → φ id g1 = some (.at_ c1 n1 t1) → n1 ≤ (rows.take len ++ new).length ∧
        ∃ arr e, w'.heap[c1]? = some (.cells arr e (0, 0)) ∧ arr.size = t1 * sz ∧ Shows (Wr φ' (S.put id (.cells sz (rows.take len ++ new) (g + 1) lo')).get) w' φ' sz (rows.take len ++ new) n1 arr := by
    intro w' φ' he hf hwr hcells g1 c1 n1 t1 h1 h2 h3 hp
    rcases hlo' with rfl | ⟨rfl, rfl⟩
    · omega
    · obtain ⟨k1, k2, arr1, e1, k3, k4, k5⟩ := hs.rel.cells _ _ _ _ _ _ _ _ _ hg h1 h2 hp
      obtain ⟨arr2, e2, q1, q2, q3⟩ := hcells g1 c1 n1 t1 arr1 e1 h2 hp k3 k1 k4
      refine ⟨by simp; omega, arr2, e2, q1, by rw [q2, k4], fun i j v hi hv => ?_⟩
      obtain ⟨_, hjl⟩ := at2_col hrow hv
      rw [List.take_length] at hv
      rcases at2_append hv with ⟨h5, h6⟩ | ⟨h5, h6⟩
      · obtain ⟨y, hy, r1, r2⟩ := k5 i j v hi h6
        exact ⟨y, by rw [q3 _ (lt_place h5 hjl)]; exact hy, r1.mono hf hwr he, r2⟩
      · omega
  -- a new row
  have grow : ∀ (olds : List Value) (base : Option Addr) (cap : Nat), u = .slice base len cap → cap < len + new.length → (Builtin.firstCells i.size len (.slice base len cap)).run P w.drew = .ok olds.toArray w.drew →
      ShowsL (Wr φ S.get) w φ sz (rows.take len) olds →
      AppTo P φ S w #[t, tx] ty u x (.sl id (g + 1) sz 0 (len + new.length)) ((S.put id (.cells sz (rows.take len ++ new) (g + 1) lo')).pinTo (if kbLL new ≤ id then 0 else kbLL new)) := by
    intro olds base cap hu' hg' hold hsh0
    subst hu'
    have hr := Go.run_append_grow_src (P := P) w t tx ty e i z hd hi hz base len cap olds hold x new.length news (by rw [hsz]; exact hsrc) hg'
      (by
        have : len + new.length ≤ (len + new.length) * i.bytes := Nat.le_mul_of_pos_right _ hb
        omega) (Go.growslice_fits hg' hby)
    generalize hcc : Go.grownCap w (len + new.length) cap e = cc at hr
    have hcap : len + new.length ≤ cc := by rw [← hcc]; exact Go.grownCap_ge w _ _ _
    generalize hww : (w.drew.alloc (.cells ((olds ++ news).toArray ++ Builtin.zeroCells z.cells (cc - (len + new.length))) e)) = w' at hr
    have hheap : w'.heap = w.heap.push (.cells ((olds ++ news).toArray ++ Builtin.zeroCells z.cells (cc - (len + new.length))) e) := by rw [← hww]; rfl
    have hf : Fr (Wr φ S.get) w w' := ⟨by rw [← hww]; rfl, by rw [← hww]; rfl, by rw [← hww]; rfl, by rw [hheap]; simp, fun c hc _ => by rw [hheap, Array.getElem?_push, if_neg (by omega)]⟩
    have hnewc : w'.heap[w.heap.size]? = some (.cells ((olds ++ news).toArray ++ Builtin.zeroCells z.cells (cc - (len + new.length))) e (0, 0)) := by rw [hheap]; simp
    have hsame : ∀ c, c < w.heap.size → w'.heap[c]? = w.heap[c]? := fun c hc => by rw [hheap, Array.getElem?_push, if_neg (by omega)]
    have hl0 : (rows.take len).length = len := by simp; omega
    obtain ⟨φ', hp', hst⟩ := hs.turn hg (rows.take len ++ new) (g + 1) lo' w.heap.size cc w' _ e (if kbLL new ≤ id then 0 else kbLL new) (.inr rfl) hex hf hnewc
      (by
        simp only [Array.size_append, List.size_toArray, List.length_append, hsh0.1, hsh.1, hl0, Go.size_zeroCells, hzs, hsz, ← Nat.add_mul]
        congr 1; omega)
      (by rw [hl]; exact hcap) hrow (.inr (Nat.le_refl _)) (fun id1 g1 c1 n1 t1 _ hp1 => hsame c1 (hs.rel.lt _ _ _ _ _ hp1).1) (fun c1 hX => hsame c1 (hs.rel.xlt _ hX)) (fun h => by omega) hk hkt
      (fun φ' he hwr => by
        refine ⟨?_, old w' φ' he hf hwr fun g1 c1 n1 t1 arr1 e1 _ hp1 h1 _ h2 => ⟨arr1, e1, by rw [hsame c1 (hs.rel.lt _ _ _ _ _ hp1).1]; exact h1, rfl, fun _ _ => rfl⟩⟩
        have hz : ((olds ++ news).toArray ++ Builtin.zeroCells z.cells (cc - (len + new.length))) = (olds ++ news ++ (Builtin.zeroCells z.cells (cc - (len + new.length))).toList).toArray := by
          apply Array.ext'; simp
        rw [hz]
        exact shows_append hrow (hsh0.mono hf hwr he) (hsh.mono hf hwr he))
    refine ⟨_, φ', w', hr, ?_, hst⟩
    rw [hl] at hp'
    exact .sl _ _ _ _ _ _ _ _ _ 0 hp' (by omega) (by omega) (fun _ => by omega) hcap
  rcases vr_sl hu with ⟨_, rfl, hp, rfl⟩ | ⟨c, n, tot, cap, o', hp, k1, k2, k3, k4, rfl⟩
  · obtain rfl := hs.rel.virt _ _ _ _ _ hg hp
    exact grow [] none 0 rfl (by omega) (Go.run_firstCells_none _ _ _ _ _) ⟨by simp, fun i j v hv => by simp [at2] at hv⟩
  · obtain ⟨h4, h5, arr, e', h6, h7, h8⟩ := hs.rel.cells _ _ _ _ _ _ _ _ _ hg hlo (Nat.le_refl _) hp
    obtain rfl := h5 rfl
    have htot : cap = tot := by omega
    subst htot
    by_cases hroom : len + new.length ≤ cap
    · have ho := k3 (by omega)
      have hfit : o' + len * i.size + news.length ≤ arr.size := by
        rw [ho, hsz, hsh.1, h7, Nat.zero_mul, Nat.zero_add, ← Nat.add_mul]
        exact Nat.mul_le_mul_right _ hroom
      have hr := run_append_room (P := P) (w := w) (ty := ty) hd hi c o' len cap x new.length news (by rw [hsz]; exact hsrc) hroom arr e' h6 hfit
      have hseg := seg_arr arr news (o' + len * i.size) hfit
      have hssz := seg_size arr news (o' + len * i.size) hfit
      generalize harr : (arr.toList.take (o' + len * i.size) ++ news ++ arr.toList.drop (o' + len * i.size + news.length)).toArray = arr' at hr hseg hssz
      rw [ho, Nat.zero_mul, Nat.zero_add, hsz] at hseg
      have hW : Wr φ S.get c := Wr.of hp hg (by simp)
      have hf : Fr (Wr φ S.get) w (w.setRow c arr') := fr_setRow hW arr'
      have hset := Go.setRow_heap w c arr arr' e' _ h6
      obtain ⟨φ', hp', hst⟩ := hs.turn hg (rows.take len ++ new) (g + 1) lo' c cap (w.setRow c arr') arr' e' (if kbLL new ≤ id then 0 else kbLL new) (.inr rfl) hex hf hset (by rw [hssz, h7]) (by rw [hl]; exact hroom) hrow (.inl ⟨g, _, _, hp⟩)
        (fun id1 g1 c1 n1 t1 hne hp1 => Go.setRow_other w c c1 arr' (by rintro rfl; exact hne (hs.rel.inj _ _ _ _ _ _ _ _ _ hp1 hp))) (fun c1 hX => Go.setRow_other w c c1 arr' (by rintro rfl; exact hs.rel.out _ _ _ _ _ hp hX)) (fun h => by omega) hk hkt
        (fun φ' he hwr => by
          refine ⟨fun i1 j v hi hv => ?_, old _ φ' he hf hwr fun g1 c1 n1 t1 arr1 e1 _ hp1 h1 hn1 h2 => ?_⟩
          · obtain ⟨hil, hjl⟩ := at2_col hrow hv
            rw [hseg]
            rcases at2_append hv with ⟨h1, h2⟩ | ⟨h1, h2⟩
            · obtain ⟨h3, h9⟩ := at2_take h2
              have := lt_place h3 hjl
              rw [if_neg (by omega)]
              obtain ⟨y, hy, r1, r2⟩ := h8 i1 j v (by omega) h9
              exact ⟨y, hy, r1.mono hf hwr he, r2⟩
            · have hl0 : (rows.take len).length = len := by simp; omega
              rw [hl0] at h1 h2
              obtain ⟨y, hy, r1, r2⟩ := hsh.2 _ _ _ h2
              have hlt : (i1 - len) * sz + j < new.length * sz := lt_place (by rw [hl] at hil; omega) hjl
              have hle' : len * sz ≤ i1 * sz := Nat.mul_le_mul_right _ h1
              rw [Nat.sub_mul] at hy hlt
              have := hsh.1
              rw [if_pos (by omega)]
              exact ⟨y, by rw [← hy]; congr 1; omega, r1.mono hf hwr he, r2⟩
          · by_cases hcc : c1 = c
            · subst hcc
              rw [h6] at h1; cases h1
              exact ⟨arr', e', hset, hssz, fun k hk => by rw [hseg, if_neg (by omega)]⟩
            · exact ⟨arr1, e1, by rw [Go.setRow_other w c c1 arr' hcc]; exact h1, rfl, fun _ _ => rfl⟩)
      refine ⟨_, φ', _, hr, ?_, hst⟩
      rw [hl] at hp'
      exact .sl _ _ _ _ _ _ _ _ _ o' hp' (by omega) (by omega) (fun _ => ho) hroom
    · have hone : ∀ i1 j v, at2 (rows.take len) i1 j = some v → ∃ u, w.cell? ⟨c, o' + (i1 * sz + j), none⟩ = some u ∧ VR (Wr φ S.get) w φ v u ∧ u.oneCell' = true := by
        intro i1 j v hv
        obtain ⟨h1, h2⟩ := at2_take hv
        obtain ⟨y, hy, r1, r2⟩ := h8 i1 j v (by omega) h2
        refine ⟨y, ?_, r1, r2⟩
        rw [k3 (by omega), Nat.zero_mul, Nat.zero_add]
        unfold World.cell?
        simp only [h6]
        exact hy
      obtain ⟨olds, q1, q2, q3, q4⟩ := cells_list (w := w) (φ := φ) (c := c) (o' := o') (rows := rows.take len) (fun row hr => hsize row (List.mem_of_mem_take hr)) hone
      have hl0 : (rows.take len).length = len := by simp; omega
      exact grow olds _ cap rfl (by omega) (by
        rw [hsz]
        exact Go.run_firstCells_some w.drew sz len _ _ _ olds (by rw [q1, hl0]) (fun j u hu => by simpa using q2 j u hu)) ⟨q1, q4⟩

theorem sim_append (hs : Sim φ S w) (ht : TR (Wr φ S.get) w φ T a) {o : Oper} {s x : Operand} {s' x' : Od} {st xt e : Go.TypeId} {b : Nat} {z : List V} (hss : compOd s = some s') (hx : compOd x = some x') (he : elemOf P st = some e)
    (hz : zeroRow P e = some z) (hb : bytesOf P e = some b) (hb0 : 0 < b) (hrow : isRow P xt = true) (hstr : isStr P xt = false ∨ z.length = 1)
    (ho : o.op = .call { callee := .builtin .append, args := #[s, x], argTypes := #[st, xt] }) {v : V} {S' : St} (h : evOp T S (.append z.length b (isStr P xt) s' x') = some (v, S')) : Good φ S w ((Go.execOp a.eval o).run P w) v S' := by
  have hsv := opd_vr ht hss
  have hxv := opd_vr ht hx
  have hd := elem_und he
  obtain ⟨i, zv, hi, hzv, hsz, hpos, hzl, hlike⟩ := zeroRow_like hz (Wr φ S.get) w φ
  have hbi : i.bytes = b := by unfold bytesOf at hb; rw [hi] at hb; cases hb; rfl
  have run : ∀ r, (Builtin.append_ #[st, xt] o.type #[a.eval s, a.eval x]).run P w = r → (Go.execOp a.eval o).run P w = r.andThen fun v w' => .ok (.value v) w' := by
    rintro r rfl
    simp [Go.execOp, ho, Go.resolve, Go.invoke, Go.builtin]
  simp only [evOp, appendS] at h
  split at h
  · cases h
  · rename_i new hnew
    split at h
    · cases h
    · rename_i hany
      have hrows : ∀ row ∈ new, row.length = z.length := by
        intro row hr
        simp only [Bool.not_eq_true, List.any_eq_false] at hany
        have := hany row hr
        simpa using this
      obtain ⟨news, hsrc, hsh⟩ := src_vr hs hxv hrow hstr hnew hrows
      split at h
      · rename_i e1
        rw [e1] at hsv
        have hu := vr_nils hsv
        split at h
        · rename_i hby
          split at h
          · rename_i h0
            cases h
            have hn : new = [] := List.length_eq_zero_iff.1 h0
            subst hn
            have hne : news = [] := List.length_eq_zero_iff.1 (by rw [hsh.1]; simp)
            subst hne
            refine Good.pure hs (u := .slice none 0 0) ?_ (.fr _ _ .nils)
            rw [run _ rfl, hu, Go.run_append_nothing w st xt o.type e i hd hi none 0 0 (Nat.le_refl _) _ (by rw [← hzl]; exact hsrc)]
            rfl
          · rename_i h0
            cases h
            have hr := Go.run_append_grow_src (P := P) w st xt o.type e i zv hd hi hzv none 0 0 [] (Go.run_firstCells_none _ _ _ _ _) (a.eval x) new.length news (by rw [← hzl]; exact hsrc) (by omega)
              (by
                rw [Nat.zero_add]
                have : new.length ≤ new.length * b := Nat.le_mul_of_pos_right _ hb0
                omega) (Go.growslice_fits (by omega) (by rw [Nat.zero_add, hbi]; exact hby))
            rw [Nat.zero_add] at hr
            generalize hcc : Go.grownCap w new.length 0 e = cc at hr
            have hcap : new.length ≤ cc := by rw [← hcc]; exact Go.grownCap_ge w _ _ _
            refine sim_newRows (w' := w.drew.alloc (.cells (([] ++ news).toArray ++ Builtin.zeroCells zv.cells (cc - new.length)) e)) hs (arr := ([] ++ news).toArray ++ Builtin.zeroCells zv.cells (cc - new.length)) ⟨hrows, ?_⟩ e cc ?_ hcap rfl ?_
            · have hz : (([] ++ news).toArray ++ Builtin.zeroCells zv.cells (cc - new.length)) = ([] ++ news ++ (Builtin.zeroCells zv.cells (cc - new.length)).toList).toArray := by
                apply Array.ext'; simp
              rw [hz]
              exact shows_append (r0 := []) (by simpa using hrows) ⟨by simp, fun i j v hv => by simp [at2] at hv⟩ hsh
            · simp only [Array.size_append, List.size_toArray, List.nil_append, hsh.1, Go.size_zeroCells, hsz, hzl, ← Nat.add_mul]
              congr 1; omega
            · rw [run _ rfl, hu, hr]; rfl
        · cases h
      · rename_i id g sz' off len e1
        rw [e1] at hsv
        split at h
        · rename_i sz'' rows gen lo hg
          split at h
          · rename_i hc
            obtain ⟨rfl, hlo, rfl, h2, hby⟩ := hc
            subst h2
            split at h
            · rename_i h0
              split at h
              · rename_i hle
                cases h
                have hn : new = [] := List.length_eq_zero_iff.1 h0
                subst hn
                have hne : news = [] := List.length_eq_zero_iff.1 (by rw [hsh.1]; simp)
                subst hne
                refine Good.pure hs (u := a.eval s) ?_ (by rw [e1]; exact hsv)
                rcases vr_sl hsv with ⟨_, rfl, _, hu⟩ | ⟨c, n, tot, cap, o', hp, k1, k2, k3, k4, hu⟩
                · rw [run _ rfl, hu, Go.run_append_nothing w st xt o.type e i hd hi none 0 0 (Nat.le_refl _) _ (by rw [← hzl]; exact hsrc)]; rfl
                · rw [run _ rfl, hu, Go.run_append_nothing w st xt o.type e i hd hi _ len cap k4 _ (by rw [← hzl]; exact hsrc)]; rfl
              · cases h
            · rename_i h0
              split at h
              · rename_i hfull
                split at h
                · rename_i h00
                  subst h00
                  cases h
                  obtain ⟨u', φ', w', r1, r2, r3⟩ := sim_append_at (P := P) (ty := o.type) hs hd hi hzv hsz (by omega) hsv hg hlo hzl.symm hsrc hsh hrows (by omega) (by omega) (lo' := lo) (.inr ⟨by omega, rfl⟩) (by rw [hbi]; simpa using hby)
                  have htk : rows.take len = rows := List.take_of_length_le (by omega)
                  rw [htk] at r2 r3
                  exact ⟨u', φ', w', _, by rw [run _ r1]; rfl, .inl rfl, r2, r3⟩
                · cases h
              · split at h
                · rename_i h00
                  obtain ⟨rfl, hlt⟩ := h00
                  cases h
                  obtain ⟨u', φ', w', r1, r2, r3⟩ := sim_append_at (P := P) (ty := o.type) hs hd hi hzv hsz (by omega) hsv hg hlo hzl.symm hsrc hsh hrows (by omega) (by omega) (lo' := g + 1) (.inl rfl) (by rw [hbi]; simpa using hby)
                  exact ⟨u', φ', w', _, by rw [run _ r1]; rfl, .inl rfl, r2, r3⟩
                · cases h
          · cases h
        · cases h
      · cases h

end
end Mev
