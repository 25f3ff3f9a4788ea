/- The program's functions, one equation each: the raiser's fields. -/
import Derived.Test.YtfndbddlicbjpaaMevW8

set_option maxRecDepth 100000
namespace Mev
open Go Go.Proofs

def fieldI (K : Kn) (p : List UInt8 × Int × Int) (s : Slot') : List Ins :=
  if s.var then [⟨43, s.at_, 0, 0⟩, ⟨46, 0, 0, p.2.2⟩] else [fixI K p.2.2.toNat s.at_]

theorem fields_round (S : St) (c r : Nat) (K : Kn) (code : List Ins) (g lo t : Nat) (rows : List (List V)) (len i : Nat) (p : List UInt8 × Int × Int) (s : Slot') (hlo : lo ≤ g) (hcr : c < r) (hr : r < S.top) (hb : code.length ≤ 1073741000)
    (hrow : rows[i]? = some (partV p)) (hi : i < len) (hlen : len ≤ 1073741824) (ht : t < K.ls.length) (hs : (K.ls.getD t default).slots[i]? = some s) (hp : 0 ≤ p.2.2 ∧ p.2.2 < K.ts.length) :
    ∃ g', lo ≤ g' ∧ loopL (some [0, 1, 43, 44, 45]) (S.top, S.pin) (kC (ev Q) loopL b29x0) ⟨81, [(0, .ptr r 0 5 0 0), (1, .int .i64 t), (43, .rs 3 rows len), (44, .int .i64 len), (45, .int .i64 i)]⟩ (RS S c r K code g lo) =
    loopL (some [0, 1, 43, 44, 45]) (S.top, S.pin) (kC (ev Q) loopL b29x0) ⟨81, [(0, .ptr r 0 5 0 0), (1, .int .i64 t), (43, .rs 3 rows len), (44, .int .i64 len), (45, .int .i64 (i + 1 : Nat))]⟩ (RS S c r K (code ++ fieldI K p s) g' lo) := by
  have hc : c < S.top := by omega
  have hi' : (i : Int) < len := by omega
  have w3 : IntKind.i64.wrap ((i : Int) + 1) = (i : Int) + 1 := wrap64 (by omega) (by omega)
  have hmx : r + 1 ≤ S.top := by omega
  have hl := fun b b' op a x y => lay_rs ((S.push b).push b') c r K code g lo ⟨op, a, x, y⟩ hlo hcr (by simp; omega) (by omega)
  have hl2 := fun b b' op a x y => lay_rs ((S.push b).push b') c r K (code ++ [⟨43, s.at_, 0, 0⟩]) (g + 1) lo ⟨op, a, x, y⟩ (by omega) hcr (by simp; omega) (by simp; omega)
  have hfx := fun b b' v => fixed_rs ((S.push b).push b') c r K code g lo p.2.2.toNat v hlo hcr (by simp; omega) (by omega) (by omega)
  have hg := fun b => RS_get_r (S.push b) c r K code g lo hcr (by simp; omega)
  have hlrow : (K.ls.map Lay'.v)[t]? = some (K.ls.getD t default).v := by rw [List.getElem?_map, getD_some ht]; rfl
  have ht' : (t : Int) < K.ls.length := by omega
  have hil : i < (K.ls.getD t default).slots.length := (List.getElem?_eq_some_iff.1 hs).1
  have hil' : (i : Int) < (K.ls.getD t default).slots.length := by omega
  have hsrow : ((K.ls.getD t default).slots.map Slot'.v)[i]? = some s.v := by rw [List.getElem?_map, hs]; rfl
  have hty : ((p.2.2.toNat : Nat) : Int) = p.2.2 := Int.toNat_of_nonneg hp.1
  rw [hty] at hfx
  unfold fieldI
  obtain ⟨lab, tag, ty⟩ := p
  obtain ⟨at_, var, size⟩ := s
  simp only [partV] at hrow
  simp only at hfx hl2
  have hp2 := fun b k g lo b' => RS_push (S.push b) c r K k g lo b' (by simp; omega) (by simp; omega)
  generalize hL : K.ls.map Lay'.v = L at hg hlrow
  generalize K.ls.getD t default = lay at *
  obtain ⟨lsz, lsl⟩ := lay
  simp only [Lay'.v] at hlrow hsrow hil'
  generalize lsl.map Slot'.v = SL at hsrow hlrow
  simp only [Ins.v, Slot'.v] at hl hl2 hsrow
  simp only [tsV] at hg
  cases var with
  | false =>
    refine ⟨g + 1, by omega, ?_⟩
    rw [loopL_eq]
    generalize loopL (some [0, 1, 43, 44, 45]) (S.top, S.pin) (kC (ev Q) loopL b29x0) = F
    simp [kC, b29x0, hp2, hi', hrow, RS_top, RS_pin, RS_push, RS_trunc, RS_put, RS_get, below hr, below hc, hl, w3, hmx, hg, ht', hlrow, hil', hsrow, hfx]
  | true =>
    refine ⟨g + 1 + 1, by omega, ?_⟩
    rw [loopL_eq]
    generalize loopL (some [0, 1, 43, 44, 45]) (S.top, S.pin) (kC (ev Q) loopL b29x0) = F
    simp [kC, b29x0, hp2, hi', hrow, RS_top, RS_pin, RS_push, RS_trunc, RS_put, RS_get, below hr, below hc, hl, hl2, w3, hmx, hg, ht', hlrow, hil', hsrow]
end Mev

/- The program's functions, one equation each: the raiser's fields, whole. -/

set_option maxRecDepth 100000
namespace Mev
open Go Go.Proofs

def fieldsL (K : Kn) (l : List ((List UInt8 × Int × Int) × Slot')) : List Ins := l.flatMap fun x => fieldI K x.1 x.2
theorem fieldI_len (K : Kn) (p : List UInt8 × Int × Int) (s : Slot') : (fieldI K p s).length ≤ 2 := by unfold fieldI; split <;> simp

theorem fields_loop (c r : Nat) (K : Kn) (lo t : Nat) (y : Typ) (hcr : c < r) (hpl : y.parts.length ≤ 64) (ht : t < K.ls.length) (hsl : (K.ls.getD t default).slots.length = y.parts.length) (hp : ∀ p ∈ y.parts, 0 ≤ p.2.2 ∧ p.2.2 < K.ts.length) :
    ∀ (m i : Nat) (S : St) (code : List Ins) (g : Nat), i + m = y.parts.length → lo ≤ g → r < S.top → code.length + 2 * m ≤ 1073741000 →
    ∃ g' l, lo ≤ g' ∧ loopL (some [0, 1, 43, 44, 45]) (S.top, S.pin) (kC (ev Q) loopL b29x0) ⟨81, [(0, .ptr r 0 5 0 0), (1, .int .i64 t), (43, .rs 3 (y.parts.map partV ++ y.spare) y.parts.length), (44, .int .i64 y.parts.length), (45, .int .i64 i)]⟩ (RS S c r K code g lo) =
      some (.exit 0, ⟨81, l⟩, RS S c r K (code ++ fieldsL K ((y.parts.zip (K.ls.getD t default).slots).drop i)) g' lo) := by
  intro m
  induction m with
  | zero =>
    intro i S code g hi hlo hr hb
    have h1 : ¬ ((i : Int) < y.parts.length) := by omega
    rw [List.drop_of_length_le (by rw [List.length_zip]; omega)]
    refine ⟨g, [(46, .bool false), (0, .ptr r 0 5 0 0), (1, .int .i64 t), (43, .rs 3 (y.parts.map partV ++ y.spare) y.parts.length), (44, .int .i64 y.parts.length), (45, .int .i64 i)], hlo, ?_⟩
    rw [loopL_eq]
    simp [kC, b29x0, h1, fieldsL]
  | succ m ih =>
    intro i S code g hi hlo hr hb
    have hil : i < y.parts.length := by omega
    have hp' : y.parts[i]? = some y.parts[i] := List.getElem?_eq_getElem hil
    have hrow : (y.parts.map partV ++ y.spare)[i]? = some (partV y.parts[i]) := by
      rw [List.getElem?_append_left (by simpa using hil), List.getElem?_map, hp']; rfl
    have hil2 : i < (K.ls.getD t default).slots.length := by omega
    obtain ⟨g1, h1, h2⟩ := fields_round S c r K code g lo t _ y.parts.length i y.parts[i] (K.ls.getD t default).slots[i] hlo hcr hr (by omega) hrow hil (by omega) ht (List.getElem?_eq_getElem hil2) (hp _ (List.mem_of_getElem? hp'))
    have hlen := fieldI_len K y.parts[i] (K.ls.getD t default).slots[i]
    obtain ⟨g', l, h3, h4⟩ := ih (i + 1) S (code ++ fieldI K y.parts[i] (K.ls.getD t default).slots[i]) g1 (by omega) h1 hr (by rw [List.length_append]; omega)
    refine ⟨g', l, h3, ?_⟩
    have hz : i < (y.parts.zip (K.ls.getD t default).slots).length := by rw [List.length_zip]; omega
    rw [h2, h4, List.drop_eq_getElem_cons hz]
    simp only [fieldsL, List.flatMap_cons, List.getElem_zip, List.append_assoc]

def fieldsI (K : Kn) (t : Nat) (code : List Ins) : List Ins :=
  let y := K.ts.getD t ⟨0, 0, 0, [], []⟩
  code ++ [⟨39, y.parts.length, 0, 0⟩] ++ (if (K.es.getD t default).fixed then [] else [⟨42, (K.ls.getD t default).size, 0, 0⟩]) ++ fieldsL K (y.parts.zip (K.ls.getD t default).slots)

theorem fields_rs (S : St) (c r : Nat) (K : Kn) (code : List Ins) (g lo t : Nat) (hlo : lo ≤ g) (hcr : c < r) (hr : r < S.top) (hb : code.length ≤ 1073740000) (ht : t < K.ts.length) (he : t < K.es.length) (hls : t < K.ls.length)
    (hpl : (K.ts.getD t ⟨0, 0, 0, [], []⟩).parts.length ≤ 64) (hsl : (K.ls.getD t default).slots.length = (K.ts.getD t ⟨0, 0, 0, [], []⟩).parts.length) (hp : ∀ p ∈ (K.ts.getD t ⟨0, 0, 0, [], []⟩).parts, 0 ≤ p.2.2 ∧ p.2.2 < K.ts.length) :
    ∃ g', lo ≤ g' ∧ ev Q 29 [.ptr r 0 5 0 0, .int .i64 t] (RS S c r K code g lo) = some (.ret (.tup []), RS S c r K (fieldsI K t code) g' lo) := by
  have hc : c < S.top := by omega
  have hrow : (K.ts.map Typ.v ++ K.sp)[t]? = some (K.ts.getD t ⟨0, 0, 0, [], []⟩).v := by
    rw [List.getElem?_append_left (by simpa using ht), List.getElem?_map, getD_some ht]; rfl
  have hex : (K.es.map Ext'.v)[t]? = some (K.es.getD t default).v := by
    rw [List.getElem?_map, getD_some he]; rfl
  have hlrow : (K.ls.map Lay'.v)[t]? = some (K.ls.getD t default).v := by rw [List.getElem?_map, getD_some hls]; rfl
  have ht' : (t : Int) < K.ts.length := by omega
  have he' : (t : Int) < K.es.length := by omega
  have hls' : (t : Int) < K.ls.length := by omega
  simp only [fieldsI]
  generalize hy : K.ts.getD t ⟨0, 0, 0, [], []⟩ = y at *
  have hl := fun b op a x z => lay_rs (S.push b) c r K code g lo ⟨op, a, x, z⟩ hlo hcr (by simp; omega) (by omega)
  have hl2 := fun b op a x z => lay_rs (S.push b) c r K (code ++ [⟨39, y.parts.length, 0, 0⟩]) (g + 1) lo ⟨op, a, x, z⟩ (by omega) hcr (by simp; omega) (by simp; omega)
  have hg := RS_get_r S c r K code g lo hcr hr
  have hg2 := fun b => RS_get_r (S.push b) c r K (code ++ [⟨39, y.parts.length, 0, 0⟩]) (g + 1) lo hcr (by simp; omega)
  have hp2 := fun k g lo b' => RS_push S c r K k g lo b' hc hr
  cases hfx : (K.es.getD t default).fixed with
  | true =>
    obtain ⟨g', l, h1, h2⟩ := fields_loop c r K lo t y hcr hpl hls hsl hp y.parts.length 0 (S.push (.cells 4 [y.v] 0 0)) (code ++ [⟨39, y.parts.length, 0, 0⟩]) (g + 1) (by omega) (by omega) (by simp; omega) (by simp; omega)
    refine ⟨g', h1, ?_⟩
    rw [List.drop_zero] at h2
    generalize hX : fieldsL K (y.parts.zip (K.ls.getD t default).slots) = X at *
    generalize hE : K.es.map Ext'.v = E at hg hg2 hex
    generalize hL : K.ls.map Lay'.v = L at hg hg2 hlrow
    generalize K.es.getD t default = ex at *
    obtain ⟨e1, e2, e3, e4⟩ := ex
    simp only at hfx
    subst hfx
    simp only [Typ.v, Ins.v, Ext'.v] at hrow hl hl2 hex h2
    simp only [tsV] at hg hg2
    rw [ev_eq q29, c29, evFn_eq _ _ _ _ _ _ _ (by simp)]
    simp at h2
    simp [hg, hg2, hp2, RS_top, RS_pin, RS_trunc, RS_put, RS_get, ht', he', hls', hrow, hex, below hr, below hc, hl, hl2, Typ.v, h2]
  | false =>
    obtain ⟨g', l, h1, h2⟩ := fields_loop c r K lo t y hcr hpl hls hsl hp y.parts.length 0 (S.push (.cells 4 [y.v] 0 0)) (code ++ [⟨39, y.parts.length, 0, 0⟩] ++ [⟨42, (K.ls.getD t default).size, 0, 0⟩]) (g + 1 + 1) (by omega) (by omega) (by simp; omega) (by simp; omega)
    refine ⟨g', h1, ?_⟩
    rw [List.drop_zero] at h2
    generalize hX : fieldsL K (y.parts.zip (K.ls.getD t default).slots) = X at *
    generalize hE : K.es.map Ext'.v = E at hg hg2 hex
    generalize hL : K.ls.map Lay'.v = L at hg hg2 hlrow
    generalize K.es.getD t default = ex at *
    obtain ⟨e1, e2, e3, e4⟩ := ex
    generalize K.ls.getD t default = lay at *
    obtain ⟨lsz, lsl⟩ := lay
    simp only [Lay'.v] at hlrow
    generalize lsl.map Slot'.v = SL at hlrow
    simp only at hfx
    subst hfx
    simp only [Typ.v, Ins.v, Ext'.v] at hrow hl hl2 hex h2
    simp only [tsV] at hg hg2
    rw [ev_eq q29, c29, evFn_eq _ _ _ _ _ _ _ (by simp)]
    simp at h2
    simp [hg, hg2, hp2, RS_top, RS_pin, RS_trunc, RS_put, RS_get, ht', he', hls', hrow, hex, hlrow, below hr, below hc, hl, hl2, Typ.v, h2]
end Mev

/- The program's functions, one equation each: a type's routine. -/

set_option maxRecDepth 100000
namespace Mev
open Go Go.Proofs

def noT : Typ := ⟨0, 0, 0, [], []⟩
structure WfK (K : Kn) : Prop where
  wf : WfTs K.ts
  es : K.es.length = K.ts.length
  ls : K.ls.length = K.ts.length
  sl : ∀ t, t < K.ts.length → (K.ts.getD t noT).kind = 8 → (K.ls.getD t default).slots.length = (K.ts.getD t noT).parts.length

def bodyR (K : Kn) (t : Nat) (code : List Ins) : List Ins :=
  let y := K.ts.getD t noT
  if y.kind = 1 ∨ y.kind = 2 then code ++ [fixI K t 0]
  else if y.kind = 3 then code ++ [⟨36, 0, 0, 0⟩]
  else if y.kind = 4 then code ++ [⟨37, y.n, 0, 0⟩] ++ itemsI K y.elem.toNat false (code.length + 1)
  else if y.kind = 5 then code ++ [⟨38, y.n, 0, 0⟩] ++ itemsI K y.elem.toNat true (code.length + 1)
  else if y.kind = 6 then code ++ [⟨40, 0, code.length + 2, 0⟩, ⟨46, 0, 0, y.elem⟩]
  else if y.kind = 7 then armsI y code
  else fieldsI K t code
def routineR (K : Kn) (t : Nat) (code : List Ins) : List Ins := bodyR K t code ++ [⟨20, 0, 0, 0⟩]

theorem bodyI_len (first len : Nat) : ∀ (ps : List (List UInt8 × Int × Int)) (i : Nat) (code : List Ins), (bodyI first len i ps code).length ≤ code.length + 2 * ps.length := by
  intro ps
  induction ps with
  | nil => intro i code; simp [bodyI]
  | cons p ps ih =>
    intro i code
    rw [bodyI]
    refine Nat.le_trans (ih _ _) ?_
    rw [List.length_append, setB_len]
    split <;> simp <;> omega
theorem itemsI_len (K : Kn) (t : Nat) (l : Bool) (n : Int) : (itemsI K t l n).length ≤ 5 := by
  unfold itemsI
  split <;> simp
theorem fieldsL_len (K : Kn) : ∀ l : List ((List UInt8 × Int × Int) × Slot'), (fieldsL K l).length ≤ 2 * l.length := by
  intro l
  induction l with
  | nil => simp [fieldsL]
  | cons a l ih =>
    have := fieldI_len K a.1 a.2
    simp only [fieldsL, List.flatMap_cons, List.length_append, List.length_cons] at *
    omega
theorem bodyR_len (K : Kn) (hK : WfK K) (t : Nat) (ht : t < K.ts.length) (code : List Ins) : (bodyR K t code).length ≤ code.length + 300 := by
  have hpl := (hK.wf t _ (getD_some ht noT)).fine.1
  unfold bodyR
  simp only
  generalize hy : K.ts.getD t noT = y at *
  split
  · simp
  split
  · simp
  split
  · have := itemsI_len K y.elem.toNat false (code.length + 1); rw [List.length_append, List.length_append]; simp; omega
  split
  · have := itemsI_len K y.elem.toNat true (code.length + 1); rw [List.length_append, List.length_append]; simp; omega
  split
  · simp
  split
  · refine Nat.le_trans (bodyI_len _ _ _ _ _) ?_; simp; omega
  · have := fieldsL_len K (y.parts.zip (K.ls.getD t default).slots)
    have h2 : (y.parts.zip (K.ls.getD t default).slots).length ≤ y.parts.length := by rw [List.length_zip]; omega
    have hy2 : K.ts.getD t ⟨0, 0, 0, [], []⟩ = y := hy
    simp only [fieldsI, hy2]
    rw [List.length_append, List.length_append, List.length_append]
    generalize fieldsL K (y.parts.zip (K.ls.getD t default).slots) = X at *
    split <;> simp <;> omega

theorem routine_rs (S : St) (c r : Nat) (K : Kn) (hK : WfK K) (code : List Ins) (g lo t : Nat) (hlo : lo ≤ g) (hcr : c < r) (hr : r < S.top) (hb : code.length ≤ 1073730000) (ht : t < K.ts.length) :
    ∃ g' lo', lo' ≤ g' ∧ ev Q 15 [.ptr r 0 5 0 0, .int .i64 t] (RS S c r K code g lo) = some (.ret (.tup []), RS S c r K (routineR K t code) g' lo') := by
  have hc : c < S.top := by omega
  have hw := hK.wf t _ (getD_some ht noT)
  have hrow : (K.ts.map Typ.v ++ K.sp)[t]? = some (K.ts.getD t noT).v := by
    rw [List.getElem?_append_left (by simpa using ht), List.getElem?_map, getD_some ht]; rfl
  have ht' : (t : Int) < K.ts.length := by omega
  have hblen := bodyR_len K hK t ht code
  have hg := RS_get_r S c r K code g lo hcr hr
  have hl := fun b op a x z => lay_rs (S.push b) c r K code g lo ⟨op, a, x, z⟩ hlo hcr (by simp; omega) (by omega)
  have hret := fun b g lo h => lay_rs (S.push b) c r K (bodyR K t code) g lo ⟨20, 0, 0, 0⟩ h hcr (by simp; omega) (by omega)
  have hp2 := fun k g lo b' => RS_push S c r K k g lo b' hc hr
  have hes := hK.es
  have hls := hK.ls
  have hsl := hK.sl t ht
  unfold routineR
  generalize hB : bodyR K t code = B at *
  simp only [bodyR] at hB
  have hel : ∀ h : (K.ts.getD t noT).kind = 4 ∨ (K.ts.getD t noT).kind = 5 ∨ (K.ts.getD t noT).kind = 6, (((K.ts.getD t noT).elem.toNat : Nat) : Int) = (K.ts.getD t noT).elem ∧ (K.ts.getD t noT).elem.toNat < t := by
    intro h
    have := hw.elem h
    omega
  have hfs := fun b => fields_rs (S.push b) c r K code g lo t hlo hcr (by simp; omega) (by omega) ht (by omega) (by omega) hw.fine.1
  have hy2 : K.ts.getD t ⟨0, 0, 0, [], []⟩ = K.ts.getD t noT := rfl
  rw [hy2] at hfs
  generalize hy : K.ts.getD t noT = y at *
  simp only [tsV] at hg
  have hfine : ∀ p ∈ y.parts, 0 ≤ p.2.2 ∧ p.2.2 < K.ts.length := fun p hp => by have := hw.fine.2 p hp; omega
  rcases hw.kind with h | h | h | h | h | h | h | h
  · have hf := fun b => fixed_rs (S.push b) c r K code g lo t 0 hlo hcr (by simp; omega) (by omega) ht
    simp [h] at hB
    have hr1 := fun b => hret b (g + 1) lo (by omega)
    rw [← hB] at hr1 ⊢
    refine ⟨g + 1 + 1, lo, by omega, ?_⟩
    simp only [Typ.v, Ins.v] at hrow hr1
    rw [ev_eq q15, c15, evFn_eq _ _ _ _ _ _ _ (by simp)]
    simp [hg, hp2, RS_top, RS_pin, RS_trunc, RS_put, RS_get, ht', hrow, h, below hr, below hc, hf, hr1]
  · have hf := fun b => fixed_rs (S.push b) c r K code g lo t 0 hlo hcr (by simp; omega) (by omega) ht
    simp [h] at hB
    have hr1 := fun b => hret b (g + 1) lo (by omega)
    rw [← hB] at hr1 ⊢
    refine ⟨g + 1 + 1, lo, by omega, ?_⟩
    simp only [Typ.v, Ins.v] at hrow hr1
    rw [ev_eq q15, c15, evFn_eq _ _ _ _ _ _ _ (by simp)]
    simp [hg, hp2, RS_top, RS_pin, RS_trunc, RS_put, RS_get, ht', hrow, h, below hr, below hc, hf, hr1]
  · simp [h] at hB
    have hr1 := fun b => hret b (g + 1) lo (by omega)
    rw [← hB] at hr1 ⊢
    refine ⟨g + 1 + 1, lo, by omega, ?_⟩
    simp only [Typ.v, Ins.v] at hrow hr1 hl
    rw [ev_eq q15, c15, evFn_eq _ _ _ _ _ _ _ (by simp)]
    simp [hg, hp2, RS_top, RS_pin, RS_trunc, RS_put, RS_get, ht', hrow, h, below hr, below hc, hl, hr1]
  · obtain ⟨he1, he2⟩ := hel (Or.inl h)
    obtain ⟨g1, lo1, h1, h2⟩ := items_rs (S.push (.cells 4 [y.v] 0 0)) c r K (code ++ [⟨37, y.n, 0, 0⟩]) (g + 1) lo y.elem.toNat false (by omega) hcr (by simp; omega) (by simp; omega) (by omega) (by omega)
    rw [he1] at h2
    simp [h] at hB
    have hr1 := fun b => hret b g1 lo1 h1
    have hlen : (((code ++ [(⟨37, y.n, 0, 0⟩ : Ins)]).length : Nat) : Int) = (code.length : Int) + 1 := by simp
    rw [hlen, List.append_assoc, List.singleton_append, hB] at h2
    refine ⟨g1 + 1, lo1, by omega, ?_⟩
    simp only [Typ.v, Ins.v] at hrow hr1 hl h2
    rw [h] at h2
    rw [ev_eq q15, c15, evFn_eq _ _ _ _ _ _ _ (by simp)]
    simp [hg, hp2, RS_top, RS_pin, RS_trunc, RS_put, RS_get, ht', hrow, h, below hr, below hc, hl, h2, hr1]
  · obtain ⟨he1, he2⟩ := hel (Or.inr <| Or.inl h)
    obtain ⟨g1, lo1, h1, h2⟩ := items_rs (S.push (.cells 4 [y.v] 0 0)) c r K (code ++ [⟨38, y.n, 0, 0⟩]) (g + 1) lo y.elem.toNat true (by omega) hcr (by simp; omega) (by simp; omega) (by omega) (by omega)
    rw [he1] at h2
    simp [h] at hB
    have hr1 := fun b => hret b g1 lo1 h1
    have hlen : (((code ++ [(⟨38, y.n, 0, 0⟩ : Ins)]).length : Nat) : Int) = (code.length : Int) + 1 := by simp
    rw [hlen, List.append_assoc, List.singleton_append, hB] at h2
    refine ⟨g1 + 1, lo1, by omega, ?_⟩
    simp only [Typ.v, Ins.v] at hrow hr1 hl h2
    rw [h] at h2
    rw [ev_eq q15, c15, evFn_eq _ _ _ _ _ _ _ (by simp)]
    simp [hg, hp2, RS_top, RS_pin, RS_trunc, RS_put, RS_get, ht', hrow, h, below hr, below hc, hl, h2, hr1]
  · have hl2 := fun b op a x z => lay_rs (S.push b) c r K (code ++ [⟨40, 0, 0, 0⟩]) (g + 1) lo ⟨op, a, x, z⟩ (by omega) hcr (by simp; omega) (by simp; omega)
    have hg2 := fun b => RS_get_r (S.push b) c r K (code ++ [⟨40, 0, 0, 0⟩, ⟨46, 0, 0, y.elem⟩]) (g + 2) lo hcr (by simp; omega)
    have hs := fun b v => storeRS (S := S.push b) (c := c) (r := r) (K := K) (code := code ++ [⟨40, 0, 0, 0⟩, ⟨46, 0, 0, y.elem⟩]) (g := g + 2) (lo := lo) (i := code.length) (b := v) hcr (by simp; omega) (by omega) (by simp)
    have w5 : IntKind.i64.wrap ((code.length : Int) + 1 + 1) = (code.length : Int) + 2 := by rw [wrap64 (by omega) (by omega)]; omega
    have hn2 : (code.length : Int) < code.length + 2 := by omega
    simp [h] at hB
    have hr1 := fun b => hret b (g + 2) (g + 2) (by omega)
    rw [← hB] at hr1 ⊢
    refine ⟨g + 2 + 1, g + 2, by omega, ?_⟩
    simp only [Typ.v, Ins.v] at hrow hr1 hl hl2
    rw [ev_eq q15, c15, evFn_eq _ _ _ _ _ _ _ (by simp)]
    simp at hl2
    simp [-storeS, storeLoc, hs, setB_app0, hg, hg2, hp2, RS_top, RS_pin, RS_trunc, RS_put, RS_get, ht', hrow, h, below hr, below hc, hl, hl2, hr1, w5, hn2]
  · obtain ⟨g1, lo1, h1, h2⟩ := arms_rs (S.push (.cells 4 [y.v] 0 0)) c r K code g lo y hlo hcr (by simp; omega) (by omega) hw.fine.1
    simp [h] at hB
    have hr1 := fun b => hret b g1 lo1 h1
    rw [hB] at h2
    refine ⟨g1 + 1, lo1, by omega, ?_⟩
    simp only [Typ.v, Ins.v] at hrow hr1 h2
    rw [h] at h2
    rw [ev_eq q15, c15, evFn_eq _ _ _ _ _ _ _ (by simp)]
    simp [hg, hp2, RS_top, RS_pin, RS_trunc, RS_put, RS_get, ht', hrow, h, below hr, below hc, h2, hr1]
  · obtain ⟨g1, h1, h2⟩ := hfs (.cells 4 [y.v] 0 0) (hsl h) hfine
    simp [h] at hB
    have hr1 := fun b => hret b g1 lo h1
    rw [hB] at h2
    refine ⟨g1 + 1, lo, by omega, ?_⟩
    simp only [Typ.v, Ins.v] at hrow hr1 h2
    rw [h] at h2
    rw [ev_eq q15, c15, evFn_eq _ _ _ _ _ _ _ (by simp)]
    simp [hg, hp2, RS_top, RS_pin, RS_trunc, RS_put, RS_get, ht', hrow, h, below hr, below hc, h2, hr1]
end Mev

/- The program's functions, one equation each: a type's entry and routine. -/

set_option maxRecDepth 100000
namespace Mev
open Go Go.Proofs

def iV (l : List Int) : List (List V) := l.map fun d => [.int .i64 d]
/-- the blocks with a program's entries -/
def ES (S : St) (ec p : Nat) (en : List Int) (eg : Nat) : St :=
  (S.put ec (.cells 1 (iV en) eg 0)).put p (.cells 3 [[.bool true, .nils, .sl ec eg 1 0 en.length]] 0 0)
section
variable (S : St) (ec p : Nat) (en : List Int) (eg : Nat)
theorem ES_top : (ES S ec p en eg).top = S.top := by simp [ES]
theorem ES_pin : (ES S ec p en eg).pin = S.pin := by simp [ES]
theorem ES_get_p (h : ec < p) (hp : p < S.top) : (ES S ec p en eg).get p = some (.cells 3 [[.bool true, .nils, .sl ec eg 1 0 en.length]] 0 0) := by
  rw [ES, put_get]; simpa using hp
theorem ES_get_ec (h : ec < p) (hp : p < S.top) : (ES S ec p en eg).get ec = some (.cells 1 (iV en) eg 0) := by
  rw [ES, put_get_ne _ _ _ _ (by omega), put_get]; omega
theorem ES_get (j : Nat) (h : ec ≠ j) (hp : p ≠ j) : (ES S ec p en eg).get j = S.get j := by
  rw [ES, put_get_ne _ _ _ _ hp, put_get_ne _ _ _ _ h]
theorem ES_put (h : ec < p) (en' : List Int) (eg' : Nat) : ((ES S ec p en eg).put ec (.cells 1 (iV en') eg' 0)).put p (.cells 3 [[.bool true, .nils, .sl ec eg' 1 0 en'.length]] 0 0) = ES S ec p en' eg' := by
  unfold ES
  rw [put_comm (h := (by omega : p ≠ ec)), put_put, put_put]
end

theorem enc1_rs (S : St) (c r b ec p : Nat) (K : Kn) (hK : WfK K) (code : List Ins) (g lo t eg : Nat) (en : List Int) (hlo : lo ≤ g) (hcr : c < r) (hrb : r < b) (hbe : b < ec) (hep : ec < p) (hpt : p < S.top)
    (hgb : S.get b = some (.cells 1 [[.ptr r 0 5 0 0]] 0 0)) (hb : code.length ≤ 1073730000) (ht : t < K.ts.length) (hen : en.length ≤ 1073730000) :
    ∃ g' lo', lo' ≤ g' ∧ ev Q 14 [.int .i64 t, .ptr p 0 3 0 0, .ptr b 0 1 0 0] (RS (ES S ec p en eg) c r K code g lo) = some (.ret (.tup []), RS (ES S ec p (en ++ [(code.length : Int)]) (eg + 1)) c r K (routineR K t code) g' lo') := by
  have hcp : c < p := by omega
  have hrp : r < p := by omega
  have hce : c < ec := by omega
  have hre : r < ec := by omega
  have hcb : c < b := by omega
  have hbp : b < p := by omega
  have hct : c < S.top := by omega
  have hrt : r < S.top := by omega
  have hbt : b < S.top := by omega
  have het : ec < S.top := by omega
  obtain ⟨g1, lo1, h1, h2⟩ := routine_rs ((ES S ec p (en ++ [(code.length : Int)]) (eg + 1)).push (.cells 1 [[.int .i64 code.length]] 0 0)) c r K hK code g lo t hlo hcr (by rw [top_push, ES_top]; omega) hb ht
  have hpush := RS_push (ES S ec p (en ++ [(code.length : Int)]) (eg + 1)) c r K code g lo (.cells 1 [[.int .i64 code.length]] 0 0) (by rw [ES_top]; exact hct) (by rw [ES_top]; exact hrt)
  rw [← hpush] at h2
  have htr := RS_trunc ((ES S ec p (en ++ [(code.length : Int)]) (eg + 1)).push (.cells 1 [[.int .i64 code.length]] 0 0)) c r K (routineR K t code) g1 lo1 S.top
  rw [trunc_push _ _ _ (by rw [ES_top]; exact Nat.le_refl _)] at htr
  have het0 := ES_top S ec p (en ++ [(code.length : Int)]) (eg + 1)
  have htr0 : (ES S ec p (en ++ [(code.length : Int)]) (eg + 1)).trunc S.top = ES S ec p (en ++ [(code.length : Int)]) (eg + 1) := by rw [← het0, trunc_top]
  rw [htr0] at htr
  have htop3 : (RS ((ES S ec p (en ++ [(code.length : Int)]) (eg + 1)).push (.cells 1 [[.int .i64 code.length]] 0 0)) c r K (routineR K t code) g1 lo1).top = S.top + 1 := by rw [RS_top, top_push, ES_top]
  have hpin3 : (RS ((ES S ec p (en ++ [(code.length : Int)]) (eg + 1)).push (.cells 1 [[.int .i64 code.length]] 0 0)) c r K (routineR K t code) g1 lo1).pin = S.pin := by rw [RS_pin, pin_push, ES_pin]
  generalize RS ((ES S ec p (en ++ [(code.length : Int)]) (eg + 1)).push (.cells 1 [[.int .i64 code.length]] 0 0)) c r K (routineR K t code) g1 lo1 = E at *
  refine ⟨g1, lo1, h1, ?_⟩
  have hg := RS_get_r (ES S ec p en eg) c r K code g lo hcr (by rw [ES_top]; exact hrt)
  have hgp : (RS (ES S ec p en eg) c r K code g lo).get p = some (.cells 3 [[.bool true, .nils, .sl ec eg 1 0 en.length]] 0 0) := by
    rw [RS_get _ _ _ _ _ _ _ _ (by omega) (by omega), ES_get_p _ _ _ _ _ hep hpt]
  have hge : (RS (ES S ec p en eg) c r K code g lo).get ec = some (.cells 1 (iV en) eg 0) := by
    rw [RS_get _ _ _ _ _ _ _ _ (by omega) (by omega), ES_get_ec _ _ _ _ _ hep hpt]
  have hgbb : (RS (ES S ec p en eg) c r K code g lo).get b = some (.cells 1 [[.ptr r 0 5 0 0]] 0 0) := by
    rw [RS_get _ _ _ _ _ _ _ _ (by omega) (by omega), ES_get _ _ _ _ _ _ (by omega) (by omega), hgb]
  have htop : (RS (ES S ec p en eg) c r K code g lo).top = S.top := by rw [RS_top, ES_top]
  have hpin : (RS (ES S ec p en eg) c r K code g lo).pin = S.pin := by rw [RS_pin, ES_pin]
  have hst : ((RS (ES S ec p en eg) c r K code g lo).put ec (.cells 1 (iV (en ++ [(code.length : Int)])) (eg + 1) 0)).put p (.cells 3 [[.bool true, .nils, .sl ec (eg + 1) 1 0 (en ++ [(code.length : Int)]).length]] 0 0) = RS (ES S ec p (en ++ [(code.length : Int)]) (eg + 1)) c r K code g lo := by
    rw [RS_put _ _ _ _ _ _ _ _ _ (by omega) (by omega), RS_put _ _ _ _ _ _ _ _ _ (by omega) (by omega), ES_put S ec p en eg hep]
  have e1 : iV (en ++ [(code.length : Int)]) = iV en ++ [[.int .i64 code.length]] := by simp [iV]
  have e2 : (en ++ [(code.length : Int)]).length = en.length + 1 := by simp
  rw [e1, e2] at hst
  have hgbe : (RS (ES S ec p (en ++ [(code.length : Int)]) (eg + 1)) c r K code g lo).get b = some (.cells 1 [[.ptr r 0 5 0 0]] 0 0) := by
    rw [RS_get _ _ _ _ _ _ _ _ (by omega) (by omega), ES_get _ _ _ _ _ _ (by omega) (by omega), hgb]
  have hil : (iV en).length = en.length := by simp [iV]
  have hby : (en.length + 1) * 8 ≤ 140737488355328 := by omega
  have htop2 : ∀ g lo k, (RS (ES S ec p (en ++ [(code.length : Int)]) (eg + 1)) c r K k g lo).top = S.top := fun g lo k => by rw [RS_top, ES_top]
  have hpin2 : ∀ g lo k, (RS (ES S ec p (en ++ [(code.length : Int)]) (eg + 1)) c r K k g lo).pin = S.pin := fun g lo k => by rw [RS_pin, ES_pin]
  generalize hA : RS (ES S ec p en eg) c r K code g lo = A at *
  generalize hB : RS (ES S ec p (en ++ [(code.length : Int)]) (eg + 1)) c r K code g lo = B at *
  have hBt := htop2 g lo code
  have hBp := hpin2 g lo code
  rw [hB] at hBt hBp
  generalize RS (ES S ec p (en ++ [(code.length : Int)]) (eg + 1)) c r K (routineR K t code) g1 lo1 = D at *
  generalize iV en = EN at *
  rw [ev_eq q14, c14, evFn_eq _ _ _ _ _ _ _ (by simp)]
  simp [hg, hgp, hge, hgbb, htop, hpin, below hrt, below hct, below hpt, below hbt, below het, below hep, below hrb, below hcr, below hbe, below hcp, below hrp, below hce, below hre, below hcb, below hbp, hil, hby, hst, h2, htop3, hpin3, htr, hBt, hBp, hgbe]
end Mev

/- The program's functions, one equation each: the encoder's loop. -/

set_option maxRecDepth 100000
namespace Mev
open Go Go.Proofs

/-- the code and the entries of the first types -/
def prog (K : Kn) : Nat → List Ins × List Int
  | 0 => ([], [])
  | n + 1 => (routineR K n (prog K n).1, (prog K n).2 ++ [((prog K n).1.length : Int)])
theorem prog_len (K : Kn) : ∀ n, (prog K n).2.length = n := by
  intro n
  induction n with
  | zero => rfl
  | succ n ih => simp [prog, ih]

theorem enc_round (S : St) (c r b ec p y : Nat) (K : Kn) (hK : WfK K) (code : List Ins) (g lo t eg n : Nat) (en : List Int) (hlo : lo ≤ g) (hyc : y < c) (hcr : c < r) (hrb : r < b) (hbe : b < ec) (hep : ec < p) (hpt : p < S.top)
    (hgb : S.get b = some (.cells 1 [[.ptr r 0 5 0 0]] 0 0)) (hgy : S.get y = some (.cells 3 [[.bool false, .nils, .nils]] 0 0)) (hb : code.length ≤ 1048576) (ht : t < n) (hn : K.ts.length = n) (hn2 : n ≤ 1048576) (hen : en.length ≤ 1073730000) :
    if (routineR K t code).length ≤ 1048576 then
      ∃ g' lo', lo' ≤ g' ∧ loopL (some [2, 9, 10, 11, 60, 61]) (S.top, S.pin) (kC (ev Q) loopL b7x2) ⟨81, [(2, .ptr y 0 3 0 0), (9, .ptr b 0 1 0 0), (10, .ptr p 0 3 0 0), (11, .fn 14 [.ptr p 0 3 0 0, .ptr b 0 1 0 0]), (60, .int .i64 n), (61, .int .i64 t)]⟩ (RS (ES S ec p en eg) c r K code g lo) =
        loopL (some [2, 9, 10, 11, 60, 61]) (S.top, S.pin) (kC (ev Q) loopL b7x2) ⟨81, [(2, .ptr y 0 3 0 0), (9, .ptr b 0 1 0 0), (10, .ptr p 0 3 0 0), (11, .fn 14 [.ptr p 0 3 0 0, .ptr b 0 1 0 0]), (60, .int .i64 n), (61, .int .i64 (t + 1 : Nat))]⟩ (RS (ES S ec p (en ++ [(code.length : Int)]) (eg + 1)) c r K (routineR K t code) g' lo')
    else ∃ l S', loopL (some [2, 9, 10, 11, 60, 61]) (S.top, S.pin) (kC (ev Q) loopL b7x2) ⟨81, [(2, .ptr y 0 3 0 0), (9, .ptr b 0 1 0 0), (10, .ptr p 0 3 0 0), (11, .fn 14 [.ptr p 0 3 0 0, .ptr b 0 1 0 0]), (60, .int .i64 n), (61, .int .i64 t)]⟩ (RS (ES S ec p en eg) c r K code g lo) =
        some (.ret, ⟨81, l⟩, S') ∧ look 2 l = .ptr y 0 3 0 0 ∧ look 3 l = .int .i64 4 ∧ S'.get y = some (.cells 3 [[.bool false, .nils, .nils]] 0 0) ∧ (∀ j, j < y → S'.get j = S.get j) ∧ S.top ≤ S'.top := by
  obtain ⟨g1, lo1, h1, h2⟩ := enc1_rs S c r b ec p K hK code g lo t eg en hlo hcr hrb hbe hep hpt hgb (by omega) (by omega) hen
  have hrt : r < S.top := by omega
  have ht' : (t : Int) < n := by omega
  have w3 : IntKind.i64.wrap ((t : Int) + 1) = (t : Int) + 1 := wrap64 (by omega) (by omega)
  have hbr : (RS (ES S ec p (en ++ [(code.length : Int)]) (eg + 1)) c r K (routineR K t code) g1 lo1).get b = some (.cells 1 [[.ptr r 0 5 0 0]] 0 0) := by
    rw [RS_get _ _ _ _ _ _ _ _ (by omega) (by omega), ES_get _ _ _ _ _ _ (by omega) (by omega), hgb]
  have hg := RS_get_r (ES S ec p (en ++ [(code.length : Int)]) (eg + 1)) c r K (routineR K t code) g1 lo1 hcr (by rw [ES_top]; exact hrt)
  have hgy2 : ∀ j, j ≤ y → (RS (ES S ec p (en ++ [(code.length : Int)]) (eg + 1)) c r K (routineR K t code) g1 lo1).get j = S.get j := fun j hj => by
    rw [RS_get _ _ _ _ _ _ _ _ (by omega) (by omega), ES_get _ _ _ _ _ _ (by omega) (by omega)]
  have htop : (RS (ES S ec p (en ++ [(code.length : Int)]) (eg + 1)) c r K (routineR K t code) g1 lo1).top = S.top := by rw [RS_top, ES_top]
  have hpin : (RS (ES S ec p (en ++ [(code.length : Int)]) (eg + 1)) c r K (routineR K t code) g1 lo1).pin = S.pin := by rw [RS_pin, ES_pin]
  have hmx : max y (max b p) + 1 ≤ S.top := by omega
  have hgyy := hgy2 y (Nat.le_refl _)
  rw [hgy] at hgyy
  have hmx2 : max y (max b (max p b)) + 1 ≤ S.top := by omega
  have hmx3 : max y (max b (max p (max p b))) + 1 ≤ S.top := by omega
  have htr : ∀ X : St, X.top = S.top → X.trunc S.top = X := fun X hX => by rw [← hX, trunc_top]
  have htr2 := htr _ htop
  generalize hB : RS (ES S ec p (en ++ [(code.length : Int)]) (eg + 1)) c r K (routineR K t code) g1 lo1 = B at *
  generalize RS (ES S ec p en eg) c r K code g lo = A at *
  have hps := put_self _ _ hgyy
  generalize hC : routineR K t code = C at *
  by_cases hle : C.length ≤ 1048576
  · have hle' : ¬ ((1048576 : Int) < C.length) := by omega
    rw [if_pos hle]
    refine ⟨g1, lo1, h1, ?_⟩
    rw [loopL_eq]
    generalize loopL (some [2, 9, 10, 11, 60, 61]) (S.top, S.pin) (kC (ev Q) loopL b7x2) = F
    simp [kC, b7x2, ht', h2, hbr, hg, hle', w3, hmx, hmx2, hmx3, htop, hpin, htr2, hB]
  · have hle' : (1048576 : Int) < C.length := by omega
    rw [if_neg hle, loopL_eq]
    generalize loopL (some [2, 9, 10, 11, 60, 61]) (S.top, S.pin) (kC (ev Q) loopL b7x2) = F
    simp [kC, b7x2, ht', h2, hbr, hg, hle', w3, hgyy, hps]
    exact ⟨_, _, ⟨rfl, rfl⟩, by simp, by simp, hgyy, fun j hj => hgy2 j (by omega), by omega⟩

/-- does the code of the first types keep its bound -/
def FitsTo (K : Kn) (i n : Nat) : Prop := ∀ j, i < j → j ≤ n → (prog K j).1.length ≤ 1048576

theorem enc_loop (c r b ec p y : Nat) (K : Kn) (hK : WfK K) (n : Nat) (hyc : y < c) (hcr : c < r) (hrb : r < b) (hbe : b < ec) (hep : ec < p) (hn : K.ts.length = n) (hn2 : n ≤ 1048576) :
    ∀ (m i : Nat) (S : St) (g lo eg : Nat), i + m = n → lo ≤ g → p < S.top → S.get b = some (.cells 1 [[.ptr r 0 5 0 0]] 0 0) → S.get y = some (.cells 3 [[.bool false, .nils, .nils]] 0 0) → (prog K i).1.length ≤ 1048576 →
    (FitsTo K i n → ∃ g' lo' eg' l, lo' ≤ g' ∧ loopL (some [2, 9, 10, 11, 60, 61]) (S.top, S.pin) (kC (ev Q) loopL b7x2) ⟨81, [(2, .ptr y 0 3 0 0), (9, .ptr b 0 1 0 0), (10, .ptr p 0 3 0 0), (11, .fn 14 [.ptr p 0 3 0 0, .ptr b 0 1 0 0]), (60, .int .i64 n), (61, .int .i64 i)]⟩ (RS (ES S ec p (prog K i).2 eg) c r K (prog K i).1 g lo) =
        some (.exit 2, ⟨81, l⟩, RS (ES S ec p (prog K n).2 eg') c r K (prog K n).1 g' lo') ∧ look 2 l = .ptr y 0 3 0 0 ∧ look 9 l = .ptr b 0 1 0 0 ∧ look 10 l = .ptr p 0 3 0 0) ∧
    (¬ FitsTo K i n → ∃ l S', loopL (some [2, 9, 10, 11, 60, 61]) (S.top, S.pin) (kC (ev Q) loopL b7x2) ⟨81, [(2, .ptr y 0 3 0 0), (9, .ptr b 0 1 0 0), (10, .ptr p 0 3 0 0), (11, .fn 14 [.ptr p 0 3 0 0, .ptr b 0 1 0 0]), (60, .int .i64 n), (61, .int .i64 i)]⟩ (RS (ES S ec p (prog K i).2 eg) c r K (prog K i).1 g lo) =
        some (.ret, ⟨81, l⟩, S') ∧ look 2 l = .ptr y 0 3 0 0 ∧ look 3 l = .int .i64 4 ∧ S'.get y = some (.cells 3 [[.bool false, .nils, .nils]] 0 0) ∧ (∀ j, j < y → S'.get j = S.get j) ∧ S.top ≤ S'.top) := by
  intro m
  induction m with
  | zero =>
    intro i S g lo eg hi hlo hp hgb hgy hb
    obtain rfl : i = n := by omega
    refine ⟨fun _ => ⟨g, lo, eg, [(62, .bool false), (2, .ptr y 0 3 0 0), (9, .ptr b 0 1 0 0), (10, .ptr p 0 3 0 0), (11, .fn 14 [.ptr p 0 3 0 0, .ptr b 0 1 0 0]), (60, .int .i64 i), (61, .int .i64 i)], hlo, ?_, by simp, by simp, by simp⟩, fun h => absurd (fun j h1 h2 => by omega) h⟩
    rw [loopL_eq]
    simp [kC, b7x2]
  | succ m ih =>
    intro i S g lo eg hi hlo hp hgb hgy hb
    have hr := enc_round S c r b ec p y K hK (prog K i).1 g lo i eg n (prog K i).2 hlo hyc hcr hrb hbe hep hp hgb hgy hb (by omega) hn hn2 (by rw [prog_len]; omega)
    have hpr : prog K (i + 1) = (routineR K i (prog K i).1, (prog K i).2 ++ [((prog K i).1.length : Int)]) := rfl
    by_cases hle : (routineR K i (prog K i).1).length ≤ 1048576
    · rw [if_pos hle] at hr
      obtain ⟨g1, lo1, h1, h2⟩ := hr
      have hih := ih (i + 1) S g1 lo1 (eg + 1) (by omega) h1 hp hgb hgy (by rw [hpr]; exact hle)
      rw [hpr] at hih
      have hf : FitsTo K (i + 1) n ↔ FitsTo K i n := by
        constructor
        · intro h j h3 h4
          rcases Nat.lt_or_ge (i + 1) j with h5 | h5
          · exact h j h5 h4
          · obtain rfl : j = i + 1 := by omega
            rw [hpr]; exact hle
        · intro h j h3 h4; exact h j (by omega) h4
      rw [h2, ← hf]
      exact hih
    · rw [if_neg hle] at hr
      have hf : ¬ FitsTo K i n := fun h => hle (by have := h (i + 1) (by omega) (by omega); rw [hpr] at this; exact this)
      exact ⟨fun h => absurd h hf, fun _ => hr⟩
end Mev
