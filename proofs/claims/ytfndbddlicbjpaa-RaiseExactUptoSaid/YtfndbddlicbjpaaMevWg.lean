/- The document's answer, one equation each: layouts: a struct's. -/
import Derived.Test.YtfndbddlicbjpaaMevWd
import Derived.Test.YtfndbddlicbjpaaMevW7
import Derived.Test.YtfndbddlicbjpaaMevWe

set_option maxRecDepth 100000
namespace Mev
open Go Go.Proofs

theorem rslot_eq {e : Ext'} {d : Int} (h : EOK e d) (n : Int) : rslotN e n = slotN e n := by
  unfold rslotN slotN
  split
  · rename_i hf; rw [h.fx hf]
  · rfl
theorem slot_bd {e : Ext'} {d : Int} (h : EOK e d) (n : Int) : 0 ≤ (slotN e n).size ∧ (slotN e n).size ≤ 4611686018427387904 := by
  unfold slotN
  split
  · exact ⟨h.m0, h.m1⟩
  · simp

theorem rlay_round (S : St) (c x y x0 co g lo gl len n i k : Nat) (d : Int) (es : List Ext') (X : Lay') (e : Ext') (t : Typ) (lab : List UInt8) (tag : Int) (hd : EOK e d)
    (hc : S.get c = some (.cells 3 (X.slots.map Slot'.v) g lo)) (hlo : lo ≤ g) (hx : S.get x = some (.cells 2 [[.int .i64 X.size, .sl c g 3 0 X.slots.length]] 0 0)) (hy : S.get y = some (.cells 4 [t.v] 0 0)) (hcx : c < x) (hyc : y < c) (hx0 : x0 < S.top) (hco : co < S.top) (hr : (t.parts.map partV ++ t.spare)[i]? = some [.str lab, .int .i64 tag, .int .i64 k]) (hi : i < t.parts.length) (hlen : t.parts.length ≤ 64)
    (hn : X.slots.length ≤ 1073741824) (he : es[k]? = some e) (hX : 0 ≤ X.size ∧ X.size ≤ 4611686018427387904) :
    loopL (some [1, 5, 7, 8, 9, 10, 11]) (S.top, S.pin) (kC (ev Q) loopL b18x3) ⟨110, [(1, .ptr x0 0 2 0 0), (5, .rs 4 (es.map Ext'.v) es.length), (7, .sl co gl 2 0 len), (8, .int .i64 n), (9, .ptr y 0 4 0 0), (10, .ptr x 0 2 0 0), (11, .int .i64 i)]⟩ S =
    loopL (some [1, 5, 7, 8, 9, 10, 11]) (S.top, S.pin) (kC (ev Q) loopL b18x3) ⟨110, [(1, .ptr x0 0 2 0 0), (5, .rs 4 (es.map Ext'.v) es.length), (7, .sl co gl 2 0 len), (8, .int .i64 n), (9, .ptr y 0 4 0 0), (10, .ptr x 0 2 0 0), (11, .int .i64 (i + 1 : Nat))]⟩
      ((S.put c (.cells 3 ((layStep X e).slots.map Slot'.v) (g + 1) lo)).put x (.cells 2 [[.int .i64 (layStep X e).size, .sl c (g + 1) 3 0 (layStep X e).slots.length]] 0 0)) := by
  have hcl := get_lt _ _ hc
  have hxl := get_lt _ _ hx
  have hyl := get_lt _ _ hy
  have hyx : y < x := by omega
  have hsb := slot_bd hd X.size
  have h1 := fun n S => rslot_ev e n S
  have h1' : ∀ n, rslotN e n = slotN e n := fun n => rslot_eq hd n
  have h2 := fun S => rplus13_ev X.size (slotN e X.size).size hX hsb S
  have hlt : k < es.length := (List.getElem?_eq_some_iff.1 he).1
  have hlt' : (k : Int) < es.length := by omega
  have hek : es[k] = e := by rw [List.getElem?_eq_getElem hlt] at he; exact Option.some.inj he
  have hi' : (i : Int) < t.parts.length := by omega
  have w3 : IntKind.i64.wrap ((i : Int) + 1) = (i : Int) + 1 := wrap64 (by omega) (by omega)
  have hmx : max x0 (max co x) + 1 ≤ S.top := by omega
  have hby : (X.slots.length + 1) * 24 ≤ 140737488355328 := by omega
  simp only [Ext'.v, Slot'.v, h1'] at h1
  obtain ⟨sz, sl⟩ := X
  rw [loopL_eq]
  generalize loopL (some [1, 5, 7, 8, 9, 10, 11]) (S.top, S.pin) (kC (ev Q) loopL b18x3) = F
  simp at hby
  simp [kC, b18x3, layStep, Ext'.v, Slot'.v, Typ.v, hc, hlo, hx, hy, hr, hi', hek, hlt, hlt', below hcl, below hxl, below hyl, below hcx, below hyc, below hyx, h1, h2, w3, hmx, hby]
end Mev

/- The document's answer, one equation each: layouts. -/

set_option maxRecDepth 100000
namespace Mev
open Go Go.Proofs

theorem layStep_bd {d : Int} (l : List Ext') : ∀ X : Lay', 0 ≤ X.size → X.size ≤ 4611686018427387904 → 0 ≤ (l.foldl layStep X).size ∧ (l.foldl layStep X).size ≤ 4611686018427387904 := by
  induction l with
  | nil => intro X h1 h2; exact ⟨h1, h2⟩
  | cons e l ih => intro X _ _; exact ih _ (plus_bd _ _).1 (plus_bd _ _).2

theorem rlay_loop (c x y x0 co lo gl len n : Nat) (d : Int) (es : List Ext') (t : Typ) (hcx : c < x) (hyc : y < c) (hlen : t.parts.length ≤ 64) (hb : below_ t es.length) (hE : ∀ p ∈ t.parts, EOK (partE es p) d) : ∀ (m i : Nat) (S : St) (X : Lay') (g : Nat), i + m = t.parts.length → X.slots.length = i → lo ≤ g → 0 ≤ X.size ∧ X.size ≤ 4611686018427387904 → x0 < S.top → co < S.top →
    S.get c = some (.cells 3 (X.slots.map Slot'.v) g lo) → S.get x = some (.cells 2 [[.int .i64 X.size, .sl c g 3 0 X.slots.length]] 0 0) → S.get y = some (.cells 4 [t.v] 0 0) →
    ∃ g', lo ≤ g' ∧ ∃ l, loopL (some [1, 5, 7, 8, 9, 10, 11]) (S.top, S.pin) (kC (ev Q) loopL b18x3) ⟨110, [(1, .ptr x0 0 2 0 0), (5, .rs 4 (es.map Ext'.v) es.length), (7, .sl co gl 2 0 len), (8, .int .i64 n), (9, .ptr y 0 4 0 0), (10, .ptr x 0 2 0 0), (11, .int .i64 i)]⟩ S =
      some (.exit 3, ⟨110, l⟩, (S.put c (.cells 3 ((((t.parts.drop i).map (partE es)).foldl layStep X).slots.map Slot'.v) g' lo)).put x (.cells 2 [[.int .i64 (((t.parts.drop i).map (partE es)).foldl layStep X).size, .sl c g' 3 0 (((t.parts.drop i).map (partE es)).foldl layStep X).slots.length]] 0 0)) ∧
      look 1 l = .ptr x0 0 2 0 0 ∧ look 5 l = .rs 4 (es.map Ext'.v) es.length ∧ look 7 l = .sl co gl 2 0 len ∧ look 8 l = .int .i64 n ∧ look 10 l = .ptr x 0 2 0 0 := by
  intro m
  induction m with
  | zero =>
    intro i S X g hi hn hlo hX hx0 hco hc hx hy
    have h1 : ¬ ((i : Int) < t.parts.length) := by omega
    refine ⟨g, hlo, [(45, .bool false), (44, .int .i64 t.parts.length), (43, .rs 3 (t.parts.map partV ++ t.spare) t.parts.length), (42, .ptr y 0 4 0 3), (41, .int .i64 i), (1, .ptr x0 0 2 0 0), (5, .rs 4 (es.map Ext'.v) es.length), (7, .sl co gl 2 0 len), (8, .int .i64 n), (9, .ptr y 0 4 0 0), (10, .ptr x 0 2 0 0), (11, .int .i64 i)], ?_, by simp, by simp, by simp, by simp, by simp⟩
    rw [List.drop_of_length_le (by omega)]
    simp only [List.map_nil, List.foldl_nil]
    rw [put_self S _ hc, put_self S _ hx, loopL_eq]
    simp [kC, b18x3, h1, hy, Typ.v]
  | succ m ih =>
    intro i S X g hi hn hlo hX hx0 hco hc hx hy
    have hil : i < t.parts.length := by omega
    have hp : t.parts[i]? = some t.parts[i] := List.getElem?_eq_getElem hil
    obtain ⟨h1, h2⟩ := part_get hb hp
    have hxl := get_lt _ _ hx
    have hcl := get_lt _ _ hc
    have hyx : y < x := by omega
    rw [rlay_round S c x y x0 co g lo gl len n i _ d es X _ t _ _ (hE _ (List.mem_of_getElem? hp)) hc hlo hx hy hcx hyc hx0 hco h1 hil hlen (by omega) h2 hX]
    obtain ⟨g', h0, l, h3, h4⟩ := ih (i + 1) ((S.put c (.cells 3 ((layStep X (partE es t.parts[i])).slots.map Slot'.v) (g + 1) lo)).put x (.cells 2 [[.int .i64 (layStep X (partE es t.parts[i])).size, .sl c (g + 1) 3 0 (layStep X (partE es t.parts[i])).slots.length]] 0 0)) (layStep X (partE es t.parts[i])) (g + 1) (by omega) (by simp [layStep, hn]) (by omega) (plus_bd _ _) (by simpa using hx0) (by simpa using hco)
      (by rw [put_get_if, if_neg (fun h => (by omega : x ≠ c) h.1), put_get_if, if_pos ⟨rfl, hcl⟩]) (by rw [put_get_if, if_pos ⟨rfl, by simpa using hxl⟩]) (by rw [put_get_if, if_neg (fun h => (by omega : x ≠ y) h.1), put_get_if, if_neg (fun h => (by omega : c ≠ y) h.1)]; exact hy)
    refine ⟨g', h0, l, ?_, h4⟩
    simp only [top_put, pin_put] at h3
    rw [h3, List.drop_eq_getElem_cons hil, put_comm (h := (by omega : x ≠ c))]
    simp only [put_put, List.map_cons, List.foldl_cons]

theorem rof_round (S : St) (x0 co g i : Nat) (d : Int) (ts : List Typ) (sp : List (List V)) (rv : V) (t : Typ) (es : List Ext') (ls : List Lay') (hx0 : S.get x0 = some (.cells 2 [[tsV ts sp, rv]] 0 0)) (hc : S.get co = some (.cells 2 (ls.map Lay'.v) g 0)) (hne : x0 ≠ co) (hi : i < ts.length) (hn : ts.length ≤ 1048576) (he : es.length = ts.length) (hl : ls.length = i) (ht : ts[i]? = some t) (hw : WfT t i) (hE : ∀ (j : Nat) e, es[j]? = some e → EOK e d) :
    loopL (some [1, 5, 7, 8]) (S.top, S.pin) (kC (ev Q) loopL b18x0) ⟨110, [(1, .ptr x0 0 2 0 0), (5, .rs 4 (es.map Ext'.v) es.length), (7, .sl co g 2 0 ls.length), (8, .int .i64 i)]⟩ S =
    loopL (some [1, 5, 7, 8]) (S.top, S.pin) (kC (ev Q) loopL b18x0) ⟨110, [(1, .ptr x0 0 2 0 0), (5, .rs 4 (es.map Ext'.v) es.length), (7, .sl co (g + 1) 2 0 (ls ++ [layN es t]).length), (8, .int .i64 (i + 1 : Nat))]⟩ (S.put co (.cells 2 ((ls ++ [layN es t]).map Lay'.v) (g + 1) 0)) := by
  have hcl := get_lt _ _ hc
  have hxl := get_lt _ _ hx0
  have hi' : (i : Int) < ts.length := by omega
  have w3 : IntKind.i64.wrap ((i : Int) + 1) = (i : Int) + 1 := wrap64 (by omega) (by omega)
  have hmx : max x0 co + 1 ≤ S.top := by omega
  have hby : (i + 1) * 32 ≤ 140737488355328 := by omega
  have hrow : (ts.map Typ.v ++ sp)[i]? = some t.v := by
    rw [List.getElem?_append_left (by simpa using hi), List.getElem?_map, ht]; rfl
  have hpl := hw.fine.1
  have hb : below_ t es.length := fun p hp => by have := hw.fine.2 p hp; omega
  have hEp : ∀ p ∈ t.parts, EOK (partE es p) d := fun p hp => by
    have := hb p hp
    exact hE p.2.2.toNat _ (getD_some (by omega) default)
  have hkbs := fun l => kbLL_slot l
  have hnum := hw.num
  unfold numberB at hnum
  by_cases k8 : t.kind = 8
  · obtain ⟨g', h0, l, h1, h2, h3, h4, h5, h6⟩ := rlay_loop (S.top + 1) (S.top + 2) S.top x0 co 0 g i i d es t (by omega) (by omega) hpl hb hEp t.parts.length 0
      (((S.push (.cells 4 [t.v] 0 0)).push (.cells 3 [] 0 0)).push (.cells 2 [[.int .i64 0, .sl (S.top + 1) 0 3 0 0]] 0 0)) ⟨0, []⟩ 0 (by omega) rfl (by omega) (by simp) (by simp; omega) (by simp; omega) (by simp) (by simp) (by simp)
    have hlay : layN es t = structL es t := by simp only [layN, k8, if_true]
    rw [hlay]
    have hsl : ((t.parts.drop 0).map (partE es)).foldl layStep ⟨0, []⟩ = structL es t := rfl
    rw [hsl] at h1
    generalize structL es t = X at *
    obtain ⟨xs, xl⟩ := X
    subst hl
    simp only [tsV, Typ.v] at hx0 hrow h1
    generalize ts.map Typ.v ++ sp = rows at *
    generalize hES : es.map Ext'.v = E at *
    rw [k8] at h1
    rw [loopL_eq]
    generalize loopL (some [1, 5, 7, 8]) (S.top, S.pin) (kC (ev Q) loopL b18x0) = F
    simp at h1
    simp [kC, b18x0, hx0, hrow, hi', k8, below hcl, below hxl, h1, h2, h3, h4, h5, h6, hc, Lay'.v, hkbs, set_mk, w3, hmx, hby]
  have hel : ∀ h : t.kind = 4 ∨ t.kind = 5 ∨ t.kind = 6, t.elem = (t.elem.toNat : Int) ∧ es[t.elem.toNat]? = some (es.getD t.elem.toNat default) := by
    intro h
    have := hw.elem h
    have hl : t.elem.toNat < es.length := by omega
    exact ⟨by omega, getD_some hl default⟩
  by_cases k4 : t.kind = 4
  · obtain ⟨he1, he2⟩ := hel (Or.inl k4)
    have hlt : t.elem.toNat < es.length := (List.getElem?_eq_some_iff.1 he2).1
    have hlt' : t.elem < es.length := by omega
    have he0 : 0 ≤ t.elem := by omega
    have hex : (es.map Ext'.v)[t.elem.toNat]? = some (es.getD t.elem.toNat default).v := by rw [List.getElem?_map, he2]; rfl
    have hed := hE _ _ he2
    have hnn : 0 ≤ t.n ∧ t.n ≤ 4611686018427387904 := by rw [k4] at hnum; simp at hnum; omega
    have h1 := fun S => rslot_ev (es.getD t.elem.toNat default) 0 S
    have h2 := fun S => rtimes13_ev t.n (slotN (es.getD t.elem.toNat default) 0).size hnn (slot_bd hed 0) S
    rw [rslot_eq hed] at h1
    have hlay : layN es t = ⟨timesI t.n (slotN (es.getD t.elem.toNat default) 0).size, [slotN (es.getD t.elem.toNat default) 0]⟩ := by simp only [layN, k4]; simp [times_eq]
    rw [hlay]
    generalize slotN (es.getD t.elem.toNat default) 0 = s at *
    generalize es.getD t.elem.toNat default = e at *
    obtain ⟨e1, e2, e3, e4⟩ := e
    obtain ⟨s1, s2, s3⟩ := s
    generalize timesI t.n s3 = tm at *
    subst hl
    simp only [tsV, Typ.v] at hx0 hrow
    simp only [Ext'.v, Slot'.v] at hex h1
    generalize ts.map Typ.v ++ sp = rows at *
    generalize hES : es.map Ext'.v = E at *
    rw [loopL_eq]
    generalize loopL (some [1, 5, 7, 8]) (S.top, S.pin) (kC (ev Q) loopL b18x0) = F
    simp [kC, b18x0, hx0, hrow, hi', k4, below hcl, below hxl, hex, hlt, hlt', he0, h1, h2, hc, Lay'.v, Slot'.v, set_mk, w3, hmx, hby]
  by_cases k5 : t.kind = 5
  · obtain ⟨he1, he2⟩ := hel (Or.inr (Or.inl k5))
    have hlt : t.elem.toNat < es.length := (List.getElem?_eq_some_iff.1 he2).1
    have hlt' : t.elem < es.length := by omega
    have he0 : 0 ≤ t.elem := by omega
    have hex : (es.map Ext'.v)[t.elem.toNat]? = some (es.getD t.elem.toNat default).v := by rw [List.getElem?_map, he2]; rfl
    have hed := hE _ _ he2
    have h1 := fun S => rslot_ev (es.getD t.elem.toNat default) 0 S
    rw [rslot_eq hed] at h1
    have hlay : layN es t = ⟨0, [slotN (es.getD t.elem.toNat default) 0]⟩ := by simp only [layN, k5]; simp
    rw [hlay]
    generalize slotN (es.getD t.elem.toNat default) 0 = s at *
    generalize es.getD t.elem.toNat default = e at *
    obtain ⟨e1, e2, e3, e4⟩ := e
    obtain ⟨s1, s2, s3⟩ := s
    subst hl
    simp only [tsV, Typ.v] at hx0 hrow
    simp only [Ext'.v, Slot'.v] at hex h1
    generalize ts.map Typ.v ++ sp = rows at *
    generalize hES : es.map Ext'.v = E at *
    rw [loopL_eq]
    generalize loopL (some [1, 5, 7, 8]) (S.top, S.pin) (kC (ev Q) loopL b18x0) = F
    simp [kC, b18x0, hx0, hrow, hi', k5, below hcl, below hxl, hex, hlt, hlt', he0, h1, hc, Lay'.v, Slot'.v, set_mk, w3, hmx, hby]
  · have hlay : layN es t = ⟨0, []⟩ := by simp only [layN, k8, k4, k5, if_false]
    rw [hlay]
    subst hl
    simp only [tsV, Typ.v] at hx0 hrow
    generalize ts.map Typ.v ++ sp = rows at *
    generalize hES : es.map Ext'.v = E at *
    rw [loopL_eq]
    generalize loopL (some [1, 5, 7, 8]) (S.top, S.pin) (kC (ev Q) loopL b18x0) = F
    simp [kC, b18x0, hx0, hrow, hi', k8, k4, k5, below hcl, below hxl, hc, Lay'.v, set_mk, w3, hmx, hby]

theorem rof_loop (x0 co : Nat) (d : Int) (ts : List Typ) (sp : List (List V)) (rv : V) (hw : WfTs ts) (hn : ts.length ≤ 1048576) (es : List Ext') (he : es.length = ts.length) (hE : ∀ (j : Nat) e, es[j]? = some e → EOK e d) (hne : x0 ≠ co) : ∀ (m : Nat) (S : St) (ls : List Lay') (g : Nat), ls.length + m = ts.length → S.get x0 = some (.cells 2 [[tsV ts sp, rv]] 0 0) → S.get co = some (.cells 2 (ls.map Lay'.v) g 0) →
    ∃ g' l, loopL (some [1, 5, 7, 8]) (S.top, S.pin) (kC (ev Q) loopL b18x0) ⟨110, [(1, .ptr x0 0 2 0 0), (5, .rs 4 (es.map Ext'.v) es.length), (7, .sl co g 2 0 ls.length), (8, .int .i64 ls.length)]⟩ S =
      some (.exit 0, ⟨110, l⟩, S.put co (.cells 2 ((ls ++ (ts.drop ls.length).map (layN es)).map Lay'.v) g' 0)) ∧ look 7 l = .sl co g' 2 0 (ls ++ (ts.drop ls.length).map (layN es)).length := by
  intro m
  induction m with
  | zero =>
    intro S ls g hl hx0 hc
    have h1 : ¬ ((ls.length : Int) < ts.length) := by omega
    have hp := put_self _ _ hc
    rw [List.drop_of_length_le (by omega)]
    simp only [List.map_nil, List.append_nil]
    refine ⟨g, [(28, .bool false), (27, .int .i64 ts.length), (26, tsV ts sp), (25, .ptr x0 0 2 0 0), (24, .int .i64 ls.length), (1, .ptr x0 0 2 0 0), (5, .rs 4 (es.map Ext'.v) es.length), (7, .sl co g 2 0 ls.length), (8, .int .i64 ls.length)], ?_, by simp⟩
    rw [hp, loopL_eq]
    simp [kC, b18x0, h1, hx0, tsV]
  | succ m ih =>
    intro S ls g hl hx0 hc
    have hil : ls.length < ts.length := by omega
    have ht : ts[ls.length]? = some ts[ls.length] := List.getElem?_eq_getElem hil
    have hcl := get_lt _ _ hc
    rw [rof_round S x0 co g ls.length d ts sp rv ts[ls.length] es ls hx0 hc hne hil hn he rfl ht (hw _ _ ht) hE]
    obtain ⟨g', l, h1, h2⟩ := ih (S.put co (.cells 2 ((ls ++ [layN es ts[ls.length]]).map Lay'.v) (g + 1) 0)) (ls ++ [layN es ts[ls.length]]) (g + 1) (by simp; omega) (by rw [put_get_if, if_neg (fun h => hne h.1.symm)]; exact hx0) (by rw [put_get_if, if_pos ⟨rfl, hcl⟩])
    have hlen : (ls ++ [layN es ts[ls.length]]).length = ls.length + 1 := by simp
    have happ : ls ++ [layN es ts[ls.length]] ++ (ts.drop (ls.length + 1)).map (layN es) = ls ++ (ts.drop ls.length).map (layN es) := by
      rw [List.drop_eq_getElem_cons hil, List.map_cons, List.append_assoc]; rfl
    rw [hlen] at h1 h2
    rw [happ] at h1 h2
    simp only [top_put, pin_put, put_put] at h1
    exact ⟨g', l, by rw [hlen]; exact h1, h2⟩
end Mev

/- The document's answer, one equation each: each type's extent, each type's layout. -/

set_option maxRecDepth 100000
namespace Mev
open Go Go.Proofs

theorem rone_ev (S : St) (t : Typ) (es : List Ext') (id g lo : Nat) (hg : S.get id = some (.cells 4 (es.map Ext'.v) g lo)) (hlo : lo ≤ g) (hw : WfT t es.length) :
    ev Q 34 [.agg t.v, .sl id g 4 0 es.length] S = some (.ret (.agg (roneN es t).v), S) := by
  have hpl : t.parts.length ≤ 1073741824 := by have := hw.fine.1; omega
  have hel : ∀ h : t.kind = 4 ∨ t.kind = 5 ∨ t.kind = 6, t.elem = (t.elem.toNat : Int) ∧ es[t.elem.toNat]? = some (es.getD t.elem.toNat default) := by
    intro h
    have := hw.elem h
    have hl : t.elem.toNat < es.length := by omega
    exact ⟨by omega, getD_some hl default⟩
  unfold roneN
  rcases hw.kind with h | h | h | h | h | h | h | h
  · rw [rone1 S t _ h]; simp [h]
  · rw [rone2 S t _ h]; simp [h]
  · rw [rone3 S t _ h]; simp [h]
  · have he := hel (Or.inl h)
    rw [rone4 S t es id g lo hg hlo _ _ he.1 he.2 h]; simp [h]
  · have he := hel (Or.inr (Or.inl h))
    rw [rone5 S t es id g lo hg hlo _ _ he.1 he.2 h]; simp [h]
  · have he := hel (Or.inr (Or.inr h))
    rw [rone6 S t es id g lo hg hlo _ _ he.1 he.2 h]; simp [h]
  · rw [rone7 S t es id g lo hg hlo hpl hw.fine.2 (hw.parts (Or.inl h)) h]; simp [h]
  · rw [rone8 S t es id g lo hg hlo hpl hw.fine.2 h]; simp [h]

theorem rsz_round (S : St) (x0 c g i : Nat) (ts : List Typ) (sp : List (List V)) (rv : V) (t : Typ) (es : List Ext') (hx0 : S.get x0 = some (.cells 2 [[tsV ts sp, rv]] 0 0)) (hc : S.get c = some (.cells 4 (es.map Ext'.v) g 0)) (hne : x0 ≠ c) (hi : i < ts.length) (hn : ts.length ≤ 1048576) (he : es.length = i) (ht : ts[i]? = some t) (hw : WfT t i) :
    loopL (some [1, 5, 6]) (S.top, S.pin) (kC (ev Q) loopL b17x0) ⟨32, [(1, .ptr x0 0 2 0 0), (5, .sl c g 4 0 es.length), (6, .int .i64 i)]⟩ S =
    loopL (some [1, 5, 6]) (S.top, S.pin) (kC (ev Q) loopL b17x0) ⟨32, [(1, .ptr x0 0 2 0 0), (5, .sl c (g + 1) 4 0 (es ++ [roneN es t]).length), (6, .int .i64 (i + 1 : Nat))]⟩ (S.put c (.cells 4 ((es ++ [roneN es t]).map Ext'.v) (g + 1) 0)) := by
  have hcl := get_lt _ _ hc
  have hxl := get_lt _ _ hx0
  have hi' : (i : Int) < ts.length := by omega
  have w3 : IntKind.i64.wrap ((i : Int) + 1) = (i : Int) + 1 := wrap64 (by omega) (by omega)
  have hmx : max x0 c + 1 ≤ S.top := by omega
  have hrow : (ts.map Typ.v ++ sp)[i]? = some t.v := by
    rw [List.getElem?_append_left (by simpa using hi), List.getElem?_map, ht]; rfl
  have hx := rone_ev S t es c g 0 hc (by omega) (by rw [he]; exact hw)
  have hby : (i + 1) * 32 ≤ 140737488355328 := by omega
  simp only [tsV, Typ.v] at hx0 hrow hx
  rw [loopL_eq]
  generalize loopL (some [1, 5, 6]) (S.top, S.pin) (kC (ev Q) loopL b17x0) = F
  generalize hX : roneN es t = X at hx ⊢
  obtain ⟨x1, x2, x3, x4⟩ := X
  subst he
  generalize ts.map Typ.v ++ sp = rows at *
  simp only [Ext'.v] at hx
  simp [kC, b17x0, hx0, hc, hi', hrow, Ext'.v, hx, below hcl, below hxl, w3, hmx, hby]

theorem rsz_loop (x0 c : Nat) (ts : List Typ) (sp : List (List V)) (rv : V) (hw : WfTs ts) (hn : ts.length ≤ 1048576) (hne : x0 ≠ c) : ∀ (m : Nat) (S : St) (es : List Ext') (g : Nat), es.length + m = ts.length → S.get x0 = some (.cells 2 [[tsV ts sp, rv]] 0 0) → S.get c = some (.cells 4 (es.map Ext'.v) g 0) →
    ∃ g' l, loopL (some [1, 5, 6]) (S.top, S.pin) (kC (ev Q) loopL b17x0) ⟨32, [(1, .ptr x0 0 2 0 0), (5, .sl c g 4 0 es.length), (6, .int .i64 es.length)]⟩ S =
      some (.exit 0, ⟨32, l⟩, S.put c (.cells 4 ((scan roneN es (ts.drop es.length)).map Ext'.v) g' 0)) ∧ look 5 l = .sl c g' 4 0 (scan roneN es (ts.drop es.length)).length := by
  intro m
  induction m with
  | zero =>
    intro S es g hl hx0 hc
    have h1 : ¬ ((es.length : Int) < ts.length) := by omega
    have hp := put_self _ _ hc
    rw [List.drop_of_length_le (by omega)]
    simp only [scan]
    refine ⟨g, [(18, .bool false), (17, .int .i64 ts.length), (16, tsV ts sp), (15, .ptr x0 0 2 0 0), (14, .int .i64 es.length), (1, .ptr x0 0 2 0 0), (5, .sl c g 4 0 es.length), (6, .int .i64 es.length)], ?_, rfl⟩
    rw [hp, loopL_eq]
    simp [kC, b17x0, h1, hx0, tsV]
  | succ m ih =>
    intro S es g hl hx0 hc
    have hil : es.length < ts.length := by omega
    have ht : ts[es.length]? = some ts[es.length] := List.getElem?_eq_getElem hil
    have hcl := get_lt _ _ hc
    rw [rsz_round S x0 c g es.length ts sp rv ts[es.length] es hx0 hc hne hil hn rfl ht (hw _ _ ht)]
    obtain ⟨g', l, h1, h2⟩ := ih (S.put c (.cells 4 ((es ++ [roneN es ts[es.length]]).map Ext'.v) (g + 1) 0)) (es ++ [roneN es ts[es.length]]) (g + 1) (by simp; omega) (by rw [put_get_if, if_neg (fun h => hne h.1.symm)]; exact hx0) (by rw [put_get_if, if_pos ⟨rfl, hcl⟩])
    have hlen : (es ++ [roneN es ts[es.length]]).length = es.length + 1 := by simp
    have happ : scan roneN (es ++ [roneN es ts[es.length]]) (ts.drop (es.length + 1)) = scan roneN es (ts.drop es.length) := by
      rw [List.drop_eq_getElem_cons hil, scan]
    rw [hlen, happ] at h1 h2
    simp only [top_put, pin_put, put_put] at h1
    exact ⟨g', l, by rw [hlen]; exact h1, h2⟩

theorem exts_eq (ts : List Typ) (hw : WfTs ts) (hn : ts.length ≤ 1048576) : scan roneN [] ts = extsN ts ∧ ∀ (j : Nat) e, (extsN ts)[j]? = some e → EOK e ts.length := by
  have h := scan_ext ts [] (fun i t ht => by simpa using hw i t ht) (by simpa using hn) (fun j e he => by simp at he)
  simpa [extsN] using h

theorem rsizeOf_ev (ts : List Typ) (sp : List (List V)) (hn : ts.length ≤ 1048576) (rv : V) (hkb : rv.kb = 0) (hw : WfTs ts) (a : Int) (hC : Pure 16 [.agg [tsV ts sp, rv]] (.agg [.int .i64 0, .int .i64 a])) :
    Pure 17 [.agg [tsV ts sp, rv]] (.tup [extsV ts, .int .i64 0]) := by
  intro S
  obtain ⟨g', l, h1, h2⟩ := rsz_loop S.top (S.top + 2) ts sp rv hw hn (by omega) ts.length (((S.push (.cells 2 [[tsV ts sp, rv]] 0 0)).push (.cells 2 [[.int .i64 0, .int .i64 a]] 0 0)).push (.cells 4 [] 0 0)) [] 0 (by simp) (by simp) (by simp)
  have heq : scan roneN [] (ts.drop 0) = extsN ts := (exts_eq ts hw hn).1
  simp only [List.length_nil] at h1 h2
  rw [heq] at h1 h2
  rw [ev_eq q17, c17, evFn_eq _ _ _ _ _ _ _ (by simp)]
  have hk := kbLL_ext (extsN ts)
  simp only [extsV]
  generalize hXV : extsN ts = XS at *
  simp only [tsV] at hC h1
  simp at h1 h2
  simp [tsV, hC _, h1, h2, hkb, hk, set_mk]

theorem rlayoutOf_ev (ts : List Typ) (sp : List (List V)) (hn : ts.length ≤ 1048576) (rv : V) (hkb : rv.kb = 0) (hw : WfTs ts) (a : Int) (hC : Pure 16 [.agg [tsV ts sp, rv]] (.agg [.int .i64 0, .int .i64 a])) :
    Pure 18 [.agg [tsV ts sp, rv]] (.tup [laysV ts, .int .i64 0]) := by
  intro S
  have hS := rsizeOf_ev ts sp hn rv hkb hw a hC
  obtain ⟨g', l, h1, h2⟩ := rof_loop S.top (S.top + 2) ts.length ts sp rv hw hn (extsN ts) (extsN_len ts) (exts_eq ts hw hn).2 (by omega) ts.length (((S.push (.cells 2 [[tsV ts sp, rv]] 0 0)).push (.cells 2 [[.int .i64 0, .int .i64 a]] 0 0)).push (.cells 2 [] 0 0)) [] 0 (by simp) (by simp) (by simp)
  have heq : ([] : List Lay') ++ (ts.drop 0).map (layN (extsN ts)) = laysN ts := rfl
  simp only [List.length_nil] at h1 h2
  rw [heq] at h1 h2
  have hk := kbLL_lay (laysN ts)
  rw [ev_eq q18, c18, evFn_eq _ _ _ _ _ _ _ (by simp)]
  simp only [extsV] at hS
  simp only [laysV]
  generalize laysN ts = LS at *
  simp only [tsV] at hC hS h1
  simp at h1 h2
  simp [tsV, hC _, hS _, h1, h2, hkb, hk, set_mk]
end Mev
