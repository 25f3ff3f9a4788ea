/- The program's functions, one equation each: extents, whole. -/
import Derived.Test.YtfndbddlicbjpaaMevW3

set_option maxRecDepth 100000
namespace Mev
open Go Go.Proofs

/-- a type's parts are of types below -/
def below_ (t : Typ) (n : Nat) : Prop := ∀ p ∈ t.parts, 0 ≤ p.2.2 ∧ p.2.2 < n
def partE (es : List Ext') (p : List UInt8 × Int × Int) : Ext' := es.getD p.2.2.toNat default

theorem part_get {t : Typ} {es : List Ext'} (hb : below_ t es.length) {i : Nat} {p : List UInt8 × Int × Int} (hp : t.parts[i]? = some p) :
    (t.parts.map partV ++ t.spare)[i]? = some [.str p.1, .int .i64 p.2.1, .int .i64 p.2.2.toNat] ∧ es[p.2.2.toNat]? = some (partE es p) := by
  obtain ⟨h1, h2⟩ := hb p (List.mem_of_getElem? hp)
  have hi := (List.getElem?_eq_some_iff.1 hp).1
  refine ⟨?_, ?_⟩
  · rw [List.getElem?_append_left (by simpa using hi), List.getElem?_map, hp]
    simp [partV, Int.toNat_of_nonneg h1]
  · have hl : p.2.2.toNat < es.length := by omega
    simp [partE, List.getElem?_eq_getElem hl, List.getD_eq_getElem?_getD]

theorem struct_loop (id x y g lo : Nat) (es : List Ext') (t : Typ) (hlo : lo ≤ g) (hne : id ≠ x) (hlen : t.parts.length ≤ 1073741824) (hb : below_ t es.length) : ∀ (m i : Nat) (S : St) (X : Ext'), i + m = t.parts.length →
    S.get id = some (.cells 4 (es.map Ext'.v) g lo) → S.get x = some (.cells 4 [X.v] 0 0) → y < S.top →
    ∃ l, loopL (some [1, 4, 5, 133, 134, 135]) (S.top, S.pin) (kC (ev Q) loopL b23x11) ⟨178, [(1, .sl id g 4 0 es.length), (4, .ptr y 0 4 0 0), (5, .ptr x 0 4 0 0), (133, .rs 3 (t.parts.map partV ++ t.spare) t.parts.length), (134, .int .i64 t.parts.length), (135, .int .i64 i)]⟩ S =
      some (.exit 11, ⟨178, l⟩, S.put x (.cells 4 [(((t.parts.drop i).map (partE es)).foldl structStep X).v] 0 0)) ∧ look 4 l = .ptr y 0 4 0 0 ∧ look 5 l = .ptr x 0 4 0 0 := by
  intro m
  induction m with
  | zero =>
    intro i S X hi hg hx hy
    have h1 : ¬ ((i : Int) < t.parts.length) := by omega
    have hp : S.put x (.cells 4 [X.v] 0 0) = S := put_self S _ hx
    rw [loopL_eq, List.drop_of_length_le (by omega)]
    simp [kC, b23x11, h1, hp]
  | succ m ih =>
    intro i S X hi hg hx hy
    have hil : i < t.parts.length := by omega
    obtain ⟨h1, h2⟩ := part_get hb (List.getElem?_eq_getElem hil)
    have hr := struct_round S id x y g lo es X _ _ _ i _ _ _ hg hlo hx hne hy h1 hil hlen h2
    have hxl := get_lt _ _ hx
    obtain ⟨l, h3, h4⟩ := ih (i + 1) (S.put x (.cells 4 [(structStep X (partE es t.parts[i])).v] 0 0)) _ (by omega) (by rw [put_get_if, if_neg (fun h => hne h.1.symm)]; exact hg) (by rw [put_get_if, if_pos ⟨rfl, hxl⟩]) (by simpa using hy)
    rw [List.drop_eq_getElem_cons hil]
    refine ⟨l, ?_, h4⟩
    rw [hr]
    simp only [top_put, pin_put, put_put] at h3
    rw [h3]
    rfl

end Mev
namespace Mev
open Go Go.Proofs

theorem union_loop (id x y g lo : Nat) (es : List Ext') (t : Typ) (hlo : lo ≤ g) (hne : id ≠ x) (hlen : t.parts.length ≤ 1073741824) (hb : below_ t es.length) : ∀ (m i : Nat) (S : St) (X : Int × Ext'), i + m = t.parts.length →
    S.get id = some (.cells 4 (es.map Ext'.v) g lo) → S.get x = some (.cells 4 [X.2.v] 0 0) → y < S.top →
    ∃ l, loopL (some [1, 4, 5, 9, 96, 97, 98]) (S.top, S.pin) (kC (ev Q) loopL b23x9) ⟨178, [(1, .sl id g 4 0 es.length), (4, .ptr y 0 4 0 0), (5, .ptr x 0 4 0 0), (9, .int .i64 X.1), (96, .rs 3 (t.parts.map partV ++ t.spare) t.parts.length), (97, .int .i64 t.parts.length), (98, .int .i64 i)]⟩ S =
      some (.exit 9, ⟨178, l⟩, S.put x (.cells 4 [(((t.parts.drop i).map (partE es)).foldl unionStep X).2.v] 0 0)) ∧ look 4 l = .ptr y 0 4 0 0 ∧ look 5 l = .ptr x 0 4 0 0 ∧ look 9 l = .int .i64 (((t.parts.drop i).map (partE es)).foldl unionStep X).1 := by
  intro m
  induction m with
  | zero =>
    intro i S X hi hg hx hy
    have h1 : ¬ ((i : Int) < t.parts.length) := by omega
    have hp : S.put x (.cells 4 [X.2.v] 0 0) = S := put_self S _ hx
    rw [loopL_eq, List.drop_of_length_le (by omega)]
    simp [kC, b23x9, h1, hp]
  | succ m ih =>
    intro i S X hi hg hx hy
    have hil : i < t.parts.length := by omega
    obtain ⟨h1, h2⟩ := part_get hb (List.getElem?_eq_getElem hil)
    have hr := union_round S id x y g lo es X _ _ _ i _ _ _ hg hlo hx hne hy h1 hil hlen h2
    have hxl := get_lt _ _ hx
    obtain ⟨l, h3, h4⟩ := ih (i + 1) (S.put x (.cells 4 [(unionStep X (partE es t.parts[i])).2.v] 0 0)) (unionStep X (partE es t.parts[i])) (by omega) (by rw [put_get_if, if_neg (fun h => hne h.1.symm)]; exact hg) (by rw [put_get_if, if_pos ⟨rfl, hxl⟩]) (by simpa using hy)
    rw [List.drop_eq_getElem_cons hil]
    refine ⟨l, ?_, h4⟩
    rw [hr]
    simp only [top_put, pin_put, put_put] at h3
    rw [h3]
    rfl

def structN (es : List Ext') (t : Typ) : Ext' := (t.parts.map (partE es)).foldl structStep ⟨true, 0, 0, 1⟩
def unionN (es : List Ext') (t : Typ) : Ext' :=
  let r := (t.parts.map (partE es)).foldl unionStep (4611686018427387904, ⟨false, 0, 0, 1⟩)
  ⟨r.2.fixed, plusN 1 r.1, r.2.most, r.2.depth⟩

theorem ext8 (S : St) (t : Typ) (es : List Ext') (id g lo : Nat) (hg : S.get id = some (.cells 4 (es.map Ext'.v) g lo)) (hlo : lo ≤ g) (hlen : t.parts.length ≤ 1073741824) (hb : below_ t es.length) (h : t.kind = 8) :
    ev Q 23 [.agg t.v, .sl id g 4 0 es.length] S = some (.ret (.agg (structN es t).v), S) := by
  have hid := get_lt _ _ hg
  rw [ev_eq q23, c23, evFn_eq _ _ _ _ _ _ _ (by simp)]
  obtain ⟨l, h1, h2, h3⟩ := struct_loop id (S.top + 2) (S.top + 1) g lo es t hlo (by omega) hlen hb t.parts.length 0
    (((S.push (.cells 4 [t.v] 0 0)).push (.cells 4 [[.bool false, .int .i64 0, .int .i64 0, .int .i64 0]] 0 0)).push (.cells 4 [[.bool true, .int .i64 0, .int .i64 0, .int .i64 1]] 0 0)) ⟨true, 0, 0, 1⟩ (by omega) (by simp [below hid, hg]) (by simp [Ext'.v]) (by simp)
  simp [Typ.v, h] at h1
  simp [Typ.v, Ext'.v, h, h1, h2, h3, structN, below hid]
end Mev
namespace Mev
open Go Go.Proofs
theorem ext7 (S : St) (t : Typ) (es : List Ext') (id g lo : Nat) (hg : S.get id = some (.cells 4 (es.map Ext'.v) g lo)) (hlo : lo ≤ g) (hlen : t.parts.length ≤ 1073741824) (hb : below_ t es.length) (h : t.kind = 7) :
    ev Q 23 [.agg t.v, .sl id g 4 0 es.length] S = some (.ret (.agg (unionN es t).v), S) := by
  have hid := get_lt _ _ hg
  have hpp := plus_push
  rw [ev_eq q23, c23, evFn_eq _ _ _ _ _ _ _ (by simp)]
  obtain ⟨l, h1, h2, h3, h4⟩ := union_loop id (S.top + 2) (S.top + 1) g lo es t hlo (by omega) hlen hb t.parts.length 0
    (((S.push (.cells 4 [t.v] 0 0)).push (.cells 4 [[.bool false, .int .i64 0, .int .i64 0, .int .i64 0]] 0 0)).push (.cells 4 [[.bool false, .int .i64 0, .int .i64 0, .int .i64 1]] 0 0)) (4611686018427387904, ⟨false, 0, 0, 1⟩) (by omega) (by simp [below hid, hg]) (by simp [Ext'.v]) (by simp)
  simp [Typ.v, h] at h1
  simp at h4
  simp [Typ.v, Ext'.v, h, h1, h2, h3, h4, hpp, unionN]
end Mev

/- The program's functions, one equation each: layouts. -/

set_option maxRecDepth 100000
namespace Mev
open Go Go.Proofs

structure Lay' where
  size : Int
  slots : List Slot'
  deriving Inhabited
def Lay'.v (l : Lay') : List V := [.int .i64 l.size, .rs 3 (l.slots.map Slot'.v) l.slots.length]
def layStep (l : Lay') (e : Ext') : Lay' := ⟨plusN l.size (slotN e l.size).size, l.slots ++ [slotN e l.size]⟩

theorem lay_round (S : St) (c x y g lo : Nat) (es : List Ext') (X : Lay') (e : Ext') (rows : List (List V)) (len i k : Nat) (lab : List UInt8) (tag : Int)
    (hc : S.get c = some (.cells 3 (X.slots.map Slot'.v) g lo)) (hlo : lo ≤ g) (hx : S.get x = some (.cells 2 [[.int .i64 X.size, .sl c g 3 0 X.slots.length]] 0 0)) (hcx : c < x) (hy : y < S.top) (hr : rows[i]? = some [.str lab, .int .i64 tag, .int .i64 k]) (hi : i < len) (hlen : len ≤ 1073741824)
    (hn : X.slots.length ≤ 1073741824) (he : es[k]? = some e) :
    loopL (some [1, 4, 5, 15, 16, 17]) (S.top, S.pin) (kC (ev Q) loopL b24x1) ⟨71, [(1, .rs 4 (es.map Ext'.v) es.length), (4, .ptr y 0 2 0 0), (5, .ptr x 0 2 0 0), (15, .rs 3 rows len), (16, .int .i64 len), (17, .int .i64 i)]⟩ S =
    loopL (some [1, 4, 5, 15, 16, 17]) (S.top, S.pin) (kC (ev Q) loopL b24x1) ⟨71, [(1, .rs 4 (es.map Ext'.v) es.length), (4, .ptr y 0 2 0 0), (5, .ptr x 0 2 0 0), (15, .rs 3 rows len), (16, .int .i64 len), (17, .int .i64 (i + 1 : Nat))]⟩
      ((S.put c (.cells 3 ((layStep X e).slots.map Slot'.v) (g + 1) lo)).put x (.cells 2 [[.int .i64 (layStep X e).size, .sl c (g + 1) 3 0 (layStep X e).slots.length]] 0 0)) := by
  have hcl := get_lt _ _ hc
  have hxl := get_lt _ _ hx
  have h1 := fun n S => slot_ev e n S
  have h2 := plus_push
  have hlt : k < es.length := (List.getElem?_eq_some_iff.1 he).1
  have hlt' : (k : Int) < es.length := by omega
  have hek : es[k] = e := by rw [List.getElem?_eq_getElem hlt] at he; exact Option.some.inj he
  have hi' : (i : Int) < len := by omega
  have w3 : IntKind.i64.wrap ((i : Int) + 1) = (i : Int) + 1 := wrap64 (by omega) (by omega)
  have hmx : max y x + 1 ≤ S.top := by omega
  have hby : (X.slots.length + 1) * 24 ≤ 140737488355328 := by omega
  simp only [Ext'.v, Slot'.v] at h1
  obtain ⟨sz, sl⟩ := X
  rw [loopL_eq]
  generalize loopL (some [1, 4, 5, 15, 16, 17]) (S.top, S.pin) (kC (ev Q) loopL b24x1) = F
  simp at hby
  simp [kC, b24x1, layStep, Ext'.v, Slot'.v, hc, hlo, hx, hr, hi', hek, hlt, hlt', below hcl, below hxl, below hy, below hcx, h1, h2, w3, hmx, hby]
end Mev
namespace Mev
open Go Go.Proofs

theorem lay_loop (c x y lo : Nat) (es : List Ext') (t : Typ) (hcx : c < x) (hlen : t.parts.length ≤ 1073741824) (hb : below_ t es.length) : ∀ (m i : Nat) (S : St) (X : Lay') (g : Nat), i + m = t.parts.length → X.slots.length = i → lo ≤ g →
    S.get c = some (.cells 3 (X.slots.map Slot'.v) g lo) → S.get x = some (.cells 2 [[.int .i64 X.size, .sl c g 3 0 X.slots.length]] 0 0) → y < S.top →
    ∃ g', lo ≤ g' ∧ ∃ l, loopL (some [1, 4, 5, 15, 16, 17]) (S.top, S.pin) (kC (ev Q) loopL b24x1) ⟨71, [(1, .rs 4 (es.map Ext'.v) es.length), (4, .ptr y 0 2 0 0), (5, .ptr x 0 2 0 0), (15, .rs 3 (t.parts.map partV ++ t.spare) t.parts.length), (16, .int .i64 t.parts.length), (17, .int .i64 i)]⟩ S =
      some (.exit 1, ⟨71, l⟩, (S.put c (.cells 3 ((((t.parts.drop i).map (partE es)).foldl layStep X).slots.map Slot'.v) g' lo)).put x (.cells 2 [[.int .i64 (((t.parts.drop i).map (partE es)).foldl layStep X).size, .sl c g' 3 0 (((t.parts.drop i).map (partE es)).foldl layStep X).slots.length]] 0 0)) ∧ look 4 l = .ptr y 0 2 0 0 ∧ look 5 l = .ptr x 0 2 0 0 := by
  intro m
  induction m with
  | zero =>
    intro i S X g hi hn hlo hc hx hy
    have h1 : ¬ ((i : Int) < t.parts.length) := by omega
    refine ⟨g, hlo, ?_⟩
    rw [List.drop_of_length_le (by omega)]
    simp only [List.map_nil, List.foldl_nil]
    rw [put_self S _ hc, put_self S _ hx]
    rw [loopL_eq]
    simp [kC, b24x1, h1]
  | succ m ih =>
    intro i S X g hi hn hlo hc hx hy
    have hil : i < t.parts.length := by omega
    obtain ⟨h1, h2⟩ := part_get hb (List.getElem?_eq_getElem hil)
    have hr := lay_round S c x y g lo es X _ _ _ i _ _ _ hc hlo hx hcx hy h1 hil hlen (by omega) h2
    have hxl := get_lt _ _ hx
    have hcl := get_lt _ _ hc
    obtain ⟨g', h0, l, h3, h4⟩ := ih (i + 1) ((S.put c (.cells 3 ((layStep X (partE es t.parts[i])).slots.map Slot'.v) (g + 1) lo)).put x (.cells 2 [[.int .i64 (layStep X (partE es t.parts[i])).size, .sl c (g + 1) 3 0 (layStep X (partE es t.parts[i])).slots.length]] 0 0)) (layStep X (partE es t.parts[i])) (g + 1) (by omega) (by simp [layStep, hn]) (by omega)
      (by rw [put_get_if, if_neg (fun h => (by omega : x ≠ c) h.1), put_get_if, if_pos ⟨rfl, hcl⟩]) (by rw [put_get_if, if_pos ⟨rfl, by simpa using hxl⟩]) (by simpa using hy)
    rw [List.drop_eq_getElem_cons hil]
    refine ⟨g', h0, l, ?_, h4⟩
    rw [hr]
    simp only [top_put, pin_put] at h3
    rw [h3]
    rw [put_comm (h := (by omega : x ≠ c))]
    simp only [put_put, List.map_cons, List.foldl_cons]

def structL (es : List Ext') (t : Typ) : Lay' := (t.parts.map (partE es)).foldl layStep ⟨0, []⟩
theorem layStep_len (l : List Ext') : ∀ X : Lay', (l.foldl layStep X).slots.length = X.slots.length + l.length := by
  induction l with
  | nil => simp
  | cons a l ih => intro X; rw [List.foldl_cons, ih]; simp [layStep]; omega
theorem structL_len (es : List Ext') (t : Typ) : (structL es t).slots.length = t.parts.length := by simp [structL, layStep_len]
end Mev
