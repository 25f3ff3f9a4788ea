/- The program's functions, one equation each: each type's extent. -/
import Derived.Test.YtfndbddlicbjpaaMevW6
import Derived.Test.YtfndbddlicbjpaaMevGh

set_option maxRecDepth 100000
namespace Mev
open Go Go.Proofs

/-- a type's extent, by those below it -/
noncomputable def extN (es : List Ext') (t : Typ) : Ext' :=
  let e := es.getD t.elem.toNat default
  if t.kind = 1 then ⟨true, t.n, t.n, 1⟩ else if t.kind = 2 then ⟨true, 1, 1, 1⟩ else if t.kind = 3 then ⟨false, 1, 10, 1⟩
  else if t.kind = 4 then ⟨e.fixed, timesN t.n (withinN e e.least), timesN t.n (withinN e e.most), IntKind.i64.wrap (1 + e.depth)⟩
  else if t.kind = 5 then ⟨false, 0, timesN t.n (withinN e e.most), IntKind.i64.wrap (1 + e.depth)⟩
  else if t.kind = 6 then ⟨false, 1, plusN 1 e.most, IntKind.i64.wrap (1 + e.depth)⟩
  else if t.kind = 7 then unionN es t else structN es t

theorem ext_ev (S : St) (t : Typ) (es : List Ext') (id g lo : Nat) (hg : S.get id = some (.cells 4 (es.map Ext'.v) g lo)) (hlo : lo ≤ g) (hw : WfT t es.length) :
    ev Q 23 [.agg t.v, .sl id g 4 0 es.length] S = some (.ret (.agg (extN es t).v), S) := by
  have hpl : t.parts.length ≤ 1073741824 := by have := hw.fine.1; omega
  have hel : ∀ h : t.kind = 4 ∨ t.kind = 5 ∨ t.kind = 6, t.elem = (t.elem.toNat : Int) ∧ es[t.elem.toNat]? = some (es.getD t.elem.toNat default) := by
    intro h
    have := hw.elem h
    have hl : t.elem.toNat < es.length := by omega
    exact ⟨by omega, by rw [List.getD_eq_getElem?_getD, List.getElem?_eq_getElem hl]; rfl⟩
  unfold extN
  rcases hw.kind with h | h | h | h | h | h | h | h
  · rw [ext1 S t _ h]; simp [h]
  · rw [ext2 S t _ h]; simp [h]
  · rw [ext3 S t _ h]; simp [h]
  · have he := hel (Or.inl h)
    rw [ext4 S t es id g lo hg hlo _ _ he.1 he.2 h]; simp [h]
  · have he := hel (Or.inr (Or.inl h))
    rw [ext5 S t es id g lo hg hlo _ _ he.1 he.2 h]; simp [h]
  · have he := hel (Or.inr (Or.inr h))
    rw [ext6 S t es id g lo hg hlo _ _ he.1 he.2 h]; simp [h]
  · rw [ext7 S t es id g lo hg hlo hpl hw.fine.2 h]; simp [h]
  · rw [ext8 S t es id g lo hg hlo hpl hw.fine.2 h]; simp [h]

/-- each told by those ahead -/
def scan {α : Type} (f : List α → Typ → α) : List α → List Typ → List α
  | es, [] => es
  | es, t :: r => scan f (es ++ [f es t]) r
theorem scan_len {α : Type} (f : List α → Typ → α) : ∀ (ts : List Typ) (es : List α), (scan f es ts).length = es.length + ts.length := by
  intro ts
  induction ts with
  | nil => intro es; rfl
  | cons t r ih => intro es; rw [scan, ih]; simp; omega

theorem of_round (S : St) (c g i n : Nat) (trows : List (List V)) (t : Typ) (es : List Ext') (hc : S.get c = some (.cells 4 (es.map Ext'.v) g 0)) (hi : i < n) (hn : n ≤ 1073741824) (he : es.length = i) (ht : trows[i]? = some t.v) (hw : WfT t i) :
    loopL (some [5, 16, 17, 18]) (S.top, S.pin) (kC (ev Q) loopL b12x0) ⟨30, [(5, .sl c g 4 0 es.length), (16, .rs 4 trows n), (17, .int .i64 n), (18, .int .i64 i)]⟩ S =
    loopL (some [5, 16, 17, 18]) (S.top, S.pin) (kC (ev Q) loopL b12x0) ⟨30, [(5, .sl c (g + 1) 4 0 (es ++ [extN es t]).length), (16, .rs 4 trows n), (17, .int .i64 n), (18, .int .i64 (i + 1 : Nat))]⟩ (S.put c (.cells 4 ((es ++ [extN es t]).map Ext'.v) (g + 1) 0)) := by
  have hcl := get_lt _ _ hc
  have hi' : (i : Int) < n := by omega
  have w3 : IntKind.i64.wrap ((i : Int) + 1) = (i : Int) + 1 := wrap64 (by omega) (by omega)
  have hmx : c + 1 ≤ S.top := by omega
  have hx := ext_ev (S.push (.cells 4 [t.v] 0 0)) t es c g 0 (by simp [below hcl, hc]) (by omega) (by rw [he]; exact hw)
  have hby : (i + 1) * 32 ≤ 140737488355328 := by omega
  simp only [Typ.v] at hx ht
  rw [loopL_eq]
  generalize loopL (some [5, 16, 17, 18]) (S.top, S.pin) (kC (ev Q) loopL b12x0) = F
  generalize hX : extN es t = X at hx
  obtain ⟨x1, x2, x3, x4⟩ := X
  simp [Ext'.v, he] at hx
  subst he
  simp [kC, b12x0, hc, hi', ht, Ext'.v, hx, below hcl, w3, hmx, hby]

theorem of_loop (ts : List Typ) (sp : List (List V)) (hw : WfTs ts) (hn : ts.length ≤ 1073741824) (c : Nat) : ∀ (m : Nat) (S : St) (es : List Ext') (g : Nat), es.length + m = ts.length → S.get c = some (.cells 4 (es.map Ext'.v) g 0) →
    ∃ g' l, loopL (some [5, 16, 17, 18]) (S.top, S.pin) (kC (ev Q) loopL b12x0) ⟨30, [(5, .sl c g 4 0 es.length), (16, tsV ts sp), (17, .int .i64 ts.length), (18, .int .i64 es.length)]⟩ S =
      some (.exit 0, ⟨30, l⟩, S.put c (.cells 4 ((scan extN es (ts.drop es.length)).map Ext'.v) g' 0)) ∧ look 5 l = .sl c g' 4 0 (scan extN es (ts.drop es.length)).length := by
  intro m
  induction m with
  | zero =>
    intro S es g hl hc
    have h1 : ¬ ((es.length : Int) < ts.length) := by omega
    rw [List.drop_of_length_le (by omega)]
    simp only [scan]
    refine ⟨g, [(19, .bool false), (5, .sl c g 4 0 es.length), (16, tsV ts sp), (17, .int .i64 ts.length), (18, .int .i64 es.length)], ?_, rfl⟩
    rw [put_self S _ hc]
    rw [loopL_eq]
    simp [kC, b12x0, h1, tsV]
  | succ m ih =>
    intro S es g hl hc
    have hil : es.length < ts.length := by omega
    have ht : ts[es.length]? = some ts[es.length] := List.getElem?_eq_getElem hil
    have hr : (ts.map Typ.v ++ sp)[es.length]? = some (ts[es.length]).v := by
      rw [List.getElem?_append_left (by simpa using hil), List.getElem?_map, ht]; rfl
    have hcl := get_lt _ _ hc
    have hro := of_round S c g es.length ts.length _ ts[es.length] es hc hil hn rfl hr (hw _ _ ht)
    obtain ⟨g', l, h1, h2⟩ := ih (S.put c (.cells 4 ((es ++ [extN es ts[es.length]]).map Ext'.v) (g + 1) 0)) (es ++ [extN es ts[es.length]]) (g + 1) (by simp; omega) (by rw [put_get_if, if_pos ⟨rfl, hcl⟩])
    rw [List.drop_eq_getElem_cons hil, scan]
    have hlen : (es ++ [extN es ts[es.length]]).length = es.length + 1 := by simp
    rw [hlen] at h1 h2 hro
    refine ⟨g', l, ?_, h2⟩
    simp only [top_put, pin_put, put_put, tsV] at h1 ⊢
    rw [hro]
    exact h1

noncomputable def extsN (ts : List Typ) : List Ext' := scan extN [] ts
/-- a list of extents, as it is handed on -/
noncomputable def extsV (ts : List Typ) : V := .rs 4 ((extsN ts).map Ext'.v) (extsN ts).length

theorem kbLL_ext : ∀ es : List Ext', kbLL (es.map Ext'.v) = 0 := by
  intro es
  induction es with
  | nil => rfl
  | cons e es ih => simp [Ext'.v, ih]

theorem sizeOf_ev (ts : List Typ) (sp : List (List V)) (hn : ts.length ≤ 1073741824) (rv : V) (hkb : rv.kb = 0) (hw : WfTs ts) (a : Int) (hC : Pure 11 [.agg [tsV ts sp, rv]] (.agg [.int .i64 0, .int .i64 a])) :
    Pure 12 [.agg [tsV ts sp, rv]] (.tup [extsV ts, .int .i64 0]) := by
  intro S
  obtain ⟨g', l, h1, h2⟩ := of_loop ts sp hw hn (S.top + 2) ts.length (((S.push (.cells 2 [[tsV ts sp, rv]] 0 0)).push (.cells 2 [[.int .i64 0, .int .i64 a]] 0 0)).push (.cells 4 [] 0 0)) [] 0 (by simp) (by simp)
  rw [ev_eq q12, c12, evFn_eq _ _ _ _ _ _ _ (by simp)]
  simp only [tsV] at hC h1
  simp at h1 h2
  simp [tsV, hC _, h1, h2, hkb, extsV, extsN, kbLL_ext, set_mk]
end Mev

/- The program's functions, one equation each: a type's layout. -/

set_option maxRecDepth 100000
namespace Mev
open Go Go.Proofs

noncomputable def layN (es : List Ext') (t : Typ) : Lay' :=
  let s := slotN (es.getD t.elem.toNat default) 0
  if t.kind = 8 then structL es t else if t.kind = 4 then ⟨timesN t.n s.size, [s]⟩ else if t.kind = 5 then ⟨0, [s]⟩ else ⟨0, []⟩

theorem kbLL_slot : ∀ es : List Slot', kbLL (es.map Slot'.v) = 0 := by
  intro es
  induction es with
  | nil => rfl
  | cons e es ih => simp [Slot'.v, ih]

/-- nothing old is changed -/
def Ups (S S' : St) : Prop := S.top ≤ S'.top ∧ ∀ i, i < S.top → S'.get i = S.get i
theorem Ups.refl (S : St) : Ups S S := ⟨Nat.le_refl _, fun _ _ => rfl⟩
theorem Ups.trans {S T U : St} (a : Ups S T) (b : Ups T U) : Ups S U := ⟨Nat.le_trans a.1 b.1, fun i h => (b.2 i (Nat.lt_of_lt_of_le h a.1)).trans (a.2 i h)⟩
theorem Ups.push (S : St) (b : Blk) : Ups S (S.push b) := ⟨by simp, fun i h => by simp [below h]⟩
theorem Ups.put (S : St) {i : Nat} (b : Blk) (h : S.top ≤ i) : Ups S (S.put i b) := ⟨by simp, fun j hj => by rw [put_get_ne _ _ _ _ (by omega)]⟩
theorem Ups.put' {S T : St} (a : Ups S T) {i : Nat} (b : Blk) (h : S.top ≤ i) : Ups S (T.put i b) := ⟨by rw [top_put]; exact a.1, fun j hj => by rw [put_get_ne _ _ _ _ (by omega)]; exact a.2 j hj⟩

theorem one8 (S : St) (t : Typ) (es : List Ext') (hlen : t.parts.length ≤ 1073741824) (hb : below_ t es.length) (h : t.kind = 8) :
    ev Q 24 [.agg t.v, .rs 4 (es.map Ext'.v) es.length] S = some (.ret (.agg (structL es t).v), S) := by
  obtain ⟨g', h0, l, h1, h2, h3⟩ := lay_loop (S.top + 2) (S.top + 3) (S.top + 1) 0 es t (by omega) hlen hb t.parts.length 0
    ((((S.push (.cells 4 [t.v] 0 0)).push (.cells 2 [[.int .i64 0, .nils]] 0 0)).push (.cells 3 [] 0 0)).push (.cells 2 [[.int .i64 0, .sl (S.top + 2) 0 3 0 0]] 0 0)) ⟨0, []⟩ 0 (by omega) rfl (by omega) (by simp) (by simp) (by simp)
  rw [ev_eq q24, c24, evFn_eq _ _ _ _ _ _ _ (by simp)]
  simp [Typ.v, h] at h1
  simp [Typ.v, Lay'.v, h, h1, h2, h3, structL, kbLL_slot, set_mk]

theorem one5 (S : St) (t : Typ) (es : List Ext') (e : Ext') (k : Nat) (hk : t.elem = k) (he : es[k]? = some e) (h : t.kind = 5) :
    ev Q 24 [.agg t.v, .rs 4 (es.map Ext'.v) es.length] S = some (.ret (.agg (Lay'.v ⟨0, [slotN e 0]⟩)), S) := by
  have h1 := fun n S => slot_ev e n S
  have hlt : k < es.length := (List.getElem?_eq_some_iff.1 he).1
  have hlt' : (k : Int) < es.length := by omega
  have hek : es[k] = e := by rw [List.getElem?_eq_getElem hlt] at he; exact Option.some.inj he
  simp only [Ext'.v, Slot'.v] at h1
  rw [ev_eq q24, c24, evFn_eq _ _ _ _ _ _ _ (by simp)]
  simp [Typ.v, Ext'.v, Slot'.v, Lay'.v, h, hk, hek, h1, hlt, hlt', set_mk]

theorem one0 (S : St) (t : Typ) (bl : V) (h : t.kind ≠ 8) (h4 : t.kind ≠ 4) (h5 : t.kind ≠ 5) :
    ev Q 24 [.agg t.v, bl] S = some (.ret (.agg [.int .i64 0, .nils]), S) := by
  rw [ev_eq q24, c24, evFn_eq _ _ _ _ _ _ _ (by simp)]
  simp [Typ.v, h, h4, h5]

theorem one4 (S : St) (t : Typ) (es : List Ext') (e : Ext') (k : Nat) (hk : t.elem = k) (he : es[k]? = some e) (h : t.kind = 4) :
    ∃ S', ev Q 24 [.agg t.v, .rs 4 (es.map Ext'.v) es.length] S = some (.ret (.agg [.int .i64 (timesN t.n (slotN e 0).size), .sl (S.top + 3) 0 3 0 1]), S') ∧ S'.get (S.top + 3) = some (.cells 3 [(slotN e 0).v] 0 0) ∧ Ups S S' := by
  have h1 := fun n S => slot_ev e n S
  have h2 := fun a b S => times_ev a b S
  have hlt : k < es.length := (List.getElem?_eq_some_iff.1 he).1
  have hlt' : (k : Int) < es.length := by omega
  have hek : es[k] = e := by rw [List.getElem?_eq_getElem hlt] at he; exact Option.some.inj he
  simp only [Ext'.v, Slot'.v] at h1
  rw [ev_eq q24, c24, evFn_eq _ _ _ _ _ _ _ (by simp)]
  have hno : ¬ (S.top + 4 ≤ S.top) := by omega
  simp [Typ.v, Ext'.v, Slot'.v, Lay'.v, h, hk, hek, h1, h2, hlt, hlt', set_mk, hno]
  exact ⟨by simp, fun i h => by simp [below h]⟩

theorem one_ex (S : St) (t : Typ) (es : List Ext') (i : Nat) (hi : i ≤ es.length) (hw : WfT t i) :
    ∃ S' sv S'', ev Q 24 [.agg t.v, .rs 4 (es.map Ext'.v) es.length] S = some (.ret (.agg [.int .i64 (layN es t).size, sv]), S') ∧
      freezeV S' 3 sv = some (.rs 3 ((layN es t).slots.map Slot'.v) (layN es t).slots.length, S'') ∧ Ups S S'' := by
  have hpl : t.parts.length ≤ 1073741824 := by have := hw.fine.1; omega
  have hb : below_ t es.length := fun p hp => by have := hw.fine.2 p hp; omega
  have hel : ∀ h : t.kind = 4 ∨ t.kind = 5 ∨ t.kind = 6, t.elem = (t.elem.toNat : Int) ∧ es[t.elem.toNat]? = some (es.getD t.elem.toNat default) := by
    intro h
    have := hw.elem h
    have hl : t.elem.toNat < es.length := by omega
    exact ⟨by omega, by rw [List.getD_eq_getElem?_getD, List.getElem?_eq_getElem hl]; rfl⟩
  unfold layN
  by_cases h8 : t.kind = 8
  · exact ⟨S, .rs 3 ((structL es t).slots.map Slot'.v) (structL es t).slots.length, S, by rw [one8 S t es hpl hb h8]; simp [h8, Lay'.v], by simp [h8], Ups.refl _⟩
  by_cases h4 : t.kind = 4
  · have he := hel (Or.inl h4)
    obtain ⟨S', h1, h2, h3⟩ := one4 S t es _ _ he.1 he.2 h4
    exact ⟨S', .sl (S.top + 3) 0 3 0 1, S'.put (S.top + 3) .dead, by rw [h1]; simp [h4], by simp [h2, h4, Slot'.v], h3.put' _ (by omega)⟩
  by_cases h5 : t.kind = 5
  · have he := hel (Or.inr (Or.inl h5))
    exact ⟨S, .rs 3 ([slotN (es.getD t.elem.toNat default) 0].map Slot'.v) 1, S, by rw [one5 S t es _ _ he.1 he.2 h5]; simp [h5, Lay'.v], by simp [h5], Ups.refl _⟩
  · exact ⟨S, .nils, S, by rw [one0 S t _ h8 h4 h5]; simp [h4, h5, h8], by simp [h8, h4, h5], Ups.refl _⟩
end Mev

/- The program's functions, one equation each: each type's layout. -/

set_option maxRecDepth 100000
namespace Mev
open Go Go.Proofs

theorem lof_round (S : St) (k0 : Nat × Nat) (c g i n : Nat) (trows : List (List V)) (t : Typ) (es : List Ext') (ls : List Lay') (hc : S.get c = some (.cells 2 (ls.map Lay'.v) g 0)) (hck : c < k0.1) (hk0 : k0.1 ≤ S.top) (hi : i < n) (hn : n ≤ 1073741824) (he : es.length = n) (hl : ls.length = i) (ht : trows[i]? = some t.v) (hw : WfT t i) :
    ∃ S1, loopL (some [4, 6, 21, 22, 23]) k0 (kC (ev Q) loopL b13x0) ⟨35, [(4, .rs 4 (es.map Ext'.v) es.length), (6, .sl c g 2 0 ls.length), (21, .rs 4 trows n), (22, .int .i64 n), (23, .int .i64 i)]⟩ S =
    loopL (some [4, 6, 21, 22, 23]) k0 (kC (ev Q) loopL b13x0) ⟨35, [(4, .rs 4 (es.map Ext'.v) es.length), (6, .sl c (g + 1) 2 0 (ls ++ [layN es t]).length), (21, .rs 4 trows n), (22, .int .i64 n), (23, .int .i64 (i + 1 : Nat))]⟩ S1 ∧
      S1.get c = some (.cells 2 ((ls ++ [layN es t]).map Lay'.v) (g + 1) 0) ∧ k0.1 ≤ S1.top ∧ ∀ j, j < k0.1 → j ≠ c → S1.get j = S.get j := by
  have hcl := get_lt _ _ hc
  have hi' : (i : Int) < n := by omega
  have w3 : IntKind.i64.wrap ((i : Int) + 1) = (i : Int) + 1 := wrap64 (by omega) (by omega)
  obtain ⟨S', sv, S'', hx, hf, hu⟩ := one_ex (S.push (.cells 4 [t.v] 0 0)) t es i (by omega) hw
  have hby : (i + 1) * 32 ≤ 140737488355328 := by omega
  have hcu : S''.get c = some (.cells 2 (ls.map Lay'.v) g 0) := by rw [hu.2 c (by simp; omega)]; simp [below hcl, hc]
  have hcl2 := get_lt _ _ hcu
  have hju : ∀ j, j < k0.1 → S''.get j = S.get j := fun j hj => by
    have hjl : j < S.top := by omega
    rw [hu.2 j (by simp; omega)]; simp [below hjl]
  have hkt : k0.1 ≤ S''.top := by have := hu.1; simp at this; omega
  simp only [Typ.v] at hx ht
  rw [loopL_eq]
  generalize loopL (some [4, 6, 21, 22, 23]) k0 (kC (ev Q) loopL b13x0) = F
  generalize layN es t = X at hx hf ⊢
  subst hl
  simp [kC, b13x0, hc, hcu, hi', ht, Lay'.v, hx, below hcl, below hcl2, w3, hby, -freezeV, hf, set_mk]
  refine ⟨_, rfl, ?_⟩
  have hkt1 : k0.1 ≤ S''.top + 1 := by omega
  have hck1 : c + 1 ≤ k0.1 := by omega
  by_cases hp : S''.pin = k0.2
  · rw [if_pos ⟨hck1, hp, hkt1⟩, if_pos hkt]
    refine ⟨by rw [put_get_if, if_pos ⟨rfl, by rw [top_trunc _ _ hkt]; omega⟩], by rw [top_put, top_trunc _ _ hkt]; exact Nat.le_refl _, fun j hj hjc => ?_⟩
    rw [put_get_ne _ _ _ _ (fun h => hjc h.symm), trunc_get _ _ _ hj hkt, hju j hj]
  · rw [if_neg (fun h => hp h.2.1)]
    refine ⟨?_, by simp; omega, fun j hj hjc => ?_⟩
    · rw [push_get _ _ _ (by rw [top_put]; exact hcl2), put_get_if, if_pos ⟨rfl, hcl2⟩]
    · rw [push_get _ _ _ (by rw [top_put]; omega), put_get_ne _ _ _ _ (fun h => hjc h.symm), hju j hj]

theorem lof_loop (ts : List Typ) (sp : List (List V)) (hw : WfTs ts) (hn : ts.length ≤ 1073741824) (es : List Ext') (he : es.length = ts.length) (k0 : Nat × Nat) (c : Nat) (hck : c < k0.1) : ∀ (m : Nat) (S : St) (ls : List Lay') (g : Nat), ls.length + m = ts.length → S.get c = some (.cells 2 (ls.map Lay'.v) g 0) → k0.1 ≤ S.top →
    ∃ g' l S1, loopL (some [4, 6, 21, 22, 23]) k0 (kC (ev Q) loopL b13x0) ⟨35, [(4, .rs 4 (es.map Ext'.v) es.length), (6, .sl c g 2 0 ls.length), (21, tsV ts sp), (22, .int .i64 ts.length), (23, .int .i64 ls.length)]⟩ S =
      some (.exit 0, ⟨35, l⟩, S1) ∧ S1.get c = some (.cells 2 ((ls ++ (ts.drop ls.length).map (layN es)).map Lay'.v) g' 0) ∧ look 6 l = .sl c g' 2 0 (ls ++ (ts.drop ls.length).map (layN es)).length ∧ k0.1 ≤ S1.top ∧ ∀ j, j < k0.1 → j ≠ c → S1.get j = S.get j := by
  intro m
  induction m with
  | zero =>
    intro S ls g hl hc hk
    have h1 : ¬ ((ls.length : Int) < ts.length) := by omega
    rw [List.drop_of_length_le (by omega)]
    refine ⟨g, [(24, .bool false), (4, .rs 4 (es.map Ext'.v) es.length), (6, .sl c g 2 0 ls.length), (21, tsV ts sp), (22, .int .i64 ts.length), (23, .int .i64 ls.length)], S, ?_, by simpa using hc, by simp, hk, fun _ _ _ => rfl⟩
    rw [loopL_eq]
    simp [kC, b13x0, h1, tsV]
  | succ m ih =>
    intro S ls g hl hc hk
    have hil : ls.length < ts.length := by omega
    have ht : ts[ls.length]? = some ts[ls.length] := List.getElem?_eq_getElem hil
    have hr : (ts.map Typ.v ++ sp)[ls.length]? = some (ts[ls.length]).v := by
      rw [List.getElem?_append_left (by simpa using hil), List.getElem?_map, ht]; rfl
    obtain ⟨S1, hro, hc1, hk1, hf1⟩ := lof_round S k0 c g ls.length ts.length _ ts[ls.length] es ls hc hck hk hil hn he rfl hr (hw _ _ ht)
    obtain ⟨g', l, S2, h1, h2, h3, h4, h5⟩ := ih S1 (ls ++ [layN es ts[ls.length]]) (g + 1) (by simp; omega) hc1 hk1
    rw [List.drop_eq_getElem_cons hil]
    have hlen : (ls ++ [layN es ts[ls.length]]).length = ls.length + 1 := by simp
    rw [hlen] at h1 h2 h3 hro
    have happ : ls ++ [layN es ts[ls.length]] ++ (ts.drop (ls.length + 1)).map (layN es) = ls ++ (ts[ls.length] :: ts.drop (ls.length + 1)).map (layN es) := by rw [List.map_cons, List.append_assoc]; rfl
    rw [happ] at h2 h3
    refine ⟨g', l, S2, ?_, h2, h3, h4, fun j hj hjc => by rw [h5 j hj hjc, hf1 j hj hjc]⟩
    simp only [tsV] at h1 ⊢
    rw [hro]
    exact h1

theorem kbLL_lay : ∀ ls : List Lay', kbLL (ls.map Lay'.v) = 0 := by
  intro ls
  induction ls with
  | nil => rfl
  | cons e ls ih => simp [Lay'.v, ih]

noncomputable def laysN (ts : List Typ) : List Lay' := ts.map (layN (extsN ts))
noncomputable def laysV (ts : List Typ) : V := .rs 2 ((laysN ts).map Lay'.v) (laysN ts).length
theorem extsN_len (ts : List Typ) : (extsN ts).length = ts.length := by simp [extsN, scan_len]

theorem layoutOf_ev (ts : List Typ) (sp : List (List V)) (hn : ts.length ≤ 1073741824) (rv : V) (hkb : rv.kb = 0) (hw : WfTs ts) (a : Int) (hC : Pure 11 [.agg [tsV ts sp, rv]] (.agg [.int .i64 0, .int .i64 a])) (S : St) :
    ∃ S', ev Q 13 [.agg [tsV ts sp, rv]] S = some (.ret (.tup [laysV ts, .int .i64 0]), S') ∧ Ups S S' := by
  have hS := sizeOf_ev ts sp hn rv hkb hw a hC
  obtain ⟨g', l, S1, h1, h2, h3, h4, h5⟩ := lof_loop ts sp hw hn (extsN ts) (extsN_len ts) (S.top + 2, S.pin) (S.top + 1) (by simp) ts.length ((S.push (.cells 2 [[tsV ts sp, rv]] 0 0)).push (.cells 2 [] 0 0)) [] 0 (by simp) (by simp) (by simp)
  rw [ev_eq q13, c13, evFn_eq _ _ _ _ _ _ _ (by simp)]
  have hu : ∀ j, j < S.top → S1.get j = S.get j := fun j hj => by
    rw [h5 j (by simp; omega) (by omega)]; simp [below hj]
  have hcl := get_lt _ _ h2
  have hlt : S.top ≤ S1.top := by omega
  simp only [tsV, extsV] at hC hS h1
  have h2' : S1.get (S.top + 1) = some (.cells 2 ((laysN ts).map Lay'.v) g' 0) := h2
  have h3' : look 6 l = .sl (S.top + 1) g' 2 0 (laysN ts).length := h3
  simp only [laysV]
  clear h2 h3
  generalize laysN ts = LS at *
  simp at h1
  simp [tsV, hC _, hS _, h1, h2', h3', hkb, kbLL_lay, set_mk]
  by_cases hA : S1.pin = S.pin ∧ S.top ≤ S1.top
  · rw [if_pos hA]
    exact ⟨by simp; omega, fun i hi => by rw [put_ge _ _ _ (by simp; omega), trunc_get _ _ _ hi hlt, hu i hi]⟩
  · rw [if_neg hA]
    exact ⟨by simp; omega, fun i hi => by rw [put_get_ne _ _ _ _ (by omega), hu i hi]⟩
end Mev
