/- What a schema that is handed in reads as, for the evaluator. -/
import Derived.Test.YtfndbddlicbjpaaMevRel
import Derived.Test.YtfndbddlicbjpaaMevW6
import Derived.ProofKit
import Derived.Deep.Slices
import Derived.Deep.Strs
import Derived.Test.YtfndbddlicbjpaaChecked
import Derived.Test.YtfndbddlicbjpaaRows
import Derived.Test.YtfndbddlicbjpaaMevDraw8
import Derived.Test.YtfndbddlicbjpaaMevWl
import Derived.OpenShut
import Derived.JoinedCond
import Derived.Carry

set_option maxRecDepth 100000
namespace Mev
open Go Go.Proofs Go.ChangeShapes Go.WideShapes

def NoW : Nat → Prop := fun _ => False

theorem add_eq (b o k : Nat) : (⟨b, o, none⟩ : Addr).add k = ⟨b, o + k, none⟩ := by
  unfold Addr.add
  by_cases h : k = 0
  · subst h; simp
  · simp [h]

theorem fr_rows {w : World} {base : Nat} (a : Addr) (sz : Nat) (hsz : 0 < sz) (cap len : Nat) (hl : len ≤ cap) (rows : List (List V)) (hn : rows.length = cap)
    (h : ∀ i, i < cap → ∃ cs r, w.cells? base (a.add (i * sz)) sz = some cs ∧ rows[i]? = some r ∧ r.length = sz ∧ ∀ (j : Nat) v, r[j]? = some v → ∃ u, cs[j]? = some u ∧ FR NoW w v u ∧ u.oneCell' = true) :
    FR NoW w (.rs sz rows len) (.slice (some a) len cap) := by
  rcases Nat.eq_zero_or_pos cap with h0 | h0
  · subst h0
    obtain rfl : len = 0 := by omega
    obtain rfl : rows = [] := List.eq_nil_of_length_eq_zero hn
    exact .rs0 sz _ _
  · obtain ⟨cs, r, h1, h2, h3, h4⟩ := h 0 h0
    obtain ⟨u, h5, _, _⟩ := h4 0 _ (List.getElem?_eq_getElem (by omega))
    obtain ⟨_, _, h6⟩ := World.cells?_some h1
    have h7 := h6 0 hsz
    rw [h5] at h7
    obtain ⟨b, o, sp⟩ := a
    have hsp : sp = none ∧ b < w.heap.size := by
      simp only [Nat.zero_mul, Addr.add, if_true, World.cell?] at h7
      split at h7
      · rename_i hh
        refine ⟨?_, (Array.getElem?_eq_some_iff.1 hh).1⟩
        cases sp with
        | none => rfl
        | some x => simp at h7
      · cases h7
    obtain ⟨rfl, hb⟩ := hsp
    have hcell : ∀ i j v, at2 rows i j = some v → ∃ u, w.cell? ⟨b, o + (i * sz + j), none⟩ = some u ∧ FR NoW w v u ∧ u.oneCell' = true := by
      intro i j v hv
      obtain ⟨r', hr', hj⟩ := Option.bind_eq_some_iff.1 hv
      have hi : i < cap := by have := (List.getElem?_eq_some_iff.1 hr').1; omega
      obtain ⟨cs, r, h1, h2, h3, h4⟩ := h i hi
      rw [hr'] at h2
      cases h2
      obtain ⟨u, h5, h6, h7⟩ := h4 j v hj
      have hjs : j < sz := by have := (List.getElem?_eq_some_iff.1 hj).1; omega
      obtain ⟨_, _, h8⟩ := World.cells?_some h1
      have h9 := h8 j hjs
      rw [add_eq, add_eq, h5] at h9
      exact ⟨u, by rw [← Nat.add_assoc]; exact h9, h6, h7⟩
    refine .rs sz rows len cap b o (fun h => h) hb (fun row hrow => ?_) (by omega) (by omega) (fun i j v hv => ?_) (fun i j v u hv hu => ?_)
    · obtain ⟨i, hi⟩ := List.mem_iff_getElem?.1 hrow
      have hic : i < cap := by have := (List.getElem?_eq_some_iff.1 hi).1; omega
      obtain ⟨cs, r, h1, h2, h3, h4⟩ := h i hic
      rw [hi] at h2
      cases h2
      exact h3
    · obtain ⟨u, h1, _, h3⟩ := hcell i j v hv
      exact ⟨u, h1, h3⟩
    · obtain ⟨u', h1, h2, _⟩ := hcell i j v hv
      rw [hu] at h1
      cases h1
      exact h2

/-- a row of cells reads as these -/
def RowR (w : World) (r : List V) (cs : List Value) : Prop := ∀ (j : Nat) v, r[j]? = some v → ∃ u, cs[j]? = some u ∧ FR NoW w v u ∧ u.oneCell' = true

/-- a slice's rows, those behind its end too -/
theorem rows_split {α : Type} (f : Nat → α) (g : α → List V) (len cap : Nat) (hl : len ≤ cap) : ((List.range len).map f).map g ++ (List.range (cap - len)).map (fun j => g (f (len + j))) = (List.range cap).map fun i => g (f i) := by
  rw [Go.Deep.range_split hl]
  simp [Function.comp_def]

section
variable {H : Type} {enc : TypeId × Value → H} {P : Program} {w : World} {base : Nat} {held : Bool}
theorem dec_slice {α : Type} [Inhabited α] {t e : TypeId} {fuel : Nat} {cs : List Value} {x : DataW H × List MemPlace} (g : α → List V) (sz : Nat) (hsz : 0 < sz) (hg : ∀ a, (g a).length = sz) (ht : P.underlying t = some (.slice e)) (hc : P.cellsOf e = sz)
    (h : DataW.trod enc P w base (fun _ => true) held fuel t cs = some x)
    (hd : ∀ n cs' y, DataW.trod enc P w base (fun _ => true) held n e cs' = some y → ∃ a : α, RowR w (g a) cs') :
    ∃ (l : List α) (sp : List (List V)) (u : Value), cs = [u] ∧ u.oneCell' = true ∧ FR NoW w (.rs sz (l.map g ++ sp) l.length) u ∧ ((x.1 = .nil ∧ l = []) ∨ ∃ el rest, x.1 = .slice el rest ∧ el.length = l.length) := by
  rcases Go.Deep.open_slice ht h with ⟨rfl, rfl⟩ | ⟨a, len, cap, m, n, D, Pl, rfl, hb, hl, hm, hmm, rfl, hx⟩
  · exact ⟨[], [], _, rfl, rfl, .rs0 sz _ _, Or.inl ⟨rfl, rfl⟩⟩
  · simp only [if_true] at hmm
    subst hmm
    rw [hc] at hx
    obtain ⟨f, hf⟩ := Go.Deep.choose_lt (α := α) (p := fun i a' => ∃ cs', w.cells? base (a.add (i * sz)) sz = some cs' ∧ RowR w (g a') cs') (fun i hi => by
      obtain ⟨cs', h1, h2⟩ := hx i hi
      obtain ⟨a', h3⟩ := hd n cs' _ h2
      exact ⟨a', cs', h1, h3⟩)
    refine ⟨(List.range len).map f, (List.range (m - len)).map (fun j => g (f (len + j))), _, rfl, rfl, ?_, Or.inr ⟨_, _, rfl, by simp⟩⟩
    rw [rows_split f g len m hl]
    have hll : ((List.range len).map f).length = len := by simp
    rw [hll]
    refine fr_rows (base := base) a sz hsz m len hl _ (by simp) fun i hi => ?_
    obtain ⟨cs', h1, h2⟩ := hf i hi
    exact ⟨cs', g (f i), h1, by simp [hi], hg _, h2⟩
end
end Mev

/- What a schema that is handed in reads as: types, parts, roots. -/

set_option maxRecDepth 100000
namespace Mev
open Go Go.Proofs Go.ChangeShapes Go.WideShapes

theorem sc3 : Try.prog.cellsOf 3 = 1 := by kernel_rfl
theorem sc9 : Try.prog.cellsOf 9 = 1 := by kernel_rfl
theorem cellsAt22 : Try.prog.cellsOf 22 = 1 := by kernel_rfl
theorem cellsAt23 : Try.prog.cellsOf 23 = 1 := by kernel_rfl
theorem cellsAt25 : Try.prog.cellsOf 25 = 2 := by kernel_rfl
theorem cellsAt41 : Try.prog.cellsOf 41 = 1 := by kernel_rfl
theorem cellsAt43 : Try.prog.cellsOf 43 = 4 := by kernel_rfl
theorem cellsAt45 : Try.prog.cellsOf 45 = 3 := by kernel_rfl
theorem cellsAt68 : Try.prog.cellsOf 68 = 2 := by kernel_rfl

instance : Inhabited Typ := ⟨⟨0, 0, 0, [], []⟩⟩

section
variable {H : Type} {enc : TypeId × Value → H} {w : World} {base : Nat} {held : Bool}

theorem dec_part {n : Nat} {cs : List Value} {x : DataW H × List MemPlace} (h : DataW.trod enc Try.prog w base (fun _ => true) held n 45 cs = some x) : ∃ p : List UInt8 × Int × Int, RowR w (partV p) cs := by
  obtain ⟨y0, y1, y2, m, _, hl, h0, h1, h2⟩ := Go.Deep.trod_struct3 Try.underlying45 h
  rw [cellsAt45] at hl
  match cs, hl with
  | [a, b, c], _ =>
    simp only [sc9, sc3, List.drop_zero, List.take_succ_cons, List.take_zero, List.drop_succ_cons] at h0 h1 h2
    obtain ⟨s, e0, _⟩ := DataW.trod_string Try.underlying9 h0
    obtain ⟨i, e1, _⟩ := DataW.trod_int Try.underlying3 h1
    obtain ⟨k, e2, _⟩ := DataW.trod_int Try.underlying3 h2
    cases e0; cases e1; cases e2
    refine ⟨(s.data.toList, i, k), fun j v hv => ?_⟩
    match j with
    | 0 => cases hv; exact ⟨_, rfl, .str s, rfl⟩
    | 1 => cases hv; exact ⟨_, rfl, .int _ _, rfl⟩
    | 2 => cases hv; exact ⟨_, rfl, .int _ _, rfl⟩
    | j + 3 => cases hv

theorem dec_root {n : Nat} {cs : List Value} {x : DataW H × List MemPlace} (h : DataW.trod enc Try.prog w base (fun _ => true) held n 68 cs = some x) : ∃ p : List UInt8 × Int, RowR w (rootV p) cs := by
  obtain ⟨y0, y1, m, _, hl, h0, h1⟩ := trod_struct2 Try.underlying68 h
  rw [cellsAt68] at hl
  match cs, hl with
  | [a, b], _ =>
    simp only [sc9, sc3, List.drop_zero, List.take_succ_cons, List.take_zero, List.drop_succ_cons] at h0 h1
    obtain ⟨s, e0, _⟩ := DataW.trod_string Try.underlying9 h0
    obtain ⟨i, e1, _⟩ := DataW.trod_int Try.underlying3 h1
    cases e0; cases e1
    refine ⟨(s.data.toList, i), fun j v hv => ?_⟩
    match j with
    | 0 => cases hv; exact ⟨_, rfl, .str s, rfl⟩
    | 1 => cases hv; exact ⟨_, rfl, .int _ _, rfl⟩
    | j + 2 => cases hv

theorem dec_type {n : Nat} {cs : List Value} {x : DataW H × List MemPlace} (h : DataW.trod enc Try.prog w base (fun _ => true) held n 43 cs = some x) : ∃ t : Typ, RowR w t.v cs := by
  obtain ⟨xs, m, _, _, hl, hlen, hf⟩ := DataW.trod_struct Try.underlying43 h
  rw [cellsAt43] at hl
  match xs, hlen with
  | [y0, y1, y2, y3], _ =>
    have h0 := hf 0 _ rfl
    have h1 := hf 1 _ rfl
    have h2 := hf 2 _ rfl
    have h3 := hf 3 _ rfl
    match cs, hl with
    | [a, b, c, d], _ =>
      simp only [sc3, cellsAt41, List.drop_zero, List.take_succ_cons, List.take_zero, List.drop_succ_cons, List.getElem?_cons_zero, List.getElem?_cons_succ] at h0 h1 h2 h3
      obtain ⟨i, e0, _⟩ := DataW.trod_int Try.underlying3 h0
      obtain ⟨k, e1, _⟩ := DataW.trod_int Try.underlying3 h1
      obtain ⟨q, e2, _⟩ := DataW.trod_int Try.underlying3 h2
      obtain ⟨ps, sp, u, e3, o3, f3, _⟩ := dec_slice (α := List UInt8 × Int × Int) partV 3 (by omega) (fun _ => rfl) Try.underlying41 cellsAt45 h3 (fun n cs' y hy => dec_part hy)
      cases e0; cases e1; cases e2; cases e3
      refine ⟨⟨i, k, q, ps, sp⟩, fun j v hv => ?_⟩
      match j with
      | 0 => cases hv; exact ⟨_, rfl, .int _ _, rfl⟩
      | 1 => cases hv; exact ⟨_, rfl, .int _ _, rfl⟩
      | 2 => cases hv; exact ⟨_, rfl, .int _ _, rfl⟩
      | 3 => cases hv; exact ⟨_, rfl, f3, o3⟩
      | j + 4 => cases hv

/-- a schema that is read -/
theorem dec_schema {r : Reach} {b0 : Nat} {v : Value} {d : DataW H} {ps : List MemPlace} (hval : Value.okWide Try.prog w r b0 25 v) (hd : DataW.Trod enc Try.prog w base (fun _ => true) held 25 v d ps) :
    ∃ (ts : List Typ) (sp : List (List V)) (rv : V) (rs : List (List UInt8 × Int)) (d0 d1 : DataW H), RootsV rv rs ∧ FR NoW w (.agg [tsV ts sp, rv]) v ∧ d = .agg [d0, d1] ∧
      ((d0 = .nil ∧ ts = []) ∨ ∃ el rest, d0 = .slice el rest ∧ el.length = ts.length) ∧ ((d1 = .nil ∧ rs = []) ∨ ∃ el rest, d1 = .slice el rest ∧ el.length = rs.length) := by
  simp only [Value.okWide, Try.underlying25] at hval
  obtain ⟨us, rfl, _, _⟩ := hval
  obtain ⟨fuel, hf⟩ := hd
  obtain ⟨y0, y1, m, hx, hl, h0, h1⟩ := trod_struct2 Try.underlying25 hf
  rw [cellsAt25] at hl
  obtain ⟨us⟩ := us
  simp only [Value.cells] at hl h0 h1
  match us, hl with
  | [a, b], _ =>
    simp only [cellsAt22, cellsAt23, List.drop_zero, List.take_succ_cons, List.take_zero, List.drop_succ_cons] at h0 h1
    obtain ⟨ts, sp, u, e0, o0, f0, l0⟩ := dec_slice (α := Typ) Typ.v 4 (by omega) (fun _ => rfl) Try.underlying22 cellsAt43 h0 (fun n cs' y hy => dec_type hy)
    obtain ⟨rs, rsp, u', e1, o1, f1, l1⟩ := dec_slice (α := List UInt8 × Int) rootV 2 (by omega) (fun _ => rfl) Try.underlying23 cellsAt68 h1 (fun n cs' y hy => dec_root hy)
    cases e0; cases e1; cases hx
    refine ⟨ts, sp, _, rs, y0.1, y1.1, Or.inr ⟨rsp, rfl⟩, .agg _ _ rfl (fun i u hu => ?_) (fun i v u hv hu => ?_), rfl, l0, l1⟩
    · match i with
      | 0 => simp at hu; subst hu; exact o0
      | 1 => simp at hu; subst hu; exact o1
      | i + 2 => simp at hu
    · match i with
      | 0 => simp at hu hv; subst hu; subst hv; exact f0
      | 1 => simp at hu hv; subst hu; subst hv; exact f1
      | i + 2 => simp at hu
end
end Mev

/- What a schema that is handed in reads as, for the evaluator, and of how many parts. -/

set_option maxRecDepth 100000
namespace Mev
open Go Go.Proofs Go.ChangeShapes Go.WideShapes

/-- a list that is read is of so many -/
def LenIs {H : Type} (d : DataW H) (n : Nat) : Prop := (d = .nil ∧ n = 0) ∨ ∃ el rest, d = .slice el rest ∧ el.length = n

section
variable {H : Type} {enc : TypeId × Value → H} {P : Program} {w : World} {base : Nat} {held : Bool}
theorem dec_sliceB {α : Type} [Inhabited α] {t e : TypeId} {fuel : Nat} {cs : List Value} {x : DataW H × List MemPlace} (g : α → List V) (B : α → DataW H → Prop) (sz : Nat) (hsz : 0 < sz) (hg : ∀ a, (g a).length = sz) (ht : P.underlying t = some (.slice e)) (hc : P.cellsOf e = sz)
    (h : DataW.trod enc P w base (fun _ => true) held fuel t cs = some x)
    (hd : ∀ n cs' y, DataW.trod enc P w base (fun _ => true) held n e cs' = some y → ∃ a : α, RowR w (g a) cs' ∧ B a y.1) :
    ∃ (l : List α) (sp : List (List V)) (u : Value), cs = [u] ∧ u.oneCell' = true ∧ FR NoW w (.rs sz (l.map g ++ sp) l.length) u ∧
      ((x.1 = .nil ∧ l = []) ∨ ∃ el rest, x.1 = .slice el rest ∧ el.length = l.length ∧ ∀ a ∈ l, ∃ d ∈ el, B a d) := by
  rcases Go.Deep.open_slice ht h with ⟨rfl, rfl⟩ | ⟨a, len, cap, m, n, D, Pl, rfl, hb, hl, hm, hmm, rfl, hx⟩
  · exact ⟨[], [], _, rfl, rfl, .rs0 sz _ _, Or.inl ⟨rfl, rfl⟩⟩
  · simp only [if_true] at hmm
    subst hmm
    rw [hc] at hx
    obtain ⟨f, hf⟩ := Go.Deep.choose_lt (α := α) (p := fun i a' => (∃ cs', w.cells? base (a.add (i * sz)) sz = some cs' ∧ RowR w (g a') cs') ∧ B a' (D i)) (fun i hi => by
      obtain ⟨cs', h1, h2⟩ := hx i hi
      obtain ⟨a', h3, h4⟩ := hd n cs' _ h2
      exact ⟨a', ⟨cs', h1, h3⟩, h4⟩)
    refine ⟨(List.range len).map f, (List.range (m - len)).map (fun j => g (f (len + j))), _, rfl, rfl, ?_, Or.inr ⟨_, _, rfl, by simp, fun a ha => ?_⟩⟩
    · rw [rows_split f g len m hl]
      have hll : ((List.range len).map f).length = len := by simp
      rw [hll]
      refine fr_rows (base := base) a sz hsz m len hl _ (by simp) fun i hi => ?_
      obtain ⟨⟨cs', h1, h2⟩, _⟩ := hf i hi
      exact ⟨cs', g (f i), h1, by simp [hi], hg _, h2⟩
    · obtain ⟨i, hi, rfl⟩ := List.mem_map.1 ha
      rw [List.mem_range] at hi
      exact ⟨D i, List.mem_map.2 ⟨i, List.mem_range.2 hi, rfl⟩, (hf i (by omega)).2⟩
end

section
variable {H : Type} {enc : TypeId × Value → H} {w : World} {base : Nat} {held : Bool}
def PartsOf (t : Typ) (d : DataW H) : Prop := ∃ d0 d1 d2 d3, d = .agg [d0, d1, d2, d3] ∧ LenIs d3 t.parts.length
theorem dec_typeB {n : Nat} {cs : List Value} {x : DataW H × List MemPlace} (h : DataW.trod enc Try.prog w base (fun _ => true) held n 43 cs = some x) : ∃ t : Typ, RowR w t.v cs ∧ PartsOf t x.1 := by
  obtain ⟨xs, m, _, hxe, hl, hlen, hf⟩ := DataW.trod_struct Try.underlying43 h
  rw [cellsAt43] at hl
  match xs, hlen with
  | [y0, y1, y2, y3], _ =>
    have h0 := hf 0 _ rfl
    have h1 := hf 1 _ rfl
    have h2 := hf 2 _ rfl
    have h3 := hf 3 _ rfl
    match cs, hl with
    | [a, b, c, d], _ =>
      simp only [sc3, cellsAt41, List.drop_zero, List.take_succ_cons, List.take_zero, List.drop_succ_cons, List.getElem?_cons_zero, List.getElem?_cons_succ] at h0 h1 h2 h3
      obtain ⟨i, e0, _⟩ := DataW.trod_int Try.underlying3 h0
      obtain ⟨k, e1, _⟩ := DataW.trod_int Try.underlying3 h1
      obtain ⟨q, e2, _⟩ := DataW.trod_int Try.underlying3 h2
      obtain ⟨ps, sp, u, e3, o3, f3, l3⟩ := dec_slice (α := List UInt8 × Int × Int) partV 3 (by omega) (fun _ => rfl) Try.underlying41 cellsAt45 h3 (fun n cs' y hy => dec_part hy)
      cases e0; cases e1; cases e2; cases e3
      refine ⟨⟨i, k, q, ps, sp⟩, fun j v hv => ?_, _, _, _, _, by rw [hxe]; rfl, l3.imp (fun h => ⟨h.1, by rw [h.2]; rfl⟩) id⟩
      match j with
      | 0 => cases hv; exact ⟨_, rfl, .int _ _, rfl⟩
      | 1 => cases hv; exact ⟨_, rfl, .int _ _, rfl⟩
      | 2 => cases hv; exact ⟨_, rfl, .int _ _, rfl⟩
      | 3 => cases hv; exact ⟨_, rfl, f3, o3⟩
      | j + 4 => cases hv

/-- a schema that is read -/
theorem dec_schemaB {r : Reach} {b0 : Nat} {v : Value} {d : DataW H} {ps : List MemPlace} (hval : Value.okWide Try.prog w r b0 25 v) (hd : DataW.Trod enc Try.prog w base (fun _ => true) held 25 v d ps) :
    ∃ (ts : List Typ) (sp : List (List V)) (rv : V) (rs : List (List UInt8 × Int)) (d0 d1 : DataW H), RootsV rv rs ∧ FR NoW w (.agg [tsV ts sp, rv]) v ∧ d = .agg [d0, d1] ∧
      ((d0 = .nil ∧ ts = []) ∨ ∃ el rest, d0 = .slice el rest ∧ el.length = ts.length ∧ ∀ t ∈ ts, ∃ d ∈ el, PartsOf t d) ∧ ((d1 = .nil ∧ rs = []) ∨ ∃ el rest, d1 = .slice el rest ∧ el.length = rs.length) := by
  simp only [Value.okWide, Try.underlying25] at hval
  obtain ⟨us, rfl, _, _⟩ := hval
  obtain ⟨fuel, hf⟩ := hd
  obtain ⟨y0, y1, m, hx, hl, h0, h1⟩ := trod_struct2 Try.underlying25 hf
  rw [cellsAt25] at hl
  obtain ⟨us⟩ := us
  simp only [Value.cells] at hl h0 h1
  match us, hl with
  | [a, b], _ =>
    simp only [cellsAt22, cellsAt23, List.drop_zero, List.take_succ_cons, List.take_zero, List.drop_succ_cons] at h0 h1
    obtain ⟨ts, sp, u, e0, o0, f0, l0⟩ := dec_sliceB (α := Typ) Typ.v PartsOf 4 (by omega) (fun _ => rfl) Try.underlying22 cellsAt43 h0 (fun n cs' y hy => dec_typeB hy)
    obtain ⟨rs, rsp, u', e1, o1, f1, l1⟩ := dec_slice (α := List UInt8 × Int) rootV 2 (by omega) (fun _ => rfl) Try.underlying23 cellsAt68 h1 (fun n cs' y hy => dec_root hy)
    cases e0; cases e1; cases hx
    refine ⟨ts, sp, _, rs, y0.1, y1.1, Or.inr ⟨rsp, rfl⟩, .agg _ _ rfl (fun i u hu => ?_) (fun i v u hv hu => ?_), rfl, l0, l1⟩
    · match i with
      | 0 => simp at hu; subst hu; exact o0
      | 1 => simp at hu; subst hu; exact o1
      | i + 2 => simp at hu
    · match i with
      | 0 => simp at hu hv; subst hu; subst hv; exact f0
      | 1 => simp at hu hv; subst hu; subst hv; exact f1
      | i + 2 => simp at hu

end
end Mev

/- RaiseExact returns true at every input whose arguments hold at most 1048576 values and letters, and its arguments read as they did. Conditions: those of the given statement, no others. -/

set_option maxRecDepth 100000
namespace Go.Proofs.Ytfndbddlicbjpaa.raiseExact
open Go Go.ChangeShapes Go.WideShapes Go.ChangeAt Go.RowKit Mev
set_option linter.unusedVariables false

theorem own : ownKnob Try.prog.godebug = none := by kernel_rfl
theorem laid : laidOutB Try.prog = true := by kernel_rfl
theorem mixed : Try.prog.follows .mixedOrders = true := by kernel_rfl

/-- no block is known yet -/
def phi0 : Phi := ⟨fun _ _ => none, fun _ => False⟩
theorem sim0 (w : World) : Sim phi0 ⟨[], 0⟩ w where
  rel := {
    size := fun id sz rows gen lo h => by simp [St.get] at h
    age := fun id sz rows gen lo g l h => by simp [St.get] at h
    virt := fun id sz rows gen lo h => by simp [St.get] at h
    cells := fun id sz rows gen lo g c n tot h => by simp [St.get] at h
    map := fun id es c n tot h => by simp [St.get] at h
    inj := fun id id' g g' c n tot n' tot' h => by cases h
    lt := fun id g c n tot h => by cases h
    out := fun id g c n tot h => by cases h
    xlt := fun c h => h.elim }
  pin := fun j b h => by simp [St.get] at h
  pinle := Nat.le_refl _
  dom := fun id g l h => by cases h
theorem wr0 (c : Nat) : ¬ Wr phi0 (St.get ⟨[], 0⟩) c := by
  rintro (h | ⟨id, g, n, tot, h, _⟩)
  · exact h
  · cases h

/-- THE WALK: what the evaluator reckons, the program does. -/
theorem walk (v0 : Value) (W : World) (ts : List Typ) (sp : List (List V)) (rv : V) (rs : List (List UInt8 × Int)) (hrv : RootsV rv rs) (hts : ts.length ≤ 1048576) (hrs : rs.length ≤ 1048576)
    (hp : ∀ t ∈ ts, t.parts.length ≤ 1048576) (h : FR NoW W (.agg [tsV ts sp, rv]) v0) :
    Calls Try.prog 3 #[v0] W fun e w' => e = .returned (.bool true) ∧ Below W.heap.size W w' := by
  obtain ⟨S', hev⟩ : ∃ S', ev Q 3 [.agg [tsV ts sp, rv]] ⟨[], 0⟩ = some (.ret (.bool true), S') := by
    by_cases he : errP ts rs = 0
    · exact raiseExact_ok _ ts sp hts rv rs hrv hrs hp he
    · exact raiseExact_bad _ ts sp hts rv rs hrv hrs hp he
  obtain ⟨N, hN⟩ := evF_of_ev hev
  obtain ⟨_, hc⟩ := sim_ev mixed A0 N 3 _ _ _ _ hN
  have hfr : FR (Wr phi0 (St.get ⟨[], 0⟩)) W (.agg [tsV ts sp, rv]) v0 := h.mono (Fr.refl _ _) (fun x _ _ => wr0 x)
  refine (hc phi0 W #[v0] (sim0 W) ⟨rfl, fun i v u hv hu => ?_⟩).mono fun e w' he => ?_
  · match i with
    | 0 => simp at hv hu; subst hv; subst hu; exact .fr _ _ hfr
    | i + 1 => simp at hv
  · obtain ⟨u, φ', rfl, hu, hs⟩ := he
    refine ⟨?_, ⟨hs.fr.os, hs.fr.tape, hs.fr.output, hs.fr.size, fun k hk => hs.fr.block k hk (wr0 k)⟩⟩
    cases hu with
    | fr v u h => cases h; rfl

theorem one_le {H : Type} (d : DataW H) : 1 ≤ Rows.uptoBulk d := by
  cases d with
  | lit l => cases l <;> simp [Rows.uptoBulk]
  | nil => simp [Rows.uptoBulk]
  | ptr d => simp [Rows.uptoBulk]
  | slice elems spare => simp only [Rows.uptoBulk]; omega
  | agg parts => simp [Rows.uptoBulk]
  | iface t d => simp [Rows.uptoBulk]
  | map entries => simp [Rows.uptoBulk]
  | held h => simp [Rows.uptoBulk]
theorem len_le {H : Type} : ∀ l : List (DataW H), l.length ≤ Rows.uptoBulkAll l
  | [] => by simp [Rows.uptoBulkAll]
  | x :: r => by have h1 := one_le x; have h2 := len_le r; simp only [Rows.uptoBulkAll, List.length_cons]; omega
theorem read_le {H : Type} {d : DataW H} {n : Nat} (h : (d = .nil ∧ n = 0) ∨ ∃ el rest, d = .slice el rest ∧ el.length = n) : n ≤ Rows.uptoBulk d := by
  rcases h with ⟨_, rfl⟩ | ⟨el, rest, rfl, rfl⟩
  · omega
  · have := len_le el; simp only [Rows.uptoBulk]; omega

theorem mem_le {H : Type} {d : DataW H} : ∀ {l : List (DataW H)}, d ∈ l → Rows.uptoBulk d ≤ Rows.uptoBulkAll l
  | x :: r, h => by
    simp only [Rows.uptoBulkAll]
    rcases List.mem_cons.1 h with rfl | h
    · omega
    · have := mem_le h; omega
theorem parts_le {H : Type} {t : Typ} {d : DataW H} (h : PartsOf t d) : t.parts.length ≤ Rows.uptoBulk d := by
  obtain ⟨d0, d1, d2, d3, rfl, hl⟩ := h
  have := read_le hl
  simp only [Rows.uptoBulk, Rows.uptoBulkAll]
  omega

theorem contract (H : Type) (enc : TypeId × Value → H) (W : World) (base : Nat) (args : Array Value) (ds gs : List (DataW H)) (before : List MemPlace)
    (hval : ∀ (j : Nat) t v, Try.f3.params[j]? = some t → args[j]? = some v → Value.okWide Try.prog W .any base t v)
    (hW : DataW.Whole enc Try.prog Try.f3.params.toList Rows.raiseExactSpec.vars false W args.toList ds gs before) (hk : Rows.uptoSmall H (ds ++ gs) = true) :
    Calls Try.prog 3 args W fun e W' => ∃ v, e = .returned v ∧ Rows.raiseExactSpec.post enc Try.prog Try.f3 false true false false W args v W' := by
  have hW' := hW
  have hlt := hW.lt
  obtain ⟨p, q, hA0, hV, rfl, hfz, hnd⟩ := hW
  have hA : DataW.TrodAll enc Try.prog W 0 (fun _ => true) true Try.f3.params.toList args.toList ds p := hA0
  rw [Try.params3] at hA hval
  obtain ⟨v0, d0, rfl, rfl, h0⟩ := trodAll_one hA
  obtain ⟨rfl, rfl⟩ := trodVars_none hV
  obtain ⟨ts, sp, rv, rs, e0, e1, hrv, hfr, rfl, l0, l1⟩ := dec_schemaB (hval 0 25 v0 rfl rfl) h0
  clear hA0
  have hbulk : Rows.uptoBulkAll [DataW.agg [e0, e1]] ≤ 1048576 := of_decide_eq_true (by simpa [Rows.uptoSmall] using hk)
  have hb0 : ts.length ≤ Rows.uptoBulk e0 := read_le (l0.imp (fun h => ⟨h.1, by rw [h.2]; rfl⟩) (fun ⟨el, rest, h1, h2, _⟩ => ⟨el, rest, h1, h2⟩))
  have hb1 : rs.length ≤ Rows.uptoBulk e1 := read_le (l1.imp (fun h => ⟨h.1, by rw [h.2]; rfl⟩) id)
  have hbp : ∀ t ∈ ts, t.parts.length ≤ Rows.uptoBulk e0 := fun t ht => by
    rcases l0 with ⟨_, rfl⟩ | ⟨el, rest, rfl, _, h⟩
    · cases ht
    · obtain ⟨d, hd, hp⟩ := h t ht
      have h1 := parts_le hp
      have h2 := mem_le hd
      simp only [Rows.uptoBulk]
      omega
  simp only [Rows.uptoBulkAll, Rows.uptoBulk] at hbulk
  simp only [List.append_nil] at hW' hlt hk ⊢
  refine (walk v0 W ts sp rv rs hrv (by omega) (by omega) (fun t ht => by have := hbp t ht; omega) hfr).mono fun e W' ⟨he, hb⟩ => ?_
  subst he
  have ha0 := hb.trod laid (t := 25) (by kernel_rfl) (of_decide_eq_true (by kernel_rfl)) h0 (fun x hx => hlt x hx)
  refine ⟨_, rfl, _, _, _, [], p, [], hW', ?_, ?_, rfl, hb.frame _, fun h => by cases h⟩
  · exact trodAll_cons_mk (shut_bool Try.underlying4 _) trodAll_mk0
  · exact trodAll_mk1 ha0

set_option maxRecDepth 100000 in
theorem lifted (os : Os) (started : os.Started) (H : Type) (enc : TypeId × Value → H) (F : Stop.Interp) :
    ReturnsInHanded {} Try.checked os 3 .any ((Rows.OpenSpec.upto Rows.raiseExactSpec).pre6 enc Try.prog Try.f3 Rows.raiseExactUptoRow.domain false) (((Rows.OpenSpec.upto Rows.raiseExactSpec).at F).post enc Try.prog Try.f3 false true false false) := by
  refine returnsInHanded_of_cond (C := Try.checked) (s := Rows.OpenSpec.upto Rows.raiseExactSpec) (k := Rows.uptoSmall) rfl own started (by kernel_rfl) Try.func3
    (OpenSpec.witness (enc := enc) (C := Try.checked) (s := Rows.OpenSpec.upto Rows.raiseExactSpec) (k := Rows.uptoSmall) rfl false ⟨#[], #[.agg #[.slice none 0 0, .slice none 0 0]], []⟩ 8 (by kernel_rfl) (by kernel_rfl) (by kernel_rfl)
      (x := ([.agg [.nil, .nil]], [], [])) (by kernel_rfl) rfl (by kernel_rfl)) ?_
  intro W base args ds gs before hval hW _ hk _
  exact contract H enc W base args ds gs before hval hW hk

theorem proved : Rows.RaiseExactUptoSaid :=
  OpenClaim.holds_of_cond 3 Try.f3 rfl rfl rfl rfl rfl rfl rfl ⟨rfl, rfl, rfl, rfl, rfl⟩ rfl rfl rfl rfl rfl (by kernel_rfl) Try.func3 (by kernel_rfl)
    (of_decide_eq_true (by kernel_rfl)) (by unfold Func.isWrapper; first | (rw [if_pos (by decide +kernel)]; kernel_rfl) | (rw [if_neg (by decide +kernel)]; exact ⟨rfl, rfl⟩))
    (fun os started H enc _ F => lifted os started H enc F)
#print axioms proved
end Go.Proofs.Ytfndbddlicbjpaa.raiseExact
