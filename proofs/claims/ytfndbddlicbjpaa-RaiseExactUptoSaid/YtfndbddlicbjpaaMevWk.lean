/- The statement's own schema, a mark behind each list. -/
import Derived.Test.YtfndbddlicbjpaaMevWj

set_option maxRecDepth 100000
namespace Mev
open Go Go.Proofs

def markV : List V := [.str [109, 97, 114, 107], .int .i64 7, .int .i64 0]
def mk (t : Typ) : Typ := { t with spare := [markV] }
def lastV : List V := [.int .i64 77, .int .i64 0, .int .i64 0, .nils]

theorem kbLL_part : ∀ ps : List (List UInt8 × Int × Int), kbLL (ps.map partV) = 0 := by
  intro ps
  induction ps with
  | nil => rfl
  | cons p ps ih => simp [partV, ih]
theorem kbLL_root : ∀ ps : List (List UInt8 × Int), kbLL (ps.map rootV) = 0 := by
  intro ps
  induction ps with
  | nil => rfl
  | cons p ps ih => simp [rootV, ih]
theorem any_part (ps : List (List UInt8 × Int × Int)) : (ps.map partV).any (fun r => r.length != 3) = false := by
  rw [List.any_eq_false]
  intro r hr
  obtain ⟨p, _, rfl⟩ := List.mem_map.1 hr
  simp [partV]

theorem kbLL_app0 : ∀ a b : List (List V), kbLL a = 0 → kbLL b = 0 → kbLL (a ++ b) = 0 := by
  intro a
  induction a with
  | nil => intro b _ h; exact h
  | cons r a ih =>
    intro b h1 h2
    simp only [kbLL, List.cons_append] at h1 ⊢
    have := ih b (by omega) h2
    omega

theorem own_round (S : St) (x y id g lo i n : Nat) (R : List (List V)) (t : Typ) (hx : x < S.top) (hy : y < S.top) (hlo : lo ≤ g) (hid : S.get id = some (.cells 4 R g lo)) (hrow : R[i]? = some t.v) (hi : i < n) (hn : n ≤ 1048576) (hp : t.parts.length ≤ 1048576) :
    loopL (some [1, 2, 3, 4]) (S.top, S.pin) (kC (ev Q) loopL b6x0) ⟨52, [(1, .ptr x 0 2 0 0), (2, .ptr y 0 2 0 0), (3, .sl id g 4 0 n), (4, .int .i64 i)]⟩ S =
    loopL (some [1, 2, 3, 4]) (S.top, S.pin) (kC (ev Q) loopL b6x0) ⟨52, [(1, .ptr x 0 2 0 0), (2, .ptr y 0 2 0 0), (3, .sl id g 4 0 n), (4, .int .i64 (i + 1 : Nat))]⟩ (S.put id (.cells 4 (R.set i (mk t).v) g g)) := by
  have hidl := get_lt _ _ hid
  have hi' : (i : Int) < n := by omega
  have w3 : IntKind.i64.wrap ((i : Int) + 1) = (i : Int) + 1 := wrap64 (by omega) (by omega)
  have hmx : max x (max y id) + 1 ≤ S.top := by omega
  have hk := kbLL_part t.parts
  have ha := any_part t.parts
  have hln : (t.parts.map partV).length = t.parts.length := by simp
  have hby : t.parts.length * 32 ≤ 140737488355328 := by omega
  have hby2 : (t.parts.length + 1) * 32 ≤ 140737488355328 := by omega
  have hmv : (mk t).v = [.int .i64 t.kind, .int .i64 t.n, .int .i64 t.elem, .rs 3 (t.parts.map partV ++ [markV]) t.parts.length] := rfl
  rw [hmv]
  have hk2 := kbLL_app0 (t.parts.map partV) [markV] hk (by simp [markV])
  simp only [Typ.v] at hrow
  simp only [markV] at hk2 ⊢
  rw [loopL_eq]
  generalize loopL (some [1, 2, 3, 4]) (S.top, S.pin) (kC (ev Q) loopL b6x0) = F
  by_cases h0 : t.parts = []
  · rw [h0] at hrow ⊢
    simp at hrow
    simp [kC, b6x0, hi', hid, hrow, below hidl, w3, hmx, set_mk, hlo]
  · have hl0 : ¬ (t.parts.length = 0) := by simpa using h0
    generalize t.parts.map partV = PV at *
    generalize t.parts.length = pl at *
    have hle : (pl : Int) ≤ (pl : Int) + 1 := by omega
    simp [kC, b6x0, hi', hid, hrow, below hidl, w3, hmx, set_mk, hk, hk2, ha, hln, hby, hby2, hl0, hlo, hle]

theorem own_loop (x y id n : Nat) (g : Nat) (ts : List Typ) (hn : ts.length = n) (hn2 : n ≤ 1048576) (hp : ∀ t ∈ ts, t.parts.length ≤ 1048576) : ∀ (m i : Nat) (S : St) (lo : Nat), i + m = n → lo ≤ g → x < S.top → y < S.top → S.get id = some (.cells 4 (((ts.take i).map fun t => (mk t).v) ++ (ts.drop i).map Typ.v) g lo) →
    ∃ l lo', lo' ≤ g ∧ loopL (some [1, 2, 3, 4]) (S.top, S.pin) (kC (ev Q) loopL b6x0) ⟨52, [(1, .ptr x 0 2 0 0), (2, .ptr y 0 2 0 0), (3, .sl id g 4 0 n), (4, .int .i64 i)]⟩ S =
      some (.exit 0, ⟨52, l⟩, S.put id (.cells 4 (ts.map fun t => (mk t).v) g lo')) ∧ look 1 l = .ptr x 0 2 0 0 ∧ look 2 l = .ptr y 0 2 0 0 ∧ look 3 l = .sl id g 4 0 n := by
  intro m
  induction m with
  | zero =>
    intro i S lo hi hlo hx hy hid
    have h1 : ¬ ((i : Int) < n) := by omega
    have e : ((ts.take i).map fun t => (mk t).v) ++ (ts.drop i).map Typ.v = ts.map fun t => (mk t).v := by
      rw [List.drop_of_length_le (by omega), List.take_of_length_le (by omega)]; simp
    rw [e] at hid
    refine ⟨[(13, .bool false), (12, .int .i64 n), (11, .sl id g 4 0 n), (10, .int .i64 i), (1, .ptr x 0 2 0 0), (2, .ptr y 0 2 0 0), (3, .sl id g 4 0 n), (4, .int .i64 i)], lo, hlo, ?_, by simp, by simp, by simp⟩
    rw [put_self _ _ hid, loopL_eq]
    simp [kC, b6x0, h1]
  | succ m ih =>
    intro i S lo hi hlo hx hy hid
    have hil : i < ts.length := by omega
    have hidl := get_lt _ _ hid
    have ht : ts[i]? = some ts[i] := List.getElem?_eq_getElem hil
    have hrow : (((ts.take i).map fun t => (mk t).v) ++ (ts.drop i).map Typ.v)[i]? = some (ts[i]).v := by
      rw [List.getElem?_append_right (by simp; omega), List.getElem?_map, List.getElem?_drop]
      have : i + (i - ((ts.take i).map fun t => (mk t).v).length) = i := by simp; omega
      rw [this, ht]; rfl
    have hset : (((ts.take i).map fun t => (mk t).v) ++ (ts.drop i).map Typ.v).set i (mk ts[i]).v = ((ts.take (i + 1)).map fun t => (mk t).v) ++ (ts.drop (i + 1)).map Typ.v := by
      have hl : ((ts.take i).map fun t => (mk t).v).length = i := by simp; omega
      have e : ts.take (i + 1) = ts.take i ++ [ts[i]] := by rw [List.take_add_one, ht]; rfl
      rw [List.set_append_right _ _ (by omega), hl, Nat.sub_self, List.drop_eq_getElem_cons hil, List.map_cons, List.set_cons_zero, e, List.map_append]
      simp only [List.map_cons, List.map_nil, List.append_assoc, List.cons_append, List.nil_append]
    rw [own_round S x y id g lo i n _ ts[i] hx hy hlo hid hrow (by omega) hn2 (hp _ (List.getElem_mem hil)), hset]
    obtain ⟨l, lo', h0, h1, h2⟩ := ih (i + 1) (S.put id (.cells 4 (((ts.take (i + 1)).map fun t => (mk t).v) ++ (ts.drop (i + 1)).map Typ.v) g g)) g (by omega) (Nat.le_refl _) (by simpa using hx) (by simpa using hy) (by rw [put_get_if, if_pos ⟨rfl, hidl⟩])
    refine ⟨l, lo', h0, ?_, h2⟩
    simp only [top_put, pin_put, put_put] at h1
    exact h1

theorem any_typ (ts : List Typ) : (ts.map Typ.v).any (fun r => r.length != 4) = false := by
  rw [List.any_eq_false]
  intro r hr
  obtain ⟨p, _, rfl⟩ := List.mem_map.1 hr
  simp [Typ.v]
theorem any_root (rs : List (List UInt8 × Int)) : (rs.map rootV).any (fun r => r.length != 2) = false := by
  rw [List.any_eq_false]
  intro r hr
  obtain ⟨p, _, rfl⟩ := List.mem_map.1 hr
  simp [rootV]
theorem kbLL_typ : ∀ ts : List Typ, kbLL (ts.map Typ.v) = 0 := by
  intro ts
  induction ts with
  | nil => rfl
  | cons p ps ih => simp [Typ.v, ih]

theorem own_fin (S : St) (B1 B2 B3 B4 B5 : Blk) (k : Nat) : Ups S ((((((S.push B1).push B2).push B3).push B4).push B5).pinTo k) ∧ ((((((S.push B1).push B2).push B3).push B4).push B5).pinTo k).top = S.top + 5 ∧
    ((((((S.push B1).push B2).push B3).push B4).push B5).pinTo k).get (S.top + 2) = some B3 ∧ ((((((S.push B1).push B2).push B3).push B4).push B5).pinTo k).get (S.top + 4) = some B5 := by
  refine ⟨⟨?_, fun i hi => ?_⟩, ?_, ?_, ?_⟩
  · show S.top ≤ St.top (St.push _ _)
    simp
  · show St.get (St.push _ _) i = _
    simp [below hi]
  · show St.top (St.push _ _) = _
    simp
  · show St.get (St.push _ _) _ = _
    simp
  · show St.get (St.push _ _) _ = _
    simp

theorem own_ev (ts : List Typ) (sp : List (List V)) (hn : ts.length ≤ 1048576) (rv : V) (rs : List (List UInt8 × Int)) (hrv : RootsV rv rs) (hrs : rs.length ≤ 1048576) (hp : ∀ t ∈ ts, t.parts.length ≤ 1048576) (S : St) :
    ∃ S' id g lo rid rg, ev Q 6 [.agg [tsV ts sp, rv]] S = some (.ret (.agg [.sl id g 4 0 ts.length, .sl rid rg 2 0 rs.length]), S') ∧ Ups S S' ∧ S.top ≤ id ∧ id < rid ∧ rid < S'.top ∧ lo ≤ g ∧
      S'.get id = some (.cells 4 ((ts.map fun t => (mk t).v) ++ [lastV]) g lo) ∧ S'.get rid = some (.cells 2 (rs.map rootV) rg 0) := by
  have hkb := rv_kb rv rs hrv
  have hk := kbLL_typ ts
  have hkr := kbLL_root rs
  have ha := any_typ ts
  have har := any_root rs
  have hln : (ts.map Typ.v).length = ts.length := by simp
  have hlr : (rs.map rootV).length = rs.length := by simp
  have hlm : (ts.map fun t => (mk t).v).length = ts.length := by simp
  have hby : ts.length * 48 ≤ 140737488355328 := by omega
  have hby2 : (ts.length + 1) * 48 ≤ 140737488355328 := by omega
  have hby3 : rs.length * 24 ≤ 140737488355328 := by omega
  have hle : (ts.length : Int) ≤ (ts.length : Int) + 1 := by omega
  have hloop := fun g => own_loop S.top (S.top + 1) (S.top + 2) ts.length g ts rfl hn hp ts.length 0 (((S.push (.cells 2 [[tsV ts sp, rv]] 0 0)).push (.cells 2 [[.nils, .nils]] 0 0)).push (.cells 4 (ts.map Typ.v) g 0)) 0 (by omega) (by omega) (by simp) (by simp) (by simp)
  have hr0 : ∀ h : rs.length = 0, rs.map rootV = [] := fun h => by rw [List.eq_nil_of_length_eq_zero h]; rfl
  have ht0 : ∀ h : ts.length = 0, ts.map Typ.v = [] ∧ (ts.map fun t => (mk t).v) = [] := fun h => by rw [List.eq_nil_of_length_eq_zero h]; exact ⟨rfl, rfl⟩
  have hkm : kbLL (ts.map fun t => (mk t).v) = 0 := by
    have := kbLL_typ (ts.map mk)
    rw [List.map_map] at this
    exact this
  have hn5 : (S.top + 5 ≤ S.top) = False := by apply propext; constructor <;> intro h <;> first | omega | exact h.elim
  have hfin := fun B1 B2 B3 B4 B5 k => own_fin S B1 B2 B3 B4 B5 k
  have hcase : (∃ rows, rv = .rs 2 (rs.map rootV ++ rows) rs.length) ∨ (rv = .nils ∧ rs = []) := by
    rcases hrv with h | h
    · exact .inr h
    · exact .inl h
  rw [ev_eq q6, c6, evFn_eq _ _ _ _ _ _ _ (by simp)]
  simp only [tsV] at hloop ⊢
  generalize (ts.map fun t => (mk t).v) = MV at *
  generalize ts.map Typ.v = TV at *
  generalize rs.map rootV = RV at *
  by_cases hz : ts.length = 0
  · obtain ⟨l, lo', h0, h1, h2, h3, h4⟩ := hloop 0
    obtain ⟨e1, e2⟩ := ht0 hz
    subst e1
    subst e2
    rw [hz] at *
    obtain rfl : lo' = 0 := by omega
    rcases hcase with ⟨rows, rfl⟩ | ⟨rfl, rfl⟩
    · by_cases hy : rs.length = 0
      · have e3 := hr0 hy
        subst e3
        rw [hy] at *
        simp at h1
        simp [h0, h1, h2, h3, h4, hn5, lastV]
        exact ⟨_, _, _, 0, _, _, ⟨⟨⟨rfl, rfl⟩, rfl, rfl⟩, rfl⟩, (hfin _ _ _ _ _ _).1, by omega, by omega, by rw [(hfin _ _ _ _ _ _).2.1]; omega, by omega, (hfin _ _ _ _ _ _).2.2.1, (hfin _ _ _ _ _ _).2.2.2⟩
      · simp at h1
        simp [h0, h1, h2, h3, h4, hn5, lastV, hkr, har, hlr, hby3, hy]
        exact ⟨_, _, _, 0, _, _, ⟨⟨⟨rfl, rfl⟩, rfl, rfl⟩, rfl⟩, (hfin _ _ _ _ _ _).1, by omega, by omega, by rw [(hfin _ _ _ _ _ _).2.1]; omega, by omega, (hfin _ _ _ _ _ _).2.2.1, (hfin _ _ _ _ _ _).2.2.2⟩
    · simp at hlr
      subst hlr
      simp at h1
      simp [h0, h1, h2, h3, h4, hn5, lastV]
      exact ⟨_, _, _, 0, _, _, ⟨⟨⟨rfl, rfl⟩, rfl, rfl⟩, rfl⟩, (hfin _ _ _ _ _ _).1, by omega, by omega, by rw [(hfin _ _ _ _ _ _).2.1]; omega, by omega, (hfin _ _ _ _ _ _).2.2.1, (hfin _ _ _ _ _ _).2.2.2⟩
  · obtain ⟨l, lo', h0, h1, h2, h3, h4⟩ := hloop 1
    rcases hcase with ⟨rows, rfl⟩ | ⟨rfl, rfl⟩
    · by_cases hy : rs.length = 0
      · have e3 := hr0 hy
        subst e3
        rw [hy] at *
        simp at h1
        simp [h0, h1, h2, h3, h4, hn5, lastV, hk, ha, hln, hlm, hby, hby2, hle, hkm, hz]
        exact ⟨_, _, _, lo', _, _, ⟨⟨⟨rfl, rfl⟩, rfl, rfl⟩, rfl⟩, (hfin _ _ _ _ _ _).1, by omega, by omega, by rw [(hfin _ _ _ _ _ _).2.1]; omega, by omega, (hfin _ _ _ _ _ _).2.2.1, (hfin _ _ _ _ _ _).2.2.2⟩
      · simp at h1
        simp [h0, h1, h2, h3, h4, hn5, lastV, hk, ha, hln, hlm, hby, hby2, hle, hkm, hz, hkr, har, hlr, hby3, hy]
        exact ⟨_, _, _, lo', _, _, ⟨⟨⟨rfl, rfl⟩, rfl, rfl⟩, rfl⟩, (hfin _ _ _ _ _ _).1, by omega, by omega, by rw [(hfin _ _ _ _ _ _).2.1]; omega, by omega, (hfin _ _ _ _ _ _).2.2.1, (hfin _ _ _ _ _ _).2.2.2⟩
    · simp at hlr
      subst hlr
      simp at h1
      simp [h0, h1, h2, h3, h4, hn5, lastV, hk, ha, hln, hlm, hby, hby2, hle, hkm, hz]
      exact ⟨_, _, _, lo', _, _, ⟨⟨⟨rfl, rfl⟩, rfl, rfl⟩, rfl⟩, (hfin _ _ _ _ _ _).1, by omega, by omega, by rw [(hfin _ _ _ _ _ _).2.1]; omega, by omega, (hfin _ _ _ _ _ _).2.2.1, (hfin _ _ _ _ _ _).2.2.2⟩
end Mev

/- Are two programs alike: one equation. -/

set_option maxRecDepth 100000
namespace Mev
open Go Go.Proofs

/-- a list that reads as these rows, open to change or not -/
def ReadsAs (S : St) (sz : Nat) (rows : List (List V)) (u : V) : Prop :=
  (∃ c g lo, u = .sl c g sz 0 rows.length ∧ S.get c = some (.cells sz rows g lo) ∧ lo ≤ g) ∨ u = .rs sz rows rows.length

theorem ReadsAs.push {S : St} {sz : Nat} {rows : List (List V)} {u : V} (h : ReadsAs S sz rows u) (b : Blk) : ReadsAs (S.push b) sz rows u := by
  rcases h with ⟨c, g, lo, h1, h2, h3⟩ | h
  · exact Or.inl ⟨c, g, lo, h1, by rw [push_get _ _ _ (get_lt _ _ h2)]; exact h2, h3⟩
  · exact Or.inr h

theorem same_round0 (S : St) (x y i : Nat) (code : List Ins) (ca ea eb : V) (p : Ins) (hx : S.get x = some (.cells 3 [[.bool true, ca, ea]] 0 0)) (hy : S.get y = some (.cells 3 [[.bool true, .rs 4 (code.map Ins.v) code.length, eb]] 0 0)) (hca : ReadsAs S 4 (code.map Ins.v) ca)
    (hp : code[i]? = some p) (hl : code.length ≤ 1073741824) :
    loopL (some [2, 3, 5]) (S.top, S.pin) (kC (ev Q) loopL b9x0) ⟨66, [(2, .ptr x 0 3 0 0), (3, .ptr y 0 3 0 0), (5, .int .i64 i)]⟩ S =
    loopL (some [2, 3, 5]) (S.top, S.pin) (kC (ev Q) loopL b9x0) ⟨66, [(2, .ptr x 0 3 0 0), (3, .ptr y 0 3 0 0), (5, .int .i64 (i + 1 : Nat))]⟩ S := by
  have hxl := get_lt _ _ hx
  have hyl := get_lt _ _ hy
  have hil := (List.getElem?_eq_some_iff.1 hp).1
  have hi' : (i : Int) < code.length := by omega
  have w3 : IntKind.i64.wrap ((i : Int) + 1) = (i : Int) + 1 := wrap64 (by omega) (by omega)
  have hmx : max x y + 1 ≤ S.top := by omega
  have hr : (code.map Ins.v)[i]? = some p.v := by rw [List.getElem?_map, hp]; rfl
  have hln : (code.map Ins.v).length = code.length := by simp
  rw [loopL_eq]
  generalize loopL (some [2, 3, 5]) (S.top, S.pin) (kC (ev Q) loopL b9x0) = F
  obtain ⟨p1, p2, p3, p4⟩ := p
  simp only [Ins.v] at hr
  unfold ReadsAs at hca
  rw [hln] at hca
  generalize code.map Ins.v = CV at *
  generalize code.length = cl at *
  rcases hca with ⟨c, g, lo, rfl, hc, hlo⟩ | rfl
  · simp [kC, b9x0, hx, hy, hi', hil, hc, hlo, hr, w3, hmx]
  · simp [kC, b9x0, hx, hy, hi', hil, hr, w3, hmx]

theorem same_round2 (S : St) (x y i : Nat) (en : List Int) (ca ea cb : V) (p : Int) (hx : S.get x = some (.cells 3 [[.bool true, ca, ea]] 0 0)) (hy : S.get y = some (.cells 3 [[.bool true, cb, .rs 1 (iV en) en.length]] 0 0)) (hea : ReadsAs S 1 (iV en) ea)
    (hp : en[i]? = some p) (hl : en.length ≤ 1073741824) :
    loopL (some [2, 3, 6]) (S.top, S.pin) (kC (ev Q) loopL b9x2) ⟨66, [(2, .ptr x 0 3 0 0), (3, .ptr y 0 3 0 0), (6, .int .i64 i)]⟩ S =
    loopL (some [2, 3, 6]) (S.top, S.pin) (kC (ev Q) loopL b9x2) ⟨66, [(2, .ptr x 0 3 0 0), (3, .ptr y 0 3 0 0), (6, .int .i64 (i + 1 : Nat))]⟩ S := by
  have hxl := get_lt _ _ hx
  have hyl := get_lt _ _ hy
  have hil := (List.getElem?_eq_some_iff.1 hp).1
  have hi' : (i : Int) < en.length := by omega
  have w3 : IntKind.i64.wrap ((i : Int) + 1) = (i : Int) + 1 := wrap64 (by omega) (by omega)
  have hmx : max x y + 1 ≤ S.top := by omega
  have hr : (iV en)[i]? = some [.int .i64 p] := by rw [iV, List.getElem?_map, hp]; rfl
  have hln : (iV en).length = en.length := by simp [iV]
  rw [loopL_eq]
  generalize loopL (some [2, 3, 6]) (S.top, S.pin) (kC (ev Q) loopL b9x2) = F
  unfold ReadsAs at hea
  rw [hln] at hea
  generalize iV en = CV at *
  generalize en.length = cl at *
  rcases hea with ⟨c, g, lo, rfl, hc, hlo⟩ | rfl
  · simp [kC, b9x2, hx, hy, hi', hil, hc, hlo, hr, w3, hmx]
  · simp [kC, b9x2, hx, hy, hi', hil, hr, w3, hmx]

theorem same_loop0 (S : St) (x y : Nat) (code : List Ins) (ca ea eb : V) (hx : S.get x = some (.cells 3 [[.bool true, ca, ea]] 0 0)) (hy : S.get y = some (.cells 3 [[.bool true, .rs 4 (code.map Ins.v) code.length, eb]] 0 0)) (hca : ReadsAs S 4 (code.map Ins.v) ca)
    (hl : code.length ≤ 1073741824) : ∀ (m i : Nat), i + m = code.length →
    ∃ l, loopL (some [2, 3, 5]) (S.top, S.pin) (kC (ev Q) loopL b9x0) ⟨66, [(2, .ptr x 0 3 0 0), (3, .ptr y 0 3 0 0), (5, .int .i64 i)]⟩ S = some (.exit 0, ⟨66, l⟩, S) ∧ look 2 l = .ptr x 0 3 0 0 ∧ look 3 l = .ptr y 0 3 0 0 := by
  intro m
  induction m with
  | zero =>
    intro i hi
    have h1 : ¬ ((i : Int) < code.length) := by omega
    have hln : (code.map Ins.v).length = code.length := by simp
    refine ⟨[(34, .bool false), (33, .int .i64 code.length), (32, ca), (31, .ptr x 0 3 0 1), (30, .int .i64 i), (2, .ptr x 0 3 0 0), (3, .ptr y 0 3 0 0), (5, .int .i64 i)], ?_, by simp, by simp⟩
    rw [loopL_eq]
    unfold ReadsAs at hca
    rw [hln] at hca
    rcases hca with ⟨c, g, lo, rfl, hc, hlo⟩ | rfl <;> simp [kC, b9x0, h1, hx]
  | succ m ih =>
    intro i hi
    have hil : i < code.length := by omega
    rw [same_round0 S x y i code ca ea eb code[i] hx hy hca (List.getElem?_eq_getElem hil) hl]
    exact ih (i + 1) (by omega)
theorem same_loop2 (S : St) (x y : Nat) (en : List Int) (ca ea cb : V) (hx : S.get x = some (.cells 3 [[.bool true, ca, ea]] 0 0)) (hy : S.get y = some (.cells 3 [[.bool true, cb, .rs 1 (iV en) en.length]] 0 0)) (hea : ReadsAs S 1 (iV en) ea)
    (hl : en.length ≤ 1073741824) : ∀ (m i : Nat), i + m = en.length →
    ∃ l, loopL (some [2, 3, 6]) (S.top, S.pin) (kC (ev Q) loopL b9x2) ⟨66, [(2, .ptr x 0 3 0 0), (3, .ptr y 0 3 0 0), (6, .int .i64 i)]⟩ S = some (.exit 2, ⟨66, l⟩, S) := by
  intro m
  induction m with
  | zero =>
    intro i hi
    have h1 : ¬ ((i : Int) < en.length) := by omega
    have hln : (iV en).length = en.length := by simp [iV]
    refine ⟨[(52, .bool false), (51, .int .i64 en.length), (50, ea), (49, .ptr x 0 3 0 2), (48, .int .i64 i), (2, .ptr x 0 3 0 0), (3, .ptr y 0 3 0 0), (6, .int .i64 i)], ?_⟩
    rw [loopL_eq]
    unfold ReadsAs at hea
    rw [hln] at hea
    rcases hea with ⟨c, g, lo, rfl, hc, hlo⟩ | rfl <;> simp [kC, b9x2, h1, hx]
  | succ m ih =>
    intro i hi
    have hil : i < en.length := by omega
    rw [same_round2 S x y i en ca ea cb en[i] hx hy hea (List.getElem?_eq_getElem hil) hl]
    exact ih (i + 1) (by omega)

theorem ReadsAs.kb {S : St} {sz : Nat} {rows : List (List V)} {u : V} (h : ReadsAs S sz rows u) (hk : kbLL rows = 0) : u.kb ≤ S.top := by
  rcases h with ⟨c, g, lo, rfl, h2, h3⟩ | rfl
  · have := get_lt _ _ h2; simp; omega
  · simp [hk]

theorem same_ev (S : St) (pr : List Ins × List Int) (ca ea : V) (hca : ReadsAs S 4 (pr.1.map Ins.v) ca) (hea : ReadsAs S 1 (iV pr.2) ea) (hl : pr.1.length ≤ 1073741824) (hl2 : pr.2.length ≤ 1073741824) :
    ev Q 9 [.agg [.bool true, ca, ea], progV pr] S = some (.ret (.bool true), S) := by
  have hk1 := kbLL_ins pr.1
  have hk2 := kbLL_iV pr.2
  have hkc := hca.kb hk1
  have hke := hea.kb hk2
  have hln1 : (pr.1.map Ins.v).length = pr.1.length := by simp
  have hln2 : (iV pr.2).length = pr.2.length := by simp [iV]
  obtain ⟨l, h1, h2, h3⟩ := same_loop0 ((S.push (.cells 3 [[.bool true, ca, ea]] 0 0)).push (.cells 3 [[.bool true, .rs 4 (pr.1.map Ins.v) pr.1.length, .rs 1 (iV pr.2) pr.2.length]] 0 0)) S.top (S.top + 1) pr.1 ca ea (.rs 1 (iV pr.2) pr.2.length) (by simp) (by simp) ((hca.push _).push _) hl pr.1.length 0 (by omega)
  obtain ⟨l2, h4⟩ := same_loop2 ((S.push (.cells 3 [[.bool true, ca, ea]] 0 0)).push (.cells 3 [[.bool true, .rs 4 (pr.1.map Ins.v) pr.1.length, .rs 1 (iV pr.2) pr.2.length]] 0 0)) S.top (S.top + 1) pr.2 ca ea (.rs 4 (pr.1.map Ins.v) pr.1.length) (by simp) (by simp) ((hea.push _).push _) hl2 pr.2.length 0 (by omega)
  rw [ev_eq q9, c9, evFn_eq _ _ _ _ _ _ _ (by simp)]
  simp only [progV]
  unfold ReadsAs at hca hea
  rw [hln1] at hca
  rw [hln2] at hea
  generalize pr.1.map Ins.v = CV at *
  generalize iV pr.2 = EV at *
  simp at h1 h4
  rcases hca with ⟨c, g, lo, rfl, hc, hlo⟩ | rfl
  · rcases hea with ⟨ec, eg, elo, rfl, hec, helo⟩ | rfl
    · simp at hkc hke
      have hmx : max c ec + 1 ≤ S.top := by omega
      simp [h1, h2, h3, h4, hk1, hk2, hmx]
    · simp at hkc
      simp [h1, h2, h3, h4, hk1, hk2, hkc]
  · rcases hea with ⟨ec, eg, elo, rfl, hec, helo⟩ | rfl
    · simp at hke
      simp [h1, h2, h3, h4, hk1, hk2, hke]
    · simp [h1, h2, h3, h4, hk1, hk2]

theorem same_nil0 (S : St) (x y : Nat) (b e u : V) (hu : u = .nils ∨ u = .rs 4 [] 0) (hx : S.get x = some (.cells 3 [[b, u, e]] 0 0)) :
    ∃ l, loopL (some [2, 3, 5]) (S.top, S.pin) (kC (ev Q) loopL b9x0) ⟨66, [(2, .ptr x 0 3 0 0), (3, .ptr y 0 3 0 0), (5, .int .i64 0)]⟩ S = some (.exit 0, ⟨66, l⟩, S) ∧ look 2 l = .ptr x 0 3 0 0 ∧ look 3 l = .ptr y 0 3 0 0 := by
  refine ⟨[(34, .bool false), (33, .int .i64 0), (32, u), (31, .ptr x 0 3 0 1), (30, .int .i64 0), (2, .ptr x 0 3 0 0), (3, .ptr y 0 3 0 0), (5, .int .i64 0)], ?_, by simp, by simp⟩
  rw [loopL_eq]
  rcases hu with rfl | rfl <;> simp [kC, b9x0, hx]
theorem same_nil2 (S : St) (x y : Nat) (b c u : V) (hu : u = .nils ∨ u = .rs 1 [] 0) (hx : S.get x = some (.cells 3 [[b, c, u]] 0 0)) :
    ∃ l, loopL (some [2, 3, 6]) (S.top, S.pin) (kC (ev Q) loopL b9x2) ⟨66, [(2, .ptr x 0 3 0 0), (3, .ptr y 0 3 0 0), (6, .int .i64 0)]⟩ S = some (.exit 2, ⟨66, l⟩, S) := by
  refine ⟨[(52, .bool false), (51, .int .i64 0), (50, u), (49, .ptr x 0 3 0 2), (48, .int .i64 0), (2, .ptr x 0 3 0 0), (3, .ptr y 0 3 0 0), (6, .int .i64 0)], ?_⟩
  rw [loopL_eq]
  rcases hu with rfl | rfl <;> simp [kC, b9x2, hx]

theorem same_no (S : St) (a : List V) (ha : a = [.bool false, .nils, .nils] ∨ a = [.bool false, .rs 4 [] 0, .rs 1 [] 0]) : ev Q 9 [.agg a, noProg] S = some (.ret (.bool true), S) := by
  rw [ev_eq q9, c9, evFn_eq _ _ _ _ _ _ _ (by simp)]
  rcases ha with rfl | rfl
  · obtain ⟨l, h1, h2, h3⟩ := same_nil0 ((S.push (.cells 3 [[.bool false, .nils, .nils]] 0 0)).push (.cells 3 [[.bool false, .nils, .nils]] 0 0)) S.top (S.top + 1) (.bool false) .nils .nils (Or.inl rfl) (by simp)
    obtain ⟨l2, h4⟩ := same_nil2 ((S.push (.cells 3 [[.bool false, .nils, .nils]] 0 0)).push (.cells 3 [[.bool false, .nils, .nils]] 0 0)) S.top (S.top + 1) (.bool false) .nils .nils (Or.inl rfl) (by simp)
    simp at h1 h4
    simp [noProg, h1, h2, h3, h4]
  · obtain ⟨l, h1, h2, h3⟩ := same_nil0 ((S.push (.cells 3 [[.bool false, .rs 4 [] 0, .rs 1 [] 0]] 0 0)).push (.cells 3 [[.bool false, .nils, .nils]] 0 0)) S.top (S.top + 1) (.bool false) (.rs 1 [] 0) (.rs 4 [] 0) (Or.inr rfl) (by simp)
    obtain ⟨l2, h4⟩ := same_nil2 ((S.push (.cells 3 [[.bool false, .rs 4 [] 0, .rs 1 [] 0]] 0 0)).push (.cells 3 [[.bool false, .nils, .nils]] 0 0)) S.top (S.top + 1) (.bool false) (.rs 4 [] 0) (.rs 1 [] 0) (Or.inr rfl) (by simp)
    simp at h1 h4
    simp [noProg, h1, h2, h3, h4]
end Mev

/- Is the schema as it was: one equation. -/

set_option maxRecDepth 100000
namespace Mev
open Go Go.Proofs

theorem still_round2 (S : St) (a b c d i j : Nat) (t : Typ) (p : List UInt8 × Int × Int) (ha : a < S.top) (hb : b < S.top) (hc : S.get c = some (.cells 4 [(mk t).v] 0 0)) (hd : S.get d = some (.cells 4 [t.v] 0 0)) (hp : t.parts[j]? = some p) (hl : t.parts.length ≤ 1073741824) :
    loopL (some [2, 3, 5, 6, 7, 8, 9]) (S.top, S.pin) (kC (ev Q) loopL b10x2) ⟨116, [(2, .ptr a 0 2 0 0), (3, .ptr b 0 2 0 0), (5, .int .i64 i), (6, .ptr c 0 4 0 0), (7, .ptr d 0 4 0 0), (8, .int .i64 t.parts.length), (9, .int .i64 j)]⟩ S =
    loopL (some [2, 3, 5, 6, 7, 8, 9]) (S.top, S.pin) (kC (ev Q) loopL b10x2) ⟨116, [(2, .ptr a 0 2 0 0), (3, .ptr b 0 2 0 0), (5, .int .i64 i), (6, .ptr c 0 4 0 0), (7, .ptr d 0 4 0 0), (8, .int .i64 t.parts.length), (9, .int .i64 (j + 1 : Nat))]⟩ S := by
  have hcl := get_lt _ _ hc
  have hdl := get_lt _ _ hd
  have hjl := (List.getElem?_eq_some_iff.1 hp).1
  have hj' : (j : Int) < t.parts.length := by omega
  have w3 : IntKind.i64.wrap ((j : Int) + 1) = (j : Int) + 1 := wrap64 (by omega) (by omega)
  have hmx : max a (max b (max c d)) + 1 ≤ S.top := by omega
  have hmv : (mk t).v = [.int .i64 t.kind, .int .i64 t.n, .int .i64 t.elem, .rs 3 (t.parts.map partV ++ [markV]) t.parts.length] := rfl
  rw [hmv] at hc
  have hr1 : (t.parts.map partV ++ [markV])[j]? = some (partV p) := by
    rw [List.getElem?_append_left (by simpa using hjl), List.getElem?_map, hp]; rfl
  have hr2 : (t.parts.map partV ++ t.spare)[j]? = some (partV p) := by
    rw [List.getElem?_append_left (by simpa using hjl), List.getElem?_map, hp]; rfl
  simp only [Typ.v] at hd
  obtain ⟨lab, tag, ty⟩ := p
  simp only [partV] at hr1 hr2
  generalize t.parts.map partV ++ [markV] = R1 at *
  generalize t.parts.map partV ++ t.spare = R2 at *
  generalize t.parts.length = pl at *
  rw [loopL_eq]
  generalize loopL (some [2, 3, 5, 6, 7, 8, 9]) (S.top, S.pin) (kC (ev Q) loopL b10x2) = F
  simp [kC, b10x2, hj', hjl, hc, hd, hr1, hr2, w3, hmx]

theorem still_loop2 (S : St) (a b c d i : Nat) (t : Typ) (ha : a < S.top) (hb : b < S.top) (hc : S.get c = some (.cells 4 [(mk t).v] 0 0)) (hd : S.get d = some (.cells 4 [t.v] 0 0)) (hl : t.parts.length ≤ 1073741824) : ∀ (m j : Nat), j + m = t.parts.length →
    ∃ l, loopL (some [2, 3, 5, 6, 7, 8, 9]) (S.top, S.pin) (kC (ev Q) loopL b10x2) ⟨116, [(2, .ptr a 0 2 0 0), (3, .ptr b 0 2 0 0), (5, .int .i64 i), (6, .ptr c 0 4 0 0), (7, .ptr d 0 4 0 0), (8, .int .i64 t.parts.length), (9, .int .i64 j)]⟩ S = some (.exit 2, ⟨116, l⟩, S) ∧
      look 2 l = .ptr a 0 2 0 0 ∧ look 3 l = .ptr b 0 2 0 0 ∧ look 5 l = .int .i64 i := by
  intro m
  induction m with
  | zero =>
    intro j hj
    have h1 : ¬ ((j : Int) < t.parts.length) := by omega
    refine ⟨[(102, .bool false), (101, .int .i64 t.parts.length), (100, .int .i64 j), (2, .ptr a 0 2 0 0), (3, .ptr b 0 2 0 0), (5, .int .i64 i), (6, .ptr c 0 4 0 0), (7, .ptr d 0 4 0 0), (8, .int .i64 t.parts.length), (9, .int .i64 j)], ?_, by simp, by simp, by simp⟩
    rw [loopL_eq]
    simp [kC, b10x2, h1]
  | succ m ih =>
    intro j hj
    rw [still_round2 S a b c d i j t _ ha hb hc hd (List.getElem?_eq_getElem (by omega : j < t.parts.length)) hl]
    exact ih (j + 1) (by omega)

theorem still_round (S : St) (a b i n : Nat) (R1 R2 : List (List V)) (v1 v2 : V) (t : Typ) (ha : S.get a = some (.cells 2 [[.rs 4 R1 n, v1]] 0 0)) (hb : S.get b = some (.cells 2 [[.rs 4 R2 n, v2]] 0 0)) (hr1 : R1[i]? = some (mk t).v) (hr2 : R2[i]? = some t.v) (hi : i < n) (hn : n ≤ 1073741824) (hl : t.parts.length ≤ 1048576) :
    loopL (some [2, 3, 5]) (S.top, S.pin) (kC (ev Q) loopL b10x0) ⟨116, [(2, .ptr a 0 2 0 0), (3, .ptr b 0 2 0 0), (5, .int .i64 i)]⟩ S =
    loopL (some [2, 3, 5]) (S.top, S.pin) (kC (ev Q) loopL b10x0) ⟨116, [(2, .ptr a 0 2 0 0), (3, .ptr b 0 2 0 0), (5, .int .i64 (i + 1 : Nat))]⟩ S := by
  have hal := get_lt _ _ ha
  have hbl := get_lt _ _ hb
  have hi' : (i : Int) < n := by omega
  have w3 : IntKind.i64.wrap ((i : Int) + 1) = (i : Int) + 1 := wrap64 (by omega) (by omega)
  have w4 : IntKind.i64.wrap ((t.parts.length : Int) + 1) = (t.parts.length : Int) + 1 := wrap64 (by omega) (by omega)
  have hmx : max a b + 1 ≤ S.top := by omega
  obtain ⟨l, h1, h2, h3, h4⟩ := still_loop2 ((S.push (.cells 4 [(mk t).v] 0 0)).push (.cells 4 [t.v] 0 0)) a b S.top (S.top + 1) i t (by simp; omega) (by simp; omega) (by simp) (by simp) (by omega) t.parts.length 0 (by omega)
  have hmv : (mk t).v = [.int .i64 t.kind, .int .i64 t.n, .int .i64 t.elem, .rs 3 (t.parts.map partV ++ [markV]) t.parts.length] := rfl
  rw [hmv] at h1 hr1
  have hmk : (t.parts.map partV ++ [markV])[t.parts.length]? = some markV := by
    rw [List.getElem?_append_right (by simp)]; simp
  have hml : (t.parts.map partV ++ [markV]).length = t.parts.length + 1 := by simp
  have hk1 := kbLL_app0 (t.parts.map partV) [markV] (kbLL_part _) (by simp [markV])
  simp only [Typ.v] at h1 hr2
  generalize hP1 : t.parts.map partV ++ [markV] = P1 at *
  generalize hP2 : t.parts.map partV ++ t.spare = P2 at *
  generalize t.parts.length = pl at *
  have hpl : (pl : Int) < (pl : Int) + 1 := by omega
  have hpl0 : (0 : Int) ≤ (pl : Int) + 1 := by omega
  simp only [markV] at hmk
  have hme : ∀ h : pl < P1.length, P1[pl]'h = [.str [109, 97, 114, 107], .int .i64 7, .int .i64 0] := fun h => by
    have := List.getElem?_eq_getElem h
    rw [hmk] at this
    exact (Option.some.inj this).symm
  simp at h1
  rw [loopL_eq]
  generalize loopL (some [2, 3, 5]) (S.top, S.pin) (kC (ev Q) loopL b10x0) = F
  simp [kC, b10x0, hi', hi, ha, hb, hr1, hr2, below hal, below hbl, w3, w4, hmx, hme, hmk, hml, hpl, hpl0, h1, h2, h3, h4, hk1]

theorem still_loop (S : St) (a b : Nat) (ts : List Typ) (sp1 sp2 : List (List V)) (v1 v2 : V) (ha : S.get a = some (.cells 2 [[tsV (ts.map mk) sp1, v1]] 0 0)) (hb : S.get b = some (.cells 2 [[tsV ts sp2, v2]] 0 0)) (hn : ts.length ≤ 1073741824) (hp : ∀ t ∈ ts, t.parts.length ≤ 1048576) : ∀ (m i : Nat), i + m = ts.length →
    ∃ l, loopL (some [2, 3, 5]) (S.top, S.pin) (kC (ev Q) loopL b10x0) ⟨116, [(2, .ptr a 0 2 0 0), (3, .ptr b 0 2 0 0), (5, .int .i64 i)]⟩ S = some (.exit 0, ⟨116, l⟩, S) := by
  have hml : (ts.map mk).length = ts.length := by simp
  intro m
  induction m with
  | zero =>
    intro i hi
    have h1 : ¬ ((i : Int) < ts.length) := by omega
    refine ⟨[(46, .bool false), (45, .int .i64 ts.length), (44, tsV (ts.map mk) sp1), (43, .ptr a 0 2 0 0), (42, .int .i64 i), (2, .ptr a 0 2 0 0), (3, .ptr b 0 2 0 0), (5, .int .i64 i)], ?_⟩
    rw [loopL_eq]
    simp only [tsV, hml] at ha
    simp [kC, b10x0, h1, ha, tsV]
  | succ m ih =>
    intro i hi
    have hil : i < ts.length := by omega
    have ht : ts[i]? = some ts[i] := List.getElem?_eq_getElem hil
    have ha' := ha
    have hb' := hb
    simp only [tsV, hml] at ha'
    simp only [tsV] at hb'
    rw [still_round S a b i ts.length _ _ v1 v2 ts[i] ha' hb' (by rw [List.getElem?_append_left (by simpa using hil), List.getElem?_map, List.getElem?_map, ht]; rfl) (by rw [List.getElem?_append_left (by simpa using hil), List.getElem?_map, ht]; rfl) hil hn (hp _ (List.getElem_mem hil))]
    exact ih (i + 1) (by omega)

theorem still_ev (ts : List Typ) (sp : List (List V)) (hn : ts.length ≤ 1048576) (rv : V) (rs : List (List UInt8 × Int)) (hrv : RootsV rv rs) (hrs : rs.length ≤ 1048576) (hp : ∀ t ∈ ts, t.parts.length ≤ 1048576) :
    Pure 10 [.agg [tsV (ts.map mk) [lastV], .rs 2 (rs.map rootV) rs.length], .agg [tsV ts sp, rv]] (.bool true) := by
  intro S
  have hkb := rv_kb rv rs hrv
  have hml : (ts.map mk).length = ts.length := by simp
  have w4 : IntKind.i64.wrap ((ts.length : Int) + 1) = (ts.length : Int) + 1 := wrap64 (by omega) (by omega)
  obtain ⟨l, h1⟩ := still_loop ((S.push (.cells 2 [[tsV (ts.map mk) [lastV], .rs 2 (rs.map rootV) rs.length]] 0 0)).push (.cells 2 [[tsV ts sp, rv]] 0 0)) S.top (S.top + 1) ts [lastV] sp (.rs 2 (rs.map rootV) rs.length) rv (by simp) (by simp) (by omega) hp ts.length 0 (by omega)
  have hk0 : kbLL ((ts.map mk).map Typ.v ++ [lastV]) = 0 := kbLL_app0 _ _ (kbLL_typ _) (by simp [lastV])
  have hkr := kbLL_root rs
  have hg : ((ts.map mk).map Typ.v ++ [lastV])[ts.length]? = some lastV := by
    rw [List.getElem?_append_right (by simp)]; simp
  have hgl : ((ts.map mk).map Typ.v ++ [lastV]).length = ts.length + 1 := by simp
  simp only [tsV, hml] at h1 ⊢
  generalize (ts.map mk).map Typ.v ++ [lastV] = M at *
  generalize ts.map Typ.v ++ sp = N at *
  generalize rs.map rootV = RV at *
  simp only [lastV] at hg
  have hge : ∀ h : ts.length < M.length, M[ts.length]'h = [.int .i64 77, .int .i64 0, .int .i64 0, .nils] := fun h => by
    have := List.getElem?_eq_getElem h
    rw [hg] at this
    exact (Option.some.inj this).symm
  have q1 : (ts.length : Int) < (ts.length : Int) + 1 := by omega
  have q2 : (0 : Int) ≤ (ts.length : Int) + 1 := by omega
  rw [ev_eq q10, c10, evFn_eq _ _ _ _ _ _ _ (by simp)]
  rcases hrv with ⟨rfl, rfl⟩ | ⟨_, rfl⟩
  · simp at h1
    simp [h1, hk0, hkr, hg, hge, hgl, w4, q1, q2]
  · have hkb2 := hkb
    simp at h1 hkb
    simp [h1, hk0, hkr, hg, hge, hgl, w4, q1, q2, hkb]
end Mev

/- The plain law: what lies behind a list's end changes no answer. -/

set_option maxRecDepth 100000
namespace Mev
open Go Go.Proofs

theorem scan_mk {α : Type} (f : List α → Typ → α) (hf : ∀ es t, f es (mk t) = f es t) : ∀ (ts : List Typ) (es : List α), scan f es (ts.map mk) = scan f es ts := by
  intro ts
  induction ts with
  | nil => intro es; rfl
  | cons t ts ih => intro es; rw [List.map_cons, scan, scan, hf, ih]

theorem exts_mk (ts : List Typ) : extsN (ts.map mk) = extsN ts := scan_mk _ (fun _ _ => rfl) ts []
theorem lays_mk (ts : List Typ) : laysN (ts.map mk) = laysN ts := by
  unfold laysN
  rw [exts_mk, List.map_map]
  rfl
theorem deep_mk : ∀ (ts : List Typ) (ds : List Int), deepN ds (ts.map mk) = deepN ds ts := by
  intro ts
  induction ts with
  | nil => intro ds; rfl
  | cons t ts ih =>
    intro ds
    rw [List.map_cons, deepN, deepN]
    have : depN (dOf ds) (mk t) = depN (dOf ds) t := rfl
    rw [this, ih]
theorem right_mk (ts : List Typ) : allRight (ts.map mk) ↔ allRight ts := by
  constructor
  · intro h j t ht
    have := h j (mk t) (by rw [List.getElem?_map, ht]; rfl)
    exact this
  · intro h j t ht
    rw [List.getElem?_map] at ht
    cases hj : ts[j]? with
    | none => rw [hj] at ht; cases ht
    | some u =>
      rw [hj] at ht
      cases ht
      exact h j u hj
theorem fine_mk (ts : List Typ) (rs : List (List UInt8 × Int)) : FineS (ts.map mk) rs ↔ FineS ts rs := by
  unfold FineS
  rw [right_mk, deep_mk, List.length_map]
theorem most_mk (ts : List Typ) : mostOk (ts.map mk) ↔ mostOk ts := by
  unfold mostOk
  rw [exts_mk]

theorem getD_mk (ts : List Typ) (j : Nat) : ((ts.map mk).getD j noT).kind = (ts.getD j noT).kind ∧ ((ts.map mk).getD j noT).n = (ts.getD j noT).n ∧ ((ts.map mk).getD j noT).elem = (ts.getD j noT).elem ∧ ((ts.map mk).getD j noT).parts = (ts.getD j noT).parts := by
  rw [List.getD_eq_getElem?_getD, List.getD_eq_getElem?_getD, List.getElem?_map]
  cases ts[j]? <;> exact ⟨rfl, rfl, rfl, rfl⟩

/-- alike but for what lies behind a list's end -/
structure Alike (K K' : Kn) : Prop where
  ts : ∀ j, (K.ts.getD j noT).kind = (K'.ts.getD j noT).kind ∧ (K.ts.getD j noT).n = (K'.ts.getD j noT).n ∧ (K.ts.getD j noT).elem = (K'.ts.getD j noT).elem ∧ (K.ts.getD j noT).parts = (K'.ts.getD j noT).parts
  es : K.es = K'.es
  ls : K.ls = K'.ls

theorem fixI_alike {K K' : Kn} (h : Alike K K') (t : Nat) (p : Int) : fixI K t p = fixI K' t p := by
  obtain ⟨h1, h2, _, _⟩ := h.ts t
  simp only [noT] at h1 h2
  simp only [fixI, h1, h2]
theorem itemI_alike {K K' : Kn} (h : Alike K K') (t : Nat) : itemI K t = itemI K' t := by
  obtain ⟨h1, h2, _, _⟩ := h.ts t
  simp only [noT] at h1 h2
  simp only [itemI, h1, h2, h.es]
theorem itemsI_alike {K K' : Kn} (h : Alike K K') (t : Nat) (l : Bool) (n : Int) : itemsI K t l n = itemsI K' t l n := by
  simp only [itemsI, h.es, itemI_alike h]
theorem fieldsL_alike {K K' : Kn} (h : Alike K K') (l : List ((List UInt8 × Int × Int) × Slot')) : fieldsL K l = fieldsL K' l := by
  have : ∀ x : (List UInt8 × Int × Int) × Slot', fieldI K x.1 x.2 = fieldI K' x.1 x.2 := fun x => by simp only [fieldI, fixI_alike h]
  simp only [fieldsL, this]
theorem bodyR_alike {K K' : Kn} (h : Alike K K') (t : Nat) (code : List Ins) : bodyR K t code = bodyR K' t code := by
  obtain ⟨h1, h2, h3, h4⟩ := h.ts t
  have hfi : fieldsI K t code = fieldsI K' t code := by
    have h4' := h4
    simp only [noT] at h4'
    simp only [fieldsI, fieldsL_alike h, h4', h.es, h.ls]
  have hai : armsI (K.ts.getD t noT) code = armsI (K'.ts.getD t noT) code := by
    simp only [armsI, h4]
  simp only [bodyR, hfi, hai, fixI_alike h, itemsI_alike h, h1, h2, h3]
theorem prog_alike {K K' : Kn} (h : Alike K K') : ∀ n, prog K n = prog K' n := by
  intro n
  induction n with
  | zero => rfl
  | succ n ih => rw [prog, prog, ih, routineR, routineR, bodyR_alike h]

theorem progOf_mk (ts : List Typ) : progOf (ts.map mk) = progOf ts := by
  have h : Alike (knOf (ts.map mk) [] .nils) (knOf ts [] .nils) := ⟨fun j => getD_mk ts j, exts_mk ts, lays_mk ts⟩
  unfold progOf
  rw [List.length_map, prog_alike h]
theorem err_mk (ts : List Typ) (rs : List (List UInt8 × Int)) : errP (ts.map mk) rs = errP ts rs := by
  have h : Alike (knOf (ts.map mk) [] .nils) (knOf ts [] .nils) := ⟨fun j => getD_mk ts j, exts_mk ts, lays_mk ts⟩
  have hf : FitsTo (knOf (ts.map mk) [] .nils) 0 (ts.map mk).length ↔ FitsTo (knOf ts [] .nils) 0 ts.length := by
    rw [fits_iff, fits_iff, List.length_map, prog_alike h]
  by_cases a : FineS ts rs
  · have a' := (fine_mk ts rs).2 a
    by_cases b : mostOk ts
    · have b' := (most_mk ts).2 b
      by_cases c : FitsTo (knOf ts [] .nils) 0 ts.length
      · have c' := hf.2 c
        simp only [errP, if_pos a, if_pos b, if_pos c, if_pos a', if_pos b', if_pos c']
      · have c' := fun h => c (hf.1 h)
        simp only [errP, if_pos a, if_pos b, if_neg c, if_pos a', if_pos b', if_neg c']
    · have b' := fun h => b ((most_mk ts).1 h)
      simp only [errP, if_pos a, if_neg b, if_pos a', if_neg b']
  · have a' := fun h => a ((fine_mk ts rs).1 h)
    simp only [errP, if_neg a, if_neg a']
theorem err_len (ts : List Typ) (rs : List (List UInt8 × Int)) (h : errP ts rs = 0) : (progOf ts).1.length ≤ 1048576 := by
  unfold errP at h
  split at h
  · split at h
    · split at h
      · rename_i hf
        exact (fits_iff _ _).1 hf
      · cases h
    · cases h
  · cases h
theorem prog_len2 (ts : List Typ) : (progOf ts).2.length = ts.length := prog_len _ _
end Mev

/- RaiseExact's own loops. -/

set_option maxRecDepth 100000
namespace Mev
open Go Go.Proofs

def offI : List V := [.int .i64 (-1), .int .i64 0, .int .i64 0, .int .i64 0]
def offE : List V := [.int .i64 (-1)]
def endI : List V := [.int .i64 (-2), .int .i64 0, .int .i64 0, .int .i64 0]
def endE : List V := [.int .i64 (-2)]

section
variable (y z b w : Nat) (er : Int)
/-- what RaiseExact's loops carry -/
def L0 (j : Tmp) (i : Nat) : List (Tmp × V) := [(3, .ptr y 0 2 0 0), (4, .ptr z 0 3 0 0), (6, .ptr b 0 3 0 0), (8, .ptr w 0 3 0 0), (9, .int .i64 er), (j, .int .i64 i)]
def Kept (l : List (Tmp × V)) : Prop := look 3 l = .ptr y 0 2 0 0 ∧ look 4 l = .ptr z 0 3 0 0 ∧ look 6 l = .ptr b 0 3 0 0 ∧ look 8 l = .ptr w 0 3 0 0 ∧ look 9 l = .int .i64 er

theorem wr0_round (S : St) (c g lo i n : Nat) (R : List (List V)) (bo ea : V) (row : List V) (hy : y < S.top) (hb : b < S.top) (hw : w < S.top) (hz : S.get z = some (.cells 3 [[bo, .sl c g 4 0 n, ea]] 0 0)) (hc : S.get c = some (.cells 4 R g lo)) (hlo : lo ≤ g) (hR : R[i]? = some row) (hrow : row.length = 4) (hi : i < n) (hn : n ≤ 1073741824) :
    loopL (some [3, 4, 6, 8, 9, 10]) (S.top, S.pin) (kC (ev Q) loopL b3x0) ⟨174, L0 y z b w er 10 i⟩ S =
    loopL (some [3, 4, 6, 8, 9, 10]) (S.top, S.pin) (kC (ev Q) loopL b3x0) ⟨174, L0 y z b w er 10 (i + 1)⟩ (S.put c (.cells 4 (R.set i offI) g g)) := by
  have hzl := get_lt _ _ hz
  have hcl := get_lt _ _ hc
  have hi' : (i : Int) < n := by omega
  have w3 : IntKind.i64.wrap ((i : Int) + 1) = (i : Int) + 1 := wrap64 (by omega) (by omega)
  have hmx : max y (max z (max b w)) + 1 ≤ S.top := by omega
  match row, hrow with
  | [r0, r1, r2, r3], _ =>
    simp only [L0, offI]
    rw [loopL_eq]
    generalize loopL (some [3, 4, 6, 8, 9, 10]) (S.top, S.pin) (kC (ev Q) loopL b3x0) = F
    simp [kC, b3x0, hi', hi, hz, hc, hlo, hR, w3, hmx]

theorem wr0_loop (c g n : Nat) (bo ea : V) (hcz : c ≠ z) (hn : n ≤ 1073741824) : ∀ (m i : Nat) (S : St) (R : List (List V)) (lo : Nat), i + m = n → y < S.top → b < S.top → w < S.top → S.get z = some (.cells 3 [[bo, .sl c g 4 0 n, ea]] 0 0) → S.get c = some (.cells 4 (List.replicate i offI ++ R) g lo) → lo ≤ g → R.length = m → (∀ row ∈ R, row.length = 4) →
    ∃ l lo', lo' ≤ g ∧ loopL (some [3, 4, 6, 8, 9, 10]) (S.top, S.pin) (kC (ev Q) loopL b3x0) ⟨174, L0 y z b w er 10 i⟩ S = some (.exit 0, ⟨174, l⟩, S.put c (.cells 4 (List.replicate n offI) g lo')) ∧ Kept y z b w er l := by
  intro m
  induction m with
  | zero =>
    intro i S R lo hi hy hb hw hz hc hlo hR hrows
    have h1 : ¬ ((i : Int) < n) := by omega
    obtain rfl : R = [] := List.eq_nil_of_length_eq_zero hR
    obtain rfl : i = n := by omega
    rw [List.append_nil] at hc
    refine ⟨[(67, .bool false), (66, .int .i64 i), (65, .sl c g 4 0 i), (64, .ptr z 0 3 0 1), (63, .int .i64 i)] ++ L0 y z b w er 10 i, lo, hlo, ?_, by simp [Kept, L0]⟩
    rw [put_self _ _ hc, loopL_eq]
    simp [kC, b3x0, hz, L0]
  | succ m ih =>
    intro i S R lo hi hy hb hw hz hc hlo hR hrows
    have hcl := get_lt _ _ hc
    match R, hR with
    | r :: R, hR =>
      have hset : (List.replicate i offI ++ r :: R).set i offI = List.replicate (i + 1) offI ++ R := by
        rw [List.set_append_right _ _ (by simp), List.length_replicate, Nat.sub_self, List.set_cons_zero, List.replicate_succ', List.append_assoc]; rfl
      have hget : (List.replicate i offI ++ r :: R)[i]? = some r := by
        rw [List.getElem?_append_right (by simp)]; simp
      rw [wr0_round y z b w er S c g lo i n _ bo ea r hy hb hw hz hc hlo hget (hrows r List.mem_cons_self) (by omega) hn, hset]
      obtain ⟨l, lo', h0, h1, h2⟩ := ih (i + 1) (S.put c (.cells 4 (List.replicate (i + 1) offI ++ R) g g)) R g (by omega) (by simpa using hy) (by simpa using hb) (by simpa using hw) (by rw [put_get_ne _ _ _ _ hcz]; exact hz) (by rw [put_get_if, if_pos ⟨rfl, hcl⟩]) (Nat.le_refl _) (by simpa using hR) (fun row h => hrows row (List.mem_cons_of_mem _ h))
      refine ⟨l, lo', h0, ?_, h2⟩
      simp only [top_put, pin_put, put_put] at h1
      exact h1

theorem wr2_round (S : St) (c g lo i n : Nat) (R : List (List V)) (bo ca : V) (row : List V) (hy : y < S.top) (hb : b < S.top) (hw : w < S.top) (hz : S.get z = some (.cells 3 [[bo, ca, .sl c g 1 0 n]] 0 0)) (hc : S.get c = some (.cells 1 R g lo)) (hlo : lo ≤ g) (hR : R[i]? = some row) (hrow : row.length = 1) (hi : i < n) (hn : n ≤ 1073741824) :
    loopL (some [3, 4, 6, 8, 9, 11]) (S.top, S.pin) (kC (ev Q) loopL b3x2) ⟨174, L0 y z b w er 11 i⟩ S =
    loopL (some [3, 4, 6, 8, 9, 11]) (S.top, S.pin) (kC (ev Q) loopL b3x2) ⟨174, L0 y z b w er 11 (i + 1)⟩ (S.put c (.cells 1 (R.set i offE) g g)) := by
  have hzl := get_lt _ _ hz
  have hcl := get_lt _ _ hc
  have hi' : (i : Int) < n := by omega
  have w3 : IntKind.i64.wrap ((i : Int) + 1) = (i : Int) + 1 := wrap64 (by omega) (by omega)
  have hmx : max y (max z (max b w)) + 1 ≤ S.top := by omega
  match row, hrow with
  | [r0], _ =>
    simp only [L0, offE]
    rw [loopL_eq]
    generalize loopL (some [3, 4, 6, 8, 9, 11]) (S.top, S.pin) (kC (ev Q) loopL b3x2) = F
    simp [kC, b3x2, hi', hi, hz, hc, hlo, hR, w3, hmx]

theorem wr2_loop (c g n : Nat) (bo ca : V) (hcz : c ≠ z) (hn : n ≤ 1073741824) : ∀ (m i : Nat) (S : St) (R : List (List V)) (lo : Nat), i + m = n → y < S.top → b < S.top → w < S.top → S.get z = some (.cells 3 [[bo, ca, .sl c g 1 0 n]] 0 0) → S.get c = some (.cells 1 (List.replicate i offE ++ R) g lo) → lo ≤ g → R.length = m → (∀ row ∈ R, row.length = 1) →
    ∃ l lo', lo' ≤ g ∧ loopL (some [3, 4, 6, 8, 9, 11]) (S.top, S.pin) (kC (ev Q) loopL b3x2) ⟨174, L0 y z b w er 11 i⟩ S = some (.exit 2, ⟨174, l⟩, S.put c (.cells 1 (List.replicate n offE) g lo')) ∧ Kept y z b w er l := by
  intro m
  induction m with
  | zero =>
    intro i S R lo hi hy hb hw hz hc hlo hR hrows
    have h1 : ¬ ((i : Int) < n) := by omega
    obtain rfl : R = [] := List.eq_nil_of_length_eq_zero hR
    obtain rfl : i = n := by omega
    rw [List.append_nil] at hc
    refine ⟨[(79, .bool false), (78, .int .i64 i), (77, .sl c g 1 0 i), (76, .ptr z 0 3 0 2), (75, .int .i64 i)] ++ L0 y z b w er 11 i, lo, hlo, ?_, by simp [Kept, L0]⟩
    rw [put_self _ _ hc, loopL_eq]
    simp [kC, b3x2, hz, L0]
  | succ m ih =>
    intro i S R lo hi hy hb hw hz hc hlo hR hrows
    have hcl := get_lt _ _ hc
    match R, hR with
    | r :: R, hR =>
      have hset : (List.replicate i offE ++ r :: R).set i offE = List.replicate (i + 1) offE ++ R := by
        rw [List.set_append_right _ _ (by simp), List.length_replicate, Nat.sub_self, List.set_cons_zero, List.replicate_succ', List.append_assoc]; rfl
      have hget : (List.replicate i offE ++ r :: R)[i]? = some r := by
        rw [List.getElem?_append_right (by simp)]; simp
      rw [wr2_round y z b w er S c g lo i n _ bo ca r hy hb hw hz hc hlo hget (hrows r List.mem_cons_self) (by omega) hn, hset]
      obtain ⟨l, lo', h0, h1, h2⟩ := ih (i + 1) (S.put c (.cells 1 (List.replicate (i + 1) offE ++ R) g g)) R g (by omega) (by simpa using hy) (by simpa using hb) (by simpa using hw) (by rw [put_get_ne _ _ _ _ hcz]; exact hz) (by rw [put_get_if, if_pos ⟨rfl, hcl⟩]) (Nat.le_refl _) (by simpa using hR) (fun row h => hrows row (List.mem_cons_of_mem _ h))
      refine ⟨l, lo', h0, ?_, h2⟩
      simp only [top_put, pin_put, put_put] at h1
      exact h1

theorem wr0_nil (S : St) (bo ea : V) (hz : S.get z = some (.cells 3 [[bo, .nils, ea]] 0 0)) : ∃ l, loopL (some [3, 4, 6, 8, 9, 10]) (S.top, S.pin) (kC (ev Q) loopL b3x0) ⟨174, L0 y z b w er 10 0⟩ S = some (.exit 0, ⟨174, l⟩, S) ∧ Kept y z b w er l := by
  refine ⟨[(67, .bool false), (66, .int .i64 0), (65, .nils), (64, .ptr z 0 3 0 1), (63, .int .i64 0)] ++ L0 y z b w er 10 0, ?_, by simp [Kept, L0]⟩
  rw [loopL_eq]
  simp [kC, b3x0, hz, L0]
theorem wr2_nil (S : St) (bo ca : V) (hz : S.get z = some (.cells 3 [[bo, ca, .nils]] 0 0)) : ∃ l, loopL (some [3, 4, 6, 8, 9, 11]) (S.top, S.pin) (kC (ev Q) loopL b3x2) ⟨174, L0 y z b w er 11 0⟩ S = some (.exit 2, ⟨174, l⟩, S) ∧ Kept y z b w er l := by
  refine ⟨[(79, .bool false), (78, .int .i64 0), (77, .nils), (76, .ptr z 0 3 0 2), (75, .int .i64 0)] ++ L0 y z b w er 11 0, ?_, by simp [Kept, L0]⟩
  rw [loopL_eq]
  simp [kC, b3x2, hz, L0]

/-- what the loops that look back carry -/
def L4 (x12 x13 : V) (j : Tmp) (i : Nat) : List (Tmp × V) := [(3, .ptr y 0 2 0 0), (4, .ptr z 0 3 0 0), (6, .ptr b 0 3 0 0), (8, .ptr w 0 3 0 0), (9, .int .i64 er), (12, x12), (13, x13), (j, .int .i64 i)]

theorem rd4_loop (S : St) (c g lo n : Nat) (bo ea x13 : V) (hy : y < S.top) (hb : b < S.top) (hw : w < S.top) (h13 : x13.kb ≤ S.top) (hz : S.get z = some (.cells 3 [[bo, .sl c g 4 0 n, ea]] 0 0)) (hc : S.get c = some (.cells 4 (List.replicate n offI ++ [endI]) (g + 1) lo)) (hlo : lo ≤ g) (hn : n ≤ 1073741824) : ∀ (m i : Nat), i + m = n →
    ∃ l, loopL (some [3, 4, 6, 8, 9, 12, 13, 14]) (S.top, S.pin) (kC (ev Q) loopL b3x4) ⟨174, L4 y z b w er (.sl c (g + 1) 4 0 (n + 1)) x13 14 i⟩ S = some (.exit 4, ⟨174, l⟩, S) ∧ Kept y z b w er l ∧ look 12 l = .sl c (g + 1) 4 0 (n + 1) ∧ look 13 l = x13 := by
  have hzl := get_lt _ _ hz
  have hcl := get_lt _ _ hc
  intro m
  induction m with
  | zero =>
    intro i hi
    have h1 : ¬ ((i : Int) < n) := by omega
    refine ⟨[(99, .bool false), (98, .int .i64 n), (97, .sl c g 4 0 n), (96, .ptr z 0 3 0 1), (95, .int .i64 i)] ++ L4 y z b w er (.sl c (g + 1) 4 0 (n + 1)) x13 14 i, ?_, by simp [Kept, L4], by simp [L4], by simp [L4]⟩
    rw [loopL_eq]
    simp [kC, b3x4, hz, L4, h1]
  | succ m ih =>
    intro i hi
    obtain ⟨l, h1, h2⟩ := ih (i + 1) (by omega)
    refine ⟨l, ?_, h2⟩
    rw [← h1]
    have hi' : (i : Int) < n := by omega
    have hin : i < n := by omega
    have hi1 : (i : Int) < (n : Int) + 1 := by omega
    have hin1 : i < n + 1 := by omega
    have w3 : IntKind.i64.wrap ((i : Int) + 1) = (i : Int) + 1 := wrap64 (by omega) (by omega)
    have hmx : max y (max z (max b (max w (max (c + 1) x13.kb)))) + 1 ≤ S.top + 1 := by omega
    have hR : (List.replicate n offI ++ [endI])[i]? = some offI := by
      rw [List.getElem?_append_left (by simpa using hin)]; simp [hin]
    have hlo1 : lo ≤ g + 1 := by omega
    have m1 : max y (max z (max b (max w c))) + 1 ≤ S.top := by omega
    have q1 : y + 1 ≤ S.top := by omega
    have q2 : z + 1 ≤ S.top := by omega
    have q3 : b + 1 ≤ S.top := by omega
    have q4 : w + 1 ≤ S.top := by omega
    have q5 : c + 1 ≤ S.top := by omega
    generalize List.replicate n offI ++ [endI] = RR at *
    simp only [offI] at hR
    simp only [L4]
    rw [loopL_eq]
    generalize loopL (some [3, 4, 6, 8, 9, 12, 13, 14]) (S.top, S.pin) (kC (ev Q) loopL b3x4) = F
    simp [kC, b3x4, hi', hin, hi1, hin1, hz, hc, hlo, hlo1, hR, w3, q1, q2, q3, q4, q5, h13, m1]

theorem rd6_loop (S : St) (c g lo n : Nat) (bo ca x12 : V) (hy : y < S.top) (hb : b < S.top) (hw : w < S.top) (h12 : x12.kb ≤ S.top) (hz : S.get z = some (.cells 3 [[bo, ca, .sl c g 1 0 n]] 0 0)) (hc : S.get c = some (.cells 1 (List.replicate n offE ++ [endE]) (g + 1) lo)) (hlo : lo ≤ g) (hn : n ≤ 1073741824) : ∀ (m i : Nat), i + m = n →
    ∃ l, loopL (some [3, 4, 6, 8, 9, 12, 13, 15]) (S.top, S.pin) (kC (ev Q) loopL b3x6) ⟨174, L4 y z b w er x12 (.sl c (g + 1) 1 0 (n + 1)) 15 i⟩ S = some (.exit 6, ⟨174, l⟩, S) ∧ Kept y z b w er l ∧ look 12 l = x12 ∧ look 13 l = .sl c (g + 1) 1 0 (n + 1) := by
  have hzl := get_lt _ _ hz
  have hcl := get_lt _ _ hc
  intro m
  induction m with
  | zero =>
    intro i hi
    have h1 : ¬ ((i : Int) < n) := by omega
    refine ⟨[(121, .bool false), (120, .int .i64 n), (119, .sl c g 1 0 n), (118, .ptr z 0 3 0 2), (117, .int .i64 i)] ++ L4 y z b w er x12 (.sl c (g + 1) 1 0 (n + 1)) 15 i, ?_, by simp [Kept, L4], by simp [L4], by simp [L4]⟩
    rw [loopL_eq]
    simp [kC, b3x6, hz, L4, h1]
  | succ m ih =>
    intro i hi
    obtain ⟨l, h1, h2⟩ := ih (i + 1) (by omega)
    refine ⟨l, ?_, h2⟩
    rw [← h1]
    have hi' : (i : Int) < n := by omega
    have hin : i < n := by omega
    have hi1 : (i : Int) < (n : Int) + 1 := by omega
    have hin1 : i < n + 1 := by omega
    have w3 : IntKind.i64.wrap ((i : Int) + 1) = (i : Int) + 1 := wrap64 (by omega) (by omega)
    have hR : (List.replicate n offE ++ [endE])[i]? = some offE := by
      rw [List.getElem?_append_left (by simpa using hin)]; simp [hin]
    have hlo1 : lo ≤ g + 1 := by omega
    have m1 : max y (max z (max b (max w c))) + 1 ≤ S.top := by omega
    have m2 : max y (max z (max b w)) + 1 ≤ S.top := by omega
    have q1 : y + 1 ≤ S.top := by omega
    have q2 : z + 1 ≤ S.top := by omega
    have q3 : b + 1 ≤ S.top := by omega
    have q4 : w + 1 ≤ S.top := by omega
    have q5 : c + 1 ≤ S.top := by omega
    generalize List.replicate n offE ++ [endE] = RR at *
    simp only [offE] at hR
    simp only [L4]
    rw [loopL_eq]
    generalize loopL (some [3, 4, 6, 8, 9, 12, 13, 15]) (S.top, S.pin) (kC (ev Q) loopL b3x6) = F
    simp [kC, b3x6, hi', hin, hi1, hin1, hz, hc, hlo, hlo1, hR, w3, q1, q2, q3, q4, q5, h12, m1, m2]

theorem rd4_nil (S : St) (bo ea x12 x13 : V) (hz : S.get z = some (.cells 3 [[bo, .nils, ea]] 0 0)) : ∃ l, loopL (some [3, 4, 6, 8, 9, 12, 13, 14]) (S.top, S.pin) (kC (ev Q) loopL b3x4) ⟨174, L4 y z b w er x12 x13 14 0⟩ S = some (.exit 4, ⟨174, l⟩, S) ∧ Kept y z b w er l ∧ look 12 l = x12 ∧ look 13 l = x13 := by
  refine ⟨[(99, .bool false), (98, .int .i64 0), (97, .nils), (96, .ptr z 0 3 0 1), (95, .int .i64 0)] ++ L4 y z b w er x12 x13 14 0, ?_, by simp [Kept, L4], by simp [L4], by simp [L4]⟩
  rw [loopL_eq]
  simp [kC, b3x4, hz, L4]
theorem rd6_nil (S : St) (bo ca x12 x13 : V) (hz : S.get z = some (.cells 3 [[bo, ca, .nils]] 0 0)) : ∃ l, loopL (some [3, 4, 6, 8, 9, 12, 13, 15]) (S.top, S.pin) (kC (ev Q) loopL b3x6) ⟨174, L4 y z b w er x12 x13 15 0⟩ S = some (.exit 6, ⟨174, l⟩, S) ∧ Kept y z b w er l ∧ look 12 l = x12 ∧ look 13 l = x13 := by
  refine ⟨[(121, .bool false), (120, .int .i64 0), (119, .nils), (118, .ptr z 0 3 0 2), (117, .int .i64 0)] ++ L4 y z b w er x12 x13 15 0, ?_, by simp [Kept, L4], by simp [L4], by simp [L4]⟩
  rw [loopL_eq]
  simp [kC, b3x6, hz, L4]
end
end Mev
