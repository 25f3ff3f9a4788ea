/- The plain law: what is told of a front of the types. -/
import Derived.Test.YtfndbddlicbjpaaMevWd
import Derived.Test.YtfndbddlicbjpaaMevWf
import Derived.Test.YtfndbddlicbjpaaMevGA

set_option maxRecDepth 100000
namespace Mev
open Go Go.Proofs

/-! ### lists told one by one -/
theorem scan_append {α : Type} (f : List α → Typ → α) : ∀ (a b : List Typ) (es : List α), scan f es (a ++ b) = scan f (scan f es a) b := by
  intro a
  induction a with
  | nil => intro b es; rfl
  | cons t a ih => intro b es; rw [List.cons_append, scan, scan, ih]
theorem scan_prefix {α : Type} (f : List α → Typ → α) : ∀ (b : List Typ) (es : List α), (scan f es b).take es.length = es := by
  intro b
  induction b with
  | nil => intro es; simp [scan]
  | cons t b ih =>
    intro es
    rw [scan]
    have := ih (es ++ [f es t])
    have h2 : ((scan f (es ++ [f es t]) b).take (es ++ [f es t]).length).take es.length = (es ++ [f es t]).take es.length := by rw [this]
    rw [List.take_take] at h2
    simpa using h2
theorem extsN_take (ts : List Typ) (k : Nat) (hk : k ≤ ts.length) : extsN (ts.take k) = (extsN ts).take k := by
  have h1 : extsN ts = scan extN (extsN (ts.take k)) (ts.drop k) := by
    unfold extsN
    rw [← scan_append, List.take_append_drop]
  have h2 : (extsN (ts.take k)).length = k := by rw [extsN_len]; simp; omega
  have h3 := scan_prefix extN (ts.drop k) (extsN (ts.take k))
  rw [h2, ← h1] at h3
  exact h3.symm

theorem getD_take {α : Type} (l : List α) (k j : Nat) (d : α) (h : j < k) : (l.take k).getD j d = l.getD j d := by
  rw [List.getD_eq_getElem?_getD, List.getD_eq_getElem?_getD, List.getElem?_take, if_pos h]

theorem deepN_front : ∀ (a b : List Typ) (ds : List Int), (deepN ds (a ++ b)).1 = 0 → (deepN ds a).1 = 0 := by
  intro a
  induction a with
  | nil => intro b ds _; rfl
  | cons t a ih =>
    intro b ds h
    rw [List.cons_append, deepN] at h
    rw [deepN]
    split
    · rename_i h1; rw [if_pos h1] at h; exact ih b _ h
    · rename_i h1; rw [if_neg h1] at h; cases h

/-! ### layouts -/
theorem partE_congr {es es' : List Ext'} {i : Nat} (h : ∀ j, j < i → es.getD j default = es'.getD j default) {t : Typ} (hw : WfT t i) : t.parts.map (partE es) = t.parts.map (partE es') := by
  apply List.map_congr_left
  intro p hp
  have := hw.fine.2 p hp
  exact h _ (by omega)
theorem layN_congr {es es' : List Ext'} {i : Nat} (h : ∀ j, j < i → es.getD j default = es'.getD j default) {t : Typ} (hw : WfT t i) : layN es t = layN es' t := by
  simp only [layN]
  by_cases k8 : t.kind = 8
  · rw [if_pos k8, if_pos k8, structL, structL, partE_congr h hw]
  by_cases k4 : t.kind = 4
  · have := hw.elem (Or.inl k4)
    rw [h t.elem.toNat (by omega), if_neg k8, if_neg k8]
  by_cases k5 : t.kind = 5
  · have := hw.elem (Or.inr (Or.inl k5))
    rw [h t.elem.toNat (by omega), if_neg k8, if_neg k8]
  rw [if_neg k8, if_neg k4, if_neg k5, if_neg k8, if_neg k4, if_neg k5]

/-! ### routines -/
structure Agree (K K' : Kn) (k : Nat) : Prop where
  ts : ∀ j, j < k → K.ts.getD j noT = K'.ts.getD j noT
  es : ∀ j, j < k → K.es.getD j default = K'.es.getD j default
  ls : ∀ j, j < k → K.ls.getD j default = K'.ls.getD j default
theorem fixI_congr {K K' : Kn} {k t : Nat} (h : Agree K K' k) (ht : t < k) (p : Int) : fixI K t p = fixI K' t p := by
  have := h.ts t ht
  simp only [noT] at this
  simp only [fixI, this]
theorem itemI_congr {K K' : Kn} {k t : Nat} (h : Agree K K' k) (ht : t < k) : itemI K t = itemI K' t := by
  have h1 := h.ts t ht
  have h2 := h.es t ht
  simp only [noT] at h1
  simp only [itemI, h1, h2]
theorem itemsI_congr {K K' : Kn} {k t : Nat} (h : Agree K K' k) (ht : t < k) (l : Bool) (n : Int) : itemsI K t l n = itemsI K' t l n := by
  simp only [itemsI, h.es t ht, itemI_congr h ht]
theorem fieldsL_congr {K K' : Kn} {k : Nat} (h : Agree K K' k) : ∀ (l : List ((List UInt8 × Int × Int) × Slot')), (∀ x ∈ l, 0 ≤ x.1.2.2 ∧ x.1.2.2 < k) → fieldsL K l = fieldsL K' l := by
  intro l
  induction l with
  | nil => intro _; rfl
  | cons x l ih =>
    intro hx
    have h1 := hx x List.mem_cons_self
    have h2 := ih fun y hy => hx y (List.mem_cons_of_mem _ hy)
    simp only [fieldsL, List.flatMap_cons] at h2 ⊢
    rw [h2]
    congr 1
    simp only [fieldI]
    rw [fixI_congr h (by omega)]
theorem bodyR_congr {K K' : Kn} {k t : Nat} (h : Agree K K' k) (ht : t < k) (hw : WfT (K.ts.getD t noT) t) (code : List Ins) : bodyR K t code = bodyR K' t code := by
  have h1 := h.ts t ht
  have h2 := h.es t ht
  have h3 := h.ls t ht
  have hf := fixI_congr h ht 0
  have hfl := fieldsL_congr h ((K.ts.getD t noT).parts.zip (K.ls.getD t default).slots) (fun x hx => by
    have := hw.fine.2 _ (List.of_mem_zip hx).1
    omega)
  have hfi : fieldsI K t code = fieldsI K' t code := by
    have h1' := h1
    simp only [noT] at h1' hfl
    simp only [fieldsI]
    rw [hfl, h1', h2, h3]
  simp only [bodyR]
  rw [← h1]
  by_cases k1 : (K.ts.getD t noT).kind = 1 ∨ (K.ts.getD t noT).kind = 2
  · rw [if_pos k1, if_pos k1, hf]
  rw [if_neg k1, if_neg k1]
  by_cases k3 : (K.ts.getD t noT).kind = 3
  · rw [if_pos k3, if_pos k3]
  rw [if_neg k3, if_neg k3]
  by_cases k4 : (K.ts.getD t noT).kind = 4
  · have := hw.elem (Or.inl k4)
    rw [if_pos k4, if_pos k4, itemsI_congr h (by omega)]
  rw [if_neg k4, if_neg k4]
  by_cases k5 : (K.ts.getD t noT).kind = 5
  · have := hw.elem (Or.inr (Or.inl k5))
    rw [if_pos k5, if_pos k5, itemsI_congr h (by omega)]
  rw [if_neg k5, if_neg k5]
  by_cases k6 : (K.ts.getD t noT).kind = 6
  · rw [if_pos k6, if_pos k6]
  rw [if_neg k6, if_neg k6]
  by_cases k7 : (K.ts.getD t noT).kind = 7
  · rw [if_pos k7, if_pos k7]
  rw [if_neg k7, if_neg k7, hfi]

theorem prog_congr {K K' : Kn} {k : Nat} (h : Agree K K' k) (hw : ∀ t, t < k → WfT (K.ts.getD t noT) t) : ∀ n, n ≤ k → prog K n = prog K' n := by
  intro n
  induction n with
  | zero => intro _; rfl
  | succ n ih =>
    intro hn
    rw [prog, prog, ih (by omega), routineR, routineR, bodyR_congr h (by omega) (hw n (by omega))]

theorem prog_indep (ts : List Typ) (sp : List (List V)) (rv : V) : ∀ n, prog (knOf ts sp rv) n = prog (knOf ts [] .nils) n := by
  intro n
  induction n with
  | zero => rfl
  | succ n ih => rw [prog, prog, ih]; rfl

theorem agree_front (ts : List Typ) (k : Nat) (hk : k ≤ ts.length) (hw : WfTs ts) : Agree (knOf ts [] .nils) (knOf (ts.take k) [] .nils) k := by
  refine ⟨fun j hj => (getD_take ts k j noT hj).symm, fun j hj => ?_, fun j hj => ?_⟩
  · show (extsN ts).getD j default = (extsN (ts.take k)).getD j default
    rw [extsN_take ts k hk, getD_take _ _ _ _ hj]
  · show (laysN ts).getD j default = (laysN (ts.take k)).getD j default
    have hjl : j < ts.length := by omega
    have h1 : ts[j]? = some (ts.getD j noT) := getD_some hjl noT
    have h2 : (ts.take k)[j]? = some (ts.getD j noT) := by rw [List.getElem?_take, if_pos hj, h1]
    rw [List.getD_eq_getElem?_getD, List.getD_eq_getElem?_getD, laysN, laysN, List.getElem?_map, List.getElem?_map, h1, h2]
    show layN (extsN ts) _ = layN (extsN (ts.take k)) _
    rw [extsN_take ts k hk]
    exact layN_congr (fun i hi => (getD_take _ k i _ (by omega)).symm) (hw j _ h1)

/-! ### a program's routines -/
theorem bodyI_front (first len : Nat) (base : List Ins) (hf : base.length ≤ first) : ∀ (ps : List (List UInt8 × Int × Int)) (i : Nat) (X : List Ins), ∃ Y, bodyI first len i ps (base ++ X) = base ++ Y := by
  intro ps
  induction ps with
  | nil => intro i X; exact ⟨X, rfl⟩
  | cons p ps ih =>
    intro i X
    rw [bodyI]
    have h : first + i = base.length + (first + i - base.length) := by omega
    rw [h, List.append_assoc, setB_app, List.append_assoc]
    exact ih _ _
theorem bodyR_front (K : Kn) (t : Nat) (code : List Ins) : ∃ Y, bodyR K t code = code ++ Y := by
  simp only [bodyR]
  split
  · exact ⟨_, rfl⟩
  split
  · exact ⟨_, rfl⟩
  split
  · exact ⟨_, by rw [List.append_assoc]⟩
  split
  · exact ⟨_, by rw [List.append_assoc]⟩
  split
  · exact ⟨_, rfl⟩
  split
  · simp only [armsI]
    rw [List.append_assoc]
    exact bodyI_front _ _ code (by omega) _ _ _
  · simp only [fieldsI]
    exact ⟨_, by rw [List.append_assoc, List.append_assoc]⟩
theorem routineR_front (K : Kn) (t : Nat) (code : List Ins) : ∃ Y, routineR K t code = code ++ Y ++ [⟨20, 0, 0, 0⟩] := by
  obtain ⟨Y, h⟩ := bodyR_front K t code
  exact ⟨Y, by rw [routineR, h]⟩
theorem prog_front (K : Kn) : ∀ m n, ∃ Y, (prog K (n + m)).1 = (prog K n).1 ++ Y := by
  intro m
  induction m with
  | zero => intro n; exact ⟨[], by simp⟩
  | succ m ih =>
    intro n
    obtain ⟨Y, h⟩ := ih n
    obtain ⟨Z, h2⟩ := routineR_front K (n + m) (prog K (n + m)).1
    refine ⟨Y ++ Z ++ [⟨20, 0, 0, 0⟩], ?_⟩
    show (routineR K (n + m) (prog K (n + m)).1) = _
    rw [h2, h]; simp
theorem prog_entry (K : Kn) : ∀ n i, i < n → (prog K n).2[i]? = some ((prog K i).1.length : Int) := by
  intro n
  induction n with
  | zero => intro i h; omega
  | succ n ih =>
    intro i h
    show ((prog K n).2 ++ [((prog K n).1.length : Int)])[i]? = _
    rcases Nat.lt_or_ge i n with h1 | h1
    · rw [List.getElem?_append_left (by rw [prog_len]; exact h1), ih i h1]
    · obtain rfl : i = n := by omega
      rw [List.getElem?_append_right (by rw [prog_len]; exact Nat.le_refl _), prog_len]; simp
theorem prog_rise (K : Kn) (n : Nat) : (prog K n).1.length < (prog K (n + 1)).1.length := by
  obtain ⟨Z, h2⟩ := routineR_front K n (prog K n).1
  show _ < (routineR K n (prog K n).1).length
  rw [h2]; simp
theorem prog_last (K : Kn) (n m : Nat) : (prog K (n + 1 + m)).1[(prog K (n + 1)).1.length - 1]? = some ⟨20, 0, 0, 0⟩ := by
  obtain ⟨Y, h⟩ := prog_front K m (n + 1)
  obtain ⟨Z, h2⟩ := routineR_front K n (prog K n).1
  have h3 : (prog K (n + 1)).1 = (prog K n).1 ++ Z ++ [⟨20, 0, 0, 0⟩] := h2
  rw [h, List.getElem?_append_left (by rw [h3]; simp), h3]
  simp
end Mev

/- The encoder's answer, as a whole; awake. -/

set_option maxRecDepth 100000
namespace Mev
open Go Go.Proofs

/-- a schema without roots that has a program -/
def EncOk (ts : List Typ) : Prop := allRight ts ∧ (deepN [] ts).1 = 0 ∧ mostOk ts ∧ ts.length ≤ 1048576 ∧ FitsTo (knOf ts [] .nils) 0 ts.length
noncomputable def progOf (ts : List Typ) : List Ins × List Int := prog (knOf ts [] .nils) ts.length

theorem enc_ex (ts : List Typ) (sp : List (List V)) (hn : ts.length ≤ 1073741824) (rv : V) (rs : List (List UInt8 × Int)) (hrv : RootsV rv rs) (hrs : rs.length ≤ 1073741824) :
    ∃ er : Int, (er = 0 → EncOk ts) ∧ (EncOk ts → rs = [] → er = 0) ∧ ∀ S, ∃ S', ev Q 7 [.agg [tsV ts sp, rv]] S = some (.ret (.tup [if er = 0 then progV (progOf ts) else noProg, .int .i64 er]), S') ∧ Ups S S' := by
  obtain ⟨e, a, h1, h2, hC⟩ := check_ex ts sp hn rv rs hrv hrs
  by_cases he : e = 0
  · subst he
    obtain ⟨hall, hdeep⟩ := h1 rfl
    have hw := allRight_wf hall
    by_cases hm : mostOk ts
    · by_cases hlong : 1048576 < ts.length
      · refine ⟨4, fun h => (by cases h), fun h => ?_, fun S => ?_⟩
        · have := h.2.2.2.1; omega
        · simpa using enc_long ts sp hn rv rs hrv hw a hC hm hlong S
      · by_cases hf : FitsTo (knOf ts [] .nils) 0 ts.length
        · refine ⟨0, fun _ => ⟨hall, hdeep, hm, by omega, hf⟩, fun _ _ => rfl, fun S => ?_⟩
          have hf' : FitsTo (knOf ts sp rv) 0 ts.length := fun j h3 h4 => by rw [prog_indep]; exact hf j h3 h4
          have := (enc_run ts sp (by omega) rv rs hrv hw a hC hm S).1 hf'
          rw [prog_indep] at this
          simpa [progOf] using this
        · refine ⟨4, fun h => (by cases h), fun h => absurd h.2.2.2.2 hf, fun S => ?_⟩
          have hf' : ¬ FitsTo (knOf ts sp rv) 0 ts.length := fun h => hf fun j h3 h4 => by have := h j h3 h4; rw [prog_indep] at this; exact this
          simpa using (enc_run ts sp (by omega) rv rs hrv hw a hC hm S).2 hf'
    · refine ⟨91, fun h => (by cases h), fun h => absurd h.2.2.1 hm, fun S => ?_⟩
      simpa using enc_big ts sp hn rv rs hrv hw a hC hm S
  · refine ⟨92, fun h => (by cases h), fun h hr => absurd (h2 h.1 h.2.1 hr) he, fun S => ⟨S, ?_, Ups.refl S⟩⟩
    simpa using enc_bad ts sp rv rs hrv e a he hC S

theorem EncOk_front {ts : List Typ} (h : EncOk ts) (k : Nat) (hk : k ≤ ts.length) : EncOk (ts.take k) ∧ progOf (ts.take k) = prog (knOf ts [] .nils) k := by
  obtain ⟨h1, h2, h3, h4, h5⟩ := h
  have hw := allRight_wf h1
  have hag := agree_front ts k hk hw
  have hwk : ∀ t, t < k → WfT ((knOf ts [] .nils).ts.getD t noT) t := fun t ht => hw t _ (getD_some (by omega : t < ts.length) noT)
  have hlen : (ts.take k).length = k := by simp; omega
  refine ⟨⟨fun j t ht => ?_, ?_, fun j e he => ?_, by omega, fun j h6 h7 => ?_⟩, ?_⟩
  · rw [List.getElem?_take] at ht
    split at ht
    · exact h1 j t ht
    · cases ht
  · refine deepN_front (ts.take k) (ts.drop k) [] ?_
    rw [List.take_append_drop]; exact h2
  · rw [extsN_take ts k hk, List.getElem?_take] at he
    split at he
    · exact h3 j e he
    · cases he
  · rw [hlen] at h7
    rw [← prog_congr hag hwk j h7]
    exact h5 j h6 (by omega)
  · rw [progOf, hlen, prog_congr hag hwk k (Nat.le_refl _)]

/-! ### awake -/
def t2 : Typ := ⟨1, 2, 0, [], []⟩
def t0 : Typ := ⟨0, 0, 0, [], []⟩
theorem pure_inj {f : FuncId} {a : List V} {u v : V} (h1 : Pure f a u) (h2 : Pure f a v) : u = v := by
  have := (h1 ⟨[], 0⟩).symm.trans (h2 ⟨[], 0⟩)
  simpa using this
theorem right_t2 : rightB t2 0 = true := by
  have h1 := right_a t2 0 (by rfl) (Or.inl rfl)
  have := pure_inj (right_ev t2 0) h1
  simpa [t2] using this
theorem right_t0 : rightB t0 0 = false := by
  have h1 := right_d t0 0 (by rfl) (by simp [t0])
  have := pure_inj (right_ev t0 0) h1
  simpa using this
theorem exts_t2 : extsN [t2] = [⟨true, 2, 2, 1⟩] := by simp [extsN, scan, extN, t2]
theorem prog_t2 : prog (knOf [t2] [] .nils) 1 = ([⟨33, 0, 2, 0⟩, ⟨20, 0, 0, 0⟩], [0]) := by
  simp [prog, routineR, bodyR, knOf, t2, fixI]
theorem encOk_t2 : EncOk [t2] := by
  refine ⟨fun j t ht => ?_, ?_, fun j e he => ?_, by simp, fun j h1 h2 => ?_⟩
  · cases j with
    | zero => simp at ht; subst ht; exact right_t2
    | succ j => simp at ht
  · simp [deepN, depN, depFold, depFirst, t2]
  · rw [exts_t2] at he
    cases j with
    | zero => simp at he; subst he; simp
    | succ j => simp at he
  · have : j = 1 := by simp at h2; omega
    subst this
    rw [prog_t2]; simp

theorem awake_ev (S : St) : ∃ S', ev Q 5 [] S = some (.ret (.bool true), S') ∧ Ups S S' := by
  obtain ⟨er, h1, h2, h3⟩ := enc_ex [t2] [] (by simp) .nils [] (Or.inl ⟨rfl, rfl⟩) (by simp)
  obtain rfl := h2 encOk_t2 rfl
  have hbad : ∃ er', er' ≠ 0 ∧ er' = 92 ∧ ∀ S, ∃ S', ev Q 7 [.agg [tsV [t0] [], .nils]] S = some (.ret (.tup [noProg, .int .i64 er']), S') ∧ Ups S S' := by
    obtain ⟨e, a, h4, h5, hC⟩ := check_ex [t0] [] (by simp) .nils [] (Or.inl ⟨rfl, rfl⟩) (by simp)
    have he : e ≠ 0 := fun h => by
      have := (h4 h).1 0 t0 rfl
      rw [show ((0 : Nat) : Int) = 0 from rfl, right_t0] at this
      cases this
    exact ⟨92, by decide, rfl, fun S => ⟨S, enc_bad [t0] [] .nils [] (Or.inl ⟨rfl, rfl⟩) e a he hC S, Ups.refl S⟩⟩
  obtain ⟨er', _, rfl, h6⟩ := hbad
  obtain ⟨S2, h7, h8⟩ := h3 (S.push .dead)
  obtain ⟨S4, h9, h10⟩ := h6 ((S2.push (.cells 3 [[.bool true, .rs 4 ([⟨33, 0, 2, 0⟩, ⟨20, 0, 0, 0⟩].map Ins.v) 2, .rs 1 (iV [0]) 1]] 0 0)).push .dead)
  rw [if_pos rfl, progOf, show [t2].length = 1 from rfl, prog_t2] at h7
  have hlow2 : ∀ j, j < S.top → S2.get j = S.get j := fun j hj => by rw [h8.2 j (by simp; omega)]; simp [below hj]
  have hlt2 : S.top + 1 ≤ S2.top := by have := h8.1; simpa using this
  have hlow4 : ∀ j, j < S2.top → S4.get j = S2.get j := fun j hj => by rw [h10.2 j (by simp; omega)]; simp [below hj]
  have hg4 : S4.get S2.top = some (.cells 3 [[.bool true, .rs 4 ([⟨33, 0, 2, 0⟩, ⟨20, 0, 0, 0⟩].map Ins.v) 2, .rs 1 (iV [0]) 1]] 0 0) := by rw [h10.2 _ (by simp)]; simp
  have hlt4 : S2.top + 2 ≤ S4.top := by have := h10.1; simpa using this
  have hlow : ∀ j, j < S.top → S4.get j = S.get j := fun j hj => by rw [hlow4 j (by omega), hlow2 j hj]
  have hq : S2.top < S4.top := by omega
  have hqq : S.top ≤ S4.top := by omega
  simp [progV, noProg, tsV, t2, t0, Typ.v, Ins.v, iV] at h7 h9 hg4
  rw [ev_eq q5, c5, evFn_eq _ _ _ _ _ _ _ (by simp)]
  simp [set_mk, h7, h9, hg4, below hq]
  by_cases hP : S4.pin = S.pin ∧ S.top ≤ S4.top + 1
  · rw [if_pos hP, if_pos hqq]
    exact ⟨by rw [top_trunc _ _ hqq]; exact Nat.le_refl _, fun i hi => by rw [trunc_get _ _ _ hi hqq, hlow i hi]⟩
  · rw [if_neg hP]
    exact ⟨by rw [top_push]; omega, fun i hi => by rw [push_get _ _ _ (by omega), hlow i hi]⟩
end Mev
