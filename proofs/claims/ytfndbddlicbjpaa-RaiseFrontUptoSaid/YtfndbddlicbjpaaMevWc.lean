/- The program's functions, one equation each: a type's entry and routine. -/
import Derived.Test.YtfndbddlicbjpaaMevWb

set_option maxRecDepth 100000
namespace Mev
open Go Go.Proofs

def iV (l : List Int) : List (List V) := l.map fun d => [.int .i64 d]
/-- the blocks with a program's entries -/
def ES (S : St) (ec p : Nat) (en : List Int) (eg : Nat) : St :=
  (S.put ec (.cells 1 (iV en) eg 0)).put p (.cells 3 [[.bool true, .nils, .sl ec eg 1 0 en.length]] 0 0)
section
variable (S : St) (ec p : Nat) (en : List Int) (eg : Nat)
theorem ES_top : (ES S ec p en eg).top = S.top := by simp [ES]
theorem ES_pin : (ES S ec p en eg).pin = S.pin := by simp [ES]
theorem ES_get_p (h : ec < p) (hp : p < S.top) : (ES S ec p en eg).get p = some (.cells 3 [[.bool true, .nils, .sl ec eg 1 0 en.length]] 0 0) := by
  rw [ES, put_get]; simpa using hp
theorem ES_get_ec (h : ec < p) (hp : p < S.top) : (ES S ec p en eg).get ec = some (.cells 1 (iV en) eg 0) := by
  rw [ES, put_get_ne _ _ _ _ (by omega), put_get]; omega
theorem ES_get (j : Nat) (h : ec ≠ j) (hp : p ≠ j) : (ES S ec p en eg).get j = S.get j := by
  rw [ES, put_get_ne _ _ _ _ hp, put_get_ne _ _ _ _ h]
theorem ES_put (h : ec < p) (en' : List Int) (eg' : Nat) : ((ES S ec p en eg).put ec (.cells 1 (iV en') eg' 0)).put p (.cells 3 [[.bool true, .nils, .sl ec eg' 1 0 en'.length]] 0 0) = ES S ec p en' eg' := by
  unfold ES
  rw [put_comm (h := (by omega : p ≠ ec)), put_put, put_put]
end

theorem enc1_rs (S : St) (c r b ec p : Nat) (K : Kn) (hK : WfK K) (code : List Ins) (g lo t eg : Nat) (en : List Int) (hlo : lo ≤ g) (hcr : c < r) (hrb : r < b) (hbe : b < ec) (hep : ec < p) (hpt : p < S.top)
    (hgb : S.get b = some (.cells 1 [[.ptr r 0 5 0 0]] 0 0)) (hb : code.length ≤ 1073730000) (ht : t < K.ts.length) (hen : en.length ≤ 1073730000) :
    ∃ g' lo', lo' ≤ g' ∧ ev Q 14 [.int .i64 t, .ptr p 0 3 0 0, .ptr b 0 1 0 0] (RS (ES S ec p en eg) c r K code g lo) = some (.ret (.tup []), RS (ES S ec p (en ++ [(code.length : Int)]) (eg + 1)) c r K (routineR K t code) g' lo') := by
  have hcp : c < p := by omega
  have hrp : r < p := by omega
  have hce : c < ec := by omega
  have hre : r < ec := by omega
  have hcb : c < b := by omega
  have hbp : b < p := by omega
  have hct : c < S.top := by omega
  have hrt : r < S.top := by omega
  have hbt : b < S.top := by omega
  have het : ec < S.top := by omega
  obtain ⟨g1, lo1, h1, h2⟩ := routine_rs ((ES S ec p (en ++ [(code.length : Int)]) (eg + 1)).push (.cells 1 [[.int .i64 code.length]] 0 0)) c r K hK code g lo t hlo hcr (by rw [top_push, ES_top]; omega) hb ht
  have hpush := RS_push (ES S ec p (en ++ [(code.length : Int)]) (eg + 1)) c r K code g lo (.cells 1 [[.int .i64 code.length]] 0 0) (by rw [ES_top]; exact hct) (by rw [ES_top]; exact hrt)
  rw [← hpush] at h2
  have htr := RS_trunc ((ES S ec p (en ++ [(code.length : Int)]) (eg + 1)).push (.cells 1 [[.int .i64 code.length]] 0 0)) c r K (routineR K t code) g1 lo1 S.top
  rw [trunc_push _ _ _ (by rw [ES_top]; exact Nat.le_refl _)] at htr
  have het0 := ES_top S ec p (en ++ [(code.length : Int)]) (eg + 1)
  have htr0 : (ES S ec p (en ++ [(code.length : Int)]) (eg + 1)).trunc S.top = ES S ec p (en ++ [(code.length : Int)]) (eg + 1) := by rw [← het0, trunc_top]
  rw [htr0] at htr
  have htop3 : (RS ((ES S ec p (en ++ [(code.length : Int)]) (eg + 1)).push (.cells 1 [[.int .i64 code.length]] 0 0)) c r K (routineR K t code) g1 lo1).top = S.top + 1 := by rw [RS_top, top_push, ES_top]
  have hpin3 : (RS ((ES S ec p (en ++ [(code.length : Int)]) (eg + 1)).push (.cells 1 [[.int .i64 code.length]] 0 0)) c r K (routineR K t code) g1 lo1).pin = S.pin := by rw [RS_pin, pin_push, ES_pin]
  generalize RS ((ES S ec p (en ++ [(code.length : Int)]) (eg + 1)).push (.cells 1 [[.int .i64 code.length]] 0 0)) c r K (routineR K t code) g1 lo1 = E at *
  refine ⟨g1, lo1, h1, ?_⟩
  have hg := RS_get_r (ES S ec p en eg) c r K code g lo hcr (by rw [ES_top]; exact hrt)
  have hgp : (RS (ES S ec p en eg) c r K code g lo).get p = some (.cells 3 [[.bool true, .nils, .sl ec eg 1 0 en.length]] 0 0) := by
    rw [RS_get _ _ _ _ _ _ _ _ (by omega) (by omega), ES_get_p _ _ _ _ _ hep hpt]
  have hge : (RS (ES S ec p en eg) c r K code g lo).get ec = some (.cells 1 (iV en) eg 0) := by
    rw [RS_get _ _ _ _ _ _ _ _ (by omega) (by omega), ES_get_ec _ _ _ _ _ hep hpt]
  have hgbb : (RS (ES S ec p en eg) c r K code g lo).get b = some (.cells 1 [[.ptr r 0 5 0 0]] 0 0) := by
    rw [RS_get _ _ _ _ _ _ _ _ (by omega) (by omega), ES_get _ _ _ _ _ _ (by omega) (by omega), hgb]
  have htop : (RS (ES S ec p en eg) c r K code g lo).top = S.top := by rw [RS_top, ES_top]
  have hpin : (RS (ES S ec p en eg) c r K code g lo).pin = S.pin := by rw [RS_pin, ES_pin]
  have hst : ((RS (ES S ec p en eg) c r K code g lo).put ec (.cells 1 (iV (en ++ [(code.length : Int)])) (eg + 1) 0)).put p (.cells 3 [[.bool true, .nils, .sl ec (eg + 1) 1 0 (en ++ [(code.length : Int)]).length]] 0 0) = RS (ES S ec p (en ++ [(code.length : Int)]) (eg + 1)) c r K code g lo := by
    rw [RS_put _ _ _ _ _ _ _ _ _ (by omega) (by omega), RS_put _ _ _ _ _ _ _ _ _ (by omega) (by omega), ES_put S ec p en eg hep]
  have e1 : iV (en ++ [(code.length : Int)]) = iV en ++ [[.int .i64 code.length]] := by simp [iV]
  have e2 : (en ++ [(code.length : Int)]).length = en.length + 1 := by simp
  rw [e1, e2] at hst
  have hgbe : (RS (ES S ec p (en ++ [(code.length : Int)]) (eg + 1)) c r K code g lo).get b = some (.cells 1 [[.ptr r 0 5 0 0]] 0 0) := by
    rw [RS_get _ _ _ _ _ _ _ _ (by omega) (by omega), ES_get _ _ _ _ _ _ (by omega) (by omega), hgb]
  have hil : (iV en).length = en.length := by simp [iV]
  have hby : (en.length + 1) * 8 ≤ 140737488355328 := by omega
  have htop2 : ∀ g lo k, (RS (ES S ec p (en ++ [(code.length : Int)]) (eg + 1)) c r K k g lo).top = S.top := fun g lo k => by rw [RS_top, ES_top]
  have hpin2 : ∀ g lo k, (RS (ES S ec p (en ++ [(code.length : Int)]) (eg + 1)) c r K k g lo).pin = S.pin := fun g lo k => by rw [RS_pin, ES_pin]
  generalize hA : RS (ES S ec p en eg) c r K code g lo = A at *
  generalize hB : RS (ES S ec p (en ++ [(code.length : Int)]) (eg + 1)) c r K code g lo = B at *
  have hBt := htop2 g lo code
  have hBp := hpin2 g lo code
  rw [hB] at hBt hBp
  generalize RS (ES S ec p (en ++ [(code.length : Int)]) (eg + 1)) c r K (routineR K t code) g1 lo1 = D at *
  generalize iV en = EN at *
  rw [ev_eq q14, c14, evFn_eq _ _ _ _ _ _ _ (by simp)]
  simp [hg, hgp, hge, hgbb, htop, hpin, below hrt, below hct, below hpt, below hbt, below het, below hep, below hrb, below hcr, below hbe, below hcp, below hrp, below hce, below hre, below hcb, below hbp, hil, hby, hst, h2, htop3, hpin3, htr, hBt, hBp, hgbe]
end Mev

/- The program's functions, one equation each: the encoder's loop. -/

set_option maxRecDepth 100000
namespace Mev
open Go Go.Proofs

/-- the code and the entries of the first types -/
def prog (K : Kn) : Nat → List Ins × List Int
  | 0 => ([], [])
  | n + 1 => (routineR K n (prog K n).1, (prog K n).2 ++ [((prog K n).1.length : Int)])
theorem prog_len (K : Kn) : ∀ n, (prog K n).2.length = n := by
  intro n
  induction n with
  | zero => rfl
  | succ n ih => simp [prog, ih]

theorem enc_round (S : St) (c r b ec p y : Nat) (K : Kn) (hK : WfK K) (code : List Ins) (g lo t eg n : Nat) (en : List Int) (hlo : lo ≤ g) (hyc : y < c) (hcr : c < r) (hrb : r < b) (hbe : b < ec) (hep : ec < p) (hpt : p < S.top)
    (hgb : S.get b = some (.cells 1 [[.ptr r 0 5 0 0]] 0 0)) (hgy : S.get y = some (.cells 3 [[.bool false, .nils, .nils]] 0 0)) (hb : code.length ≤ 1048576) (ht : t < n) (hn : K.ts.length = n) (hn2 : n ≤ 1048576) (hen : en.length ≤ 1073730000) :
    if (routineR K t code).length ≤ 1048576 then
      ∃ g' lo', lo' ≤ g' ∧ loopL (some [2, 9, 10, 11, 60, 61]) (S.top, S.pin) (kC (ev Q) loopL b7x2) ⟨81, [(2, .ptr y 0 3 0 0), (9, .ptr b 0 1 0 0), (10, .ptr p 0 3 0 0), (11, .fn 14 [.ptr p 0 3 0 0, .ptr b 0 1 0 0]), (60, .int .i64 n), (61, .int .i64 t)]⟩ (RS (ES S ec p en eg) c r K code g lo) =
        loopL (some [2, 9, 10, 11, 60, 61]) (S.top, S.pin) (kC (ev Q) loopL b7x2) ⟨81, [(2, .ptr y 0 3 0 0), (9, .ptr b 0 1 0 0), (10, .ptr p 0 3 0 0), (11, .fn 14 [.ptr p 0 3 0 0, .ptr b 0 1 0 0]), (60, .int .i64 n), (61, .int .i64 (t + 1 : Nat))]⟩ (RS (ES S ec p (en ++ [(code.length : Int)]) (eg + 1)) c r K (routineR K t code) g' lo')
    else ∃ l S', loopL (some [2, 9, 10, 11, 60, 61]) (S.top, S.pin) (kC (ev Q) loopL b7x2) ⟨81, [(2, .ptr y 0 3 0 0), (9, .ptr b 0 1 0 0), (10, .ptr p 0 3 0 0), (11, .fn 14 [.ptr p 0 3 0 0, .ptr b 0 1 0 0]), (60, .int .i64 n), (61, .int .i64 t)]⟩ (RS (ES S ec p en eg) c r K code g lo) =
        some (.ret, ⟨81, l⟩, S') ∧ look 2 l = .ptr y 0 3 0 0 ∧ look 3 l = .int .i64 4 ∧ S'.get y = some (.cells 3 [[.bool false, .nils, .nils]] 0 0) ∧ (∀ j, j < y → S'.get j = S.get j) ∧ S.top ≤ S'.top := by
  obtain ⟨g1, lo1, h1, h2⟩ := enc1_rs S c r b ec p K hK code g lo t eg en hlo hcr hrb hbe hep hpt hgb (by omega) (by omega) hen
  have hrt : r < S.top := by omega
  have ht' : (t : Int) < n := by omega
  have w3 : IntKind.i64.wrap ((t : Int) + 1) = (t : Int) + 1 := wrap64 (by omega) (by omega)
  have hbr : (RS (ES S ec p (en ++ [(code.length : Int)]) (eg + 1)) c r K (routineR K t code) g1 lo1).get b = some (.cells 1 [[.ptr r 0 5 0 0]] 0 0) := by
    rw [RS_get _ _ _ _ _ _ _ _ (by omega) (by omega), ES_get _ _ _ _ _ _ (by omega) (by omega), hgb]
  have hg := RS_get_r (ES S ec p (en ++ [(code.length : Int)]) (eg + 1)) c r K (routineR K t code) g1 lo1 hcr (by rw [ES_top]; exact hrt)
  have hgy2 : ∀ j, j ≤ y → (RS (ES S ec p (en ++ [(code.length : Int)]) (eg + 1)) c r K (routineR K t code) g1 lo1).get j = S.get j := fun j hj => by
    rw [RS_get _ _ _ _ _ _ _ _ (by omega) (by omega), ES_get _ _ _ _ _ _ (by omega) (by omega)]
  have htop : (RS (ES S ec p (en ++ [(code.length : Int)]) (eg + 1)) c r K (routineR K t code) g1 lo1).top = S.top := by rw [RS_top, ES_top]
  have hpin : (RS (ES S ec p (en ++ [(code.length : Int)]) (eg + 1)) c r K (routineR K t code) g1 lo1).pin = S.pin := by rw [RS_pin, ES_pin]
  have hmx : max y (max b p) + 1 ≤ S.top := by omega
  have hgyy := hgy2 y (Nat.le_refl _)
  rw [hgy] at hgyy
  have hmx2 : max y (max b (max p b)) + 1 ≤ S.top := by omega
  have hmx3 : max y (max b (max p (max p b))) + 1 ≤ S.top := by omega
  have htr : ∀ X : St, X.top = S.top → X.trunc S.top = X := fun X hX => by rw [← hX, trunc_top]
  have htr2 := htr _ htop
  generalize hB : RS (ES S ec p (en ++ [(code.length : Int)]) (eg + 1)) c r K (routineR K t code) g1 lo1 = B at *
  generalize RS (ES S ec p en eg) c r K code g lo = A at *
  have hps := put_self _ _ hgyy
  generalize hC : routineR K t code = C at *
  by_cases hle : C.length ≤ 1048576
  · have hle' : ¬ ((1048576 : Int) < C.length) := by omega
    rw [if_pos hle]
    refine ⟨g1, lo1, h1, ?_⟩
    rw [loopL_eq]
    generalize loopL (some [2, 9, 10, 11, 60, 61]) (S.top, S.pin) (kC (ev Q) loopL b7x2) = F
    simp [kC, b7x2, ht', h2, hbr, hg, hle', w3, hmx, hmx2, hmx3, htop, hpin, htr2, hB]
  · have hle' : (1048576 : Int) < C.length := by omega
    rw [if_neg hle, loopL_eq]
    generalize loopL (some [2, 9, 10, 11, 60, 61]) (S.top, S.pin) (kC (ev Q) loopL b7x2) = F
    simp [kC, b7x2, ht', h2, hbr, hg, hle', w3, hgyy, hps]
    exact ⟨_, _, ⟨rfl, rfl⟩, by simp, by simp, hgyy, fun j hj => hgy2 j (by omega), by omega⟩

/-- does the code of the first types keep its bound -/
def FitsTo (K : Kn) (i n : Nat) : Prop := ∀ j, i < j → j ≤ n → (prog K j).1.length ≤ 1048576

theorem enc_loop (c r b ec p y : Nat) (K : Kn) (hK : WfK K) (n : Nat) (hyc : y < c) (hcr : c < r) (hrb : r < b) (hbe : b < ec) (hep : ec < p) (hn : K.ts.length = n) (hn2 : n ≤ 1048576) :
    ∀ (m i : Nat) (S : St) (g lo eg : Nat), i + m = n → lo ≤ g → p < S.top → S.get b = some (.cells 1 [[.ptr r 0 5 0 0]] 0 0) → S.get y = some (.cells 3 [[.bool false, .nils, .nils]] 0 0) → (prog K i).1.length ≤ 1048576 →
    (FitsTo K i n → ∃ g' lo' eg' l, lo' ≤ g' ∧ loopL (some [2, 9, 10, 11, 60, 61]) (S.top, S.pin) (kC (ev Q) loopL b7x2) ⟨81, [(2, .ptr y 0 3 0 0), (9, .ptr b 0 1 0 0), (10, .ptr p 0 3 0 0), (11, .fn 14 [.ptr p 0 3 0 0, .ptr b 0 1 0 0]), (60, .int .i64 n), (61, .int .i64 i)]⟩ (RS (ES S ec p (prog K i).2 eg) c r K (prog K i).1 g lo) =
        some (.exit 2, ⟨81, l⟩, RS (ES S ec p (prog K n).2 eg') c r K (prog K n).1 g' lo') ∧ look 2 l = .ptr y 0 3 0 0 ∧ look 9 l = .ptr b 0 1 0 0 ∧ look 10 l = .ptr p 0 3 0 0) ∧
    (¬ FitsTo K i n → ∃ l S', loopL (some [2, 9, 10, 11, 60, 61]) (S.top, S.pin) (kC (ev Q) loopL b7x2) ⟨81, [(2, .ptr y 0 3 0 0), (9, .ptr b 0 1 0 0), (10, .ptr p 0 3 0 0), (11, .fn 14 [.ptr p 0 3 0 0, .ptr b 0 1 0 0]), (60, .int .i64 n), (61, .int .i64 i)]⟩ (RS (ES S ec p (prog K i).2 eg) c r K (prog K i).1 g lo) =
        some (.ret, ⟨81, l⟩, S') ∧ look 2 l = .ptr y 0 3 0 0 ∧ look 3 l = .int .i64 4 ∧ S'.get y = some (.cells 3 [[.bool false, .nils, .nils]] 0 0) ∧ (∀ j, j < y → S'.get j = S.get j) ∧ S.top ≤ S'.top) := by
  intro m
  induction m with
  | zero =>
    intro i S g lo eg hi hlo hp hgb hgy hb
    obtain rfl : i = n := by omega
    refine ⟨fun _ => ⟨g, lo, eg, [(62, .bool false), (2, .ptr y 0 3 0 0), (9, .ptr b 0 1 0 0), (10, .ptr p 0 3 0 0), (11, .fn 14 [.ptr p 0 3 0 0, .ptr b 0 1 0 0]), (60, .int .i64 i), (61, .int .i64 i)], hlo, ?_, by simp, by simp, by simp⟩, fun h => absurd (fun j h1 h2 => by omega) h⟩
    rw [loopL_eq]
    simp [kC, b7x2]
  | succ m ih =>
    intro i S g lo eg hi hlo hp hgb hgy hb
    have hr := enc_round S c r b ec p y K hK (prog K i).1 g lo i eg n (prog K i).2 hlo hyc hcr hrb hbe hep hp hgb hgy hb (by omega) hn hn2 (by rw [prog_len]; omega)
    have hpr : prog K (i + 1) = (routineR K i (prog K i).1, (prog K i).2 ++ [((prog K i).1.length : Int)]) := rfl
    by_cases hle : (routineR K i (prog K i).1).length ≤ 1048576
    · rw [if_pos hle] at hr
      obtain ⟨g1, lo1, h1, h2⟩ := hr
      have hih := ih (i + 1) S g1 lo1 (eg + 1) (by omega) h1 hp hgb hgy (by rw [hpr]; exact hle)
      rw [hpr] at hih
      have hf : FitsTo K (i + 1) n ↔ FitsTo K i n := by
        constructor
        · intro h j h3 h4
          rcases Nat.lt_or_ge (i + 1) j with h5 | h5
          · exact h j h5 h4
          · obtain rfl : j = i + 1 := by omega
            rw [hpr]; exact hle
        · intro h j h3 h4; exact h j (by omega) h4
      rw [h2, ← hf]
      exact hih
    · rw [if_neg hle] at hr
      have hf : ¬ FitsTo K i n := fun h => hle (by have := h (i + 1) (by omega) (by omega); rw [hpr] at this; exact this)
      exact ⟨fun h => absurd h hf, fun _ => hr⟩
end Mev
