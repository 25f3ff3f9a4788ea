/- The program's functions, one equation each: names. -/
import Derived.Test.YtfndbddlicbjpaaMevW1

set_option maxRecDepth 100000
namespace Mev
open Go Go.Proofs

def words : List (List UInt8) := [[116, 121, 112, 101], [117, 56], [117, 49, 54], [117, 51, 50], [117, 54, 52], [98, 111, 111, 108], [118, 97, 114, 105, 110, 116], [118, 101, 99, 116, 111, 114], [108, 105, 115, 116], [111, 112, 116, 105, 111, 110], [117, 110, 105, 111, 110], [115, 116, 114, 117, 99, 116]]
def wordB (s : List UInt8) : Bool := words.contains s
theorem word_ev (s : List UInt8) : Pure 46 [.str s] (.bool (wordB s)) := by
  intro S
  rw [ev_eq q46, c46, evFn_eq _ _ _ _ _ _ _ (by simp)]
  by_cases h0 : s = [116, 121, 112, 101]
  · subst h0; rw [show wordB _ = true from rfl]; simp
  by_cases h1 : s = [117, 56]
  · subst h1; rw [show wordB _ = true from rfl]; simp
  by_cases h2 : s = [117, 49, 54]
  · subst h2; rw [show wordB _ = true from rfl]; simp
  by_cases h3 : s = [117, 51, 50]
  · subst h3; rw [show wordB _ = true from rfl]; simp
  by_cases h4 : s = [117, 54, 52]
  · subst h4; rw [show wordB _ = true from rfl]; simp
  by_cases h5 : s = [98, 111, 111, 108]
  · subst h5; rw [show wordB _ = true from rfl]; simp
  by_cases h6 : s = [118, 97, 114, 105, 110, 116]
  · subst h6; rw [show wordB _ = true from rfl]; simp
  by_cases h7 : s = [118, 101, 99, 116, 111, 114]
  · subst h7; rw [show wordB _ = true from rfl]; simp
  by_cases h8 : s = [108, 105, 115, 116]
  · subst h8; rw [show wordB _ = true from rfl]; simp
  by_cases h9 : s = [111, 112, 116, 105, 111, 110]
  · subst h9; rw [show wordB _ = true from rfl]; simp
  by_cases h10 : s = [117, 110, 105, 111, 110]
  · subst h10; rw [show wordB _ = true from rfl]; simp
  by_cases h11 : s = [115, 116, 114, 117, 99, 116]
  · subst h11; rw [show wordB _ = true from rfl]; simp
  have hw : wordB s = false := by simp [wordB, words, h0, h1, h2, h3, h4, h5, h6, h7, h8, h9, h10, h11]
  rw [hw]
  simp [h0, h1, h2, h3, h4, h5, h6, h7, h8, h9, h10, h11]

end Mev

/- The program's functions, one equation each: names. -/

set_option maxRecDepth 100000
namespace Mev
open Go Go.Proofs

def runN (s : List UInt8) (i : Nat) : Nat := i + ((s.drop i).takeWhile fun b => furtherB b.toNat).length

theorem run_loop (s : List UInt8) (hs : s.length ≤ 1073741824) (S : St) : ∀ m i : Nat, i + m = s.length →
    ∃ l, loopL (some [0, 1, 2]) (S.top, S.pin) (kC (ev Q) loopL b44x0) ⟨21, [(0, .str s), (1, .int .i64 i), (2, .fn 45 [])]⟩ S = some (.exit 0, ⟨21, l⟩, S) ∧ look 1 l = .int .i64 (runN s i) := by
  intro m
  induction m with
  | zero =>
    intro i hi
    rw [loopL_eq]
    have h1 : ¬ (i : Int) < s.length := by omega
    have h2 : runN s i = i := by unfold runN; rw [List.drop_of_length_le (by omega)]; simp
    simp [kC, b44x0, h1, h2]
  | succ m ih =>
    intro i hi
    have hlt : i < s.length := by omega
    have h1 : (i : Int) < s.length := by omega
    have hb : s[i]? = some s[i] := List.getElem?_eq_getElem hlt
    have hf := fun S => further_ev s[i].toNat S
    have hd : s.drop i = s[i] :: s.drop (i + 1) := List.drop_eq_getElem_cons hlt
    rw [loopL_eq]
    cases hfb : furtherB s[i].toNat with
    | false =>
      have h2 : runN s i = i := by unfold runN; rw [hd, List.takeWhile_cons_of_neg (by simp [hfb])]; simp
      rw [hfb] at hf
      simp [kC, b44x0, h1, hb, hf, h2]
    | true =>
      rw [hfb] at hf
      have h2 : runN s i = runN s (i + 1) := by unfold runN; rw [hd, List.takeWhile_cons_of_pos (by simp [hfb])]; simp; omega
      obtain ⟨l, h3, h4⟩ := ih (i + 1) (by omega)
      have hw : IntKind.i64.wrap ((i : Int) + 1) = (i : Int) + 1 := wrap64 (by omega) (by omega)
      refine ⟨l, ?_, by rw [h2]; exact h4⟩
      rw [← h3]
      simp [kC, b44x0, h1, hb, hf, hw]

theorem run_ev (s : List UInt8) (hs : s.length ≤ 1073741824) : Pure 44 [.str s, .int .i64 0, .fn 45 []] (.int .i64 (runN s 0)) := by
  intro S
  rw [ev_eq q44, c44, evFn_eq _ _ _ _ _ _ _ (by simp)]
  obtain ⟨l, h1, h2⟩ := run_loop s hs S s.length 0 (by omega)
  simp at h1
  simp [h1, h2]

end Mev

/- The program's functions, one equation each: names, numbers. -/

set_option maxRecDepth 100000
namespace Mev
open Go Go.Proofs

def nameB (s : List UInt8) : Bool := decide (s ≠ []) && decide (s.length ≤ 32) && (match s with | c :: _ => decide (97 ≤ (c.toNat : Int)) && decide ((c.toNat : Int) ≤ 122) | [] => false) && decide (runN s 0 = s.length) && !wordB s

theorem name_ev (s : List UInt8) : Pure 22 [.str s] (.bool (nameB s)) := by
  intro S
  rw [ev_eq q22, c22, evFn_eq _ _ _ _ _ _ _ (by simp)]
  cases s with
  | nil => simp [nameB]
  | cons c r =>
    by_cases h1 : (c :: r).length ≤ 32
    · have hl := fun S => letter_ev c.toNat S
      have hr := fun S => run_ev (c :: r) (by omega) S
      have hw := fun S => word_ev (c :: r) S
      have h1' : ((r.length : Int) + 1) ≤ 32 := by simp at h1; omega
      unfold nameB
      cases h2 : (decide (97 ≤ (c.toNat : Int)) && decide ((c.toNat : Int) ≤ 122)) with
      | false => rw [h2] at hl; simp [h1', hl, h2]
      | true =>
        rw [h2] at hl
        by_cases h3 : runN (c :: r) 0 = r.length + 1
        · rw [h3] at hr
          cases h4 : wordB (c :: r) <;> rw [h4] at hw <;> simp [h1', hl, h2, hr, hw, h3, h4] <;> omega
        · have h3' : ¬ ((runN (c :: r) 0 : Int) = (r.length : Int) + 1) := by omega
          simp [h1', hl, h2, hr, h3, h3']
    · have h1' : ¬ ((r.length : Int) + 1 ≤ 32) := by simp at h1; omega
      have h1'' : ¬ (r.length + 1 ≤ 32) := by simp at h1; omega
      simp [nameB, h1', h1'']

end Mev
