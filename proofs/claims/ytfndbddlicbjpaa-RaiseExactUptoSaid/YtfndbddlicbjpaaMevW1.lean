/- The program's functions, one equation each: the leaves. -/
import Derived.Test.YtfndbddlicbjpaaMevCode5

set_option maxRecDepth 100000
namespace Mev
open Go Go.Proofs

noncomputable abbrev Q : Table := table Try.prog A0

/-- a call that leaves all as it was -/
def Pure (f : FuncId) (args : List V) (r : V) : Prop := ∀ S, ev Q f args S = some (.ret r, S)

theorem letter_ev (c : Int) : Pure 43 [.int .u8 c] (.bool (decide (97 ≤ c) && decide (c ≤ 122))) := by
  intro S
  rw [ev_eq q43, c43, evFn_eq _ _ _ _ _ _ _ (by simp)]
  by_cases h1 : 97 ≤ c <;> by_cases h2 : c ≤ 122 <;> simp [h1, h2]

theorem digit_ev (c : Int) : Pure 61 [.int .u8 c] (.bool (decide (48 ≤ c) && decide (c ≤ 57))) := by
  intro S
  rw [ev_eq q61, c61, evFn_eq _ _ _ _ _ _ _ (by simp)]
  by_cases h1 : 48 ≤ c <;> by_cases h2 : c ≤ 57 <;> simp [h1, h2]

def furtherB (c : Int) : Bool := (decide (97 ≤ c) && decide (c ≤ 122)) || (decide (48 ≤ c) && decide (c ≤ 57)) || decide (c = 95)
theorem further_ev (c : Int) : Pure 45 [.int .u8 c] (.bool (furtherB c)) := by
  intro S
  rw [ev_eq q45, c45, evFn_eq _ _ _ _ _ _ _ (by simp)]
  have h1 := fun S => letter_ev c S
  have h2 := fun S => digit_ev c S
  unfold furtherB
  cases hl : (decide (97 ≤ c) && decide (c ≤ 122)) <;> cases hd : (decide (48 ≤ c) && decide (c ≤ 57)) <;> rw [hl] at h1 <;> rw [hd] at h2 <;> simp [h1, h2]

def numberB (k n : Int) : Bool := if k = 1 then decide (n = 1) || decide (n = 2) || decide (n = 4) || decide (n = 8) else if k = 4 ∨ k = 5 then decide (1 ≤ n) && decide (n ≤ 1048576) else decide (n = 0)
theorem number_ev (k n : Int) : Pure 41 [.int .i64 k, .int .i64 n] (.bool (numberB k n)) := by
  intro S
  rw [ev_eq q41, c41, evFn_eq _ _ _ _ _ _ _ (by simp)]
  unfold numberB
  by_cases h1 : k = 1
  · subst h1
    by_cases a1 : n = 1
    · subst a1; simp
    · by_cases a2 : n = 2
      · subst a2; simp
      · by_cases a3 : n = 4
        · subst a3; simp
        · by_cases a4 : n = 8 <;> simp [a1, a2, a3, a4]
  · by_cases h4 : k = 4
    · subst h4
      by_cases b1 : 1 ≤ n <;> by_cases b2 : n ≤ 1048576 <;> simp [b1, b2]
    · by_cases h5 : k = 5
      · subst h5
        by_cases b1 : 1 ≤ n <;> by_cases b2 : n ≤ 1048576 <;> simp [b1, b2]
      · by_cases b0 : n = 0 <;> simp [h1, h4, h5, b0]

end Mev
