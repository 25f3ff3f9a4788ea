/- The program's functions, one equation each: names. -/
import Derived.Test.YtfndbddlicbjpaaMevW1

set_option maxRecDepth 100000
namespace Mev
open Go Go.Proofs

def words : List (List UInt8) := [[116, 121, 112, 101], [117, 56], [117, 49, 54], [117, 51, 50], [117, 54, 52], [98, 111, 111, 108], [118, 97, 114, 105, 110, 116], [118, 101, 99, 116, 111, 114], [108, 105, 115, 116], [111, 112, 116, 105, 111, 110], [117, 110, 105, 111, 110], [115, 116, 114, 117, 99, 116]]
def wordB (s : List UInt8) : Bool := words.contains s
theorem word_ev (s : List UInt8) : Pure 46 [.str s] (.bool (wordB s)) := by
  intro S
  rw [ev_eq q46, c46, evFn_eq _ _ _ _ _ _ _ (by simp)]
  by_cases h0 : s = [116, 121, 112, 101]
  · subst h0; rw [show wordB _ = true from rfl]; simp
  by_cases h1 : s = [117, 56]
  · subst h1; rw [show wordB _ = true from rfl]; simp
  by_cases h2 : s = [117, 49, 54]
  · subst h2; rw [show wordB _ = true from rfl]; simp
  by_cases h3 : s = [117, 51, 50]
  · subst h3; rw [show wordB _ = true from rfl]; simp
  by_cases h4 : s = [117, 54, 52]
  · subst h4; rw [show wordB _ = true from rfl]; simp
  by_cases h5 : s = [98, 111, 111, 108]
  · subst h5; rw [show wordB _ = true from rfl]; simp
  by_cases h6 : s = [118, 97, 114, 105, 110, 116]
  · subst h6; rw [show wordB _ = true from rfl]; simp
  by_cases h7 : s = [118, 101, 99, 116, 111, 114]
  · subst h7; rw [show wordB _ = true from rfl]; simp
  by_cases h8 : s = [108, 105, 115, 116]
  · subst h8; rw [show wordB _ = true from rfl]; simp
  by_cases h9 : s = [111, 112, 116, 105, 111, 110]
  · subst h9; rw [show wordB _ = true from rfl]; simp
  by_cases h10 : s = [117, 110, 105, 111, 110]
  · subst h10; rw [show wordB _ = true from rfl]; simp
  by_cases h11 : s = [115, 116, 114, 117, 99, 116]
  · subst h11; rw [show wordB _ = true from rfl]; simp
  have hw : wordB s = false := by simp [wordB, words, h0, h1, h2, h3, h4, h5, h6, h7, h8, h9, h10, h11]
  rw [hw]
  simp [h0, h1, h2, h3, h4, h5, h6, h7, h8, h9, h10, h11]

end Mev
