/-
  No cell of these rows narrows 'for every input' (looked for: loops, veiled, ifaces, maps, wideKeys, modest, calm, conditions, laid).
  DERIVED. THE GIVEN ROWS OF THIS SEAT. 2 by the template 'for every input the law returns true; each argument reads behind the call as it read before'; 0 by the template 'total and deterministic' (their statements: YtfndbddlicbjpaaTotals.lean).
  GIVEN WITH THE SEED: the statements are not yours to turn. If you find one false, say at which input.
  Laid BY PROGRAM, IN A SANDBOX (cutbox-rows.mjs): the forced cells as the released guide's own fill.sh prints them over the translation fbf3cee0d83f700d… (all of the seat's roots in one cut). By AI agents, Wed Nov 11 2026. No macro, syntax, notation, axiom, sorry.
-/
import Derived.Test.YtfndbddlicbjpaaChecked
import GoSem.Claim
import GoSem.ClaimJoined
import GoSem.ClaimMapViews
import Derived.JoinedTies
import Derived.KernelRfl
namespace Go.Proofs.Ytfndbddlicbjpaa
/- THE CELL 'sum', in the pinned program and in every row, IS THE sha256 OF THE DUMP (.gsa) THAT YtfndbddlicbjpaaProg.lean LOADS. Nothing in Lean hashes anything: it is a label: what it is worth is what the hold of that sum in a sandbox is worth. -/
noncomputable def Try.pinned : Pinned := { name := "ytfndbddlicbjpaa", sum := "fbf3cee0d83f700d25d348177412474bf6509542747f4fc5cbc4ae15387f975e", checked := Try.checked }
namespace Rows
def none {H : Type} : Left H := { results := [], args := [] }

/-- 'mortiselaw17.RaiseExact': WHATEVER THE INPUT: true; the input reads as it did. -/
def raiseExactSpec : ChangeSpec := { name := "raiseExact", fn := fun _ => fun
  | [d] => { results := [.lit (.bool true)], args := [d] }
  | _ => none }
def raiseExactRow : OpenClaim := { program := "ytfndbddlicbjpaa", sum := "fbf3cee0d83f700d25d348177412474bf6509542747f4fc5cbc4ae15387f975e", func := "mortise/mortiselaw17.RaiseExact", spec := "raiseExact", unfollowed := true, recurses := true, apart := false }
def RaiseExactSaid : Prop := raiseExactRow.holds Try.pinned (OpenSpec.ofChange raiseExactSpec)

/-- ITS FALSE NEIGHBOUR: 'it returns false'. Refute it at one input. -/
def raiseExactWrong : ChangeSpec := { name := "raiseExact", fn := fun _ => fun
  | [d] => { results := [.lit (.bool false)], args := [d] }
  | _ => none }
def RaiseExactWrongFalsely : Prop := raiseExactRow.holds Try.pinned (OpenSpec.ofChange raiseExactWrong)

/-- 'mortiselaw17.RaiseFront': WHATEVER THE INPUT: true; the input reads as it did. -/
def raiseFrontSpec : ChangeSpec := { name := "raiseFront", fn := fun _ => fun
  | [d1, d2] => { results := [.lit (.bool true)], args := [d1, d2] }
  | _ => none }
def raiseFrontRow : OpenClaim := { program := "ytfndbddlicbjpaa", sum := "fbf3cee0d83f700d25d348177412474bf6509542747f4fc5cbc4ae15387f975e", func := "mortise/mortiselaw17.RaiseFront", spec := "raiseFront", unfollowed := true, recurses := true, apart := false }
def RaiseFrontSaid : Prop := raiseFrontRow.holds Try.pinned (OpenSpec.ofChange raiseFrontSpec)

/-- ITS FALSE NEIGHBOUR: 'it returns false'. Refute it at one input. -/
def raiseFrontWrong : ChangeSpec := { name := "raiseFront", fn := fun _ => fun
  | [d1, d2] => { results := [.lit (.bool false)], args := [d1, d2] }
  | _ => none }
def RaiseFrontWrongFalsely : Prop := raiseFrontRow.holds Try.pinned (OpenSpec.ofChange raiseFrontWrong)

/- THE SECOND FORM. 'bulk': how many values and letters a reading holds, each counted each time it is reached (what is shared counts as often as it is met; a slice's spare places count too). A statement '..UptoSaid' is the law's where the arguments, and the package variables that the reading takes, are together of bulk at most 1048576: NARROWER than '..Said'. Prove '..Said' where nothing that the law and all that it calls make is longer than what came in: it says more and counts as full. Else prove '..UptoSaid'. A law counts once. -/
mutual
def uptoBulk {H : Type} : DataW H → Nat
  | .lit (.string bytes) => bytes.length + 1
  | .lit _ => 1
  | .nil => 1
  | .ptr d => uptoBulk d + 1
  | .slice elems spare => uptoBulkAll elems + uptoBulkAll spare + 1
  | .agg parts => uptoBulkAll parts + 1
  | .iface _ d => uptoBulk d + 1
  | .map entries => uptoBulkEntries entries + 1
  | .held _ => 1
def uptoBulkAll {H : Type} : List (DataW H) → Nat
  | [] => 0
  | d :: r => uptoBulk d + uptoBulkAll r
def uptoBulkEntries {H : Type} : List (Lit × DataW H) → Nat
  | [] => 0
  | x :: r => uptoBulkEntry x + uptoBulkEntries r
def uptoBulkEntry {H : Type} : Lit × DataW H → Nat
  | (.string bytes, d) => bytes.length + uptoBulk d + 1
  | (_, d) => uptoBulk d + 1
 end
def uptoSmall : (H : Type) → List (DataW H) → Bool := fun _ ds => decide (uptoBulkAll ds ≤ 1048576)
def OpenSpec.upto (s : _root_.Go.ChangeSpec) : _root_.Go.OpenSpec := { _root_.Go.OpenSpec.ofChange s with cond := some uptoSmall }

/-- 'mortiselaw17.RaiseExact', WHERE WHAT IT READS IS OF BULK AT MOST 1048576: true; the input reads as it did. -/
def raiseExactUptoRow : OpenClaim := { program := "ytfndbddlicbjpaa", sum := "fbf3cee0d83f700d25d348177412474bf6509542747f4fc5cbc4ae15387f975e", func := "mortise/mortiselaw17.RaiseExact", spec := "raiseExact", unfollowed := true, recurses := true, apart := false, narrowed := true }
def RaiseExactUptoSaid : Prop := raiseExactUptoRow.holds Try.pinned (OpenSpec.upto raiseExactSpec)

/-- 'mortiselaw17.RaiseFront', WHERE WHAT IT READS IS OF BULK AT MOST 1048576: true; the input reads as it did. -/
def raiseFrontUptoRow : OpenClaim := { program := "ytfndbddlicbjpaa", sum := "fbf3cee0d83f700d25d348177412474bf6509542747f4fc5cbc4ae15387f975e", func := "mortise/mortiselaw17.RaiseFront", spec := "raiseFront", unfollowed := true, recurses := true, apart := false, narrowed := true }
def RaiseFrontUptoSaid : Prop := raiseFrontUptoRow.holds Try.pinned (OpenSpec.upto raiseFrontSpec)

end Rows
end Go.Proofs.Ytfndbddlicbjpaa
