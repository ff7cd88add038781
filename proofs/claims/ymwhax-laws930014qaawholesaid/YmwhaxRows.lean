/-
  No cell of these rows narrows 'for every input' (looked for: loops, veiled, ifaces, maps, wideKeys, modest, calm, conditions, laid).
  DERIVED. THE GIVEN ROWS OF THIS SEAT. 1 by the template 'for every input the law returns true; each argument reads behind the call as it read before'; 0 by the template 'total and deterministic' (their statements: YmwhaxTotals.lean).
  GIVEN WITH THE SEED: the statements are not yours to turn. If you find one false, say at which input.
  Laid BY PROGRAM, IN A SANDBOX (cutbox-rows.mjs): the forced cells as the released guide's own fill.sh prints them over the translation 799c42f628f42d3f… (all of the seat's roots in one cut). By AI agents, Wed Nov 11 2026. No macro, syntax, notation, axiom, sorry.
-/
import Derived.Test.YmwhaxChecked
import GoSem.Claim
import GoSem.ClaimJoined
import GoSem.ClaimMapViews
import Derived.JoinedTies
import Derived.KernelRfl
namespace Go.Proofs.Ymwhax
/- THE CELL 'sum', in the pinned program and in every row, IS THE sha256 OF THE DUMP (.gsa) THAT YmwhaxProg.lean LOADS. Nothing in Lean hashes anything: it is a label: what it is worth is what the hold of that sum in a sandbox is worth. -/
noncomputable def Yaxv.pinned : Pinned := { name := "ymwhax", sum := "799c42f628f42d3f3e73753f72e17b62f4fee08d6e98f01fcbfc1a3937fb8686", checked := Yaxv.checked }
namespace Rows
def none {H : Type} : Left H := { results := [], args := [] }

/-- 'glob.LawS930014QAAWhole': WHATEVER THE INPUT: true; the input reads as it did. -/
def lawS930014QAAWholeSpec : ChangeSpec := { name := "lawS930014QAAWhole", fn := fun _ => fun
  | [d1, d2] => { results := [.lit (.bool true)], args := [d1, d2] }
  | _ => none }
def lawS930014QAAWholeRow : OpenClaim := { program := "ymwhax", sum := "799c42f628f42d3f3e73753f72e17b62f4fee08d6e98f01fcbfc1a3937fb8686", func := "example.com/own/glob.LawS930014QAAWhole", spec := "lawS930014QAAWhole", apart := false }
def LawS930014QAAWholeSaid : Prop := lawS930014QAAWholeRow.holds Yaxv.pinned (OpenSpec.ofChange lawS930014QAAWholeSpec)

/-- ITS FALSE NEIGHBOUR: 'it returns false'. Refute it at one input. -/
def lawS930014QAAWholeWrong : ChangeSpec := { name := "lawS930014QAAWhole", fn := fun _ => fun
  | [d1, d2] => { results := [.lit (.bool false)], args := [d1, d2] }
  | _ => none }
def LawS930014QAAWholeWrongFalsely : Prop := lawS930014QAAWholeRow.holds Yaxv.pinned (OpenSpec.ofChange lawS930014QAAWholeWrong)

end Rows
end Go.Proofs.Ymwhax
