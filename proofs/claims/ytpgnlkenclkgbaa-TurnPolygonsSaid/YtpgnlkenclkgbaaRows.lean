/-
  No cell of these rows narrows 'for every input' (looked for: loops, veiled, ifaces, maps, wideKeys, modest, calm, conditions, laid).
  DERIVED. THE GIVEN ROWS OF THIS SEAT. 10 by the template 'for every input the law returns true; each argument reads behind the call as it read before'; 0 by the template 'total and deterministic' (their statements: YtpgnlkenclkgbaaTotals.lean).
  GIVEN WITH THE SEED: the statements are not yours to turn. If you find one false, say at which input.
  Laid BY PROGRAM, IN A SANDBOX (cutbox-rows.mjs): the forced cells as the released guide's own fill.sh prints them over the translation 7c40d2b87cf04347… (all of the seat's roots in one cut). By AI agents, Wed Nov 11 2026. No macro, syntax, notation, axiom, sorry.
-/
import Derived.Test.YtpgnlkenclkgbaaChecked
import GoSem.Claim
import GoSem.ClaimJoined
import GoSem.ClaimMapViews
import Derived.JoinedTies
import Derived.KernelRfl
namespace Go.Proofs.Ytpgnlkenclkgbaa
/- THE CELL 'sum', in the pinned program and in every row, IS THE sha256 OF THE DUMP (.gsa) THAT YtpgnlkenclkgbaaProg.lean LOADS. Nothing in Lean hashes anything: it is a label: what it is worth is what the hold of that sum in a sandbox is worth. -/
noncomputable def Try.pinned : Pinned := { name := "ytpgnlkenclkgbaa", sum := "7c40d2b87cf04347d2fefc37e9298bb8814c48fe52646e03a8e7ec77d9b4d433", checked := Try.checked }
namespace Rows
def none {H : Type} : Left H := { results := [], args := [] }

/-- 'garmentlaw12.TurnResults': WHATEVER THE INPUT: true; the input reads as it did. -/
def turnResultsSpec : ChangeSpec := { name := "turnResults", fn := fun _ => fun
  | [d1, d2, d3] => { results := [.lit (.bool true)], args := [d1, d2, d3] }
  | _ => none }
def turnResultsRow : OpenClaim := { program := "ytpgnlkenclkgbaa", sum := "7c40d2b87cf04347d2fefc37e9298bb8814c48fe52646e03a8e7ec77d9b4d433", func := "garment/garmentlaw12.TurnResults", spec := "turnResults", apart := false }
def TurnResultsSaid : Prop := turnResultsRow.holds Try.pinned (OpenSpec.ofChange turnResultsSpec)

/-- ITS FALSE NEIGHBOUR: 'it returns false'. Refute it at one input. -/
def turnResultsWrong : ChangeSpec := { name := "turnResults", fn := fun _ => fun
  | [d1, d2, d3] => { results := [.lit (.bool false)], args := [d1, d2, d3] }
  | _ => none }
def TurnResultsWrongFalsely : Prop := turnResultsRow.holds Try.pinned (OpenSpec.ofChange turnResultsWrong)

/-- 'garmentlaw12.TurnPoints': WHATEVER THE INPUT: true; the input reads as it did. -/
def turnPointsSpec : ChangeSpec := { name := "turnPoints", fn := fun _ => fun
  | [d1, d2] => { results := [.lit (.bool true)], args := [d1, d2] }
  | _ => none }
def turnPointsRow : OpenClaim := { program := "ytpgnlkenclkgbaa", sum := "7c40d2b87cf04347d2fefc37e9298bb8814c48fe52646e03a8e7ec77d9b4d433", func := "garment/garmentlaw12.TurnPoints", spec := "turnPoints", apart := false }
def TurnPointsSaid : Prop := turnPointsRow.holds Try.pinned (OpenSpec.ofChange turnPointsSpec)

/-- ITS FALSE NEIGHBOUR: 'it returns false'. Refute it at one input. -/
def turnPointsWrong : ChangeSpec := { name := "turnPoints", fn := fun _ => fun
  | [d1, d2] => { results := [.lit (.bool false)], args := [d1, d2] }
  | _ => none }
def TurnPointsWrongFalsely : Prop := turnPointsRow.holds Try.pinned (OpenSpec.ofChange turnPointsWrong)

/-- 'garmentlaw12.TurnPolys': WHATEVER THE INPUT: true; the input reads as it did. -/
def turnPolysSpec : ChangeSpec := { name := "turnPolys", fn := fun _ => fun
  | [d1, d2] => { results := [.lit (.bool true)], args := [d1, d2] }
  | _ => none }
def turnPolysRow : OpenClaim := { program := "ytpgnlkenclkgbaa", sum := "7c40d2b87cf04347d2fefc37e9298bb8814c48fe52646e03a8e7ec77d9b4d433", func := "garment/garmentlaw12.TurnPolys", spec := "turnPolys", apart := false }
def TurnPolysSaid : Prop := turnPolysRow.holds Try.pinned (OpenSpec.ofChange turnPolysSpec)

/-- ITS FALSE NEIGHBOUR: 'it returns false'. Refute it at one input. -/
def turnPolysWrong : ChangeSpec := { name := "turnPolys", fn := fun _ => fun
  | [d1, d2] => { results := [.lit (.bool false)], args := [d1, d2] }
  | _ => none }
def TurnPolysWrongFalsely : Prop := turnPolysRow.holds Try.pinned (OpenSpec.ofChange turnPolysWrong)

/-- 'garmentlaw12.TurnGrains': WHATEVER THE INPUT: true; the input reads as it did. -/
def turnGrainsSpec : ChangeSpec := { name := "turnGrains", fn := fun _ => fun
  | [d1, d2, d3] => { results := [.lit (.bool true)], args := [d1, d2, d3] }
  | _ => none }
def turnGrainsRow : OpenClaim := { program := "ytpgnlkenclkgbaa", sum := "7c40d2b87cf04347d2fefc37e9298bb8814c48fe52646e03a8e7ec77d9b4d433", func := "garment/garmentlaw12.TurnGrains", spec := "turnGrains", apart := false }
def TurnGrainsSaid : Prop := turnGrainsRow.holds Try.pinned (OpenSpec.ofChange turnGrainsSpec)

/-- ITS FALSE NEIGHBOUR: 'it returns false'. Refute it at one input. -/
def turnGrainsWrong : ChangeSpec := { name := "turnGrains", fn := fun _ => fun
  | [d1, d2, d3] => { results := [.lit (.bool false)], args := [d1, d2, d3] }
  | _ => none }
def TurnGrainsWrongFalsely : Prop := turnGrainsRow.holds Try.pinned (OpenSpec.ofChange turnGrainsWrong)

/-- 'garmentlaw12.TurnGroup': WHATEVER THE INPUT: true; the input reads as it did. -/
def turnGroupSpec : ChangeSpec := { name := "turnGroup", fn := fun _ => fun
  | [d1, d2, d3, d4] => { results := [.lit (.bool true)], args := [d1, d2, d3, d4] }
  | _ => none }
def turnGroupRow : OpenClaim := { program := "ytpgnlkenclkgbaa", sum := "7c40d2b87cf04347d2fefc37e9298bb8814c48fe52646e03a8e7ec77d9b4d433", func := "garment/garmentlaw12.TurnGroup", spec := "turnGroup", apart := false }
def TurnGroupSaid : Prop := turnGroupRow.holds Try.pinned (OpenSpec.ofChange turnGroupSpec)

/-- ITS FALSE NEIGHBOUR: 'it returns false'. Refute it at one input. -/
def turnGroupWrong : ChangeSpec := { name := "turnGroup", fn := fun _ => fun
  | [d1, d2, d3, d4] => { results := [.lit (.bool false)], args := [d1, d2, d3, d4] }
  | _ => none }
def TurnGroupWrongFalsely : Prop := turnGroupRow.holds Try.pinned (OpenSpec.ofChange turnGroupWrong)

/-- 'garmentlaw12.TurnEight': WHATEVER THE INPUT: true; the input reads as it did. -/
def turnEightSpec : ChangeSpec := { name := "turnEight", fn := fun _ => fun
  | [d1, d2] => { results := [.lit (.bool true)], args := [d1, d2] }
  | _ => none }
def turnEightRow : OpenClaim := { program := "ytpgnlkenclkgbaa", sum := "7c40d2b87cf04347d2fefc37e9298bb8814c48fe52646e03a8e7ec77d9b4d433", func := "garment/garmentlaw12.TurnEight", spec := "turnEight", apart := false }
def TurnEightSaid : Prop := turnEightRow.holds Try.pinned (OpenSpec.ofChange turnEightSpec)

/-- ITS FALSE NEIGHBOUR: 'it returns false'. Refute it at one input. -/
def turnEightWrong : ChangeSpec := { name := "turnEight", fn := fun _ => fun
  | [d1, d2] => { results := [.lit (.bool false)], args := [d1, d2] }
  | _ => none }
def TurnEightWrongFalsely : Prop := turnEightRow.holds Try.pinned (OpenSpec.ofChange turnEightWrong)

/-- 'garmentlaw12.TurnKeeps': WHATEVER THE INPUT: true; the input reads as it did. -/
def turnKeepsSpec : ChangeSpec := { name := "turnKeeps", fn := fun _ => fun
  | [d1, d2, d3] => { results := [.lit (.bool true)], args := [d1, d2, d3] }
  | _ => none }
def turnKeepsRow : OpenClaim := { program := "ytpgnlkenclkgbaa", sum := "7c40d2b87cf04347d2fefc37e9298bb8814c48fe52646e03a8e7ec77d9b4d433", func := "garment/garmentlaw12.TurnKeeps", spec := "turnKeeps", apart := false }
def TurnKeepsSaid : Prop := turnKeepsRow.holds Try.pinned (OpenSpec.ofChange turnKeepsSpec)

/-- ITS FALSE NEIGHBOUR: 'it returns false'. Refute it at one input. -/
def turnKeepsWrong : ChangeSpec := { name := "turnKeeps", fn := fun _ => fun
  | [d1, d2, d3] => { results := [.lit (.bool false)], args := [d1, d2, d3] }
  | _ => none }
def TurnKeepsWrongFalsely : Prop := turnKeepsRow.holds Try.pinned (OpenSpec.ofChange turnKeepsWrong)

/-- 'garmentlaw12.TurnAgrees': WHATEVER THE INPUT: true; the input reads as it did. -/
def turnAgreesSpec : ChangeSpec := { name := "turnAgrees", fn := fun _ => fun
  | [d1, d2] => { results := [.lit (.bool true)], args := [d1, d2] }
  | _ => none }
def turnAgreesRow : OpenClaim := { program := "ytpgnlkenclkgbaa", sum := "7c40d2b87cf04347d2fefc37e9298bb8814c48fe52646e03a8e7ec77d9b4d433", func := "garment/garmentlaw12.TurnAgrees", spec := "turnAgrees", apart := false }
def TurnAgreesSaid : Prop := turnAgreesRow.holds Try.pinned (OpenSpec.ofChange turnAgreesSpec)

/-- ITS FALSE NEIGHBOUR: 'it returns false'. Refute it at one input. -/
def turnAgreesWrong : ChangeSpec := { name := "turnAgrees", fn := fun _ => fun
  | [d1, d2] => { results := [.lit (.bool false)], args := [d1, d2] }
  | _ => none }
def TurnAgreesWrongFalsely : Prop := turnAgreesRow.holds Try.pinned (OpenSpec.ofChange turnAgreesWrong)

/-- 'garmentlaw12.TurnAllowed': WHATEVER THE INPUT: true; the input reads as it did. -/
def turnAllowedSpec : ChangeSpec := { name := "turnAllowed", fn := fun _ => fun
  | [d1, d2, d3, d4] => { results := [.lit (.bool true)], args := [d1, d2, d3, d4] }
  | _ => none }
def turnAllowedRow : OpenClaim := { program := "ytpgnlkenclkgbaa", sum := "7c40d2b87cf04347d2fefc37e9298bb8814c48fe52646e03a8e7ec77d9b4d433", func := "garment/garmentlaw12.TurnAllowed", spec := "turnAllowed", apart := false }
def TurnAllowedSaid : Prop := turnAllowedRow.holds Try.pinned (OpenSpec.ofChange turnAllowedSpec)

/-- ITS FALSE NEIGHBOUR: 'it returns false'. Refute it at one input. -/
def turnAllowedWrong : ChangeSpec := { name := "turnAllowed", fn := fun _ => fun
  | [d1, d2, d3, d4] => { results := [.lit (.bool false)], args := [d1, d2, d3, d4] }
  | _ => none }
def TurnAllowedWrongFalsely : Prop := turnAllowedRow.holds Try.pinned (OpenSpec.ofChange turnAllowedWrong)

/-- 'garmentlaw12.TurnPolygons': WHATEVER THE INPUT: true; the input reads as it did. -/
def turnPolygonsSpec : ChangeSpec := { name := "turnPolygons", fn := fun _ => fun
  | [d1, d2] => { results := [.lit (.bool true)], args := [d1, d2] }
  | _ => none }
def turnPolygonsRow : OpenClaim := { program := "ytpgnlkenclkgbaa", sum := "7c40d2b87cf04347d2fefc37e9298bb8814c48fe52646e03a8e7ec77d9b4d433", func := "garment/garmentlaw12.TurnPolygons", spec := "turnPolygons", apart := false }
def TurnPolygonsSaid : Prop := turnPolygonsRow.holds Try.pinned (OpenSpec.ofChange turnPolygonsSpec)

/-- ITS FALSE NEIGHBOUR: 'it returns false'. Refute it at one input. -/
def turnPolygonsWrong : ChangeSpec := { name := "turnPolygons", fn := fun _ => fun
  | [d1, d2] => { results := [.lit (.bool false)], args := [d1, d2] }
  | _ => none }
def TurnPolygonsWrongFalsely : Prop := turnPolygonsRow.holds Try.pinned (OpenSpec.ofChange turnPolygonsWrong)

/- THE SECOND FORM. 'bulk': how many values and letters a reading holds, each counted each time it is reached (what is shared counts as often as it is met; a slice's spare places count too). A statement '..UptoSaid' is the law's where the arguments, and the package variables that the reading takes, are together of bulk at most 1048576: NARROWER than '..Said'. Prove '..Said' where nothing that the law and all that it calls make is longer than what came in: it says more and counts as full. Else prove '..UptoSaid'. A law counts once. -/
mutual
def uptoBulk {H : Type} : DataW H → Nat
  | .lit (.string bytes) => bytes.length + 1
  | .lit _ => 1
  | .nil => 1
  | .ptr d => uptoBulk d + 1
  | .slice elems spare => uptoBulkAll elems + uptoBulkAll spare + 1
  | .agg parts => uptoBulkAll parts + 1
  | .iface _ d => uptoBulk d + 1
  | .map entries => uptoBulkEntries entries + 1
  | .held _ => 1
def uptoBulkAll {H : Type} : List (DataW H) → Nat
  | [] => 0
  | d :: r => uptoBulk d + uptoBulkAll r
def uptoBulkEntries {H : Type} : List (Lit × DataW H) → Nat
  | [] => 0
  | x :: r => uptoBulkEntry x + uptoBulkEntries r
def uptoBulkEntry {H : Type} : Lit × DataW H → Nat
  | (.string bytes, d) => bytes.length + uptoBulk d + 1
  | (_, d) => uptoBulk d + 1
 end
def uptoSmall : (H : Type) → List (DataW H) → Bool := fun _ ds => decide (uptoBulkAll ds ≤ 1048576)
def OpenSpec.upto (s : _root_.Go.ChangeSpec) : _root_.Go.OpenSpec := { _root_.Go.OpenSpec.ofChange s with cond := some uptoSmall }

/-- 'garmentlaw12.TurnResults', WHERE WHAT IT READS IS OF BULK AT MOST 1048576: true; the input reads as it did. -/
def turnResultsUptoRow : OpenClaim := { program := "ytpgnlkenclkgbaa", sum := "7c40d2b87cf04347d2fefc37e9298bb8814c48fe52646e03a8e7ec77d9b4d433", func := "garment/garmentlaw12.TurnResults", spec := "turnResults", apart := false, narrowed := true }
def TurnResultsUptoSaid : Prop := turnResultsUptoRow.holds Try.pinned (OpenSpec.upto turnResultsSpec)

/-- 'garmentlaw12.TurnPoints', WHERE WHAT IT READS IS OF BULK AT MOST 1048576: true; the input reads as it did. -/
def turnPointsUptoRow : OpenClaim := { program := "ytpgnlkenclkgbaa", sum := "7c40d2b87cf04347d2fefc37e9298bb8814c48fe52646e03a8e7ec77d9b4d433", func := "garment/garmentlaw12.TurnPoints", spec := "turnPoints", apart := false, narrowed := true }
def TurnPointsUptoSaid : Prop := turnPointsUptoRow.holds Try.pinned (OpenSpec.upto turnPointsSpec)

/-- 'garmentlaw12.TurnPolys', WHERE WHAT IT READS IS OF BULK AT MOST 1048576: true; the input reads as it did. -/
def turnPolysUptoRow : OpenClaim := { program := "ytpgnlkenclkgbaa", sum := "7c40d2b87cf04347d2fefc37e9298bb8814c48fe52646e03a8e7ec77d9b4d433", func := "garment/garmentlaw12.TurnPolys", spec := "turnPolys", apart := false, narrowed := true }
def TurnPolysUptoSaid : Prop := turnPolysUptoRow.holds Try.pinned (OpenSpec.upto turnPolysSpec)

/-- 'garmentlaw12.TurnGrains', WHERE WHAT IT READS IS OF BULK AT MOST 1048576: true; the input reads as it did. -/
def turnGrainsUptoRow : OpenClaim := { program := "ytpgnlkenclkgbaa", sum := "7c40d2b87cf04347d2fefc37e9298bb8814c48fe52646e03a8e7ec77d9b4d433", func := "garment/garmentlaw12.TurnGrains", spec := "turnGrains", apart := false, narrowed := true }
def TurnGrainsUptoSaid : Prop := turnGrainsUptoRow.holds Try.pinned (OpenSpec.upto turnGrainsSpec)

/-- 'garmentlaw12.TurnGroup', WHERE WHAT IT READS IS OF BULK AT MOST 1048576: true; the input reads as it did. -/
def turnGroupUptoRow : OpenClaim := { program := "ytpgnlkenclkgbaa", sum := "7c40d2b87cf04347d2fefc37e9298bb8814c48fe52646e03a8e7ec77d9b4d433", func := "garment/garmentlaw12.TurnGroup", spec := "turnGroup", apart := false, narrowed := true }
def TurnGroupUptoSaid : Prop := turnGroupUptoRow.holds Try.pinned (OpenSpec.upto turnGroupSpec)

/-- 'garmentlaw12.TurnEight', WHERE WHAT IT READS IS OF BULK AT MOST 1048576: true; the input reads as it did. -/
def turnEightUptoRow : OpenClaim := { program := "ytpgnlkenclkgbaa", sum := "7c40d2b87cf04347d2fefc37e9298bb8814c48fe52646e03a8e7ec77d9b4d433", func := "garment/garmentlaw12.TurnEight", spec := "turnEight", apart := false, narrowed := true }
def TurnEightUptoSaid : Prop := turnEightUptoRow.holds Try.pinned (OpenSpec.upto turnEightSpec)

/-- 'garmentlaw12.TurnKeeps', WHERE WHAT IT READS IS OF BULK AT MOST 1048576: true; the input reads as it did. -/
def turnKeepsUptoRow : OpenClaim := { program := "ytpgnlkenclkgbaa", sum := "7c40d2b87cf04347d2fefc37e9298bb8814c48fe52646e03a8e7ec77d9b4d433", func := "garment/garmentlaw12.TurnKeeps", spec := "turnKeeps", apart := false, narrowed := true }
def TurnKeepsUptoSaid : Prop := turnKeepsUptoRow.holds Try.pinned (OpenSpec.upto turnKeepsSpec)

/-- 'garmentlaw12.TurnAgrees', WHERE WHAT IT READS IS OF BULK AT MOST 1048576: true; the input reads as it did. -/
def turnAgreesUptoRow : OpenClaim := { program := "ytpgnlkenclkgbaa", sum := "7c40d2b87cf04347d2fefc37e9298bb8814c48fe52646e03a8e7ec77d9b4d433", func := "garment/garmentlaw12.TurnAgrees", spec := "turnAgrees", apart := false, narrowed := true }
def TurnAgreesUptoSaid : Prop := turnAgreesUptoRow.holds Try.pinned (OpenSpec.upto turnAgreesSpec)

/-- 'garmentlaw12.TurnAllowed', WHERE WHAT IT READS IS OF BULK AT MOST 1048576: true; the input reads as it did. -/
def turnAllowedUptoRow : OpenClaim := { program := "ytpgnlkenclkgbaa", sum := "7c40d2b87cf04347d2fefc37e9298bb8814c48fe52646e03a8e7ec77d9b4d433", func := "garment/garmentlaw12.TurnAllowed", spec := "turnAllowed", apart := false, narrowed := true }
def TurnAllowedUptoSaid : Prop := turnAllowedUptoRow.holds Try.pinned (OpenSpec.upto turnAllowedSpec)

/-- 'garmentlaw12.TurnPolygons', WHERE WHAT IT READS IS OF BULK AT MOST 1048576: true; the input reads as it did. -/
def turnPolygonsUptoRow : OpenClaim := { program := "ytpgnlkenclkgbaa", sum := "7c40d2b87cf04347d2fefc37e9298bb8814c48fe52646e03a8e7ec77d9b4d433", func := "garment/garmentlaw12.TurnPolygons", spec := "turnPolygons", apart := false, narrowed := true }
def TurnPolygonsUptoSaid : Prop := turnPolygonsUptoRow.holds Try.pinned (OpenSpec.upto turnPolygonsSpec)

end Rows
end Go.Proofs.Ytpgnlkenclkgbaa
