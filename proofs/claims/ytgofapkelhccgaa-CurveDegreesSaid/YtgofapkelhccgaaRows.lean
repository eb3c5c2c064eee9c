/-
  No cell of these rows narrows 'for every input' (looked for: loops, veiled, ifaces, maps, wideKeys, modest, calm, conditions, laid).
  DERIVED. THE GIVEN ROWS OF THIS SEAT. 7 by the template 'for every input the law returns true; each argument reads behind the call as it read before'; 0 by the template 'total and deterministic' (their statements: YtgofapkelhccgaaTotals.lean).
  GIVEN WITH THE SEED: the statements are not yours to turn. If you find one false, say at which input.
  Laid BY PROGRAM, IN A SANDBOX (cutbox-rows.mjs): the forced cells as the released guide's own fill.sh prints them over the translation e5b645e03e66e520… (all of the seat's roots in one cut). By AI agents, Wed Nov 11 2026. No macro, syntax, notation, axiom, sorry.
-/
import Derived.Test.YtgofapkelhccgaaChecked
import GoSem.Claim
import GoSem.ClaimJoined
import GoSem.ClaimMapViews
import Derived.JoinedTies
import Derived.KernelRfl
namespace Go.Proofs.Ytgofapkelhccgaa
/- THE CELL 'sum', in the pinned program and in every row, IS THE sha256 OF THE DUMP (.gsa) THAT YtgofapkelhccgaaProg.lean LOADS. Nothing in Lean hashes anything: it is a label: what it is worth is what the hold of that sum in a sandbox is worth. -/
noncomputable def Try.pinned : Pinned := { name := "ytgofapkelhccgaa", sum := "e5b645e03e66e520eec3de148de572116ae2e984a5c69a40cfd7653eb1eb9a26", checked := Try.checked }
namespace Rows
def none {H : Type} : Left H := { results := [], args := [] }

/-- 'garmentlaw09.CurveFlattens': WHATEVER THE INPUT: true; the input reads as it did. -/
def curveFlattensSpec : ChangeSpec := { name := "curveFlattens", fn := fun _ => fun
  | [d1, d2] => { results := [.lit (.bool true)], args := [d1, d2] }
  | _ => none }
def curveFlattensRow : OpenClaim := { program := "ytgofapkelhccgaa", sum := "e5b645e03e66e520eec3de148de572116ae2e984a5c69a40cfd7653eb1eb9a26", func := "garment/garmentlaw09.CurveFlattens", spec := "curveFlattens", unfollowed := true, recurses := true, apart := false }
def CurveFlattensSaid : Prop := curveFlattensRow.holds Try.pinned (OpenSpec.ofChange curveFlattensSpec)

/-- ITS FALSE NEIGHBOUR: 'it returns false'. Refute it at one input. -/
def curveFlattensWrong : ChangeSpec := { name := "curveFlattens", fn := fun _ => fun
  | [d1, d2] => { results := [.lit (.bool false)], args := [d1, d2] }
  | _ => none }
def CurveFlattensWrongFalsely : Prop := curveFlattensRow.holds Try.pinned (OpenSpec.ofChange curveFlattensWrong)

/-- 'garmentlaw09.CurveSplits': WHATEVER THE INPUT: true; the input reads as it did. -/
def curveSplitsSpec : ChangeSpec := { name := "curveSplits", fn := fun _ => fun
  | [d1, d2, d3] => { results := [.lit (.bool true)], args := [d1, d2, d3] }
  | _ => none }
def curveSplitsRow : OpenClaim := { program := "ytgofapkelhccgaa", sum := "e5b645e03e66e520eec3de148de572116ae2e984a5c69a40cfd7653eb1eb9a26", func := "garment/garmentlaw09.CurveSplits", spec := "curveSplits", unfollowed := true, recurses := true, apart := false }
def CurveSplitsSaid : Prop := curveSplitsRow.holds Try.pinned (OpenSpec.ofChange curveSplitsSpec)

/-- ITS FALSE NEIGHBOUR: 'it returns false'. Refute it at one input. -/
def curveSplitsWrong : ChangeSpec := { name := "curveSplits", fn := fun _ => fun
  | [d1, d2, d3] => { results := [.lit (.bool false)], args := [d1, d2, d3] }
  | _ => none }
def CurveSplitsWrongFalsely : Prop := curveSplitsRow.holds Try.pinned (OpenSpec.ofChange curveSplitsWrong)

/-- 'garmentlaw09.CurveBoxed': WHATEVER THE INPUT: true; the input reads as it did. -/
def curveBoxedSpec : ChangeSpec := { name := "curveBoxed", fn := fun _ => fun
  | [d1, d2] => { results := [.lit (.bool true)], args := [d1, d2] }
  | _ => none }
def curveBoxedRow : OpenClaim := { program := "ytgofapkelhccgaa", sum := "e5b645e03e66e520eec3de148de572116ae2e984a5c69a40cfd7653eb1eb9a26", func := "garment/garmentlaw09.CurveBoxed", spec := "curveBoxed", unfollowed := true, recurses := true, apart := false }
def CurveBoxedSaid : Prop := curveBoxedRow.holds Try.pinned (OpenSpec.ofChange curveBoxedSpec)

/-- ITS FALSE NEIGHBOUR: 'it returns false'. Refute it at one input. -/
def curveBoxedWrong : ChangeSpec := { name := "curveBoxed", fn := fun _ => fun
  | [d1, d2] => { results := [.lit (.bool false)], args := [d1, d2] }
  | _ => none }
def CurveBoxedWrongFalsely : Prop := curveBoxedRow.holds Try.pinned (OpenSpec.ofChange curveBoxedWrong)

/-- 'garmentlaw09.CurveMoves': WHATEVER THE INPUT: true; the input reads as it did. -/
def curveMovesSpec : ChangeSpec := { name := "curveMoves", fn := fun _ => fun
  | [d1, d2, d3] => { results := [.lit (.bool true)], args := [d1, d2, d3] }
  | _ => none }
def curveMovesRow : OpenClaim := { program := "ytgofapkelhccgaa", sum := "e5b645e03e66e520eec3de148de572116ae2e984a5c69a40cfd7653eb1eb9a26", func := "garment/garmentlaw09.CurveMoves", spec := "curveMoves", unfollowed := true, recurses := true, apart := false }
def CurveMovesSaid : Prop := curveMovesRow.holds Try.pinned (OpenSpec.ofChange curveMovesSpec)

/-- ITS FALSE NEIGHBOUR: 'it returns false'. Refute it at one input. -/
def curveMovesWrong : ChangeSpec := { name := "curveMoves", fn := fun _ => fun
  | [d1, d2, d3] => { results := [.lit (.bool false)], args := [d1, d2, d3] }
  | _ => none }
def CurveMovesWrongFalsely : Prop := curveMovesRow.holds Try.pinned (OpenSpec.ofChange curveMovesWrong)

/-- 'garmentlaw09.CurveDegrees': WHATEVER THE INPUT: true; the input reads as it did. -/
def curveDegreesSpec : ChangeSpec := { name := "curveDegrees", fn := fun _ => fun
  | [d1, d2] => { results := [.lit (.bool true)], args := [d1, d2] }
  | _ => none }
def curveDegreesRow : OpenClaim := { program := "ytgofapkelhccgaa", sum := "e5b645e03e66e520eec3de148de572116ae2e984a5c69a40cfd7653eb1eb9a26", func := "garment/garmentlaw09.CurveDegrees", spec := "curveDegrees", unfollowed := true, recurses := true, apart := false }
def CurveDegreesSaid : Prop := curveDegreesRow.holds Try.pinned (OpenSpec.ofChange curveDegreesSpec)

/-- ITS FALSE NEIGHBOUR: 'it returns false'. Refute it at one input. -/
def curveDegreesWrong : ChangeSpec := { name := "curveDegrees", fn := fun _ => fun
  | [d1, d2] => { results := [.lit (.bool false)], args := [d1, d2] }
  | _ => none }
def CurveDegreesWrongFalsely : Prop := curveDegreesRow.holds Try.pinned (OpenSpec.ofChange curveDegreesWrong)

/-- 'garmentlaw09.CurveRefines': WHATEVER THE INPUT: true; the input reads as it did. -/
def curveRefinesSpec : ChangeSpec := { name := "curveRefines", fn := fun _ => fun
  | [d1, d2] => { results := [.lit (.bool true)], args := [d1, d2] }
  | _ => none }
def curveRefinesRow : OpenClaim := { program := "ytgofapkelhccgaa", sum := "e5b645e03e66e520eec3de148de572116ae2e984a5c69a40cfd7653eb1eb9a26", func := "garment/garmentlaw09.CurveRefines", spec := "curveRefines", unfollowed := true, recurses := true, apart := false }
def CurveRefinesSaid : Prop := curveRefinesRow.holds Try.pinned (OpenSpec.ofChange curveRefinesSpec)

/-- ITS FALSE NEIGHBOUR: 'it returns false'. Refute it at one input. -/
def curveRefinesWrong : ChangeSpec := { name := "curveRefines", fn := fun _ => fun
  | [d1, d2] => { results := [.lit (.bool false)], args := [d1, d2] }
  | _ => none }
def CurveRefinesWrongFalsely : Prop := curveRefinesRow.holds Try.pinned (OpenSpec.ofChange curveRefinesWrong)

/-- 'garmentlaw09.CurveEnds': WHATEVER THE INPUT: true; the input reads as it did. -/
def curveEndsSpec : ChangeSpec := { name := "curveEnds", fn := fun _ => fun
  | [d1, d2] => { results := [.lit (.bool true)], args := [d1, d2] }
  | _ => none }
def curveEndsRow : OpenClaim := { program := "ytgofapkelhccgaa", sum := "e5b645e03e66e520eec3de148de572116ae2e984a5c69a40cfd7653eb1eb9a26", func := "garment/garmentlaw09.CurveEnds", spec := "curveEnds", unfollowed := true, recurses := true, apart := false }
def CurveEndsSaid : Prop := curveEndsRow.holds Try.pinned (OpenSpec.ofChange curveEndsSpec)

/-- ITS FALSE NEIGHBOUR: 'it returns false'. Refute it at one input. -/
def curveEndsWrong : ChangeSpec := { name := "curveEnds", fn := fun _ => fun
  | [d1, d2] => { results := [.lit (.bool false)], args := [d1, d2] }
  | _ => none }
def CurveEndsWrongFalsely : Prop := curveEndsRow.holds Try.pinned (OpenSpec.ofChange curveEndsWrong)

/- THE SECOND FORM. 'bulk': how many values and letters a reading holds, each counted each time it is reached (what is shared counts as often as it is met; a slice's spare places count too). A statement '..UptoSaid' is the law's where the arguments, and the package variables that the reading takes, are together of bulk at most 1048576: NARROWER than '..Said'. Prove '..Said' where nothing that the law and all that it calls make is longer than what came in: it says more and counts as full. Else prove '..UptoSaid'. A law counts once. -/
mutual
def uptoBulk {H : Type} : DataW H → Nat
  | .lit (.string bytes) => bytes.length + 1
  | .lit _ => 1
  | .nil => 1
  | .ptr d => uptoBulk d + 1
  | .slice elems spare => uptoBulkAll elems + uptoBulkAll spare + 1
  | .agg parts => uptoBulkAll parts + 1
  | .iface _ d => uptoBulk d + 1
  | .map entries => uptoBulkEntries entries + 1
  | .held _ => 1
def uptoBulkAll {H : Type} : List (DataW H) → Nat
  | [] => 0
  | d :: r => uptoBulk d + uptoBulkAll r
def uptoBulkEntries {H : Type} : List (Lit × DataW H) → Nat
  | [] => 0
  | x :: r => uptoBulkEntry x + uptoBulkEntries r
def uptoBulkEntry {H : Type} : Lit × DataW H → Nat
  | (.string bytes, d) => bytes.length + uptoBulk d + 1
  | (_, d) => uptoBulk d + 1
 end
def uptoSmall : (H : Type) → List (DataW H) → Bool := fun _ ds => decide (uptoBulkAll ds ≤ 1048576)
def OpenSpec.upto (s : _root_.Go.ChangeSpec) : _root_.Go.OpenSpec := { _root_.Go.OpenSpec.ofChange s with cond := some uptoSmall }

/-- 'garmentlaw09.CurveFlattens', WHERE WHAT IT READS IS OF BULK AT MOST 1048576: true; the input reads as it did. -/
def curveFlattensUptoRow : OpenClaim := { program := "ytgofapkelhccgaa", sum := "e5b645e03e66e520eec3de148de572116ae2e984a5c69a40cfd7653eb1eb9a26", func := "garment/garmentlaw09.CurveFlattens", spec := "curveFlattens", unfollowed := true, recurses := true, apart := false, narrowed := true }
def CurveFlattensUptoSaid : Prop := curveFlattensUptoRow.holds Try.pinned (OpenSpec.upto curveFlattensSpec)

/-- 'garmentlaw09.CurveSplits', WHERE WHAT IT READS IS OF BULK AT MOST 1048576: true; the input reads as it did. -/
def curveSplitsUptoRow : OpenClaim := { program := "ytgofapkelhccgaa", sum := "e5b645e03e66e520eec3de148de572116ae2e984a5c69a40cfd7653eb1eb9a26", func := "garment/garmentlaw09.CurveSplits", spec := "curveSplits", unfollowed := true, recurses := true, apart := false, narrowed := true }
def CurveSplitsUptoSaid : Prop := curveSplitsUptoRow.holds Try.pinned (OpenSpec.upto curveSplitsSpec)

/-- 'garmentlaw09.CurveBoxed', WHERE WHAT IT READS IS OF BULK AT MOST 1048576: true; the input reads as it did. -/
def curveBoxedUptoRow : OpenClaim := { program := "ytgofapkelhccgaa", sum := "e5b645e03e66e520eec3de148de572116ae2e984a5c69a40cfd7653eb1eb9a26", func := "garment/garmentlaw09.CurveBoxed", spec := "curveBoxed", unfollowed := true, recurses := true, apart := false, narrowed := true }
def CurveBoxedUptoSaid : Prop := curveBoxedUptoRow.holds Try.pinned (OpenSpec.upto curveBoxedSpec)

/-- 'garmentlaw09.CurveMoves', WHERE WHAT IT READS IS OF BULK AT MOST 1048576: true; the input reads as it did. -/
def curveMovesUptoRow : OpenClaim := { program := "ytgofapkelhccgaa", sum := "e5b645e03e66e520eec3de148de572116ae2e984a5c69a40cfd7653eb1eb9a26", func := "garment/garmentlaw09.CurveMoves", spec := "curveMoves", unfollowed := true, recurses := true, apart := false, narrowed := true }
def CurveMovesUptoSaid : Prop := curveMovesUptoRow.holds Try.pinned (OpenSpec.upto curveMovesSpec)

/-- 'garmentlaw09.CurveDegrees', WHERE WHAT IT READS IS OF BULK AT MOST 1048576: true; the input reads as it did. -/
def curveDegreesUptoRow : OpenClaim := { program := "ytgofapkelhccgaa", sum := "e5b645e03e66e520eec3de148de572116ae2e984a5c69a40cfd7653eb1eb9a26", func := "garment/garmentlaw09.CurveDegrees", spec := "curveDegrees", unfollowed := true, recurses := true, apart := false, narrowed := true }
def CurveDegreesUptoSaid : Prop := curveDegreesUptoRow.holds Try.pinned (OpenSpec.upto curveDegreesSpec)

/-- 'garmentlaw09.CurveRefines', WHERE WHAT IT READS IS OF BULK AT MOST 1048576: true; the input reads as it did. -/
def curveRefinesUptoRow : OpenClaim := { program := "ytgofapkelhccgaa", sum := "e5b645e03e66e520eec3de148de572116ae2e984a5c69a40cfd7653eb1eb9a26", func := "garment/garmentlaw09.CurveRefines", spec := "curveRefines", unfollowed := true, recurses := true, apart := false, narrowed := true }
def CurveRefinesUptoSaid : Prop := curveRefinesUptoRow.holds Try.pinned (OpenSpec.upto curveRefinesSpec)

/-- 'garmentlaw09.CurveEnds', WHERE WHAT IT READS IS OF BULK AT MOST 1048576: true; the input reads as it did. -/
def curveEndsUptoRow : OpenClaim := { program := "ytgofapkelhccgaa", sum := "e5b645e03e66e520eec3de148de572116ae2e984a5c69a40cfd7653eb1eb9a26", func := "garment/garmentlaw09.CurveEnds", spec := "curveEnds", unfollowed := true, recurses := true, apart := false, narrowed := true }
def CurveEndsUptoSaid : Prop := curveEndsUptoRow.holds Try.pinned (OpenSpec.upto curveEndsSpec)

end Rows
end Go.Proofs.Ytgofapkelhccgaa
