/-
  No cell of these rows narrows 'for every input' (looked for: loops, veiled, ifaces, maps, wideKeys, modest, calm, conditions, laid).
  DERIVED. THE GIVEN ROWS OF THIS SEAT. 9 by the template 'for every input the law returns true; each argument reads behind the call as it read before'; 0 by the template 'total and deterministic' (their statements: YtckcnklopjigcaaTotals.lean).
  GIVEN WITH THE SEED: the statements are not yours to turn. If you find one false, say at which input.
  Laid BY PROGRAM, IN A SANDBOX (cutbox-rows.mjs): the forced cells as the released guide's own fill.sh prints them over the translation b7ef7d7ede0a0193… (all of the seat's roots in one cut). By AI agents, Wed Nov 11 2026. No macro, syntax, notation, axiom, sorry.
-/
import Derived.Test.YtckcnklopjigcaaChecked
import GoSem.Claim
import GoSem.ClaimJoined
import GoSem.ClaimMapViews
import Derived.JoinedTies
import Derived.KernelRfl
namespace Go.Proofs.Ytckcnklopjigcaa
/- THE CELL 'sum', in the pinned program and in every row, IS THE sha256 OF THE DUMP (.gsa) THAT YtckcnklopjigcaaProg.lean LOADS. Nothing in Lean hashes anything: it is a label: what it is worth is what the hold of that sum in a sandbox is worth. -/
noncomputable def Try.pinned : Pinned := { name := "ytckcnklopjigcaa", sum := "b7ef7d7ede0a01931e5df948b425ba2b857d311fe972c931baab7b077de16dbe", checked := Try.checked }
namespace Rows
def none {H : Type} : Left H := { results := [], args := [] }

/-- 'garmentlaw08.PointLines': WHATEVER THE INPUT: true; the input reads as it did. -/
def pointLinesSpec : ChangeSpec := { name := "pointLines", fn := fun _ => fun
  | [d] => { results := [.lit (.bool true)], args := [d] }
  | _ => none }
def pointLinesRow : OpenClaim := { program := "ytckcnklopjigcaa", sum := "b7ef7d7ede0a01931e5df948b425ba2b857d311fe972c931baab7b077de16dbe", func := "garment/garmentlaw08.PointLines", spec := "pointLines", unfollowed := true, recurses := true, apart := false }
def PointLinesSaid : Prop := pointLinesRow.holds Try.pinned (OpenSpec.ofChange pointLinesSpec)

/-- ITS FALSE NEIGHBOUR: 'it returns false'. Refute it at one input. -/
def pointLinesWrong : ChangeSpec := { name := "pointLines", fn := fun _ => fun
  | [d] => { results := [.lit (.bool false)], args := [d] }
  | _ => none }
def PointLinesWrongFalsely : Prop := pointLinesRow.holds Try.pinned (OpenSpec.ofChange pointLinesWrong)

/-- 'garmentlaw08.PointGrids': WHATEVER THE INPUT: true; the input reads as it did. -/
def pointGridsSpec : ChangeSpec := { name := "pointGrids", fn := fun _ => fun
  | [d1, d2, d3] => { results := [.lit (.bool true)], args := [d1, d2, d3] }
  | _ => none }
def pointGridsRow : OpenClaim := { program := "ytckcnklopjigcaa", sum := "b7ef7d7ede0a01931e5df948b425ba2b857d311fe972c931baab7b077de16dbe", func := "garment/garmentlaw08.PointGrids", spec := "pointGrids", unfollowed := true, recurses := true, apart := false }
def PointGridsSaid : Prop := pointGridsRow.holds Try.pinned (OpenSpec.ofChange pointGridsSpec)

/-- ITS FALSE NEIGHBOUR: 'it returns false'. Refute it at one input. -/
def pointGridsWrong : ChangeSpec := { name := "pointGrids", fn := fun _ => fun
  | [d1, d2, d3] => { results := [.lit (.bool false)], args := [d1, d2, d3] }
  | _ => none }
def PointGridsWrongFalsely : Prop := pointGridsRow.holds Try.pinned (OpenSpec.ofChange pointGridsWrong)

/-- 'garmentlaw08.PointSpots': WHATEVER THE INPUT: true; the input reads as it did. -/
def pointSpotsSpec : ChangeSpec := { name := "pointSpots", fn := fun _ => fun
  | [d1, d2] => { results := [.lit (.bool true)], args := [d1, d2] }
  | _ => none }
def pointSpotsRow : OpenClaim := { program := "ytckcnklopjigcaa", sum := "b7ef7d7ede0a01931e5df948b425ba2b857d311fe972c931baab7b077de16dbe", func := "garment/garmentlaw08.PointSpots", spec := "pointSpots", unfollowed := true, recurses := true, apart := false }
def PointSpotsSaid : Prop := pointSpotsRow.holds Try.pinned (OpenSpec.ofChange pointSpotsSpec)

/-- ITS FALSE NEIGHBOUR: 'it returns false'. Refute it at one input. -/
def pointSpotsWrong : ChangeSpec := { name := "pointSpots", fn := fun _ => fun
  | [d1, d2] => { results := [.lit (.bool false)], args := [d1, d2] }
  | _ => none }
def PointSpotsWrongFalsely : Prop := pointSpotsRow.holds Try.pinned (OpenSpec.ofChange pointSpotsWrong)

/-- 'garmentlaw08.PointMeets': WHATEVER THE INPUT: true; the input reads as it did. -/
def pointMeetsSpec : ChangeSpec := { name := "pointMeets", fn := fun _ => fun
  | [d] => { results := [.lit (.bool true)], args := [d] }
  | _ => none }
def pointMeetsRow : OpenClaim := { program := "ytckcnklopjigcaa", sum := "b7ef7d7ede0a01931e5df948b425ba2b857d311fe972c931baab7b077de16dbe", func := "garment/garmentlaw08.PointMeets", spec := "pointMeets", unfollowed := true, recurses := true, apart := false }
def PointMeetsSaid : Prop := pointMeetsRow.holds Try.pinned (OpenSpec.ofChange pointMeetsSpec)

/-- ITS FALSE NEIGHBOUR: 'it returns false'. Refute it at one input. -/
def pointMeetsWrong : ChangeSpec := { name := "pointMeets", fn := fun _ => fun
  | [d] => { results := [.lit (.bool false)], args := [d] }
  | _ => none }
def PointMeetsWrongFalsely : Prop := pointMeetsRow.holds Try.pinned (OpenSpec.ofChange pointMeetsWrong)

/-- 'garmentlaw08.PointVectors': WHATEVER THE INPUT: true; the input reads as it did. -/
def pointVectorsSpec : ChangeSpec := { name := "pointVectors", fn := fun _ => fun
  | [d1, d2, d3] => { results := [.lit (.bool true)], args := [d1, d2, d3] }
  | _ => none }
def pointVectorsRow : OpenClaim := { program := "ytckcnklopjigcaa", sum := "b7ef7d7ede0a01931e5df948b425ba2b857d311fe972c931baab7b077de16dbe", func := "garment/garmentlaw08.PointVectors", spec := "pointVectors", unfollowed := true, recurses := true, apart := false }
def PointVectorsSaid : Prop := pointVectorsRow.holds Try.pinned (OpenSpec.ofChange pointVectorsSpec)

/-- ITS FALSE NEIGHBOUR: 'it returns false'. Refute it at one input. -/
def pointVectorsWrong : ChangeSpec := { name := "pointVectors", fn := fun _ => fun
  | [d1, d2, d3] => { results := [.lit (.bool false)], args := [d1, d2, d3] }
  | _ => none }
def PointVectorsWrongFalsely : Prop := pointVectorsRow.holds Try.pinned (OpenSpec.ofChange pointVectorsWrong)

/-- 'garmentlaw08.PointMirror': WHATEVER THE INPUT: true; the input reads as it did. -/
def pointMirrorSpec : ChangeSpec := { name := "pointMirror", fn := fun _ => fun
  | [d1, d2, d3] => { results := [.lit (.bool true)], args := [d1, d2, d3] }
  | _ => none }
def pointMirrorRow : OpenClaim := { program := "ytckcnklopjigcaa", sum := "b7ef7d7ede0a01931e5df948b425ba2b857d311fe972c931baab7b077de16dbe", func := "garment/garmentlaw08.PointMirror", spec := "pointMirror", unfollowed := true, recurses := true, apart := false }
def PointMirrorSaid : Prop := pointMirrorRow.holds Try.pinned (OpenSpec.ofChange pointMirrorSpec)

/-- ITS FALSE NEIGHBOUR: 'it returns false'. Refute it at one input. -/
def pointMirrorWrong : ChangeSpec := { name := "pointMirror", fn := fun _ => fun
  | [d1, d2, d3] => { results := [.lit (.bool false)], args := [d1, d2, d3] }
  | _ => none }
def PointMirrorWrongFalsely : Prop := pointMirrorRow.holds Try.pinned (OpenSpec.ofChange pointMirrorWrong)

/-- 'garmentlaw08.PointNearest': WHATEVER THE INPUT: true; the input reads as it did. -/
def pointNearestSpec : ChangeSpec := { name := "pointNearest", fn := fun _ => fun
  | [d1, d2, d3] => { results := [.lit (.bool true)], args := [d1, d2, d3] }
  | _ => none }
def pointNearestRow : OpenClaim := { program := "ytckcnklopjigcaa", sum := "b7ef7d7ede0a01931e5df948b425ba2b857d311fe972c931baab7b077de16dbe", func := "garment/garmentlaw08.PointNearest", spec := "pointNearest", unfollowed := true, recurses := true, apart := false }
def PointNearestSaid : Prop := pointNearestRow.holds Try.pinned (OpenSpec.ofChange pointNearestSpec)

/-- ITS FALSE NEIGHBOUR: 'it returns false'. Refute it at one input. -/
def pointNearestWrong : ChangeSpec := { name := "pointNearest", fn := fun _ => fun
  | [d1, d2, d3] => { results := [.lit (.bool false)], args := [d1, d2, d3] }
  | _ => none }
def PointNearestWrongFalsely : Prop := pointNearestRow.holds Try.pinned (OpenSpec.ofChange pointNearestWrong)

/-- 'garmentlaw08.PointAlgebra': WHATEVER THE INPUT: true; the input reads as it did. -/
def pointAlgebraSpec : ChangeSpec := { name := "pointAlgebra", fn := fun _ => fun
  | [d1, d2, d3] => { results := [.lit (.bool true)], args := [d1, d2, d3] }
  | _ => none }
def pointAlgebraRow : OpenClaim := { program := "ytckcnklopjigcaa", sum := "b7ef7d7ede0a01931e5df948b425ba2b857d311fe972c931baab7b077de16dbe", func := "garment/garmentlaw08.PointAlgebra", spec := "pointAlgebra", unfollowed := true, recurses := true, apart := false }
def PointAlgebraSaid : Prop := pointAlgebraRow.holds Try.pinned (OpenSpec.ofChange pointAlgebraSpec)

/-- ITS FALSE NEIGHBOUR: 'it returns false'. Refute it at one input. -/
def pointAlgebraWrong : ChangeSpec := { name := "pointAlgebra", fn := fun _ => fun
  | [d1, d2, d3] => { results := [.lit (.bool false)], args := [d1, d2, d3] }
  | _ => none }
def PointAlgebraWrongFalsely : Prop := pointAlgebraRow.holds Try.pinned (OpenSpec.ofChange pointAlgebraWrong)

/-- 'garmentlaw08.PointSides': WHATEVER THE INPUT: true; the input reads as it did. -/
def pointSidesSpec : ChangeSpec := { name := "pointSides", fn := fun _ => fun
  | [d1, d2, d3, d4] => { results := [.lit (.bool true)], args := [d1, d2, d3, d4] }
  | _ => none }
def pointSidesRow : OpenClaim := { program := "ytckcnklopjigcaa", sum := "b7ef7d7ede0a01931e5df948b425ba2b857d311fe972c931baab7b077de16dbe", func := "garment/garmentlaw08.PointSides", spec := "pointSides", unfollowed := true, recurses := true, apart := false }
def PointSidesSaid : Prop := pointSidesRow.holds Try.pinned (OpenSpec.ofChange pointSidesSpec)

/-- ITS FALSE NEIGHBOUR: 'it returns false'. Refute it at one input. -/
def pointSidesWrong : ChangeSpec := { name := "pointSides", fn := fun _ => fun
  | [d1, d2, d3, d4] => { results := [.lit (.bool false)], args := [d1, d2, d3, d4] }
  | _ => none }
def PointSidesWrongFalsely : Prop := pointSidesRow.holds Try.pinned (OpenSpec.ofChange pointSidesWrong)

/- THE SECOND FORM. 'bulk': how many values and letters a reading holds, each counted each time it is reached (what is shared counts as often as it is met; a slice's spare places count too). A statement '..UptoSaid' is the law's where the arguments, and the package variables that the reading takes, are together of bulk at most 1048576: NARROWER than '..Said'. Prove '..Said' where nothing that the law and all that it calls make is longer than what came in: it says more and counts as full. Else prove '..UptoSaid'. A law counts once. -/
mutual
def uptoBulk {H : Type} : DataW H → Nat
  | .lit (.string bytes) => bytes.length + 1
  | .lit _ => 1
  | .nil => 1
  | .ptr d => uptoBulk d + 1
  | .slice elems spare => uptoBulkAll elems + uptoBulkAll spare + 1
  | .agg parts => uptoBulkAll parts + 1
  | .iface _ d => uptoBulk d + 1
  | .map entries => uptoBulkEntries entries + 1
  | .held _ => 1
def uptoBulkAll {H : Type} : List (DataW H) → Nat
  | [] => 0
  | d :: r => uptoBulk d + uptoBulkAll r
def uptoBulkEntries {H : Type} : List (Lit × DataW H) → Nat
  | [] => 0
  | x :: r => uptoBulkEntry x + uptoBulkEntries r
def uptoBulkEntry {H : Type} : Lit × DataW H → Nat
  | (.string bytes, d) => bytes.length + uptoBulk d + 1
  | (_, d) => uptoBulk d + 1
 end
def uptoSmall : (H : Type) → List (DataW H) → Bool := fun _ ds => decide (uptoBulkAll ds ≤ 1048576)
def OpenSpec.upto (s : _root_.Go.ChangeSpec) : _root_.Go.OpenSpec := { _root_.Go.OpenSpec.ofChange s with cond := some uptoSmall }

/-- 'garmentlaw08.PointLines', WHERE WHAT IT READS IS OF BULK AT MOST 1048576: true; the input reads as it did. -/
def pointLinesUptoRow : OpenClaim := { program := "ytckcnklopjigcaa", sum := "b7ef7d7ede0a01931e5df948b425ba2b857d311fe972c931baab7b077de16dbe", func := "garment/garmentlaw08.PointLines", spec := "pointLines", unfollowed := true, recurses := true, apart := false, narrowed := true }
def PointLinesUptoSaid : Prop := pointLinesUptoRow.holds Try.pinned (OpenSpec.upto pointLinesSpec)

/-- 'garmentlaw08.PointGrids', WHERE WHAT IT READS IS OF BULK AT MOST 1048576: true; the input reads as it did. -/
def pointGridsUptoRow : OpenClaim := { program := "ytckcnklopjigcaa", sum := "b7ef7d7ede0a01931e5df948b425ba2b857d311fe972c931baab7b077de16dbe", func := "garment/garmentlaw08.PointGrids", spec := "pointGrids", unfollowed := true, recurses := true, apart := false, narrowed := true }
def PointGridsUptoSaid : Prop := pointGridsUptoRow.holds Try.pinned (OpenSpec.upto pointGridsSpec)

/-- 'garmentlaw08.PointSpots', WHERE WHAT IT READS IS OF BULK AT MOST 1048576: true; the input reads as it did. -/
def pointSpotsUptoRow : OpenClaim := { program := "ytckcnklopjigcaa", sum := "b7ef7d7ede0a01931e5df948b425ba2b857d311fe972c931baab7b077de16dbe", func := "garment/garmentlaw08.PointSpots", spec := "pointSpots", unfollowed := true, recurses := true, apart := false, narrowed := true }
def PointSpotsUptoSaid : Prop := pointSpotsUptoRow.holds Try.pinned (OpenSpec.upto pointSpotsSpec)

/-- 'garmentlaw08.PointMeets', WHERE WHAT IT READS IS OF BULK AT MOST 1048576: true; the input reads as it did. -/
def pointMeetsUptoRow : OpenClaim := { program := "ytckcnklopjigcaa", sum := "b7ef7d7ede0a01931e5df948b425ba2b857d311fe972c931baab7b077de16dbe", func := "garment/garmentlaw08.PointMeets", spec := "pointMeets", unfollowed := true, recurses := true, apart := false, narrowed := true }
def PointMeetsUptoSaid : Prop := pointMeetsUptoRow.holds Try.pinned (OpenSpec.upto pointMeetsSpec)

/-- 'garmentlaw08.PointVectors', WHERE WHAT IT READS IS OF BULK AT MOST 1048576: true; the input reads as it did. -/
def pointVectorsUptoRow : OpenClaim := { program := "ytckcnklopjigcaa", sum := "b7ef7d7ede0a01931e5df948b425ba2b857d311fe972c931baab7b077de16dbe", func := "garment/garmentlaw08.PointVectors", spec := "pointVectors", unfollowed := true, recurses := true, apart := false, narrowed := true }
def PointVectorsUptoSaid : Prop := pointVectorsUptoRow.holds Try.pinned (OpenSpec.upto pointVectorsSpec)

/-- 'garmentlaw08.PointMirror', WHERE WHAT IT READS IS OF BULK AT MOST 1048576: true; the input reads as it did. -/
def pointMirrorUptoRow : OpenClaim := { program := "ytckcnklopjigcaa", sum := "b7ef7d7ede0a01931e5df948b425ba2b857d311fe972c931baab7b077de16dbe", func := "garment/garmentlaw08.PointMirror", spec := "pointMirror", unfollowed := true, recurses := true, apart := false, narrowed := true }
def PointMirrorUptoSaid : Prop := pointMirrorUptoRow.holds Try.pinned (OpenSpec.upto pointMirrorSpec)

/-- 'garmentlaw08.PointNearest', WHERE WHAT IT READS IS OF BULK AT MOST 1048576: true; the input reads as it did. -/
def pointNearestUptoRow : OpenClaim := { program := "ytckcnklopjigcaa", sum := "b7ef7d7ede0a01931e5df948b425ba2b857d311fe972c931baab7b077de16dbe", func := "garment/garmentlaw08.PointNearest", spec := "pointNearest", unfollowed := true, recurses := true, apart := false, narrowed := true }
def PointNearestUptoSaid : Prop := pointNearestUptoRow.holds Try.pinned (OpenSpec.upto pointNearestSpec)

/-- 'garmentlaw08.PointAlgebra', WHERE WHAT IT READS IS OF BULK AT MOST 1048576: true; the input reads as it did. -/
def pointAlgebraUptoRow : OpenClaim := { program := "ytckcnklopjigcaa", sum := "b7ef7d7ede0a01931e5df948b425ba2b857d311fe972c931baab7b077de16dbe", func := "garment/garmentlaw08.PointAlgebra", spec := "pointAlgebra", unfollowed := true, recurses := true, apart := false, narrowed := true }
def PointAlgebraUptoSaid : Prop := pointAlgebraUptoRow.holds Try.pinned (OpenSpec.upto pointAlgebraSpec)

/-- 'garmentlaw08.PointSides', WHERE WHAT IT READS IS OF BULK AT MOST 1048576: true; the input reads as it did. -/
def pointSidesUptoRow : OpenClaim := { program := "ytckcnklopjigcaa", sum := "b7ef7d7ede0a01931e5df948b425ba2b857d311fe972c931baab7b077de16dbe", func := "garment/garmentlaw08.PointSides", spec := "pointSides", unfollowed := true, recurses := true, apart := false, narrowed := true }
def PointSidesUptoSaid : Prop := pointSidesUptoRow.holds Try.pinned (OpenSpec.upto pointSidesSpec)

end Rows
end Go.Proofs.Ytckcnklopjigcaa
