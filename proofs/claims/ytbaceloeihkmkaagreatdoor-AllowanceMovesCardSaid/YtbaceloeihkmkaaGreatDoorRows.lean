/-
  NARROWER THAN 'FOR EVERY INPUT', by the rows' own cells (each row's printed sentence says how): AllowanceShifts: laid · AllowanceZero: laid · AllowanceOutwards: laid · AllowanceRects: laid · AllowanceAreas: laid · AllowanceMoves: laid · AllowanceTurns: laid.
  DERIVED. THE GIVEN ROWS OF THIS SEAT. 7 by the template 'for every input the law returns true; each argument reads behind the call as it read before'; 0 by the template 'total and deterministic' (their statements: YtbaceloeihkmkaaGreatDoorTotals.lean).
  GIVEN WITH THE SEED: the statements are not yours to turn. If you find one false, say at which input.
  Laid BY PROGRAM, IN A SANDBOX (cutbox-rows.mjs): the forced cells as the released guide's own fill.sh prints them over the translation e32bbba3d792d087… (all of the seat's roots in one cut). By AI agents, Wed Nov 11 2026. No macro, syntax, notation, axiom, sorry.
-/
import Derived.Test.YtbaceloeihkmkaaGreatDoorChecked
import GoSem.PinnedTables
import GoSem.Claim
import GoSem.ClaimJoined
import GoSem.ClaimMapViews
import Derived.JoinedTies
import Derived.KernelRfl
namespace Go.Proofs.YtbaceloeihkmkaaGreatDoor
/- THE CELL 'sum', in the pinned program and in every row, IS THE sha256 OF THE DUMP (.gsa) THAT YtbaceloeihkmkaaGreatDoorProg.lean LOADS. Nothing in Lean hashes anything: it is a label: what it is worth is what the hold of that sum in a sandbox is worth. -/
noncomputable def Tryz.pinned : Pinned := { name := "ytbaceloeihkmkaagreatdoor", sum := "e32bbba3d792d08742502797deb095237051a619115bc76ffeb5fd5927d17f5e", checked := Tryz.checked }
namespace Rows
def none {H : Type} : Left H := { results := [], args := [] }

/- WHAT THE LISTED PACKAGE-LEVEL VARIABLES READ AS WHEN THE CALL BEGINS. Each datum BY PROGRAM (the guide's laid-datum.mjs) off the statement by which the dump's own 'gosem.cut.vars' lays the variable. In a bare row this is a premise. The card (YtbaceloeihkmkaaGreatDoorCards.lean) ties it to the program's text. -/
def laid_unicode_utf8_acceptRanges {H : Type} : DataW H := .agg [.agg [.lit (.int .u8 128), .lit (.int .u8 191)], .agg [.lit (.int .u8 160), .lit (.int .u8 191)], .agg [.lit (.int .u8 128), .lit (.int .u8 159)], .agg [.lit (.int .u8 144), .lit (.int .u8 191)], .agg [.lit (.int .u8 128), .lit (.int .u8 143)], .agg [.lit (.int .u8 0), .lit (.int .u8 0)], .agg [.lit (.int .u8 0), .lit (.int .u8 0)], .agg [.lit (.int .u8 0), .lit (.int .u8 0)], .agg [.lit (.int .u8 0), .lit (.int .u8 0)], .agg [.lit (.int .u8 0), .lit (.int .u8 0)], .agg [.lit (.int .u8 0), .lit (.int .u8 0)], .agg [.lit (.int .u8 0), .lit (.int .u8 0)], .agg [.lit (.int .u8 0), .lit (.int .u8 0)], .agg [.lit (.int .u8 0), .lit (.int .u8 0)], .agg [.lit (.int .u8 0), .lit (.int .u8 0)], .agg [.lit (.int .u8 0), .lit (.int .u8 0)]]
/-- One of Go's own tables, pinned by name: the form's constant. -/
def laid_unicode_utf8_first : DataW Unit := Go.Pinned.utf8First

/-- 'garmentlaw24.AllowanceShifts': WHATEVER THE INPUT: true; the input reads as it did. -/
def allowanceShiftsSpec : ChangeSpec := { name := "allowanceShifts", fn := fun _ => fun
  | [d1, d2] => { results := [.lit (.bool true)], args := [d1, d2] }
  | _ => none }
def allowanceShiftsRow : OpenClaim := { program := "ytbaceloeihkmkaagreatdoor", sum := "e32bbba3d792d08742502797deb095237051a619115bc76ffeb5fd5927d17f5e", func := "garment/garmentlaw24.AllowanceShifts", spec := "allowanceShifts", inPlace := ["internal/bytealg.IndexByteString", "internal/bytealg.IndexString"], unfollowed := true, recurses := true, named := ["unicode/utf8.first", "unicode/utf8.acceptRanges", "internal/bytealg.MaxLen"], apart := false, laid := [("unicode/utf8.acceptRanges", laid_unicode_utf8_acceptRanges), ("unicode/utf8.first", laid_unicode_utf8_first)] }
def AllowanceShiftsSaid : Prop := allowanceShiftsRow.holds Tryz.pinned (OpenSpec.ofChange allowanceShiftsSpec)

/-- ITS FALSE NEIGHBOUR: 'it returns false'. Refute it at one input. -/
def allowanceShiftsWrong : ChangeSpec := { name := "allowanceShifts", fn := fun _ => fun
  | [d1, d2] => { results := [.lit (.bool false)], args := [d1, d2] }
  | _ => none }
def AllowanceShiftsWrongFalsely : Prop := allowanceShiftsRow.holds Tryz.pinned (OpenSpec.ofChange allowanceShiftsWrong)

/-- 'garmentlaw24.AllowanceZero': WHATEVER THE INPUT: true; the input reads as it did. -/
def allowanceZeroSpec : ChangeSpec := { name := "allowanceZero", fn := fun _ => fun
  | [d] => { results := [.lit (.bool true)], args := [d] }
  | _ => none }
def allowanceZeroRow : OpenClaim := { program := "ytbaceloeihkmkaagreatdoor", sum := "e32bbba3d792d08742502797deb095237051a619115bc76ffeb5fd5927d17f5e", func := "garment/garmentlaw24.AllowanceZero", spec := "allowanceZero", inPlace := ["internal/bytealg.IndexByteString", "internal/bytealg.IndexString"], unfollowed := true, recurses := true, named := ["unicode/utf8.first", "unicode/utf8.acceptRanges", "internal/bytealg.MaxLen"], apart := false, laid := [("unicode/utf8.acceptRanges", laid_unicode_utf8_acceptRanges), ("unicode/utf8.first", laid_unicode_utf8_first)] }
def AllowanceZeroSaid : Prop := allowanceZeroRow.holds Tryz.pinned (OpenSpec.ofChange allowanceZeroSpec)

/-- ITS FALSE NEIGHBOUR: 'it returns false'. Refute it at one input. -/
def allowanceZeroWrong : ChangeSpec := { name := "allowanceZero", fn := fun _ => fun
  | [d] => { results := [.lit (.bool false)], args := [d] }
  | _ => none }
def AllowanceZeroWrongFalsely : Prop := allowanceZeroRow.holds Tryz.pinned (OpenSpec.ofChange allowanceZeroWrong)

/-- 'garmentlaw24.AllowanceOutwards': WHATEVER THE INPUT: true; the input reads as it did. -/
def allowanceOutwardsSpec : ChangeSpec := { name := "allowanceOutwards", fn := fun _ => fun
  | [d1, d2] => { results := [.lit (.bool true)], args := [d1, d2] }
  | _ => none }
def allowanceOutwardsRow : OpenClaim := { program := "ytbaceloeihkmkaagreatdoor", sum := "e32bbba3d792d08742502797deb095237051a619115bc76ffeb5fd5927d17f5e", func := "garment/garmentlaw24.AllowanceOutwards", spec := "allowanceOutwards", inPlace := ["internal/bytealg.IndexByteString", "internal/bytealg.IndexString"], unfollowed := true, recurses := true, named := ["unicode/utf8.first", "unicode/utf8.acceptRanges", "internal/bytealg.MaxLen"], apart := false, laid := [("unicode/utf8.acceptRanges", laid_unicode_utf8_acceptRanges), ("unicode/utf8.first", laid_unicode_utf8_first)] }
def AllowanceOutwardsSaid : Prop := allowanceOutwardsRow.holds Tryz.pinned (OpenSpec.ofChange allowanceOutwardsSpec)

/-- ITS FALSE NEIGHBOUR: 'it returns false'. Refute it at one input. -/
def allowanceOutwardsWrong : ChangeSpec := { name := "allowanceOutwards", fn := fun _ => fun
  | [d1, d2] => { results := [.lit (.bool false)], args := [d1, d2] }
  | _ => none }
def AllowanceOutwardsWrongFalsely : Prop := allowanceOutwardsRow.holds Tryz.pinned (OpenSpec.ofChange allowanceOutwardsWrong)

/-- 'garmentlaw24.AllowanceRects': WHATEVER THE INPUT: true; the input reads as it did. -/
def allowanceRectsSpec : ChangeSpec := { name := "allowanceRects", fn := fun _ => fun
  | [d1, d2] => { results := [.lit (.bool true)], args := [d1, d2] }
  | _ => none }
def allowanceRectsRow : OpenClaim := { program := "ytbaceloeihkmkaagreatdoor", sum := "e32bbba3d792d08742502797deb095237051a619115bc76ffeb5fd5927d17f5e", func := "garment/garmentlaw24.AllowanceRects", spec := "allowanceRects", inPlace := ["internal/bytealg.IndexByteString", "internal/bytealg.IndexString"], unfollowed := true, recurses := true, named := ["unicode/utf8.first", "unicode/utf8.acceptRanges", "internal/bytealg.MaxLen"], apart := false, laid := [("unicode/utf8.acceptRanges", laid_unicode_utf8_acceptRanges), ("unicode/utf8.first", laid_unicode_utf8_first)] }
def AllowanceRectsSaid : Prop := allowanceRectsRow.holds Tryz.pinned (OpenSpec.ofChange allowanceRectsSpec)

/-- ITS FALSE NEIGHBOUR: 'it returns false'. Refute it at one input. -/
def allowanceRectsWrong : ChangeSpec := { name := "allowanceRects", fn := fun _ => fun
  | [d1, d2] => { results := [.lit (.bool false)], args := [d1, d2] }
  | _ => none }
def AllowanceRectsWrongFalsely : Prop := allowanceRectsRow.holds Tryz.pinned (OpenSpec.ofChange allowanceRectsWrong)

/-- 'garmentlaw24.AllowanceAreas': WHATEVER THE INPUT: true; the input reads as it did. -/
def allowanceAreasSpec : ChangeSpec := { name := "allowanceAreas", fn := fun _ => fun
  | [d1, d2] => { results := [.lit (.bool true)], args := [d1, d2] }
  | _ => none }
def allowanceAreasRow : OpenClaim := { program := "ytbaceloeihkmkaagreatdoor", sum := "e32bbba3d792d08742502797deb095237051a619115bc76ffeb5fd5927d17f5e", func := "garment/garmentlaw24.AllowanceAreas", spec := "allowanceAreas", inPlace := ["internal/bytealg.IndexByteString", "internal/bytealg.IndexString"], unfollowed := true, recurses := true, named := ["unicode/utf8.first", "unicode/utf8.acceptRanges", "internal/bytealg.MaxLen"], apart := false, laid := [("unicode/utf8.acceptRanges", laid_unicode_utf8_acceptRanges), ("unicode/utf8.first", laid_unicode_utf8_first)] }
def AllowanceAreasSaid : Prop := allowanceAreasRow.holds Tryz.pinned (OpenSpec.ofChange allowanceAreasSpec)

/-- ITS FALSE NEIGHBOUR: 'it returns false'. Refute it at one input. -/
def allowanceAreasWrong : ChangeSpec := { name := "allowanceAreas", fn := fun _ => fun
  | [d1, d2] => { results := [.lit (.bool false)], args := [d1, d2] }
  | _ => none }
def AllowanceAreasWrongFalsely : Prop := allowanceAreasRow.holds Tryz.pinned (OpenSpec.ofChange allowanceAreasWrong)

/-- 'garmentlaw24.AllowanceMoves': WHATEVER THE INPUT: true; the input reads as it did. -/
def allowanceMovesSpec : ChangeSpec := { name := "allowanceMoves", fn := fun _ => fun
  | [d1, d2, d3] => { results := [.lit (.bool true)], args := [d1, d2, d3] }
  | _ => none }
def allowanceMovesRow : OpenClaim := { program := "ytbaceloeihkmkaagreatdoor", sum := "e32bbba3d792d08742502797deb095237051a619115bc76ffeb5fd5927d17f5e", func := "garment/garmentlaw24.AllowanceMoves", spec := "allowanceMoves", inPlace := ["internal/bytealg.IndexByteString", "internal/bytealg.IndexString"], unfollowed := true, recurses := true, named := ["unicode/utf8.first", "unicode/utf8.acceptRanges", "internal/bytealg.MaxLen"], apart := false, laid := [("unicode/utf8.acceptRanges", laid_unicode_utf8_acceptRanges), ("unicode/utf8.first", laid_unicode_utf8_first)] }
def AllowanceMovesSaid : Prop := allowanceMovesRow.holds Tryz.pinned (OpenSpec.ofChange allowanceMovesSpec)

/-- ITS FALSE NEIGHBOUR: 'it returns false'. Refute it at one input. -/
def allowanceMovesWrong : ChangeSpec := { name := "allowanceMoves", fn := fun _ => fun
  | [d1, d2, d3] => { results := [.lit (.bool false)], args := [d1, d2, d3] }
  | _ => none }
def AllowanceMovesWrongFalsely : Prop := allowanceMovesRow.holds Tryz.pinned (OpenSpec.ofChange allowanceMovesWrong)

/-- 'garmentlaw24.AllowanceTurns': WHATEVER THE INPUT: true; the input reads as it did. -/
def allowanceTurnsSpec : ChangeSpec := { name := "allowanceTurns", fn := fun _ => fun
  | [d1, d2] => { results := [.lit (.bool true)], args := [d1, d2] }
  | _ => none }
def allowanceTurnsRow : OpenClaim := { program := "ytbaceloeihkmkaagreatdoor", sum := "e32bbba3d792d08742502797deb095237051a619115bc76ffeb5fd5927d17f5e", func := "garment/garmentlaw24.AllowanceTurns", spec := "allowanceTurns", inPlace := ["internal/bytealg.IndexByteString", "internal/bytealg.IndexString", "math.sqrt"], unfollowed := true, recurses := true, named := ["unicode/utf8.first", "unicode/utf8.acceptRanges", "internal/bytealg.MaxLen"], apart := false, laid := [("unicode/utf8.acceptRanges", laid_unicode_utf8_acceptRanges), ("unicode/utf8.first", laid_unicode_utf8_first)] }
def AllowanceTurnsSaid : Prop := allowanceTurnsRow.holds Tryz.pinned (OpenSpec.ofChange allowanceTurnsSpec)

/-- ITS FALSE NEIGHBOUR: 'it returns false'. Refute it at one input. -/
def allowanceTurnsWrong : ChangeSpec := { name := "allowanceTurns", fn := fun _ => fun
  | [d1, d2] => { results := [.lit (.bool false)], args := [d1, d2] }
  | _ => none }
def AllowanceTurnsWrongFalsely : Prop := allowanceTurnsRow.holds Tryz.pinned (OpenSpec.ofChange allowanceTurnsWrong)

/- THE SECOND FORM. 'bulk': how many values and letters a reading holds, each counted each time it is reached (what is shared counts as often as it is met; a slice's spare places count too). A statement '..UptoSaid' is the law's where the arguments, and the package variables that the reading takes, are together of bulk at most 1048576: NARROWER than '..Said'. Prove '..Said' where nothing that the law and all that it calls make is longer than what came in: it says more and counts as full. Else prove '..UptoSaid'. A law counts once. -/
mutual
def uptoBulk {H : Type} : DataW H → Nat
  | .lit (.string bytes) => bytes.length + 1
  | .lit _ => 1
  | .nil => 1
  | .ptr d => uptoBulk d + 1
  | .slice elems spare => uptoBulkAll elems + uptoBulkAll spare + 1
  | .agg parts => uptoBulkAll parts + 1
  | .iface _ d => uptoBulk d + 1
  | .map entries => uptoBulkEntries entries + 1
  | .held _ => 1
def uptoBulkAll {H : Type} : List (DataW H) → Nat
  | [] => 0
  | d :: r => uptoBulk d + uptoBulkAll r
def uptoBulkEntries {H : Type} : List (Lit × DataW H) → Nat
  | [] => 0
  | x :: r => uptoBulkEntry x + uptoBulkEntries r
def uptoBulkEntry {H : Type} : Lit × DataW H → Nat
  | (.string bytes, d) => bytes.length + uptoBulk d + 1
  | (_, d) => uptoBulk d + 1
 end
def uptoSmall : (H : Type) → List (DataW H) → Bool := fun _ ds => decide (uptoBulkAll ds ≤ 1048576)
def OpenSpec.upto (s : _root_.Go.ChangeSpec) : _root_.Go.OpenSpec := { _root_.Go.OpenSpec.ofChange s with cond := some uptoSmall }

/-- 'garmentlaw24.AllowanceShifts', WHERE WHAT IT READS IS OF BULK AT MOST 1048576: true; the input reads as it did. -/
def allowanceShiftsUptoRow : OpenClaim := { program := "ytbaceloeihkmkaagreatdoor", sum := "e32bbba3d792d08742502797deb095237051a619115bc76ffeb5fd5927d17f5e", func := "garment/garmentlaw24.AllowanceShifts", spec := "allowanceShifts", inPlace := ["internal/bytealg.IndexByteString", "internal/bytealg.IndexString"], unfollowed := true, recurses := true, named := ["unicode/utf8.first", "unicode/utf8.acceptRanges", "internal/bytealg.MaxLen"], apart := false, laid := [("unicode/utf8.acceptRanges", laid_unicode_utf8_acceptRanges), ("unicode/utf8.first", laid_unicode_utf8_first)], narrowed := true }
def AllowanceShiftsUptoSaid : Prop := allowanceShiftsUptoRow.holds Tryz.pinned (OpenSpec.upto allowanceShiftsSpec)

/-- 'garmentlaw24.AllowanceZero', WHERE WHAT IT READS IS OF BULK AT MOST 1048576: true; the input reads as it did. -/
def allowanceZeroUptoRow : OpenClaim := { program := "ytbaceloeihkmkaagreatdoor", sum := "e32bbba3d792d08742502797deb095237051a619115bc76ffeb5fd5927d17f5e", func := "garment/garmentlaw24.AllowanceZero", spec := "allowanceZero", inPlace := ["internal/bytealg.IndexByteString", "internal/bytealg.IndexString"], unfollowed := true, recurses := true, named := ["unicode/utf8.first", "unicode/utf8.acceptRanges", "internal/bytealg.MaxLen"], apart := false, laid := [("unicode/utf8.acceptRanges", laid_unicode_utf8_acceptRanges), ("unicode/utf8.first", laid_unicode_utf8_first)], narrowed := true }
def AllowanceZeroUptoSaid : Prop := allowanceZeroUptoRow.holds Tryz.pinned (OpenSpec.upto allowanceZeroSpec)

/-- 'garmentlaw24.AllowanceOutwards', WHERE WHAT IT READS IS OF BULK AT MOST 1048576: true; the input reads as it did. -/
def allowanceOutwardsUptoRow : OpenClaim := { program := "ytbaceloeihkmkaagreatdoor", sum := "e32bbba3d792d08742502797deb095237051a619115bc76ffeb5fd5927d17f5e", func := "garment/garmentlaw24.AllowanceOutwards", spec := "allowanceOutwards", inPlace := ["internal/bytealg.IndexByteString", "internal/bytealg.IndexString"], unfollowed := true, recurses := true, named := ["unicode/utf8.first", "unicode/utf8.acceptRanges", "internal/bytealg.MaxLen"], apart := false, laid := [("unicode/utf8.acceptRanges", laid_unicode_utf8_acceptRanges), ("unicode/utf8.first", laid_unicode_utf8_first)], narrowed := true }
def AllowanceOutwardsUptoSaid : Prop := allowanceOutwardsUptoRow.holds Tryz.pinned (OpenSpec.upto allowanceOutwardsSpec)

/-- 'garmentlaw24.AllowanceRects', WHERE WHAT IT READS IS OF BULK AT MOST 1048576: true; the input reads as it did. -/
def allowanceRectsUptoRow : OpenClaim := { program := "ytbaceloeihkmkaagreatdoor", sum := "e32bbba3d792d08742502797deb095237051a619115bc76ffeb5fd5927d17f5e", func := "garment/garmentlaw24.AllowanceRects", spec := "allowanceRects", inPlace := ["internal/bytealg.IndexByteString", "internal/bytealg.IndexString"], unfollowed := true, recurses := true, named := ["unicode/utf8.first", "unicode/utf8.acceptRanges", "internal/bytealg.MaxLen"], apart := false, laid := [("unicode/utf8.acceptRanges", laid_unicode_utf8_acceptRanges), ("unicode/utf8.first", laid_unicode_utf8_first)], narrowed := true }
def AllowanceRectsUptoSaid : Prop := allowanceRectsUptoRow.holds Tryz.pinned (OpenSpec.upto allowanceRectsSpec)

/-- 'garmentlaw24.AllowanceAreas', WHERE WHAT IT READS IS OF BULK AT MOST 1048576: true; the input reads as it did. -/
def allowanceAreasUptoRow : OpenClaim := { program := "ytbaceloeihkmkaagreatdoor", sum := "e32bbba3d792d08742502797deb095237051a619115bc76ffeb5fd5927d17f5e", func := "garment/garmentlaw24.AllowanceAreas", spec := "allowanceAreas", inPlace := ["internal/bytealg.IndexByteString", "internal/bytealg.IndexString"], unfollowed := true, recurses := true, named := ["unicode/utf8.first", "unicode/utf8.acceptRanges", "internal/bytealg.MaxLen"], apart := false, laid := [("unicode/utf8.acceptRanges", laid_unicode_utf8_acceptRanges), ("unicode/utf8.first", laid_unicode_utf8_first)], narrowed := true }
def AllowanceAreasUptoSaid : Prop := allowanceAreasUptoRow.holds Tryz.pinned (OpenSpec.upto allowanceAreasSpec)

/-- 'garmentlaw24.AllowanceMoves', WHERE WHAT IT READS IS OF BULK AT MOST 1048576: true; the input reads as it did. -/
def allowanceMovesUptoRow : OpenClaim := { program := "ytbaceloeihkmkaagreatdoor", sum := "e32bbba3d792d08742502797deb095237051a619115bc76ffeb5fd5927d17f5e", func := "garment/garmentlaw24.AllowanceMoves", spec := "allowanceMoves", inPlace := ["internal/bytealg.IndexByteString", "internal/bytealg.IndexString"], unfollowed := true, recurses := true, named := ["unicode/utf8.first", "unicode/utf8.acceptRanges", "internal/bytealg.MaxLen"], apart := false, laid := [("unicode/utf8.acceptRanges", laid_unicode_utf8_acceptRanges), ("unicode/utf8.first", laid_unicode_utf8_first)], narrowed := true }
def AllowanceMovesUptoSaid : Prop := allowanceMovesUptoRow.holds Tryz.pinned (OpenSpec.upto allowanceMovesSpec)

/-- 'garmentlaw24.AllowanceTurns', WHERE WHAT IT READS IS OF BULK AT MOST 1048576: true; the input reads as it did. -/
def allowanceTurnsUptoRow : OpenClaim := { program := "ytbaceloeihkmkaagreatdoor", sum := "e32bbba3d792d08742502797deb095237051a619115bc76ffeb5fd5927d17f5e", func := "garment/garmentlaw24.AllowanceTurns", spec := "allowanceTurns", inPlace := ["internal/bytealg.IndexByteString", "internal/bytealg.IndexString", "math.sqrt"], unfollowed := true, recurses := true, named := ["unicode/utf8.first", "unicode/utf8.acceptRanges", "internal/bytealg.MaxLen"], apart := false, laid := [("unicode/utf8.acceptRanges", laid_unicode_utf8_acceptRanges), ("unicode/utf8.first", laid_unicode_utf8_first)], narrowed := true }
def AllowanceTurnsUptoSaid : Prop := allowanceTurnsUptoRow.holds Tryz.pinned (OpenSpec.upto allowanceTurnsSpec)

end Rows
end Go.Proofs.YtbaceloeihkmkaaGreatDoor
