/-
  DERIVED. GIVEN WITH THE SEED: THE CARDS: each row of YtbaceloeihkmkaaGreatDoorRows.lean that lists a variable, with what it lists TIED to the program's text (the seventh form; the later family's looks); each row that meets fmt, with fmt's text TOLD by the authors' own Lean function (tested against real Go, not proved from fmt's source: count such statements apart). THE CARD IS WHAT COUNTS. Prove the row's statement (the work); the ties are given (YtbaceloeihkmkaaGreatDoorTie.lean); close each card by the builder's one call (the guide's Derived/Test/ToyasCard.lean, 'card_holds'). Laid BY PROGRAM, IN A SANDBOX (cutbox-door.mjs). By AI agents, Wed Nov 11 2026. No macro, syntax, notation, axiom, sorry.
-/
import Derived.Test.YtbaceloeihkmkaaGreatDoorRows
import GoSem.ClaimSeven
namespace Go.Proofs.YtbaceloeihkmkaaGreatDoor
namespace Rows

/-- THE TIED CARD OF 'garmentlaw24.AllowanceShifts'. -/
def allowanceShiftsCard : Claim7 := { stood := { row := allowanceShiftsRow, standIns := [], harness := (true, "f6e95d0e74fd2825f211980c9116f0a82b6876e08340d22467254521013de596"), looks := false }, kinds := [], alts := [], laidByText := true, laidKinds := [.data, .pinned], laidTests := true, laidLooks := .later }
def AllowanceShiftsCardSaid : Prop := Claim7.holds Tryz.pinned (.plain (OpenSpec.ofChange allowanceShiftsSpec)) allowanceShiftsCard

/-- THE TIED CARD OF 'garmentlaw24.AllowanceZero'. -/
def allowanceZeroCard : Claim7 := { stood := { row := allowanceZeroRow, standIns := [], harness := (true, "f6e95d0e74fd2825f211980c9116f0a82b6876e08340d22467254521013de596"), looks := false }, kinds := [], alts := [], laidByText := true, laidKinds := [.data, .pinned], laidTests := true, laidLooks := .later }
def AllowanceZeroCardSaid : Prop := Claim7.holds Tryz.pinned (.plain (OpenSpec.ofChange allowanceZeroSpec)) allowanceZeroCard

/-- THE TIED CARD OF 'garmentlaw24.AllowanceOutwards'. -/
def allowanceOutwardsCard : Claim7 := { stood := { row := allowanceOutwardsRow, standIns := [], harness := (true, "f6e95d0e74fd2825f211980c9116f0a82b6876e08340d22467254521013de596"), looks := false }, kinds := [], alts := [], laidByText := true, laidKinds := [.data, .pinned], laidTests := true, laidLooks := .later }
def AllowanceOutwardsCardSaid : Prop := Claim7.holds Tryz.pinned (.plain (OpenSpec.ofChange allowanceOutwardsSpec)) allowanceOutwardsCard

/-- THE TIED CARD OF 'garmentlaw24.AllowanceRects'. -/
def allowanceRectsCard : Claim7 := { stood := { row := allowanceRectsRow, standIns := [], harness := (true, "f6e95d0e74fd2825f211980c9116f0a82b6876e08340d22467254521013de596"), looks := false }, kinds := [], alts := [], laidByText := true, laidKinds := [.data, .pinned], laidTests := true, laidLooks := .later }
def AllowanceRectsCardSaid : Prop := Claim7.holds Tryz.pinned (.plain (OpenSpec.ofChange allowanceRectsSpec)) allowanceRectsCard

/-- THE TIED CARD OF 'garmentlaw24.AllowanceAreas'. -/
def allowanceAreasCard : Claim7 := { stood := { row := allowanceAreasRow, standIns := [], harness := (true, "f6e95d0e74fd2825f211980c9116f0a82b6876e08340d22467254521013de596"), looks := false }, kinds := [], alts := [], laidByText := true, laidKinds := [.data, .pinned], laidTests := true, laidLooks := .later }
def AllowanceAreasCardSaid : Prop := Claim7.holds Tryz.pinned (.plain (OpenSpec.ofChange allowanceAreasSpec)) allowanceAreasCard

/-- THE TIED CARD OF 'garmentlaw24.AllowanceMoves'. -/
def allowanceMovesCard : Claim7 := { stood := { row := allowanceMovesRow, standIns := [], harness := (true, "f6e95d0e74fd2825f211980c9116f0a82b6876e08340d22467254521013de596"), looks := false }, kinds := [], alts := [], laidByText := true, laidKinds := [.data, .pinned], laidTests := true, laidLooks := .later }
def AllowanceMovesCardSaid : Prop := Claim7.holds Tryz.pinned (.plain (OpenSpec.ofChange allowanceMovesSpec)) allowanceMovesCard

/-- THE TIED CARD OF 'garmentlaw24.AllowanceTurns'. -/
def allowanceTurnsCard : Claim7 := { stood := { row := allowanceTurnsRow, standIns := [], harness := (true, "f6e95d0e74fd2825f211980c9116f0a82b6876e08340d22467254521013de596"), looks := false }, kinds := [], alts := [], laidByText := true, laidKinds := [.data, .pinned], laidTests := true, laidLooks := .later }
def AllowanceTurnsCardSaid : Prop := Claim7.holds Tryz.pinned (.plain (OpenSpec.ofChange allowanceTurnsSpec)) allowanceTurnsCard

/-- THE SECOND FORM's CARD OF 'garmentlaw24.AllowanceShifts'. -/
def allowanceShiftsUptoCard : Claim7 := { stood := { row := allowanceShiftsUptoRow, standIns := [], harness := (true, "f6e95d0e74fd2825f211980c9116f0a82b6876e08340d22467254521013de596"), looks := false }, kinds := [], alts := [], laidByText := true, laidKinds := [.data, .pinned], laidTests := true, laidLooks := .later }
def AllowanceShiftsUptoCardSaid : Prop := Claim7.holds Tryz.pinned (.plain (OpenSpec.upto allowanceShiftsSpec)) allowanceShiftsUptoCard

/-- THE SECOND FORM's CARD OF 'garmentlaw24.AllowanceZero'. -/
def allowanceZeroUptoCard : Claim7 := { stood := { row := allowanceZeroUptoRow, standIns := [], harness := (true, "f6e95d0e74fd2825f211980c9116f0a82b6876e08340d22467254521013de596"), looks := false }, kinds := [], alts := [], laidByText := true, laidKinds := [.data, .pinned], laidTests := true, laidLooks := .later }
def AllowanceZeroUptoCardSaid : Prop := Claim7.holds Tryz.pinned (.plain (OpenSpec.upto allowanceZeroSpec)) allowanceZeroUptoCard

/-- THE SECOND FORM's CARD OF 'garmentlaw24.AllowanceOutwards'. -/
def allowanceOutwardsUptoCard : Claim7 := { stood := { row := allowanceOutwardsUptoRow, standIns := [], harness := (true, "f6e95d0e74fd2825f211980c9116f0a82b6876e08340d22467254521013de596"), looks := false }, kinds := [], alts := [], laidByText := true, laidKinds := [.data, .pinned], laidTests := true, laidLooks := .later }
def AllowanceOutwardsUptoCardSaid : Prop := Claim7.holds Tryz.pinned (.plain (OpenSpec.upto allowanceOutwardsSpec)) allowanceOutwardsUptoCard

/-- THE SECOND FORM's CARD OF 'garmentlaw24.AllowanceRects'. -/
def allowanceRectsUptoCard : Claim7 := { stood := { row := allowanceRectsUptoRow, standIns := [], harness := (true, "f6e95d0e74fd2825f211980c9116f0a82b6876e08340d22467254521013de596"), looks := false }, kinds := [], alts := [], laidByText := true, laidKinds := [.data, .pinned], laidTests := true, laidLooks := .later }
def AllowanceRectsUptoCardSaid : Prop := Claim7.holds Tryz.pinned (.plain (OpenSpec.upto allowanceRectsSpec)) allowanceRectsUptoCard

/-- THE SECOND FORM's CARD OF 'garmentlaw24.AllowanceAreas'. -/
def allowanceAreasUptoCard : Claim7 := { stood := { row := allowanceAreasUptoRow, standIns := [], harness := (true, "f6e95d0e74fd2825f211980c9116f0a82b6876e08340d22467254521013de596"), looks := false }, kinds := [], alts := [], laidByText := true, laidKinds := [.data, .pinned], laidTests := true, laidLooks := .later }
def AllowanceAreasUptoCardSaid : Prop := Claim7.holds Tryz.pinned (.plain (OpenSpec.upto allowanceAreasSpec)) allowanceAreasUptoCard

/-- THE SECOND FORM's CARD OF 'garmentlaw24.AllowanceMoves'. -/
def allowanceMovesUptoCard : Claim7 := { stood := { row := allowanceMovesUptoRow, standIns := [], harness := (true, "f6e95d0e74fd2825f211980c9116f0a82b6876e08340d22467254521013de596"), looks := false }, kinds := [], alts := [], laidByText := true, laidKinds := [.data, .pinned], laidTests := true, laidLooks := .later }
def AllowanceMovesUptoCardSaid : Prop := Claim7.holds Tryz.pinned (.plain (OpenSpec.upto allowanceMovesSpec)) allowanceMovesUptoCard

/-- THE SECOND FORM's CARD OF 'garmentlaw24.AllowanceTurns'. -/
def allowanceTurnsUptoCard : Claim7 := { stood := { row := allowanceTurnsUptoRow, standIns := [], harness := (true, "f6e95d0e74fd2825f211980c9116f0a82b6876e08340d22467254521013de596"), looks := false }, kinds := [], alts := [], laidByText := true, laidKinds := [.data, .pinned], laidTests := true, laidLooks := .later }
def AllowanceTurnsUptoCardSaid : Prop := Claim7.holds Tryz.pinned (.plain (OpenSpec.upto allowanceTurnsSpec)) allowanceTurnsUptoCard
end Rows
end Go.Proofs.YtbaceloeihkmkaaGreatDoor
