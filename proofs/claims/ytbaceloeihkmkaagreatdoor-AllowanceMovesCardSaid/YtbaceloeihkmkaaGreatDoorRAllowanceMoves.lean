/- AllowanceMoves: for every input the law returns true, and each argument reads afterwards as it read before. No condition beyond what the card ties: the listed variables hold what the program itself lays in them. -/
import Derived.Test.YtbaceloeihkmkaaGreatDoorRows
import Derived.Test.YtbaceloeihkmkaaGreatDoorCards
import Derived.Test.YtbaceloeihkmkaaGreatDoorTie
import Derived.Test.YtbaceloeihkmkaaGreatDoorP24d
import Derived.Test.YtbaceloeihkmkaaGreatDoorQQ5
import Derived.WalkKit
import Derived.ProofKit
import Derived.LaidMore
import Derived.Lay
import Derived.OpenShut
import Derived.ShutString
import Derived.ChangeOld
import Derived.Below
import Derived.SizedLaws
import Derived.Stop.Joined
import Derived.SevenTiedAt
namespace Go.Proofs.YtbaceloeihkmkaaGreatDoor.allowanceMoves
open Go.ChangeShapes Go.WideShapes Go.ChangeAt Go.RowKit Go.Pi Go.Gm
set_option maxRecDepth 100000
theorem own : ownKnob Tryz.prog.godebug = none := by kernel_rfl
theorem laidOut : laidOutB Tryz.prog = true := by kernel_rfl
theorem lifted (os : Os) (started : os.Started) (H : Type) (enc : TypeId × Value → H) :
    ReturnsInHanded {} Tryz.checked os 8 .any (fun w args => (Rows.allowanceMovesSpec.pre enc Tryz.prog Tryz.f8 [] false w args ∧ laidMetH Tryz.prog Rows.allowanceMovesRow.laid w) ∧ sizedMet enc Tryz.prog Tryz.f8 (OpenSpec.ofChange Rows.allowanceMovesSpec) false w args) (Rows.allowanceMovesSpec.post enc Tryz.prog Tryz.f8 false true false false) := by
  refine returnsInHanded_of_change_and (C := Tryz.checked) (X := fun w _ => laidMetH Tryz.prog Rows.allowanceMovesRow.laid w) (fun _ _ _ hh h => h.of_heap hh) own started (by kernel_rfl) Tryz.func8
    (ChangeSpec.witness_shaped (enc := enc) (C := Tryz.checked) (os := os) (X := fun w _ => laidMetH Tryz.prog Rows.allowanceMovesRow.laid w) false (World.laidAll Tryz.prog os Rows.allowanceMovesRow.laid) #[.slice none 0 0, .slice none 0 0, .agg #[.int .i64 0, .int .i64 0]] 8 (World.laidAll_os _ _ _)
      (World.shaped_of_ZipB (by kernel_rfl) (by kernel_rfl)) (by kernel_rfl) (by kernel_rfl) (by kernel_rfl)
      (by rw [MakeChecks.laidMetH_plain _ _ _ (by kernel_rfl)]; exact laidMet_laidAll _ (by kernel_rfl) (by kernel_rfl))) ?_
  intro W base args ds gs before hval0 hW _ hsz _ _
  exact law_callsZ (E := law24_AllowanceMoves.E) law24_AllowanceMoves.H.h rfl (AllowanceMoves_plain) (by kernel_rfl) (by kernel_rfl) (by kernel_rfl) laidOut rfl (by kernel_rfl) rfl
    (fun ds h => by
      rcases ds with _ | ⟨d0, _ | ⟨d1, _ | ⟨d2, _ | ⟨e, l⟩⟩⟩⟩ <;> first | exact ⟨rfl, rfl, rfl⟩ | (simp [Tryz.f8] at h)) hval0 hW hsz
theorem over : Rows.allowanceMovesRow.holds Tryz.pinned (OpenSpec.ofChange Rows.allowanceMovesSpec) :=
  OpenClaim.holds_of_wide 8 Tryz.f8 rfl rfl rfl rfl rfl rfl rfl ⟨rfl, rfl, rfl, rfl, rfl⟩ rfl rfl rfl rfl rfl (by kernel_rfl) Tryz.func8 (by kernel_rfl)
    (of_decide_eq_true (by kernel_rfl)) (by unfold Func.isWrapper; first | (rw [if_pos (by decide +kernel)]; kernel_rfl) | (rw [if_neg (by decide +kernel)]; exact ⟨rfl, rfl⟩))
    (fun os started H enc _ => lifted os started H enc)
/-- The card: the row, with what it lists tied to the program's text. -/
theorem proved : Rows.AllowanceMovesCardSaid :=
  Claim7.holds_tied_plain_at .later [] [.data, .pinned] true (true, "f6e95d0e74fd2825f211980c9116f0a82b6876e08340d22467254521013de596") false
    over (fun _ h => by cases h) (by kernel_rfl) (fun _ h => by cases h) allowanceMoves_row_tie rfl ⟨rfl, rfl⟩ (by kernel_rfl) rfl
    (fun f fn hf hfn => by
      obtain rfl : f = 8 := Option.some.inj ((show Tryz.prog.funcNamed "garment/garmentlaw24.AllowanceMoves" = some 8 by kernel_rfl).symm.trans hf) |>.symm
      obtain rfl : fn = Tryz.f8 := (Option.some.inj (Tryz.func8.symm.trans hfn)).symm
      exact ⟨by kernel_rfl, fun j t ht => by
        have hm : t ∈ Tryz.f8.params := Array.mem_of_getElem? ht
        have hall : (Tryz.f8.params.toList.all fun u => !Tryz.prog.wantsStandIn u) = true := by kernel_rfl
        exact (show Tryz.prog.wantsStandIn t = false by simpa using List.all_eq_true.1 hall t (Array.mem_toList_iff.2 hm))⟩)
    (by kernel_rfl)
#print axioms proved
end Go.Proofs.YtbaceloeihkmkaaGreatDoor.allowanceMoves
