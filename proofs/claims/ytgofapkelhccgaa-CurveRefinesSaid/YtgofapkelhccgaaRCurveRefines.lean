/- CurveRefines: for every input the law returns true, and each argument reads afterwards as it read before. No condition. -/
import Derived.Test.YtgofapkelhccgaaRows
import Derived.Test.YtgofapkelhccgaaP09b
import Derived.WalkKit
import Derived.ProofKit
import Derived.OpenShut
import Derived.ShutString
import Derived.ChangeOld
import Derived.Below
import Derived.SizedLaws
namespace Go.Proofs.Ytgofapkelhccgaa.curveRefines
open Go.ChangeShapes Go.WideShapes Go.ChangeAt Go.RowKit Go.Pi Go.Gm
open Go.ChangeMaps (open_string shut_string)
set_option maxRecDepth 100000
theorem own : ownKnob Try.prog.godebug = none := by kernel_rfl
theorem laidOut : laidOutB Try.prog = true := by kernel_rfl
theorem lifted (os : Os) (started : os.Started) (H : Type) (enc : TypeId × Value → H) :
    ReturnsInHanded {} Try.checked os 8 .any (Rows.curveRefinesSpec.pre6 enc Try.prog Try.f8 Rows.curveRefinesRow.domain false) (Rows.curveRefinesSpec.post enc Try.prog Try.f8 false true false false) := by
  refine returnsInHanded_of_change_sized (C := Try.checked) own started (by kernel_rfl) Try.func8
    (ChangeSpec.witness6 (enc := enc) (C := Try.checked) false ⟨#[], #[.slice none 0 0, .int .u8 0], []⟩ 8 (by kernel_rfl) (by kernel_rfl) (by kernel_rfl) (by kernel_rfl)) ?_
  intro W base args ds gs before hval0 hW hcnd hsz0 _
  exact law_calls (E := law09_CurveRefines.E) law09_CurveRefines.H.h rfl (CurveRefines_plain) (by kernel_rfl) (by kernel_rfl) laidOut rfl (by kernel_rfl) rfl
    (fun ds h => by
      rcases ds with _ | ⟨d0, _ | ⟨d1, _ | ⟨e, l⟩⟩⟩ <;> first | exact ⟨rfl, rfl, rfl⟩ | (simp [Try.f8] at h)) hval0 hW
theorem over : Rows.curveRefinesRow.holds Try.pinned (OpenSpec.ofChange Rows.curveRefinesSpec) :=
  OpenClaim.holds_of_wide 8 Try.f8 rfl rfl rfl rfl rfl rfl rfl ⟨rfl, rfl, rfl, rfl, rfl⟩ rfl rfl rfl rfl rfl (by kernel_rfl) Try.func8 (by kernel_rfl)
    (of_decide_eq_true (by kernel_rfl)) (by unfold Func.isWrapper; first | (rw [if_pos (by decide +kernel)]; kernel_rfl) | (rw [if_neg (by decide +kernel)]; exact ⟨rfl, rfl⟩))
    (fun os started H enc _ => lifted os started H enc)
theorem proved : Rows.CurveRefinesSaid := over
#print axioms proved
end Go.Proofs.Ytgofapkelhccgaa.curveRefines
