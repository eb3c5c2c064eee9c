/- The functions compute it. -/
import Derived.Test.YtbaceloeihkmkaaGreatDoorB24x0
set_option linter.unusedVariables false
set_option linter.unusedSimpArgs false
set_option maxRecDepth 100000
set_option maxHeartbeats 4000000
namespace Go.Gm
open Go.Pi Go.Proofs
def polygon_Normal.sk0 : Sk := ⟨1, [(0, .one (.c (.sl (.cons (.int .i64) (.one (.int .i64)))))), (5, .one (.own 0)), (14, .one (.c (.sl (.cons (.int .i64) (.one (.int .i64)))))), (15, .one (.c (.int .i64))), (16, .one (.c (.int .i64)))], [(0, .row 37 (.cons (.int .i64) (.one (.int .i64))) false)]⟩
def polygon_Normal.E : Ent := ⟨[.data false (.one (.sl (.cons (.int .i64) (.one (.int .i64)))))], [⟨false, (.one (.sl (.cons (.int .i64) (.one (.int .i64))))), some 37⟩, ⟨false, (.one (.int .i64)), none⟩], fun k x => polygon_Normal.f k x.1⟩
def polygon_Normal.L : List (Nat × LoopE (ResD polygon_Normal.E.rs)) := [(7, ⟨polygon_Normal.sk0, fun k d => polygon_Normal.l0 k d.1.1 d.1.2.2.1 d.1.2.2.2.1 d.1.2.2.2.2.1 d.2.1⟩)]
theorem polygon_Normal.H : HM Tryz.prog 25 polygon_Normal.E :=
  hm_of (T := [(38, polygon_turn.E), (22, polygon_Check.E), (31, polygon_area.E), (39, slices_Reverse_api_Spot_api_Spot.E), (40, slices_Index_api_Spot_api_Spot.E), (42, polygon_order.E), (41, slices_MinFunc_api_Spot_api_Spot.E)]) mixed (hT_cons polygon_turn.H (hT_cons polygon_Check.H (hT_cons polygon_area.H (hT_cons slices_Reverse_api_Spot_api_Spot.H (hT_cons slices_Index_api_Spot_api_Spot.H (hT_cons polygon_order.H (hT_cons slices_MinFunc_api_Spot_api_Spot.H hT_nil))))))) Tryz.func25 (c := Tryz.f25.body.getD .skip) (by kernel_rfl) (by kernel_rfl) polygon_Normal.E polygon_Normal.L (by decide) (by exact ⟨trivial, ⟨⟨trivial, ⟨trivial, ⟨⟨trivial, trivial⟩, trivial⟩⟩⟩, ⟨trivial, ⟨⟨trivial, ⟨fun le h => by cases h <;> exact ⟨fun d => by kernel_rfl, fun k d => by kernel_rfl⟩, ⟨trivial, ⟨⟨trivial, trivial⟩, ⟨⟨trivial, ⟨trivial, ⟨trivial, trivial⟩⟩⟩, trivial⟩⟩⟩⟩⟩, ⟨⟨trivial, ⟨trivial, trivial⟩⟩, ⟨trivial, ⟨trivial, trivial⟩⟩⟩⟩⟩⟩⟩) (fun k x => by kernel_rfl)
def law24_AllowanceTurns.E : Ent := ⟨[.data true (.cons .str (.cons (.sl (.cons .str (.one (.sl (.cons (.int .i64) (.one (.int .i64))))))) (.cons (.int .i64) (.cons (.sl (.cons (.int .i64) (.one (.int .i64)))) (.cons (.sl (.cons (.int .i64) (.one (.int .i64)))) (.cons (.sl (.one (.int .i64))) (.one .bool))))))), .data true (.cons .bool (.one (.int .i64)))], [⟨false, (.one .bool), none⟩], fun k x => law24_AllowanceTurns.f k x.1 x.2.1⟩
def law24_AllowanceTurns.L : List (Nat × LoopE (ResD law24_AllowanceTurns.E.rs)) := []
theorem law24_AllowanceTurns.H : HM Tryz.prog 9 law24_AllowanceTurns.E :=
  hm_of (T := [(10, law24_small.E), (14, ref11_Same.E), (16, allowance_Allow.E), (11, law24_exampleHolds.E), (24, turn_Poly.E), (23, grade_Turned.E), (25, polygon_Normal.E)]) mixed (hT_cons law24_small.H (hT_cons ref11_Same.H (hT_cons allowance_Allow.H (hT_cons law24_exampleHolds.H (hT_cons turn_Poly.H (hT_cons grade_Turned.H (hT_cons polygon_Normal.H hT_nil))))))) Tryz.func9 (c := Tryz.f9.body.getD .skip) (by kernel_rfl) (by kernel_rfl) law24_AllowanceTurns.E law24_AllowanceTurns.L (by decide) (by exact ⟨trivial, ⟨⟨trivial, ⟨⟨trivial, trivial⟩, trivial⟩⟩, ⟨trivial, ⟨trivial, ⟨trivial, ⟨⟨trivial, ⟨⟨trivial, trivial⟩, trivial⟩⟩, ⟨trivial, ⟨trivial, ⟨trivial, ⟨trivial, trivial⟩⟩⟩⟩⟩⟩⟩⟩⟩⟩) (fun k x => by kernel_rfl)
end Go.Gm
