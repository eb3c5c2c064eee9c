/- The functions compute it. -/
import Derived.Test.YtpgnlkenclkgbaaChecked
import Derived.Test.YtpgnlkenclkgbaaPi34
import Derived.Test.YtpgnlkenclkgbaaPi38
import Derived.KernelRfl
import Derived.Test.YtpgnlkenclkgbaaDQ
import Derived.Test.YtpgnlkenclkgbaaDQ
import Derived.Test.YtpgnlkenclkgbaaDQ
import Derived.Test.YtpgnlkenclkgbaaDQ
import Derived.Test.YtpgnlkenclkgbaaDQ
import Derived.Test.YtpgnlkenclkgbaaDQ
import Derived.Test.YtpgnlkenclkgbaaDQ
import Derived.Test.YtpgnlkenclkgbaaDQ
import Derived.Test.YtpgnlkenclkgbaaDQ
import Derived.Test.YtpgnlkenclkgbaaDQ
import Derived.Test.YtpgnlkenclkgbaaDQ
import Derived.Test.YtpgnlkenclkgbaaDQ
set_option linter.unusedVariables false
set_option linter.unusedSimpArgs false
set_option maxRecDepth 100000
set_option maxHeartbeats 4000000
namespace Go.Gm
open Go.Pi Go.Proofs
theorem mixed : Try.prog.follows .mixedOrders = true := by kernel_rfl
def turn_Norm.E : Ent := ⟨[.data true (.cons .bool (.one (.int .i64)))], [⟨true, (.cons .bool (.one (.int .i64))), none⟩], fun _ x => turn_Norm.f x.1⟩
def turn_Norm.L : List (Nat × LoopE (ResD turn_Norm.E.rs)) := []
theorem turn_Norm.H : HM Try.prog 13 turn_Norm.E :=
  hm_of (T := []) mixed hT_nil Try.func13 (c := Try.f13.body.getD .skip) (by kernel_rfl) (by kernel_rfl) turn_Norm.E turn_Norm.L (by decide) (by exact ⟨trivial, ⟨trivial, trivial⟩⟩) (fun k x => by kernel_rfl)
def ref12_Norm.E : Ent := ⟨[.data true (.cons .bool (.one (.int .i64)))], [⟨true, (.cons .bool (.one (.int .i64))), none⟩], fun _ x => ref12_Norm.f x.1⟩
def ref12_Norm.L : List (Nat × LoopE (ResD ref12_Norm.E.rs)) := []
theorem ref12_Norm.H : HM Try.prog 14 ref12_Norm.E :=
  hm_of (T := []) mixed hT_nil Try.func14 (c := Try.f14.body.getD .skip) (by kernel_rfl) (by kernel_rfl) ref12_Norm.E ref12_Norm.L (by decide) (by exact ⟨trivial, ⟨trivial, ⟨⟨trivial, ⟨trivial, trivial⟩⟩, ⟨trivial, trivial⟩⟩⟩⟩) (fun k x => by kernel_rfl)
def turn_Apply.E : Ent := ⟨[.data true (.cons .bool (.one (.int .i64))), .data true (.cons (.int .i64) (.one (.int .i64)))], [⟨true, (.cons (.int .i64) (.one (.int .i64))), none⟩], fun _ x => turn_Apply.f x.1 x.2.1⟩
def turn_Apply.L : List (Nat × LoopE (ResD turn_Apply.E.rs)) := []
theorem turn_Apply.H : HM Try.prog 15 turn_Apply.E :=
  hm_of (T := []) mixed hT_nil Try.func15 (c := Try.f15.body.getD .skip) (by kernel_rfl) (by kernel_rfl) turn_Apply.E turn_Apply.L (by decide) (by exact ⟨trivial, ⟨⟨trivial, ⟨trivial, trivial⟩⟩, ⟨⟨trivial, ⟨trivial, ⟨⟨trivial, trivial⟩, ⟨trivial, ⟨⟨trivial, trivial⟩, ⟨trivial, ⟨⟨trivial, trivial⟩, trivial⟩⟩⟩⟩⟩⟩⟩, ⟨trivial, trivial⟩⟩⟩⟩) (fun k x => by kernel_rfl)
def ref12_Apply.sk0 : Sk := ⟨3, [(4, .one (.ptr 0 0)), (5, .one (.ptr 1 0)), (6, .one (.ptr 2 0)), (7, .one (.c (.int .i64)))], [(0, .box 25 [.c (.int .i64), .c (.int .i64)]), (1, .box 25 [.c (.int .i64), .c (.int .i64)]), (2, .box 23 [.c .bool, .c (.int .i64)])]⟩
def ref12_Apply.E : Ent := ⟨[.data true (.cons .bool (.one (.int .i64))), .data true (.cons (.int .i64) (.one (.int .i64)))], [⟨true, (.cons (.int .i64) (.one (.int .i64))), none⟩], fun k x => ref12_Apply.f k x.1 x.2.1⟩
def ref12_Apply.L : List (Nat × LoopE (ResD ref12_Apply.E.rs)) := [(7, ⟨ref12_Apply.sk0, fun k d => ref12_Apply.l0 k d.1.2.2.2.1 d.2.1.1 d.2.1.2.1 d.2.2.1.1 d.2.2.1.2.1 d.2.2.2.1.1 d.2.2.2.1.2.1⟩)]
theorem ref12_Apply.H : HM Try.prog 16 ref12_Apply.E :=
  hm_of (T := [(14, ref12_Norm.E)]) mixed (hT_cons ref12_Norm.H hT_nil) Try.func16 (c := Try.f16.body.getD .skip) (by kernel_rfl) (by kernel_rfl) ref12_Apply.E ref12_Apply.L (by decide) (by exact ⟨trivial, ⟨trivial, ⟨⟨trivial, ⟨trivial, trivial⟩⟩, ⟨trivial, ⟨⟨trivial, ⟨fun le h => by cases h; exact ⟨fun d => by kernel_rfl, fun k d => by kernel_rfl⟩, ⟨⟨trivial, ⟨trivial, trivial⟩⟩, ⟨trivial, trivial⟩⟩⟩⟩, ⟨trivial, trivial⟩⟩⟩⟩⟩⟩) (fun k x => by kernel_rfl)
def turn_Compose.E : Ent := ⟨[.data true (.cons .bool (.one (.int .i64))), .data true (.cons .bool (.one (.int .i64)))], [⟨true, (.cons .bool (.one (.int .i64))), none⟩], fun _ x => turn_Compose.f x.1 x.2.1⟩
def turn_Compose.L : List (Nat × LoopE (ResD turn_Compose.E.rs)) := []
theorem turn_Compose.H : HM Try.prog 17 turn_Compose.E :=
  hm_of (T := [(13, turn_Norm.E)]) mixed (hT_cons turn_Norm.H hT_nil) Try.func17 (c := Try.f17.body.getD .skip) (by kernel_rfl) (by kernel_rfl) turn_Compose.E turn_Compose.L (by decide) (by exact ⟨trivial, ⟨trivial, ⟨⟨trivial, ⟨trivial, trivial⟩⟩, ⟨trivial, trivial⟩⟩⟩⟩) (fun k x => by kernel_rfl)
def ref12_Compose.E : Ent := ⟨[.data true (.cons .bool (.one (.int .i64))), .data true (.cons .bool (.one (.int .i64)))], [⟨true, (.cons .bool (.one (.int .i64))), none⟩], fun _ x => ref12_Compose.f x.1 x.2.1⟩
def ref12_Compose.L : List (Nat × LoopE (ResD ref12_Compose.E.rs)) := []
theorem ref12_Compose.H : HM Try.prog 18 ref12_Compose.E :=
  hm_of (T := [(14, ref12_Norm.E)]) mixed (hT_cons ref12_Norm.H hT_nil) Try.func18 (c := Try.f18.body.getD .skip) (by kernel_rfl) (by kernel_rfl) ref12_Compose.E ref12_Compose.L (by decide) (by exact ⟨trivial, ⟨trivial, ⟨⟨trivial, ⟨⟨trivial, trivial⟩, trivial⟩⟩, ⟨trivial, trivial⟩⟩⟩⟩) (fun k x => by kernel_rfl)
def turn_Inverse.E : Ent := ⟨[.data true (.cons .bool (.one (.int .i64)))], [⟨true, (.cons .bool (.one (.int .i64))), none⟩], fun _ x => turn_Inverse.f x.1⟩
def turn_Inverse.L : List (Nat × LoopE (ResD turn_Inverse.E.rs)) := []
theorem turn_Inverse.H : HM Try.prog 19 turn_Inverse.E :=
  hm_of (T := [(13, turn_Norm.E)]) mixed (hT_cons turn_Norm.H hT_nil) Try.func19 (c := Try.f19.body.getD .skip) (by kernel_rfl) (by kernel_rfl) turn_Inverse.E turn_Inverse.L (by decide) (by exact ⟨trivial, ⟨⟨trivial, ⟨⟨trivial, trivial⟩, trivial⟩⟩, ⟨trivial, trivial⟩⟩⟩) (fun k x => by kernel_rfl)
def ref12_Inverse.E : Ent := ⟨[.data true (.cons .bool (.one (.int .i64)))], [⟨true, (.cons .bool (.one (.int .i64))), none⟩], fun _ x => ref12_Inverse.f x.1⟩
def ref12_Inverse.L : List (Nat × LoopE (ResD ref12_Inverse.E.rs)) := []
theorem ref12_Inverse.H : HM Try.prog 20 ref12_Inverse.E :=
  hm_of (T := [(14, ref12_Norm.E)]) mixed (hT_cons ref12_Norm.H hT_nil) Try.func20 (c := Try.f20.body.getD .skip) (by kernel_rfl) (by kernel_rfl) ref12_Inverse.E ref12_Inverse.L (by decide) (by exact ⟨trivial, ⟨trivial, ⟨⟨trivial, ⟨⟨trivial, trivial⟩, trivial⟩⟩, ⟨trivial, trivial⟩⟩⟩⟩) (fun k x => by kernel_rfl)
def natural_trim_t.sk0 : Sk := ⟨1, [(0, .one (.own 0)), (3, .one (.c (.int .i64)))], [(0, .row 75 (.one (.int .u32)) false)]⟩
def natural_trim_t.E : Ent := ⟨[.take 75 (.one (.int .u32))], [⟨false, (.one (.sl (.one (.int .u32)))), some 75⟩], fun k x => natural_trim_t.f k x.1⟩
def natural_trim_t.L : List (Nat × LoopE (ResD natural_trim_t.E.rs)) := [(3, ⟨natural_trim_t.sk0, fun k d => natural_trim_t.l0 k d.1.2.1 d.2.1⟩)]
theorem natural_trim_t.H : HM Try.prog 79 natural_trim_t.E :=
  hm_of (T := []) mixed hT_nil Try.func79 (c := Try.f79.body.getD .skip) (by kernel_rfl) (by kernel_rfl) natural_trim_t.E natural_trim_t.L (by decide) (by exact ⟨trivial, ⟨trivial, ⟨⟨fun le h => by cases h; exact ⟨fun d => by kernel_rfl, fun k d => by kernel_rfl⟩, ⟨⟨trivial, ⟨trivial, trivial⟩⟩, trivial⟩⟩, ⟨trivial, trivial⟩⟩⟩⟩) (fun k x => by kernel_rfl)
def natural_trim.sk0 : Sk := ⟨0, [(0, .one (.c (.sl (.one (.int .u32))))), (3, .one (.c (.int .i64)))], []⟩
def natural_trim.E : Ent := ⟨[.data false (.one (.sl (.one (.int .u32))))], [⟨false, (.one (.sl (.one (.int .u32)))), none⟩], fun k x => natural_trim.f k x.1⟩
def natural_trim.L : List (Nat × LoopE (ResD natural_trim.E.rs)) := [(3, ⟨natural_trim.sk0, fun k d => natural_trim.l0 k d.1.1 d.1.2.1⟩)]
theorem natural_trim.H : HM Try.prog 79 natural_trim.E :=
  hm_of (T := []) mixed hT_nil Try.func79 (c := Try.f79.body.getD .skip) (by kernel_rfl) (by kernel_rfl) natural_trim.E natural_trim.L (by decide) (by exact ⟨trivial, ⟨trivial, ⟨⟨fun le h => by cases h; exact ⟨fun d => by kernel_rfl, fun k d => by kernel_rfl⟩, ⟨⟨trivial, ⟨trivial, trivial⟩⟩, trivial⟩⟩, ⟨trivial, trivial⟩⟩⟩⟩) (fun k x => by kernel_rfl)
def natural_Norm.E : Ent := ⟨[.data false (.one (.sl (.one (.int .u32))))], [⟨false, (.one (.sl (.one (.int .u32)))), some 75⟩], fun k x => natural_Norm.f k x.1⟩
def natural_Norm.L : List (Nat × LoopE (ResD natural_Norm.E.rs)) := []
theorem natural_Norm.H : HM Try.prog 67 natural_Norm.E :=
  hm_of (T := [(79, natural_trim_t.E), (79, natural_trim.E)]) mixed (hT_cons natural_trim_t.H (hT_cons natural_trim.H hT_nil)) Try.func67 (c := Try.f67.body.getD .skip) (by kernel_rfl) (by kernel_rfl) natural_Norm.E natural_Norm.L (by decide) (by exact ⟨trivial, ⟨trivial, ⟨trivial, ⟨trivial, ⟨trivial, trivial⟩⟩⟩⟩⟩) (fun k x => by kernel_rfl)
def integer_signed.E : Ent := ⟨[.data false (.one .bool), .data false (.one (.sl (.one (.int .u32))))], [⟨true, (.cons .bool (.one (.sl (.one (.int .u32))))), none⟩], fun k x => integer_signed.f k x.1 x.2.1⟩
def integer_signed.L : List (Nat × LoopE (ResD integer_signed.E.rs)) := []
theorem integer_signed.H : HM Try.prog 61 integer_signed.E :=
  hm_of (T := [(67, natural_Norm.E)]) mixed (hT_cons natural_Norm.H hT_nil) Try.func61 (c := Try.f61.body.getD .skip) (by kernel_rfl) (by kernel_rfl) integer_signed.E integer_signed.L (by decide) (by exact ⟨trivial, ⟨trivial, ⟨trivial, trivial⟩⟩⟩) (fun k x => by kernel_rfl)
def integer_Norm.E : Ent := ⟨[.data true (.cons .bool (.one (.sl (.one (.int .u32)))))], [⟨true, (.cons .bool (.one (.sl (.one (.int .u32))))), none⟩], fun k x => integer_Norm.f k x.1⟩
def integer_Norm.L : List (Nat × LoopE (ResD integer_Norm.E.rs)) := []
theorem integer_Norm.H : HM Try.prog 66 integer_Norm.E :=
  hm_of (T := [(61, integer_signed.E)]) mixed (hT_cons integer_signed.H hT_nil) Try.func66 (c := Try.f66.body.getD .skip) (by kernel_rfl) (by kernel_rfl) integer_Norm.E integer_Norm.L (by decide) (by exact ⟨trivial, ⟨trivial, trivial⟩⟩) (fun k x => by kernel_rfl)
def natural_Of.E : Ent := ⟨[.data false (.one (.int .u64))], [⟨false, (.one (.sl (.one (.int .u32)))), some 75⟩], fun k x => natural_Of.f k x.1⟩
def natural_Of.L : List (Nat × LoopE (ResD natural_Of.E.rs)) := []
theorem natural_Of.H : HM Try.prog 68 natural_Of.E :=
  hm_of (T := [(67, natural_Norm.E)]) mixed (hT_cons natural_Norm.H hT_nil) Try.func68 (c := Try.f68.body.getD .skip) (by kernel_rfl) (by kernel_rfl) natural_Of.E natural_Of.L (by decide) (by exact ⟨trivial, ⟨trivial, trivial⟩⟩) (fun k x => by kernel_rfl)
def natural_Cmp.sk0 : Sk := ⟨0, [(0, .one (.c (.sl (.one (.int .u32))))), (1, .one (.c (.sl (.one (.int .u32))))), (5, .one (.c (.int .i64)))], []⟩
def natural_Cmp.E : Ent := ⟨[.data false (.one (.sl (.one (.int .u32)))), .data false (.one (.sl (.one (.int .u32))))], [⟨false, (.one (.int .i64)), none⟩], fun k x => natural_Cmp.f k x.1 x.2.1⟩
def natural_Cmp.L : List (Nat × LoopE (ResD natural_Cmp.E.rs)) := [(8, ⟨natural_Cmp.sk0, fun k d => natural_Cmp.l0 k d.1.1 d.1.2.1 d.1.2.2.1⟩)]
theorem natural_Cmp.H : HM Try.prog 60 natural_Cmp.E :=
  hm_of (T := [(79, natural_trim_t.E), (79, natural_trim.E)]) mixed (hT_cons natural_trim_t.H (hT_cons natural_trim.H hT_nil)) Try.func60 (c := Try.f60.body.getD .skip) (by kernel_rfl) (by kernel_rfl) natural_Cmp.E natural_Cmp.L (by decide) (by exact ⟨trivial, ⟨trivial, ⟨⟨trivial, ⟨⟨⟨trivial, ⟨⟨trivial, trivial⟩, trivial⟩⟩, ⟨trivial, trivial⟩⟩, trivial⟩⟩, ⟨⟨trivial, ⟨fun le h => by cases h; exact ⟨fun d => by kernel_rfl, fun k d => by kernel_rfl⟩, ⟨⟨trivial, ⟨trivial, trivial⟩⟩, ⟨⟨trivial, ⟨⟨⟨trivial, ⟨⟨trivial, trivial⟩, trivial⟩⟩, ⟨trivial, trivial⟩⟩, trivial⟩⟩, trivial⟩⟩⟩⟩, ⟨trivial, trivial⟩⟩⟩⟩⟩) (fun k x => by kernel_rfl)
def natural_small.sk0 : Sk := ⟨1, [(0, .one (.c (.sl (.one (.int .u32))))), (1, .one (.c (.int .u32))), (6, .one (.own 0)), (7, .one (.c (.int .u64))), (8, .one (.c (.int .i64)))], [(0, .row 75 (.one (.int .u32)) false)]⟩
def natural_small.E : Ent := ⟨[.data false (.one (.sl (.one (.int .u32)))), .data false (.one (.int .u32))], [⟨false, (.one (.sl (.one (.int .u32)))), some 75⟩, ⟨false, (.one (.int .u32)), none⟩], fun k x => natural_small.f k x.1 x.2.1⟩
def natural_small.L : List (Nat × LoopE (ResD natural_small.E.rs)) := [(5, ⟨natural_small.sk0, fun k d => natural_small.l0 k d.1.1 d.1.2.1 d.1.2.2.2.1 d.1.2.2.2.2.1 d.2.1⟩)]
theorem natural_small.H : HM Try.prog 83 natural_small.E :=
  hm_of (T := [(79, natural_trim_t.E), (79, natural_trim.E)]) mixed (hT_cons natural_trim_t.H (hT_cons natural_trim.H hT_nil)) Try.func83 (c := Try.f83.body.getD .skip) (by kernel_rfl) (by kernel_rfl) natural_small.E natural_small.L (by decide) (by exact ⟨trivial, ⟨trivial, ⟨trivial, ⟨⟨trivial, ⟨fun le h => by cases h; exact ⟨fun d => by kernel_rfl, fun k d => by kernel_rfl⟩, ⟨⟨trivial, ⟨trivial, trivial⟩⟩, ⟨⟨trivial, ⟨trivial, trivial⟩⟩, trivial⟩⟩⟩⟩, ⟨trivial, trivial⟩⟩⟩⟩⟩) (fun k x => by kernel_rfl)
def bits_Len32.E : Ent := ⟨[.data false (.one (.int .u32))], [⟨false, (.one (.int .i64)), none⟩], fun _ x => bits_Len32.f x.1⟩
def bits_Len32.L : List (Nat × LoopE (ResD bits_Len32.E.rs)) := []
theorem bits_Len32.H : HM Try.prog 90 bits_Len32.E :=
  hm_of (T := []) mixed hT_nil Try.func90 (c := Try.f90.body.getD .skip) (by kernel_rfl) (by kernel_rfl) bits_Len32.E bits_Len32.L (by decide) (by exact ⟨trivial, ⟨⟨trivial, ⟨⟨trivial, trivial⟩, trivial⟩⟩, ⟨⟨trivial, ⟨⟨trivial, trivial⟩, trivial⟩⟩, ⟨trivial, trivial⟩⟩⟩⟩) (fun k x => by kernel_rfl)
def natural_size.E : Ent := ⟨[.data false (.one (.sl (.one (.int .u32))))], [⟨false, (.one (.int .i64)), none⟩], fun k x => natural_size.f k x.1⟩
def natural_size.L : List (Nat × LoopE (ResD natural_size.E.rs)) := []
theorem natural_size.H : HM Try.prog 84 natural_size.E :=
  hm_of (T := [(79, natural_trim_t.E), (79, natural_trim.E), (90, bits_Len32.E)]) mixed (hT_cons natural_trim_t.H (hT_cons natural_trim.H (hT_cons bits_Len32.H hT_nil))) Try.func84 (c := Try.f84.body.getD .skip) (by kernel_rfl) (by kernel_rfl) natural_size.E natural_size.L (by decide) (by exact ⟨trivial, ⟨trivial, ⟨⟨trivial, ⟨⟨trivial, trivial⟩, trivial⟩⟩, ⟨trivial, trivial⟩⟩⟩⟩) (fun k x => by kernel_rfl)
def natural_less.sk0 : Sk := ⟨1, [(0, .one (.own 0)), (1, .one (.c (.sl (.one (.int .u32))))), (5, .one (.c (.int .u64))), (9, .one (.c (.int .i64))), (10, .one (.c (.int .i64)))], [(0, .row 75 (.one (.int .u32)) false)]⟩
def natural_less.E : Ent := ⟨[.take 75 (.one (.int .u32)), .data false (.one (.sl (.one (.int .u32))))], [⟨false, (.one (.sl (.one (.int .u32)))), some 75⟩], fun k x => natural_less.f k x.1 x.2.1⟩
def natural_less.L : List (Nat × LoopE (ResD natural_less.E.rs)) := [(4, ⟨natural_less.sk0, fun k d => natural_less.l0 k d.1.2.1 d.1.2.2.1 d.1.2.2.2.1 d.1.2.2.2.2.1 d.2.1⟩)]
theorem natural_less.H : HM Try.prog 85 natural_less.E :=
  hm_of (T := [(79, natural_trim_t.E), (79, natural_trim.E)]) mixed (hT_cons natural_trim_t.H (hT_cons natural_trim.H hT_nil)) Try.func85 (c := Try.f85.body.getD .skip) (by kernel_rfl) (by kernel_rfl) natural_less.E natural_less.L (by decide) (by exact ⟨trivial, ⟨trivial, ⟨⟨trivial, ⟨fun le h => by cases h; exact ⟨fun d => by kernel_rfl, fun k d => by kernel_rfl⟩, ⟨trivial, ⟨⟨trivial, trivial⟩, ⟨⟨trivial, ⟨trivial, ⟨⟨trivial, ⟨trivial, trivial⟩⟩, ⟨trivial, trivial⟩⟩⟩⟩, trivial⟩⟩⟩⟩⟩, ⟨trivial, trivial⟩⟩⟩⟩) (fun k x => by kernel_rfl)
def natural_DivMod.sk0 : Sk := ⟨2, [(0, .one (.c (.sl (.one (.int .u32))))), (1, .one (.c (.sl (.one (.int .u32))))), (9, .one (.own 0)), (10, .one (.own 1)), (11, .one (.c (.int .i64)))], [(0, .row 75 (.one (.int .u32)) false), (1, .row 75 (.one (.int .u32)) false)]⟩
def natural_DivMod.sk1 : Sk := ⟨2, [(0, .one (.c (.sl (.one (.int .u32))))), (1, .one (.c (.sl (.one (.int .u32))))), (9, .one (.own 0)), (10, .one (.own 1)), (11, .one (.c (.int .i64))), (12, .one (.c (.int .u32))), (70, .one (.c (.int .i64))), (71, .one (.c (.int .i64)))], [(0, .row 75 (.one (.int .u32)) false), (1, .row 75 (.one (.int .u32)) false)]⟩
def natural_DivMod.E : Ent := ⟨[.data false (.one (.sl (.one (.int .u32)))), .data false (.one (.sl (.one (.int .u32))))], [⟨false, (.one (.sl (.one (.int .u32)))), some 75⟩, ⟨false, (.one (.sl (.one (.int .u32)))), some 75⟩, ⟨false, (.one .bool), none⟩], fun k x => natural_DivMod.f k x.1 x.2.1⟩
def natural_DivMod.L : List (Nat × LoopE (ResD natural_DivMod.E.rs)) := [(13, ⟨natural_DivMod.sk0, fun k d => natural_DivMod.l0 k d.1.1 d.1.2.1 d.1.2.2.2.2.1 d.2.1 d.2.2.1⟩), (17, ⟨natural_DivMod.sk1, fun k d => natural_DivMod.l1 k d.1.1 d.1.2.1 d.1.2.2.2.2.1 d.1.2.2.2.2.2.1 d.1.2.2.2.2.2.2.1 d.1.2.2.2.2.2.2.2.1 d.2.1 d.2.2.1⟩)]
theorem natural_DivMod.H : HM Try.prog 70 natural_DivMod.E :=
  hm_of (T := [(79, natural_trim_t.E), (79, natural_trim.E), (67, natural_Norm.E), (68, natural_Of.E), (60, natural_Cmp.E), (83, natural_small.E), (84, natural_size.E), (85, natural_less.E)]) mixed (hT_cons natural_trim_t.H (hT_cons natural_trim.H (hT_cons natural_Norm.H (hT_cons natural_Of.H (hT_cons natural_Cmp.H (hT_cons natural_small.H (hT_cons natural_size.H (hT_cons natural_less.H hT_nil)))))))) Try.func70 (c := Try.f70.body.getD .skip) (by kernel_rfl) (by kernel_rfl) natural_DivMod.E natural_DivMod.L (by decide) (by exact ⟨trivial, ⟨trivial, ⟨⟨trivial, ⟨⟨trivial, trivial⟩, ⟨trivial, ⟨⟨trivial, trivial⟩, ⟨trivial, ⟨⟨trivial, ⟨trivial, trivial⟩⟩, trivial⟩⟩⟩⟩⟩⟩, ⟨trivial, ⟨trivial, ⟨⟨trivial, ⟨fun le h => by cases h; exact ⟨fun d => by kernel_rfl, fun k d => by kernel_rfl⟩, ⟨⟨trivial, ⟨trivial, trivial⟩⟩, ⟨⟨trivial, ⟨⟨trivial, ⟨fun le h => by cases h; exact ⟨fun d => by kernel_rfl, fun k d => by kernel_rfl⟩, ⟨trivial, ⟨⟨trivial, trivial⟩, ⟨⟨trivial, ⟨trivial, ⟨trivial, trivial⟩⟩⟩, trivial⟩⟩⟩⟩⟩, ⟨⟨trivial, ⟨trivial, trivial⟩⟩, ⟨trivial, ⟨⟨trivial, trivial⟩, trivial⟩⟩⟩⟩⟩, trivial⟩⟩⟩⟩, ⟨trivial, trivial⟩⟩⟩⟩⟩⟩⟩) (fun k x => by kernel_rfl)
def natural_Gcd.sk0 : Sk := ⟨2, [(0, .one (.own 0)), (1, .one (.own 1))], [(0, .row 75 (.one (.int .u32)) false), (1, .row 75 (.one (.int .u32)) false)]⟩
def natural_Gcd.E : Ent := ⟨[.data false (.one (.sl (.one (.int .u32)))), .data false (.one (.sl (.one (.int .u32))))], [⟨false, (.one (.sl (.one (.int .u32)))), some 75⟩], fun k x => natural_Gcd.f k x.1 x.2.1⟩
def natural_Gcd.L : List (Nat × LoopE (ResD natural_Gcd.E.rs)) := [(3, ⟨natural_Gcd.sk0, fun k d => natural_Gcd.l0 k d.2.1 d.2.2.1⟩)]
theorem natural_Gcd.H : HM Try.prog 69 natural_Gcd.E :=
  hm_of (T := [(67, natural_Norm.E), (70, natural_DivMod.E)]) mixed (hT_cons natural_Norm.H (hT_cons natural_DivMod.H hT_nil)) Try.func69 (c := Try.f69.body.getD .skip) (by kernel_rfl) (by kernel_rfl) natural_Gcd.E natural_Gcd.L (by decide) (by exact ⟨trivial, ⟨trivial, ⟨⟨fun le h => by cases h; exact ⟨fun d => by kernel_rfl, fun k d => by kernel_rfl⟩, ⟨⟨trivial, ⟨trivial, trivial⟩⟩, ⟨trivial, trivial⟩⟩⟩, ⟨trivial, trivial⟩⟩⟩⟩) (fun k x => by kernel_rfl)
def ratio_quotient.E : Ent := ⟨[.data true (.cons .bool (.one (.sl (.one (.int .u32))))), .data false (.one (.sl (.one (.int .u32))))], [⟨true, (.cons .bool (.cons (.sl (.one (.int .u32))) (.one (.sl (.one (.int .u32)))))), none⟩], fun k x => ratio_quotient.f k x.1 x.2.1⟩
def ratio_quotient.L : List (Nat × LoopE (ResD ratio_quotient.E.rs)) := []
theorem ratio_quotient.H : HM Try.prog 52 ratio_quotient.E :=
  hm_of (T := [(67, natural_Norm.E), (66, integer_Norm.E), (68, natural_Of.E), (70, natural_DivMod.E), (69, natural_Gcd.E)]) mixed (hT_cons natural_Norm.H (hT_cons integer_Norm.H (hT_cons natural_Of.H (hT_cons natural_DivMod.H (hT_cons natural_Gcd.H hT_nil))))) Try.func52 (c := Try.f52.body.getD .skip) (by kernel_rfl) (by kernel_rfl) ratio_quotient.E ratio_quotient.L (by decide) (by exact ⟨trivial, ⟨trivial, ⟨⟨trivial, ⟨⟨trivial, trivial⟩, trivial⟩⟩, ⟨trivial, ⟨trivial, ⟨trivial, ⟨trivial, trivial⟩⟩⟩⟩⟩⟩⟩) (fun k x => by kernel_rfl)
def ratio_Norm.E : Ent := ⟨[.data true (.cons .bool (.cons (.sl (.one (.int .u32))) (.one (.sl (.one (.int .u32))))))], [⟨true, (.cons .bool (.cons (.sl (.one (.int .u32))) (.one (.sl (.one (.int .u32)))))), none⟩], fun k x => ratio_Norm.f k x.1⟩
def ratio_Norm.L : List (Nat × LoopE (ResD ratio_Norm.E.rs)) := []
theorem ratio_Norm.H : HM Try.prog 39 ratio_Norm.E :=
  hm_of (T := [(52, ratio_quotient.E)]) mixed (hT_cons ratio_quotient.H hT_nil) Try.func39 (c := Try.f39.body.getD .skip) (by kernel_rfl) (by kernel_rfl) ratio_Norm.E ratio_Norm.L (by decide) (by exact ⟨trivial, ⟨trivial, trivial⟩⟩) (fun k x => by kernel_rfl)
def integer_Neg.E : Ent := ⟨[.data true (.cons .bool (.one (.sl (.one (.int .u32)))))], [⟨true, (.cons .bool (.one (.sl (.one (.int .u32))))), none⟩], fun k x => integer_Neg.f k x.1⟩
def integer_Neg.L : List (Nat × LoopE (ResD integer_Neg.E.rs)) := []
theorem integer_Neg.H : HM Try.prog 53 integer_Neg.E :=
  hm_of (T := [(61, integer_signed.E)]) mixed (hT_cons integer_signed.H hT_nil) Try.func53 (c := Try.f53.body.getD .skip) (by kernel_rfl) (by kernel_rfl) integer_Neg.E integer_Neg.L (by decide) (by exact ⟨trivial, ⟨trivial, trivial⟩⟩) (fun k x => by kernel_rfl)
def ratio_Neg.E : Ent := ⟨[.data true (.cons .bool (.cons (.sl (.one (.int .u32))) (.one (.sl (.one (.int .u32))))))], [⟨true, (.cons .bool (.cons (.sl (.one (.int .u32))) (.one (.sl (.one (.int .u32)))))), none⟩], fun k x => ratio_Neg.f k x.1⟩
def ratio_Neg.L : List (Nat × LoopE (ResD ratio_Neg.E.rs)) := []
theorem ratio_Neg.H : HM Try.prog 40 ratio_Neg.E :=
  hm_of (T := [(39, ratio_Norm.E), (53, integer_Neg.E)]) mixed (hT_cons ratio_Norm.H (hT_cons integer_Neg.H hT_nil)) Try.func40 (c := Try.f40.body.getD .skip) (by kernel_rfl) (by kernel_rfl) ratio_Neg.E ratio_Neg.L (by decide) (by exact ⟨trivial, ⟨trivial, ⟨trivial, ⟨trivial, trivial⟩⟩⟩⟩) (fun k x => by kernel_rfl)
def turn_Point.sk0 : Sk := ⟨3, [(4, .one (.ptr 0 0)), (5, .one (.ptr 1 0)), (6, .one (.ptr 2 0)), (19, .one (.c (.int .i64))), (20, .one (.c (.int .i64)))], [(0, .box 38 [.c .bool, .val (.slice none 0 0), .val (.slice none 0 0), .c .bool, .val (.slice none 0 0), .val (.slice none 0 0)]), (1, .box 36 [.c .bool, .c (.sl (.one (.int .u32))), .c (.sl (.one (.int .u32)))]), (2, .box 36 [.c .bool, .c (.sl (.one (.int .u32))), .c (.sl (.one (.int .u32)))])]⟩
def turn_Point.E : Ent := ⟨[.data true (.cons .bool (.one (.int .i64))), .data true (.cons .bool (.cons (.sl (.one (.int .u32))) (.cons (.sl (.one (.int .u32))) (.cons .bool (.cons (.sl (.one (.int .u32))) (.one (.sl (.one (.int .u32)))))))))], [⟨true, (.cons .bool (.cons (.sl (.one (.int .u32))) (.cons (.sl (.one (.int .u32))) (.cons .bool (.cons (.sl (.one (.int .u32))) (.one (.sl (.one (.int .u32))))))))), none⟩], fun k x => turn_Point.f k x.1 x.2.1⟩
def turn_Point.L : List (Nat × LoopE (ResD turn_Point.E.rs)) := [(6, ⟨turn_Point.sk0, fun k d => turn_Point.l0 k d.1.2.2.2.1 d.1.2.2.2.2.1 d.2.1.1 d.2.1.2.2.2.1 d.2.2.1.1 d.2.2.1.2.1 d.2.2.1.2.2.1 d.2.2.2.1.1 d.2.2.2.1.2.1 d.2.2.2.1.2.2.1⟩)]
theorem turn_Point.H : HM Try.prog 23 turn_Point.E :=
  hm_of (T := [(39, ratio_Norm.E), (40, ratio_Neg.E)]) mixed (hT_cons ratio_Norm.H (hT_cons ratio_Neg.H hT_nil)) Try.func23 (c := Try.f23.body.getD .skip) (by kernel_rfl) (by kernel_rfl) turn_Point.E turn_Point.L (by decide) (by exact ⟨trivial, ⟨trivial, ⟨⟨trivial, ⟨trivial, trivial⟩⟩, ⟨⟨trivial, ⟨fun le h => by cases h; exact ⟨fun d => by kernel_rfl, fun k d => by kernel_rfl⟩, ⟨trivial, ⟨⟨trivial, trivial⟩, ⟨trivial, trivial⟩⟩⟩⟩⟩, ⟨trivial, trivial⟩⟩⟩⟩⟩) (fun k x => by kernel_rfl)
def ref12_SameSpots.sk0 : Sk := ⟨0, [(0, .one (.c (.sl (.cons (.int .i64) (.one (.int .i64)))))), (1, .one (.c (.sl (.cons (.int .i64) (.one (.int .i64)))))), (5, .one (.c (.int .i64)))], []⟩
def ref12_SameSpots.E : Ent := ⟨[.data false (.one (.sl (.cons (.int .i64) (.one (.int .i64))))), .data false (.one (.sl (.cons (.int .i64) (.one (.int .i64)))))], [⟨false, (.one .bool), none⟩], fun k x => ref12_SameSpots.f k x.1 x.2.1⟩
def ref12_SameSpots.L : List (Nat × LoopE (ResD ref12_SameSpots.E.rs)) := [(5, ⟨ref12_SameSpots.sk0, fun k d => ref12_SameSpots.l0 k d.1.1 d.1.2.1 d.1.2.2.1⟩)]
theorem ref12_SameSpots.H : HM Try.prog 26 ref12_SameSpots.E :=
  hm_of (T := []) mixed hT_nil Try.func26 (c := Try.f26.body.getD .skip) (by kernel_rfl) (by kernel_rfl) ref12_SameSpots.E ref12_SameSpots.L (by decide) (by exact ⟨trivial, ⟨⟨trivial, ⟨⟨trivial, trivial⟩, trivial⟩⟩, ⟨⟨trivial, ⟨fun le h => by cases h; exact ⟨fun d => by kernel_rfl, fun k d => by kernel_rfl⟩, ⟨⟨trivial, ⟨trivial, trivial⟩⟩, ⟨⟨trivial, ⟨⟨trivial, trivial⟩, trivial⟩⟩, trivial⟩⟩⟩⟩, ⟨trivial, trivial⟩⟩⟩⟩) (fun k x => by kernel_rfl)
def turn_Poly.sk0 : Sk := ⟨2, [(1, .one (.c (.sl (.cons (.int .i64) (.one (.int .i64)))))), (2, .one (.ptr 0 0)), (5, .one (.own 1)), (12, .one (.c (.sl (.cons (.int .i64) (.one (.int .i64)))))), (13, .one (.c (.int .i64))), (14, .one (.c (.int .i64)))], [(0, .box 23 [.c .bool, .c (.int .i64)]), (1, .row 25 (.cons (.int .i64) (.one (.int .i64))) false)]⟩
def turn_Poly.E : Ent := ⟨[.data true (.cons .bool (.one (.int .i64))), .data false (.one (.sl (.cons (.int .i64) (.one (.int .i64)))))], [⟨false, (.one (.sl (.cons (.int .i64) (.one (.int .i64))))), some 25⟩], fun k x => turn_Poly.f k x.1 x.2.1⟩
def turn_Poly.L : List (Nat × LoopE (ResD turn_Poly.E.rs)) := [(4, ⟨turn_Poly.sk0, fun k d => turn_Poly.l0 k d.1.1 d.1.2.2.2.1 d.1.2.2.2.2.1 d.1.2.2.2.2.2.1 d.2.1.1 d.2.1.2.1 d.2.2.1⟩)]
theorem turn_Poly.H : HM Try.prog 27 turn_Poly.E :=
  hm_of (T := [(15, turn_Apply.E)]) mixed (hT_cons turn_Apply.H hT_nil) Try.func27 (c := Try.f27.body.getD .skip) (by kernel_rfl) (by kernel_rfl) turn_Poly.E turn_Poly.L (by decide) (by exact ⟨trivial, ⟨trivial, ⟨⟨trivial, ⟨fun le h => by cases h; exact ⟨fun d => by kernel_rfl, fun k d => by kernel_rfl⟩, ⟨trivial, ⟨⟨trivial, trivial⟩, ⟨⟨trivial, ⟨trivial, ⟨⟨trivial, ⟨trivial, trivial⟩⟩, trivial⟩⟩⟩, trivial⟩⟩⟩⟩⟩, ⟨trivial, trivial⟩⟩⟩⟩) (fun k x => by kernel_rfl)
def turn_Allowed.E : Ent := ⟨[.data false (.one (.int .i64)), .data false (.one .bool), .data true (.cons .bool (.one (.int .i64)))], [⟨false, (.one .bool), none⟩], fun _ x => turn_Allowed.f x.1 x.2.1 x.2.2.1⟩
def turn_Allowed.L : List (Nat × LoopE (ResD turn_Allowed.E.rs)) := []
theorem turn_Allowed.H : HM Try.prog 31 turn_Allowed.E :=
  hm_of (T := []) mixed hT_nil Try.func31 (c := Try.f31.body.getD .skip) (by kernel_rfl) (by kernel_rfl) turn_Allowed.E turn_Allowed.L (by decide) (by exact ⟨trivial, ⟨trivial, ⟨⟨trivial, ⟨⟨trivial, trivial⟩, ⟨trivial, ⟨⟨trivial, trivial⟩, ⟨trivial, ⟨⟨trivial, trivial⟩, trivial⟩⟩⟩⟩⟩⟩, ⟨trivial, trivial⟩⟩⟩⟩) (fun k x => by kernel_rfl)
def turn_All.sk0 : Sk := ⟨1, [(0, .one (.c (.int .i64))), (1, .one (.c .bool)), (5, .one (.own 0)), (8, .one (.c (.int .i64)))], [(0, .row 23 (.cons .bool (.one (.int .i64))) false)]⟩
def turn_All.E : Ent := ⟨[.data false (.one (.int .i64)), .data false (.one .bool)], [⟨false, (.one (.sl (.cons .bool (.one (.int .i64))))), some 23⟩], fun k x => turn_All.f k x.1 x.2.1⟩
def turn_All.L : List (Nat × LoopE (ResD turn_All.E.rs)) := [(4, ⟨turn_All.sk0, fun k d => turn_All.l0 k d.1.1 d.1.2.1 d.1.2.2.2.1 d.2.1⟩)]
theorem turn_All.H : HM Try.prog 29 turn_All.E :=
  hm_of (T := [(31, turn_Allowed.E)]) mixed (hT_cons turn_Allowed.H hT_nil) Try.func29 (c := Try.f29.body.getD .skip) (by kernel_rfl) (by kernel_rfl) turn_All.E turn_All.L (by decide) (by exact ⟨trivial, ⟨trivial, ⟨⟨trivial, ⟨fun le h => by cases h; exact ⟨fun d => by kernel_rfl, fun k d => by kernel_rfl⟩, ⟨trivial, ⟨⟨trivial, trivial⟩, ⟨⟨trivial, ⟨trivial, ⟨trivial, ⟨trivial, trivial⟩⟩⟩⟩, trivial⟩⟩⟩⟩⟩, ⟨trivial, trivial⟩⟩⟩⟩) (fun k x => by kernel_rfl)
def integer_Of.E : Ent := ⟨[.data false (.one (.int .i64))], [⟨true, (.cons .bool (.one (.sl (.one (.int .u32))))), none⟩], fun k x => integer_Of.f k x.1⟩
def integer_Of.L : List (Nat × LoopE (ResD integer_Of.E.rs)) := []
theorem integer_Of.H : HM Try.prog 78 integer_Of.E :=
  hm_of (T := [(61, integer_signed.E), (68, natural_Of.E)]) mixed (hT_cons integer_signed.H (hT_cons natural_Of.H hT_nil)) Try.func78 (c := Try.f78.body.getD .skip) (by kernel_rfl) (by kernel_rfl) integer_Of.E integer_Of.L (by decide) (by exact ⟨trivial, ⟨trivial, ⟨⟨trivial, ⟨trivial, trivial⟩⟩, ⟨trivial, trivial⟩⟩⟩⟩) (fun k x => by kernel_rfl)
def ratio_Of.E : Ent := ⟨[.data false (.one (.int .i64)), .data false (.one (.int .i64))], [⟨true, (.cons .bool (.cons (.sl (.one (.int .u32))) (.one (.sl (.one (.int .u32)))))), none⟩, ⟨false, (.one .bool), none⟩], fun k x => ratio_Of.f k x.1 x.2.1⟩
def ratio_Of.L : List (Nat × LoopE (ResD ratio_Of.E.rs)) := []
theorem ratio_Of.H : HM Try.prog 58 ratio_Of.E :=
  hm_of (T := [(52, ratio_quotient.E), (53, integer_Neg.E), (78, integer_Of.E)]) mixed (hT_cons ratio_quotient.H (hT_cons integer_Neg.H (hT_cons integer_Of.H hT_nil))) Try.func58 (c := Try.f58.body.getD .skip) (by kernel_rfl) (by kernel_rfl) ratio_Of.E ratio_Of.L (by decide) (by exact ⟨trivial, ⟨⟨trivial, ⟨⟨trivial, trivial⟩, trivial⟩⟩, ⟨trivial, ⟨⟨trivial, ⟨trivial, trivial⟩⟩, ⟨trivial, trivial⟩⟩⟩⟩⟩) (fun k x => by kernel_rfl)
def point_whole.E : Ent := ⟨[.data false (.one (.int .i64))], [⟨true, (.cons .bool (.cons (.sl (.one (.int .u32))) (.one (.sl (.one (.int .u32)))))), none⟩], fun k x => point_whole.f k x.1⟩
def point_whole.L : List (Nat × LoopE (ResD point_whole.E.rs)) := []
theorem point_whole.H : HM Try.prog 45 point_whole.E :=
  hm_of (T := [(58, ratio_Of.E)]) mixed (hT_cons ratio_Of.H hT_nil) Try.func45 (c := Try.f45.body.getD .skip) (by kernel_rfl) (by kernel_rfl) point_whole.E point_whole.L (by decide) (by exact ⟨trivial, ⟨trivial, ⟨trivial, trivial⟩⟩⟩) (fun k x => by kernel_rfl)
def point_Of.E : Ent := ⟨[.data false (.one (.int .i64)), .data false (.one (.int .i64))], [⟨true, (.cons .bool (.cons (.sl (.one (.int .u32))) (.cons (.sl (.one (.int .u32))) (.cons .bool (.cons (.sl (.one (.int .u32))) (.one (.sl (.one (.int .u32))))))))), none⟩], fun k x => point_Of.f k x.1 x.2.1⟩
def point_Of.L : List (Nat × LoopE (ResD point_Of.E.rs)) := []
theorem point_Of.H : HM Try.prog 34 point_Of.E :=
  hm_of (T := [(45, point_whole.E)]) mixed (hT_cons point_whole.H hT_nil) Try.func34 (c := Try.f34.body.getD .skip) (by kernel_rfl) (by kernel_rfl) point_Of.E point_Of.L (by decide) (by exact ⟨trivial, ⟨trivial, trivial⟩⟩) (fun k x => by kernel_rfl)
def integer_sign.E : Ent := ⟨[.data true (.cons .bool (.one (.sl (.one (.int .u32)))))], [⟨false, (.one (.int .i64)), none⟩], fun k x => integer_sign.f k x.1⟩
def integer_sign.L : List (Nat × LoopE (ResD integer_sign.E.rs)) := []
theorem integer_sign.H : HM Try.prog 59 integer_sign.E :=
  hm_of (T := [(67, natural_Norm.E)]) mixed (hT_cons natural_Norm.H hT_nil) Try.func59 (c := Try.f59.body.getD .skip) (by kernel_rfl) (by kernel_rfl) integer_sign.E integer_sign.L (by decide) (by exact ⟨trivial, ⟨⟨trivial, ⟨⟨trivial, trivial⟩, ⟨trivial, ⟨⟨trivial, trivial⟩, trivial⟩⟩⟩⟩, ⟨trivial, trivial⟩⟩⟩) (fun k x => by kernel_rfl)
def integer_Cmp.E : Ent := ⟨[.data true (.cons .bool (.one (.sl (.one (.int .u32))))), .data true (.cons .bool (.one (.sl (.one (.int .u32)))))], [⟨false, (.one (.int .i64)), none⟩], fun k x => integer_Cmp.f k x.1 x.2.1⟩
def integer_Cmp.L : List (Nat × LoopE (ResD integer_Cmp.E.rs)) := []
theorem integer_Cmp.H : HM Try.prog 46 integer_Cmp.E :=
  hm_of (T := [(60, natural_Cmp.E), (59, integer_sign.E)]) mixed (hT_cons natural_Cmp.H (hT_cons integer_sign.H hT_nil)) Try.func46 (c := Try.f46.body.getD .skip) (by kernel_rfl) (by kernel_rfl) integer_Cmp.E integer_Cmp.L (by decide) (by exact ⟨trivial, ⟨trivial, ⟨⟨trivial, ⟨⟨⟨trivial, ⟨⟨trivial, trivial⟩, trivial⟩⟩, ⟨trivial, trivial⟩⟩, trivial⟩⟩, ⟨trivial, trivial⟩⟩⟩⟩) (fun k x => by kernel_rfl)
def natural_Mul.sk0 : Sk := ⟨1, [(0, .one (.c (.sl (.one (.int .u32))))), (1, .one (.c (.sl (.one (.int .u32))))), (5, .one (.own 0)), (20, .one (.c (.int .i64))), (21, .one (.c (.int .i64)))], [(0, .row 75 (.one (.int .u32)) false)]⟩
def natural_Mul.sk1 : Sk := ⟨1, [(0, .one (.c (.sl (.one (.int .u32))))), (1, .one (.c (.sl (.one (.int .u32))))), (5, .one (.own 0)), (6, .one (.c (.int .i64))), (7, .one (.c (.int .u64))), (20, .one (.c (.int .i64))), (21, .one (.c (.int .i64))), (25, .one (.c (.int .i64))), (26, .one (.c (.int .i64)))], [(0, .row 75 (.one (.int .u32)) false)]⟩
def natural_Mul.E : Ent := ⟨[.data false (.one (.sl (.one (.int .u32)))), .data false (.one (.sl (.one (.int .u32))))], [⟨false, (.one (.sl (.one (.int .u32)))), some 75⟩], fun k x => natural_Mul.f k x.1 x.2.1⟩
def natural_Mul.L : List (Nat × LoopE (ResD natural_Mul.E.rs)) := [(5, ⟨natural_Mul.sk0, fun k d => natural_Mul.l0 k d.1.1 d.1.2.1 d.1.2.2.2.1 d.1.2.2.2.2.1 d.2.1⟩), (9, ⟨natural_Mul.sk1, fun k d => natural_Mul.l1 k d.1.1 d.1.2.1 d.1.2.2.2.1 d.1.2.2.2.2.1 d.1.2.2.2.2.2.1 d.1.2.2.2.2.2.2.1 d.1.2.2.2.2.2.2.2.1 d.1.2.2.2.2.2.2.2.2.1 d.2.1⟩)]
theorem natural_Mul.H : HM Try.prog 62 natural_Mul.E :=
  hm_of (T := [(79, natural_trim_t.E), (79, natural_trim.E)]) mixed (hT_cons natural_trim_t.H (hT_cons natural_trim.H hT_nil)) Try.func62 (c := Try.f62.body.getD .skip) (by kernel_rfl) (by kernel_rfl) natural_Mul.E natural_Mul.L (by decide) (by exact ⟨trivial, ⟨trivial, ⟨trivial, ⟨⟨trivial, ⟨fun le h => by cases h; exact ⟨fun d => by kernel_rfl, fun k d => by kernel_rfl⟩, ⟨trivial, ⟨⟨trivial, trivial⟩, ⟨⟨trivial, ⟨trivial, ⟨⟨trivial, ⟨fun le h => by cases h; exact ⟨fun d => by kernel_rfl, fun k d => by kernel_rfl⟩, ⟨trivial, ⟨⟨trivial, trivial⟩, ⟨⟨trivial, ⟨trivial, ⟨trivial, trivial⟩⟩⟩, trivial⟩⟩⟩⟩⟩, trivial⟩⟩⟩, trivial⟩⟩⟩⟩⟩, ⟨trivial, trivial⟩⟩⟩⟩⟩) (fun k x => by kernel_rfl)
def integer_Mul.E : Ent := ⟨[.data true (.cons .bool (.one (.sl (.one (.int .u32))))), .data true (.cons .bool (.one (.sl (.one (.int .u32)))))], [⟨true, (.cons .bool (.one (.sl (.one (.int .u32))))), none⟩], fun k x => integer_Mul.f k x.1 x.2.1⟩
def integer_Mul.L : List (Nat × LoopE (ResD integer_Mul.E.rs)) := []
theorem integer_Mul.H : HM Try.prog 47 integer_Mul.E :=
  hm_of (T := [(61, integer_signed.E), (62, natural_Mul.E)]) mixed (hT_cons integer_signed.H (hT_cons natural_Mul.H hT_nil)) Try.func47 (c := Try.f47.body.getD .skip) (by kernel_rfl) (by kernel_rfl) integer_Mul.E integer_Mul.L (by decide) (by exact ⟨trivial, ⟨trivial, trivial⟩⟩) (fun k x => by kernel_rfl)
def ratio_whole.E : Ent := ⟨[.data false (.one (.sl (.one (.int .u32))))], [⟨true, (.cons .bool (.one (.sl (.one (.int .u32))))), none⟩], fun _ x => ratio_whole.f x.1⟩
def ratio_whole.L : List (Nat × LoopE (ResD ratio_whole.E.rs)) := []
theorem ratio_whole.H : HM Try.prog 48 ratio_whole.E :=
  hm_of (T := []) mixed hT_nil Try.func48 (c := Try.f48.body.getD .skip) (by kernel_rfl) (by kernel_rfl) ratio_whole.E ratio_whole.L (by decide) (by exact ⟨trivial, ⟨trivial, trivial⟩⟩) (fun k x => by kernel_rfl)
def ratio_Cmp.E : Ent := ⟨[.data true (.cons .bool (.cons (.sl (.one (.int .u32))) (.one (.sl (.one (.int .u32)))))), .data true (.cons .bool (.cons (.sl (.one (.int .u32))) (.one (.sl (.one (.int .u32))))))], [⟨false, (.one (.int .i64)), none⟩], fun k x => ratio_Cmp.f k x.1 x.2.1⟩
def ratio_Cmp.L : List (Nat × LoopE (ResD ratio_Cmp.E.rs)) := []
theorem ratio_Cmp.H : HM Try.prog 36 ratio_Cmp.E :=
  hm_of (T := [(39, ratio_Norm.E), (46, integer_Cmp.E), (47, integer_Mul.E), (48, ratio_whole.E)]) mixed (hT_cons ratio_Norm.H (hT_cons integer_Cmp.H (hT_cons integer_Mul.H (hT_cons ratio_whole.H hT_nil)))) Try.func36 (c := Try.f36.body.getD .skip) (by kernel_rfl) (by kernel_rfl) ratio_Cmp.E ratio_Cmp.L (by decide) (by exact ⟨trivial, ⟨trivial, ⟨trivial, trivial⟩⟩⟩) (fun k x => by kernel_rfl)
def point_Same.E : Ent := ⟨[.data true (.cons .bool (.cons (.sl (.one (.int .u32))) (.cons (.sl (.one (.int .u32))) (.cons .bool (.cons (.sl (.one (.int .u32))) (.one (.sl (.one (.int .u32))))))))), .data true (.cons .bool (.cons (.sl (.one (.int .u32))) (.cons (.sl (.one (.int .u32))) (.cons .bool (.cons (.sl (.one (.int .u32))) (.one (.sl (.one (.int .u32)))))))))], [⟨false, (.one .bool), none⟩], fun k x => point_Same.f k x.1 x.2.1⟩
def point_Same.L : List (Nat × LoopE (ResD point_Same.E.rs)) := []
theorem point_Same.H : HM Try.prog 35 point_Same.E :=
  hm_of (T := [(36, ratio_Cmp.E)]) mixed (hT_cons ratio_Cmp.H hT_nil) Try.func35 (c := Try.f35.body.getD .skip) (by kernel_rfl) (by kernel_rfl) point_Same.E point_Same.L (by decide) (by exact ⟨trivial, ⟨trivial, trivial⟩⟩) (fun k x => by kernel_rfl)
def law12_exampleHolds.E : Ent := ⟨[], [⟨false, (.one .bool), none⟩], fun k _ => law12_exampleHolds.f k⟩
def law12_exampleHolds.L : List (Nat × LoopE (ResD law12_exampleHolds.E.rs)) := []
theorem law12_exampleHolds.H : HM Try.prog 21 law12_exampleHolds.E :=
  hm_of (T := [(13, turn_Norm.E), (15, turn_Apply.E), (17, turn_Compose.E), (19, turn_Inverse.E), (23, turn_Point.E), (26, ref12_SameSpots.E), (27, turn_Poly.E), (31, turn_Allowed.E), (29, turn_All.E), (34, point_Of.E), (35, point_Same.E)]) mixed (hT_cons turn_Norm.H (hT_cons turn_Apply.H (hT_cons turn_Compose.H (hT_cons turn_Inverse.H (hT_cons turn_Point.H (hT_cons ref12_SameSpots.H (hT_cons turn_Poly.H (hT_cons turn_Allowed.H (hT_cons turn_All.H (hT_cons point_Of.H (hT_cons point_Same.H hT_nil))))))))))) Try.func21 (c := Try.f21.body.getD .skip) (by kernel_rfl) (by kernel_rfl) law12_exampleHolds.E law12_exampleHolds.L (by decide) (by exact ⟨trivial, ⟨trivial, ⟨trivial, ⟨trivial, ⟨⟨trivial, ⟨⟨trivial, trivial⟩, trivial⟩⟩, ⟨trivial, trivial⟩⟩⟩⟩⟩⟩) (fun k x => by kernel_rfl)
def law12_TurnResults.E : Ent := ⟨[.data true (.cons .bool (.one (.int .i64))), .data true (.cons .bool (.one (.int .i64))), .data true (.cons (.int .i64) (.one (.int .i64)))], [⟨false, (.one .bool), none⟩], fun k x => law12_TurnResults.f k x.1 x.2.1 x.2.2.1⟩
def law12_TurnResults.L : List (Nat × LoopE (ResD law12_TurnResults.E.rs)) := []
theorem law12_TurnResults.H : HM Try.prog 3 law12_TurnResults.E :=
  hm_of (T := [(13, turn_Norm.E), (14, ref12_Norm.E), (15, turn_Apply.E), (16, ref12_Apply.E), (17, turn_Compose.E), (18, ref12_Compose.E), (19, turn_Inverse.E), (20, ref12_Inverse.E), (21, law12_exampleHolds.E)]) mixed (hT_cons turn_Norm.H (hT_cons ref12_Norm.H (hT_cons turn_Apply.H (hT_cons ref12_Apply.H (hT_cons turn_Compose.H (hT_cons ref12_Compose.H (hT_cons turn_Inverse.H (hT_cons ref12_Inverse.H (hT_cons law12_exampleHolds.H hT_nil))))))))) Try.func3 (c := Try.f3.body.getD .skip) (by kernel_rfl) (by kernel_rfl) law12_TurnResults.E law12_TurnResults.L (by decide) (by exact ⟨trivial, ⟨trivial, trivial⟩⟩) (fun k x => by kernel_rfl)
def ref03_Light.E : Ent := ⟨[.data true (.cons .bool (.cons (.sl (.one (.int .u32))) (.one (.sl (.one (.int .u32)))))), .data false (.one (.int .i64))], [⟨false, (.one .bool), none⟩], fun _ x => ref03_Light.f x.1 x.2.1⟩
def ref03_Light.L : List (Nat × LoopE (ResD ref03_Light.E.rs)) := []
theorem ref03_Light.H : HM Try.prog 22 ref03_Light.E :=
  hm_of (T := []) mixed hT_nil Try.func22 (c := Try.f22.body.getD .skip) (by kernel_rfl) (by kernel_rfl) ref03_Light.E ref03_Light.L (by decide) (by exact ⟨trivial, ⟨trivial, trivial⟩⟩) (fun k x => by kernel_rfl)
def ref01_Norm.sk0 : Sk := ⟨0, [(0, .one (.c (.sl (.one (.int .u32))))), (3, .one (.c (.int .i64)))], []⟩
def ref01_Norm.E : Ent := ⟨[.data false (.one (.sl (.one (.int .u32))))], [⟨false, (.one (.sl (.one (.int .u32)))), some 75⟩], fun k x => ref01_Norm.f k x.1⟩
def ref01_Norm.L : List (Nat × LoopE (ResD ref01_Norm.E.rs)) := [(3, ⟨ref01_Norm.sk0, fun k d => ref01_Norm.l0 k d.1.1 d.1.2.1⟩)]
theorem ref01_Norm.H : HM Try.prog 71 ref01_Norm.E :=
  hm_of (T := []) mixed hT_nil Try.func71 (c := Try.f71.body.getD .skip) (by kernel_rfl) (by kernel_rfl) ref01_Norm.E ref01_Norm.L (by decide) (by exact ⟨trivial, ⟨trivial, ⟨⟨fun le h => by cases h; exact ⟨fun d => by kernel_rfl, fun k d => by kernel_rfl⟩, ⟨⟨trivial, ⟨trivial, trivial⟩⟩, trivial⟩⟩, ⟨trivial, ⟨trivial, trivial⟩⟩⟩⟩⟩) (fun k x => by kernel_rfl)
def ref03_Zero.E : Ent := ⟨[.data true (.cons .bool (.cons (.sl (.one (.int .u32))) (.one (.sl (.one (.int .u32))))))], [⟨false, (.one .bool), none⟩], fun k x => ref03_Zero.f k x.1⟩
def ref03_Zero.L : List (Nat × LoopE (ResD ref03_Zero.E.rs)) := []
theorem ref03_Zero.H : HM Try.prog 54 ref03_Zero.E :=
  hm_of (T := [(71, ref01_Norm.E)]) mixed (hT_cons ref01_Norm.H hT_nil) Try.func54 (c := Try.f54.body.getD .skip) (by kernel_rfl) (by kernel_rfl) ref03_Zero.E ref03_Zero.L (by decide) (by exact ⟨trivial, ⟨trivial, trivial⟩⟩) (fun k x => by kernel_rfl)
def ref01_Of.sk0 : Sk := ⟨1, [(0, .one (.c (.int .u64))), (3, .one (.own 0))], [(0, .row 75 (.one (.int .u32)) false)]⟩
def ref01_Of.E : Ent := ⟨[.data false (.one (.int .u64))], [⟨false, (.one (.sl (.one (.int .u32)))), some 75⟩], fun k x => ref01_Of.f k x.1⟩
def ref01_Of.L : List (Nat × LoopE (ResD ref01_Of.E.rs)) := [(3, ⟨ref01_Of.sk0, fun k d => ref01_Of.l0 k d.1.1 d.2.1⟩)]
theorem ref01_Of.H : HM Try.prog 73 ref01_Of.E :=
  hm_of (T := []) mixed hT_nil Try.func73 (c := Try.f73.body.getD .skip) (by kernel_rfl) (by kernel_rfl) ref01_Of.E ref01_Of.L (by decide) (by exact ⟨trivial, ⟨trivial, ⟨⟨fun le h => by cases h; exact ⟨fun d => by kernel_rfl, fun k d => by kernel_rfl⟩, ⟨⟨trivial, ⟨trivial, trivial⟩⟩, ⟨trivial, trivial⟩⟩⟩, ⟨trivial, trivial⟩⟩⟩⟩) (fun k x => by kernel_rfl)
def ref02_Of.E : Ent := ⟨[.data false (.one (.int .i64))], [⟨true, (.cons .bool (.one (.sl (.one (.int .u32))))), none⟩], fun k x => ref02_Of.f k x.1⟩
def ref02_Of.L : List (Nat × LoopE (ResD ref02_Of.E.rs)) := []
theorem ref02_Of.H : HM Try.prog 72 ref02_Of.E :=
  hm_of (T := [(73, ref01_Of.E)]) mixed (hT_cons ref01_Of.H hT_nil) Try.func72 (c := Try.f72.body.getD .skip) (by kernel_rfl) (by kernel_rfl) ref02_Of.E ref02_Of.L (by decide) (by exact ⟨trivial, ⟨⟨trivial, ⟨⟨trivial, trivial⟩, trivial⟩⟩, ⟨trivial, trivial⟩⟩⟩) (fun k x => by kernel_rfl)
def ref03_Whole.E : Ent := ⟨[.data false (.one (.int .i64))], [⟨true, (.cons .bool (.cons (.sl (.one (.int .u32))) (.one (.sl (.one (.int .u32)))))), none⟩], fun k x => ref03_Whole.f k x.1⟩
def ref03_Whole.L : List (Nat × LoopE (ResD ref03_Whole.E.rs)) := []
theorem ref03_Whole.H : HM Try.prog 55 ref03_Whole.E :=
  hm_of (T := [(73, ref01_Of.E), (72, ref02_Of.E)]) mixed (hT_cons ref01_Of.H (hT_cons ref02_Of.H hT_nil)) Try.func55 (c := Try.f55.body.getD .skip) (by kernel_rfl) (by kernel_rfl) ref03_Whole.E ref03_Whole.L (by decide) (by exact ⟨trivial, ⟨trivial, trivial⟩⟩) (fun k x => by kernel_rfl)
def ref01_Bits.sk0 : Sk := ⟨0, [(4, .one (.c (.int .i64))), (5, .one (.c (.int .u32)))], []⟩
def ref01_Bits.E : Ent := ⟨[.data false (.one (.sl (.one (.int .u32))))], [⟨false, (.one (.int .i64)), none⟩], fun k x => ref01_Bits.f k x.1⟩
def ref01_Bits.L : List (Nat × LoopE (ResD ref01_Bits.E.rs)) := [(7, ⟨ref01_Bits.sk0, fun k d => ref01_Bits.l0 k d.1.1 d.1.2.1⟩)]
theorem ref01_Bits.H : HM Try.prog 86 ref01_Bits.E :=
  hm_of (T := [(71, ref01_Norm.E)]) mixed (hT_cons ref01_Norm.H hT_nil) Try.func86 (c := Try.f86.body.getD .skip) (by kernel_rfl) (by kernel_rfl) ref01_Bits.E ref01_Bits.L (by decide) (by exact ⟨trivial, ⟨trivial, ⟨⟨trivial, ⟨⟨trivial, trivial⟩, trivial⟩⟩, ⟨trivial, ⟨⟨trivial, ⟨fun le h => by cases h; exact ⟨fun d => by kernel_rfl, fun k d => by kernel_rfl⟩, ⟨⟨trivial, ⟨trivial, trivial⟩⟩, ⟨trivial, trivial⟩⟩⟩⟩, ⟨trivial, trivial⟩⟩⟩⟩⟩⟩) (fun k x => by kernel_rfl)
def ref01_limb.E : Ent := ⟨[.data false (.one (.sl (.one (.int .u32)))), .data false (.one (.int .i64))], [⟨false, (.one (.int .u64)), none⟩], fun _ x => ref01_limb.f x.1 x.2.1⟩
def ref01_limb.L : List (Nat × LoopE (ResD ref01_limb.E.rs)) := []
theorem ref01_limb.H : HM Try.prog 91 ref01_limb.E :=
  hm_of (T := []) mixed hT_nil Try.func91 (c := Try.f91.body.getD .skip) (by kernel_rfl) (by kernel_rfl) ref01_limb.E ref01_limb.L (by decide) (by exact ⟨trivial, ⟨⟨trivial, ⟨⟨trivial, trivial⟩, trivial⟩⟩, ⟨trivial, trivial⟩⟩⟩) (fun k x => by kernel_rfl)
def ref01_Shift.sk0 : Sk := ⟨1, [(0, .one (.c (.sl (.one (.int .u32))))), (1, .one (.c (.int .i64))), (5, .one (.own 0)), (6, .one (.c (.int .u64))), (7, .one (.c (.int .i64)))], [(0, .row 75 (.one (.int .u32)) false)]⟩
def ref01_Shift.E : Ent := ⟨[.data false (.one (.sl (.one (.int .u32)))), .data false (.one (.int .i64))], [⟨false, (.one (.sl (.one (.int .u32)))), some 75⟩], fun k x => ref01_Shift.f k x.1 x.2.1⟩
def ref01_Shift.L : List (Nat × LoopE (ResD ref01_Shift.E.rs)) := [(5, ⟨ref01_Shift.sk0, fun k d => ref01_Shift.l0 k d.1.1 d.1.2.1 d.1.2.2.2.1 d.1.2.2.2.2.1 d.2.1⟩)]
theorem ref01_Shift.H : HM Try.prog 87 ref01_Shift.E :=
  hm_of (T := [(71, ref01_Norm.E), (91, ref01_limb.E)]) mixed (hT_cons ref01_Norm.H (hT_cons ref01_limb.H hT_nil)) Try.func87 (c := Try.f87.body.getD .skip) (by kernel_rfl) (by kernel_rfl) ref01_Shift.E ref01_Shift.L (by decide) (by exact ⟨trivial, ⟨trivial, ⟨trivial, ⟨⟨trivial, ⟨fun le h => by cases h; exact ⟨fun d => by kernel_rfl, fun k d => by kernel_rfl⟩, ⟨⟨trivial, ⟨trivial, trivial⟩⟩, ⟨⟨trivial, ⟨trivial, trivial⟩⟩, trivial⟩⟩⟩⟩, ⟨trivial, trivial⟩⟩⟩⟩⟩) (fun k x => by kernel_rfl)
def ref01_Cmp.sk0 : Sk := ⟨0, [(0, .one (.c (.sl (.one (.int .u32))))), (1, .one (.c (.sl (.one (.int .u32))))), (5, .one (.c (.int .i64)))], []⟩
def ref01_Cmp.E : Ent := ⟨[.data false (.one (.sl (.one (.int .u32)))), .data false (.one (.sl (.one (.int .u32))))], [⟨false, (.one (.int .i64)), none⟩], fun k x => ref01_Cmp.f k x.1 x.2.1⟩
def ref01_Cmp.L : List (Nat × LoopE (ResD ref01_Cmp.E.rs)) := [(3, ⟨ref01_Cmp.sk0, fun k d => ref01_Cmp.l0 k d.1.1 d.1.2.1 d.1.2.2.1⟩)]
theorem ref01_Cmp.H : HM Try.prog 92 ref01_Cmp.E :=
  hm_of (T := [(91, ref01_limb.E)]) mixed (hT_cons ref01_limb.H hT_nil) Try.func92 (c := Try.f92.body.getD .skip) (by kernel_rfl) (by kernel_rfl) ref01_Cmp.E ref01_Cmp.L (by decide) (by exact ⟨trivial, ⟨⟨trivial, ⟨fun le h => by cases h; exact ⟨fun d => by kernel_rfl, fun k d => by kernel_rfl⟩, ⟨⟨trivial, ⟨trivial, trivial⟩⟩, ⟨⟨⟨trivial, ⟨⟨trivial, trivial⟩, trivial⟩⟩, ⟨trivial, ⟨⟨trivial, trivial⟩, trivial⟩⟩⟩, trivial⟩⟩⟩⟩, ⟨trivial, trivial⟩⟩⟩) (fun k x => by kernel_rfl)
def ref01_Sub.sk0 : Sk := ⟨1, [(0, .one (.c (.sl (.one (.int .u32))))), (1, .one (.c (.sl (.one (.int .u32))))), (6, .one (.own 0)), (7, .one (.c (.int .u64))), (8, .one (.c (.int .i64)))], [(0, .row 75 (.one (.int .u32)) false)]⟩
def ref01_Sub.E : Ent := ⟨[.data false (.one (.sl (.one (.int .u32)))), .data false (.one (.sl (.one (.int .u32))))], [⟨false, (.one (.sl (.one (.int .u32)))), some 75⟩, ⟨false, (.one .bool), none⟩], fun k x => ref01_Sub.f k x.1 x.2.1⟩
def ref01_Sub.L : List (Nat × LoopE (ResD ref01_Sub.E.rs)) := [(7, ⟨ref01_Sub.sk0, fun k d => ref01_Sub.l0 k d.1.1 d.1.2.1 d.1.2.2.2.1 d.1.2.2.2.2.1 d.2.1⟩)]
theorem ref01_Sub.H : HM Try.prog 88 ref01_Sub.E :=
  hm_of (T := [(71, ref01_Norm.E), (91, ref01_limb.E), (92, ref01_Cmp.E)]) mixed (hT_cons ref01_Norm.H (hT_cons ref01_limb.H (hT_cons ref01_Cmp.H hT_nil))) Try.func88 (c := Try.f88.body.getD .skip) (by kernel_rfl) (by kernel_rfl) ref01_Sub.E ref01_Sub.L (by decide) (by exact ⟨trivial, ⟨⟨trivial, ⟨⟨trivial, trivial⟩, trivial⟩⟩, ⟨trivial, ⟨trivial, ⟨⟨trivial, ⟨fun le h => by cases h; exact ⟨fun d => by kernel_rfl, fun k d => by kernel_rfl⟩, ⟨⟨trivial, ⟨trivial, trivial⟩⟩, ⟨⟨trivial, ⟨trivial, trivial⟩⟩, trivial⟩⟩⟩⟩, ⟨trivial, trivial⟩⟩⟩⟩⟩⟩) (fun k x => by kernel_rfl)
def ref01_Half.sk0 : Sk := ⟨1, [(0, .one (.c (.sl (.one (.int .u32))))), (3, .one (.own 0)), (4, .one (.c (.int .i64)))], [(0, .row 75 (.one (.int .u32)) false)]⟩
def ref01_Half.E : Ent := ⟨[.data false (.one (.sl (.one (.int .u32))))], [⟨false, (.one (.sl (.one (.int .u32)))), some 75⟩], fun k x => ref01_Half.f k x.1⟩
def ref01_Half.L : List (Nat × LoopE (ResD ref01_Half.E.rs)) := [(4, ⟨ref01_Half.sk0, fun k d => ref01_Half.l0 k d.1.1 d.1.2.2.1 d.2.1⟩)]
theorem ref01_Half.H : HM Try.prog 89 ref01_Half.E :=
  hm_of (T := [(71, ref01_Norm.E), (91, ref01_limb.E)]) mixed (hT_cons ref01_Norm.H (hT_cons ref01_limb.H hT_nil)) Try.func89 (c := Try.f89.body.getD .skip) (by kernel_rfl) (by kernel_rfl) ref01_Half.E ref01_Half.L (by decide) (by exact ⟨trivial, ⟨trivial, ⟨⟨trivial, ⟨fun le h => by cases h; exact ⟨fun d => by kernel_rfl, fun k d => by kernel_rfl⟩, ⟨⟨trivial, ⟨trivial, trivial⟩⟩, ⟨trivial, trivial⟩⟩⟩⟩, ⟨trivial, trivial⟩⟩⟩⟩) (fun k x => by kernel_rfl)
def ref01_DivMod.sk0 : Sk := ⟨3, [(7, .one (.own 0)), (9, .one (.own 1)), (10, .one (.own 2)), (11, .one (.c (.int .i64)))], [(0, .row 75 (.one (.int .u32)) false), (1, .row 75 (.one (.int .u32)) false), (2, .row 75 (.one (.int .u32)) false)]⟩
def ref01_DivMod.E : Ent := ⟨[.data false (.one (.sl (.one (.int .u32)))), .data false (.one (.sl (.one (.int .u32))))], [⟨false, (.one (.sl (.one (.int .u32)))), some 75⟩, ⟨false, (.one (.sl (.one (.int .u32)))), some 75⟩, ⟨false, (.one .bool), none⟩], fun k x => ref01_DivMod.f k x.1 x.2.1⟩
def ref01_DivMod.L : List (Nat × LoopE (ResD ref01_DivMod.E.rs)) := [(11, ⟨ref01_DivMod.sk0, fun k d => ref01_DivMod.l0 k d.1.2.2.2.1 d.2.1 d.2.2.1 d.2.2.2.1⟩)]
theorem ref01_DivMod.H : HM Try.prog 75 ref01_DivMod.E :=
  hm_of (T := [(71, ref01_Norm.E), (86, ref01_Bits.E), (87, ref01_Shift.E), (88, ref01_Sub.E), (89, ref01_Half.E)]) mixed (hT_cons ref01_Norm.H (hT_cons ref01_Bits.H (hT_cons ref01_Shift.H (hT_cons ref01_Sub.H (hT_cons ref01_Half.H hT_nil))))) Try.func75 (c := Try.f75.body.getD .skip) (by kernel_rfl) (by kernel_rfl) ref01_DivMod.E ref01_DivMod.L (by decide) (by exact ⟨trivial, ⟨⟨trivial, ⟨⟨trivial, trivial⟩, trivial⟩⟩, ⟨trivial, ⟨trivial, ⟨⟨trivial, ⟨⟨trivial, trivial⟩, trivial⟩⟩, ⟨trivial, ⟨trivial, ⟨⟨trivial, ⟨fun le h => by cases h; exact ⟨fun d => by kernel_rfl, fun k d => by kernel_rfl⟩, ⟨⟨trivial, ⟨trivial, trivial⟩⟩, ⟨⟨trivial, ⟨⟨trivial, ⟨⟨trivial, trivial⟩, trivial⟩⟩, trivial⟩⟩, trivial⟩⟩⟩⟩, ⟨trivial, trivial⟩⟩⟩⟩⟩⟩⟩⟩⟩) (fun k x => by kernel_rfl)
def ref01_Gcd.sk0 : Sk := ⟨2, [(5, .one (.own 0)), (6, .one (.own 1))], [(0, .row 75 (.one (.int .u32)) false), (1, .row 75 (.one (.int .u32)) false)]⟩
def ref01_Gcd.E : Ent := ⟨[.data false (.one (.sl (.one (.int .u32)))), .data false (.one (.sl (.one (.int .u32))))], [⟨false, (.one (.sl (.one (.int .u32)))), some 75⟩], fun k x => ref01_Gcd.f k x.1 x.2.1⟩
def ref01_Gcd.L : List (Nat × LoopE (ResD ref01_Gcd.E.rs)) := [(3, ⟨ref01_Gcd.sk0, fun k d => ref01_Gcd.l0 k d.2.1 d.2.2.1⟩)]
theorem ref01_Gcd.H : HM Try.prog 74 ref01_Gcd.E :=
  hm_of (T := [(71, ref01_Norm.E), (75, ref01_DivMod.E)]) mixed (hT_cons ref01_Norm.H (hT_cons ref01_DivMod.H hT_nil)) Try.func74 (c := Try.f74.body.getD .skip) (by kernel_rfl) (by kernel_rfl) ref01_Gcd.E ref01_Gcd.L (by decide) (by exact ⟨trivial, ⟨trivial, ⟨⟨fun le h => by cases h; exact ⟨fun d => by kernel_rfl, fun k d => by kernel_rfl⟩, ⟨⟨trivial, ⟨trivial, trivial⟩⟩, ⟨trivial, trivial⟩⟩⟩, ⟨trivial, trivial⟩⟩⟩⟩) (fun k x => by kernel_rfl)
def ref02_make1.E : Ent := ⟨[.data false (.one .bool), .data false (.one (.sl (.one (.int .u32))))], [⟨true, (.cons .bool (.one (.sl (.one (.int .u32))))), none⟩], fun k x => ref02_make1.f k x.1 x.2.1⟩
def ref02_make1.L : List (Nat × LoopE (ResD ref02_make1.E.rs)) := []
theorem ref02_make1.H : HM Try.prog 77 ref02_make1.E :=
  hm_of (T := [(71, ref01_Norm.E)]) mixed (hT_cons ref01_Norm.H hT_nil) Try.func77 (c := Try.f77.body.getD .skip) (by kernel_rfl) (by kernel_rfl) ref02_make1.E ref02_make1.L (by decide) (by exact ⟨trivial, ⟨trivial, ⟨trivial, trivial⟩⟩⟩) (fun k x => by kernel_rfl)
def ref02_Norm.E : Ent := ⟨[.data true (.cons .bool (.one (.sl (.one (.int .u32)))))], [⟨true, (.cons .bool (.one (.sl (.one (.int .u32))))), none⟩], fun k x => ref02_Norm.f k x.1⟩
def ref02_Norm.L : List (Nat × LoopE (ResD ref02_Norm.E.rs)) := []
theorem ref02_Norm.H : HM Try.prog 76 ref02_Norm.E :=
  hm_of (T := [(77, ref02_make1.E)]) mixed (hT_cons ref02_make1.H hT_nil) Try.func76 (c := Try.f76.body.getD .skip) (by kernel_rfl) (by kernel_rfl) ref02_Norm.E ref02_Norm.L (by decide) (by exact ⟨trivial, ⟨trivial, trivial⟩⟩) (fun k x => by kernel_rfl)
def ref03_reduce.E : Ent := ⟨[.data false (.one .bool), .data false (.one (.sl (.one (.int .u32)))), .data false (.one (.sl (.one (.int .u32))))], [⟨true, (.cons .bool (.cons (.sl (.one (.int .u32))) (.one (.sl (.one (.int .u32)))))), none⟩], fun k x => ref03_reduce.f k x.1 x.2.1 x.2.2.1⟩
def ref03_reduce.L : List (Nat × LoopE (ResD ref03_reduce.E.rs)) := []
theorem ref03_reduce.H : HM Try.prog 56 ref03_reduce.E :=
  hm_of (T := [(75, ref01_DivMod.E), (74, ref01_Gcd.E), (76, ref02_Norm.E)]) mixed (hT_cons ref01_DivMod.H (hT_cons ref01_Gcd.H (hT_cons ref02_Norm.H hT_nil))) Try.func56 (c := Try.f56.body.getD .skip) (by kernel_rfl) (by kernel_rfl) ref03_reduce.E ref03_reduce.L (by decide) (by exact ⟨trivial, ⟨trivial, ⟨trivial, ⟨trivial, ⟨trivial, trivial⟩⟩⟩⟩⟩) (fun k x => by kernel_rfl)
def ref03_Norm.E : Ent := ⟨[.data true (.cons .bool (.cons (.sl (.one (.int .u32))) (.one (.sl (.one (.int .u32))))))], [⟨true, (.cons .bool (.cons (.sl (.one (.int .u32))) (.one (.sl (.one (.int .u32)))))), none⟩], fun k x => ref03_Norm.f k x.1⟩
def ref03_Norm.L : List (Nat × LoopE (ResD ref03_Norm.E.rs)) := []
theorem ref03_Norm.H : HM Try.prog 41 ref03_Norm.E :=
  hm_of (T := [(54, ref03_Zero.E), (55, ref03_Whole.E), (56, ref03_reduce.E)]) mixed (hT_cons ref03_Zero.H (hT_cons ref03_Whole.H (hT_cons ref03_reduce.H hT_nil))) Try.func41 (c := Try.f41.body.getD .skip) (by kernel_rfl) (by kernel_rfl) ref03_Norm.E ref03_Norm.L (by decide) (by exact ⟨trivial, ⟨⟨trivial, ⟨⟨trivial, trivial⟩, trivial⟩⟩, ⟨trivial, trivial⟩⟩⟩) (fun k x => by kernel_rfl)
def ref02_Neg.E : Ent := ⟨[.data true (.cons .bool (.one (.sl (.one (.int .u32)))))], [⟨true, (.cons .bool (.one (.sl (.one (.int .u32))))), none⟩], fun k x => ref02_Neg.f k x.1⟩
def ref02_Neg.L : List (Nat × LoopE (ResD ref02_Neg.E.rs)) := []
theorem ref02_Neg.H : HM Try.prog 57 ref02_Neg.E :=
  hm_of (T := [(77, ref02_make1.E)]) mixed (hT_cons ref02_make1.H hT_nil) Try.func57 (c := Try.f57.body.getD .skip) (by kernel_rfl) (by kernel_rfl) ref02_Neg.E ref02_Neg.L (by decide) (by exact ⟨trivial, ⟨trivial, trivial⟩⟩) (fun k x => by kernel_rfl)
def ref03_Neg.E : Ent := ⟨[.data true (.cons .bool (.cons (.sl (.one (.int .u32))) (.one (.sl (.one (.int .u32))))))], [⟨true, (.cons .bool (.cons (.sl (.one (.int .u32))) (.one (.sl (.one (.int .u32)))))), none⟩], fun k x => ref03_Neg.f k x.1⟩
def ref03_Neg.L : List (Nat × LoopE (ResD ref03_Neg.E.rs)) := []
theorem ref03_Neg.H : HM Try.prog 42 ref03_Neg.E :=
  hm_of (T := [(41, ref03_Norm.E), (57, ref02_Neg.E)]) mixed (hT_cons ref03_Norm.H (hT_cons ref02_Neg.H hT_nil)) Try.func42 (c := Try.f42.body.getD .skip) (by kernel_rfl) (by kernel_rfl) ref03_Neg.E ref03_Neg.L (by decide) (by exact ⟨trivial, ⟨trivial, ⟨trivial, trivial⟩⟩⟩) (fun k x => by kernel_rfl)
def ref12_Point.sk0 : Sk := ⟨3, [(4, .one (.ptr 0 0)), (5, .one (.ptr 1 0)), (6, .one (.ptr 2 0)), (7, .one (.c (.int .i64)))], [(0, .box 38 [.c .bool, .val (.slice none 0 0), .val (.slice none 0 0), .c .bool, .val (.slice none 0 0), .val (.slice none 0 0)]), (1, .box 38 [.c .bool, .c (.sl (.one (.int .u32))), .c (.sl (.one (.int .u32))), .c .bool, .c (.sl (.one (.int .u32))), .c (.sl (.one (.int .u32)))]), (2, .box 23 [.c .bool, .c (.int .i64)])]⟩
def ref12_Point.E : Ent := ⟨[.data true (.cons .bool (.one (.int .i64))), .data true (.cons .bool (.cons (.sl (.one (.int .u32))) (.cons (.sl (.one (.int .u32))) (.cons .bool (.cons (.sl (.one (.int .u32))) (.one (.sl (.one (.int .u32)))))))))], [⟨true, (.cons .bool (.cons (.sl (.one (.int .u32))) (.cons (.sl (.one (.int .u32))) (.cons .bool (.cons (.sl (.one (.int .u32))) (.one (.sl (.one (.int .u32))))))))), none⟩], fun k x => ref12_Point.f k x.1 x.2.1⟩
def ref12_Point.L : List (Nat × LoopE (ResD ref12_Point.E.rs)) := [(7, ⟨ref12_Point.sk0, fun k d => ref12_Point.l0 k d.1.2.2.2.1 d.2.1.1 d.2.1.2.2.2.1 d.2.2.1.1 d.2.2.1.2.1 d.2.2.1.2.2.1 d.2.2.1.2.2.2.1 d.2.2.1.2.2.2.2.1 d.2.2.1.2.2.2.2.2.1 d.2.2.2.1.1 d.2.2.2.1.2.1⟩)]
theorem ref12_Point.H : HM Try.prog 24 ref12_Point.E :=
  hm_of (T := [(14, ref12_Norm.E), (41, ref03_Norm.E), (42, ref03_Neg.E)]) mixed (hT_cons ref12_Norm.H (hT_cons ref03_Norm.H (hT_cons ref03_Neg.H hT_nil))) Try.func24 (c := Try.f24.body.getD .skip) (by kernel_rfl) (by kernel_rfl) ref12_Point.E ref12_Point.L (by decide) (by exact ⟨trivial, ⟨trivial, ⟨⟨trivial, ⟨trivial, trivial⟩⟩, ⟨trivial, ⟨⟨trivial, ⟨fun le h => by cases h; exact ⟨fun d => by kernel_rfl, fun k d => by kernel_rfl⟩, ⟨⟨trivial, ⟨trivial, trivial⟩⟩, ⟨trivial, trivial⟩⟩⟩⟩, ⟨trivial, trivial⟩⟩⟩⟩⟩⟩) (fun k x => by kernel_rfl)
def ref03_limbs.sk0 : Sk := ⟨0, [(0, .one (.c (.sl (.one (.int .u32))))), (1, .one (.c (.sl (.one (.int .u32))))), (5, .one (.c (.int .i64)))], []⟩
def ref03_limbs.E : Ent := ⟨[.data false (.one (.sl (.one (.int .u32)))), .data false (.one (.sl (.one (.int .u32))))], [⟨false, (.one .bool), none⟩], fun k x => ref03_limbs.f k x.1 x.2.1⟩
def ref03_limbs.L : List (Nat × LoopE (ResD ref03_limbs.E.rs)) := [(5, ⟨ref03_limbs.sk0, fun k d => ref03_limbs.l0 k d.1.1 d.1.2.1 d.1.2.2.1⟩)]
theorem ref03_limbs.H : HM Try.prog 44 ref03_limbs.E :=
  hm_of (T := []) mixed hT_nil Try.func44 (c := Try.f44.body.getD .skip) (by kernel_rfl) (by kernel_rfl) ref03_limbs.E ref03_limbs.L (by decide) (by exact ⟨trivial, ⟨⟨trivial, ⟨⟨trivial, trivial⟩, trivial⟩⟩, ⟨⟨trivial, ⟨fun le h => by cases h; exact ⟨fun d => by kernel_rfl, fun k d => by kernel_rfl⟩, ⟨⟨trivial, ⟨trivial, trivial⟩⟩, ⟨⟨trivial, ⟨⟨trivial, trivial⟩, trivial⟩⟩, trivial⟩⟩⟩⟩, ⟨trivial, trivial⟩⟩⟩⟩) (fun k x => by kernel_rfl)
def ref03_SameInt.E : Ent := ⟨[.data true (.cons .bool (.one (.sl (.one (.int .u32))))), .data true (.cons .bool (.one (.sl (.one (.int .u32)))))], [⟨false, (.one .bool), none⟩], fun k x => ref03_SameInt.f k x.1 x.2.1⟩
def ref03_SameInt.L : List (Nat × LoopE (ResD ref03_SameInt.E.rs)) := []
theorem ref03_SameInt.H : HM Try.prog 43 ref03_SameInt.E :=
  hm_of (T := [(44, ref03_limbs.E)]) mixed (hT_cons ref03_limbs.H hT_nil) Try.func43 (c := Try.f43.body.getD .skip) (by kernel_rfl) (by kernel_rfl) ref03_SameInt.E ref03_SameInt.L (by decide) (by exact ⟨trivial, ⟨trivial, trivial⟩⟩) (fun k x => by kernel_rfl)
def ref03_Same.E : Ent := ⟨[.data true (.cons .bool (.cons (.sl (.one (.int .u32))) (.one (.sl (.one (.int .u32)))))), .data true (.cons .bool (.cons (.sl (.one (.int .u32))) (.one (.sl (.one (.int .u32))))))], [⟨false, (.one .bool), none⟩], fun k x => ref03_Same.f k x.1 x.2.1⟩
def ref03_Same.L : List (Nat × LoopE (ResD ref03_Same.E.rs)) := []
theorem ref03_Same.H : HM Try.prog 25 ref03_Same.E :=
  hm_of (T := [(44, ref03_limbs.E), (43, ref03_SameInt.E)]) mixed (hT_cons ref03_limbs.H (hT_cons ref03_SameInt.H hT_nil)) Try.func25 (c := Try.f25.body.getD .skip) (by kernel_rfl) (by kernel_rfl) ref03_Same.E ref03_Same.L (by decide) (by exact ⟨trivial, ⟨trivial, trivial⟩⟩) (fun k x => by kernel_rfl)
def law12_TurnPoints.E : Ent := ⟨[.data true (.cons .bool (.one (.int .i64))), .data true (.cons .bool (.cons (.sl (.one (.int .u32))) (.cons (.sl (.one (.int .u32))) (.cons .bool (.cons (.sl (.one (.int .u32))) (.one (.sl (.one (.int .u32)))))))))], [⟨false, (.one .bool), none⟩], fun k x => law12_TurnPoints.f k x.1 x.2.1⟩
def law12_TurnPoints.L : List (Nat × LoopE (ResD law12_TurnPoints.E.rs)) := []
theorem law12_TurnPoints.H : HM Try.prog 4 law12_TurnPoints.E :=
  hm_of (T := [(23, turn_Point.E), (21, law12_exampleHolds.E), (22, ref03_Light.E), (24, ref12_Point.E), (25, ref03_Same.E)]) mixed (hT_cons turn_Point.H (hT_cons law12_exampleHolds.H (hT_cons ref03_Light.H (hT_cons ref12_Point.H (hT_cons ref03_Same.H hT_nil))))) Try.func4 (c := Try.f4.body.getD .skip) (by kernel_rfl) (by kernel_rfl) law12_TurnPoints.E law12_TurnPoints.L (by decide) (by exact ⟨trivial, ⟨⟨trivial, ⟨⟨trivial, trivial⟩, trivial⟩⟩, ⟨trivial, ⟨trivial, trivial⟩⟩⟩⟩) (fun k x => by kernel_rfl)
def ref12_Poly.sk0 : Sk := ⟨2, [(1, .one (.c (.sl (.cons (.int .i64) (.one (.int .i64)))))), (2, .one (.ptr 0 0)), (5, .one (.own 1)), (6, .one (.c (.int .i64)))], [(0, .box 23 [.c .bool, .c (.int .i64)]), (1, .row 25 (.cons (.int .i64) (.one (.int .i64))) false)]⟩
def ref12_Poly.E : Ent := ⟨[.data true (.cons .bool (.one (.int .i64))), .data false (.one (.sl (.cons (.int .i64) (.one (.int .i64)))))], [⟨false, (.one (.sl (.cons (.int .i64) (.one (.int .i64))))), some 25⟩], fun k x => ref12_Poly.f k x.1 x.2.1⟩
def ref12_Poly.L : List (Nat × LoopE (ResD ref12_Poly.E.rs)) := [(4, ⟨ref12_Poly.sk0, fun k d => ref12_Poly.l0 k d.1.1 d.1.2.2.2.1 d.2.1.1 d.2.1.2.1 d.2.2.1⟩)]
theorem ref12_Poly.H : HM Try.prog 28 ref12_Poly.E :=
  hm_of (T := [(16, ref12_Apply.E)]) mixed (hT_cons ref12_Apply.H hT_nil) Try.func28 (c := Try.f28.body.getD .skip) (by kernel_rfl) (by kernel_rfl) ref12_Poly.E ref12_Poly.L (by decide) (by exact ⟨trivial, ⟨trivial, ⟨⟨trivial, ⟨fun le h => by cases h; exact ⟨fun d => by kernel_rfl, fun k d => by kernel_rfl⟩, ⟨⟨trivial, ⟨trivial, trivial⟩⟩, ⟨⟨trivial, ⟨⟨trivial, ⟨trivial, trivial⟩⟩, trivial⟩⟩, trivial⟩⟩⟩⟩, ⟨trivial, trivial⟩⟩⟩⟩) (fun k x => by kernel_rfl)
def law12_TurnPolys.E : Ent := ⟨[.data true (.cons .bool (.one (.int .i64))), .data false (.one (.sl (.cons (.int .i64) (.one (.int .i64)))))], [⟨false, (.one .bool), none⟩], fun k x => law12_TurnPolys.f k x.1 x.2.1⟩
def law12_TurnPolys.L : List (Nat × LoopE (ResD law12_TurnPolys.E.rs)) := []
theorem law12_TurnPolys.H : HM Try.prog 5 law12_TurnPolys.E :=
  hm_of (T := [(26, ref12_SameSpots.E), (27, turn_Poly.E), (21, law12_exampleHolds.E), (28, ref12_Poly.E)]) mixed (hT_cons ref12_SameSpots.H (hT_cons turn_Poly.H (hT_cons law12_exampleHolds.H (hT_cons ref12_Poly.H hT_nil)))) Try.func5 (c := Try.f5.body.getD .skip) (by kernel_rfl) (by kernel_rfl) law12_TurnPolys.E law12_TurnPolys.L (by decide) (by exact ⟨trivial, ⟨⟨trivial, ⟨⟨trivial, trivial⟩, trivial⟩⟩, ⟨trivial, trivial⟩⟩⟩) (fun k x => by kernel_rfl)
def ref12_Allowed.E : Ent := ⟨[.data false (.one (.int .i64)), .data false (.one .bool), .data true (.cons .bool (.one (.int .i64)))], [⟨false, (.one .bool), none⟩], fun _ x => ref12_Allowed.f x.1 x.2.1 x.2.2.1⟩
def ref12_Allowed.L : List (Nat × LoopE (ResD ref12_Allowed.E.rs)) := []
theorem ref12_Allowed.H : HM Try.prog 32 ref12_Allowed.E :=
  hm_of (T := [(14, ref12_Norm.E)]) mixed (hT_cons ref12_Norm.H hT_nil) Try.func32 (c := Try.f32.body.getD .skip) (by kernel_rfl) (by kernel_rfl) ref12_Allowed.E ref12_Allowed.L (by decide) (by exact ⟨trivial, ⟨trivial, ⟨⟨trivial, ⟨⟨trivial, trivial⟩, trivial⟩⟩, ⟨⟨trivial, ⟨trivial, ⟨⟨trivial, trivial⟩, ⟨trivial, ⟨⟨trivial, trivial⟩, ⟨trivial, ⟨⟨trivial, trivial⟩, trivial⟩⟩⟩⟩⟩⟩⟩, ⟨trivial, trivial⟩⟩⟩⟩⟩) (fun k x => by kernel_rfl)
def ref12_All.sk0 : Sk := ⟨1, [(0, .one (.c (.int .i64))), (1, .one (.c .bool)), (5, .one (.own 0)), (6, .one (.c (.int .i64)))], [(0, .row 23 (.cons .bool (.one (.int .i64))) false)]⟩
def ref12_All.E : Ent := ⟨[.data false (.one (.int .i64)), .data false (.one .bool)], [⟨false, (.one (.sl (.cons .bool (.one (.int .i64))))), some 23⟩], fun k x => ref12_All.f k x.1 x.2.1⟩
def ref12_All.L : List (Nat × LoopE (ResD ref12_All.E.rs)) := [(4, ⟨ref12_All.sk0, fun k d => ref12_All.l0 k d.1.1 d.1.2.1 d.1.2.2.2.1 d.2.1⟩)]
theorem ref12_All.H : HM Try.prog 30 ref12_All.E :=
  hm_of (T := [(32, ref12_Allowed.E)]) mixed (hT_cons ref12_Allowed.H hT_nil) Try.func30 (c := Try.f30.body.getD .skip) (by kernel_rfl) (by kernel_rfl) ref12_All.E ref12_All.L (by decide) (by exact ⟨trivial, ⟨trivial, ⟨⟨trivial, ⟨fun le h => by cases h; exact ⟨fun d => by kernel_rfl, fun k d => by kernel_rfl⟩, ⟨⟨trivial, ⟨trivial, trivial⟩⟩, ⟨⟨trivial, ⟨trivial, ⟨trivial, trivial⟩⟩⟩, trivial⟩⟩⟩⟩, ⟨trivial, trivial⟩⟩⟩⟩) (fun k x => by kernel_rfl)
def law12_TurnGrains.sk0 : Sk := ⟨3, [(0, .one (.c (.int .i64))), (1, .one (.c .bool)), (5, .one (.ptr 0 0)), (7, .one (.own 1)), (8, .one (.own 2)), (9, .one (.c .bool)), (23, .one (.c (.int .i64))), (24, .one (.c (.int .i64)))], [(0, .box 23 [.c .bool, .c (.int .i64)]), (1, .row 23 (.cons .bool (.one (.int .i64))) false), (2, .row 23 (.cons .bool (.one (.int .i64))) false)]⟩
def law12_TurnGrains.E : Ent := ⟨[.data false (.one (.int .i64)), .data false (.one .bool), .data true (.cons .bool (.one (.int .i64)))], [⟨false, (.one .bool), none⟩], fun k x => law12_TurnGrains.f k x.1 x.2.1 x.2.2.1⟩
def law12_TurnGrains.L : List (Nat × LoopE (ResD law12_TurnGrains.E.rs)) := [(7, ⟨law12_TurnGrains.sk0, fun k d => law12_TurnGrains.l0 k d.1.1 d.1.2.1 d.1.2.2.2.2.2.1 d.1.2.2.2.2.2.2.1 d.1.2.2.2.2.2.2.2.1 d.2.1.1 d.2.1.2.1 d.2.2.1 d.2.2.2.1⟩)]
theorem law12_TurnGrains.H : HM Try.prog 6 law12_TurnGrains.E :=
  hm_of (T := [(13, turn_Norm.E), (31, turn_Allowed.E), (29, turn_All.E), (21, law12_exampleHolds.E), (32, ref12_Allowed.E), (30, ref12_All.E)]) mixed (hT_cons turn_Norm.H (hT_cons turn_Allowed.H (hT_cons turn_All.H (hT_cons law12_exampleHolds.H (hT_cons ref12_Allowed.H (hT_cons ref12_All.H hT_nil)))))) Try.func6 (c := Try.f6.body.getD .skip) (by kernel_rfl) (by kernel_rfl) law12_TurnGrains.E law12_TurnGrains.L (by decide) (by exact ⟨trivial, ⟨trivial, ⟨⟨trivial, ⟨⟨trivial, trivial⟩, trivial⟩⟩, ⟨trivial, ⟨⟨trivial, ⟨fun le h => by cases h; exact ⟨fun d => by kernel_rfl, fun k d => by kernel_rfl⟩, ⟨trivial, ⟨⟨trivial, trivial⟩, ⟨⟨trivial, ⟨⟨trivial, ⟨⟨trivial, trivial⟩, trivial⟩⟩, trivial⟩⟩, trivial⟩⟩⟩⟩⟩, ⟨trivial, trivial⟩⟩⟩⟩⟩⟩) (fun k x => by kernel_rfl)
def law12_TurnGroup.E : Ent := ⟨[.data true (.cons .bool (.one (.int .i64))), .data true (.cons .bool (.one (.int .i64))), .data true (.cons .bool (.one (.int .i64))), .data true (.cons (.int .i64) (.one (.int .i64)))], [⟨false, (.one .bool), none⟩], fun k x => law12_TurnGroup.f k x.1 x.2.1 x.2.2.1 x.2.2.2.1⟩
def law12_TurnGroup.L : List (Nat × LoopE (ResD law12_TurnGroup.E.rs)) := []
theorem law12_TurnGroup.H : HM Try.prog 7 law12_TurnGroup.E :=
  hm_of (T := [(13, turn_Norm.E), (15, turn_Apply.E), (17, turn_Compose.E), (19, turn_Inverse.E), (21, law12_exampleHolds.E)]) mixed (hT_cons turn_Norm.H (hT_cons turn_Apply.H (hT_cons turn_Compose.H (hT_cons turn_Inverse.H (hT_cons law12_exampleHolds.H hT_nil))))) Try.func7 (c := Try.f7.body.getD .skip) (by kernel_rfl) (by kernel_rfl) law12_TurnGroup.E law12_TurnGroup.L (by decide) (by exact ⟨trivial, ⟨trivial, ⟨⟨trivial, ⟨⟨trivial, trivial⟩, trivial⟩⟩, ⟨⟨trivial, ⟨⟨trivial, trivial⟩, trivial⟩⟩, ⟨trivial, trivial⟩⟩⟩⟩⟩) (fun k x => by kernel_rfl)
def law12_TurnEight.E : Ent := ⟨[.data true (.cons .bool (.one (.int .i64))), .data true (.cons .bool (.one (.int .i64)))], [⟨false, (.one .bool), none⟩], fun k x => law12_TurnEight.f k x.1 x.2.1⟩
def law12_TurnEight.L : List (Nat × LoopE (ResD law12_TurnEight.E.rs)) := []
theorem law12_TurnEight.H : HM Try.prog 8 law12_TurnEight.E :=
  hm_of (T := [(13, turn_Norm.E), (15, turn_Apply.E), (17, turn_Compose.E), (21, law12_exampleHolds.E)]) mixed (hT_cons turn_Norm.H (hT_cons turn_Apply.H (hT_cons turn_Compose.H (hT_cons law12_exampleHolds.H hT_nil)))) Try.func8 (c := Try.f8.body.getD .skip) (by kernel_rfl) (by kernel_rfl) law12_TurnEight.E law12_TurnEight.L (by decide) (by exact ⟨trivial, ⟨trivial, ⟨⟨trivial, ⟨⟨trivial, trivial⟩, trivial⟩⟩, ⟨trivial, ⟨⟨trivial, ⟨⟨trivial, trivial⟩, trivial⟩⟩, ⟨trivial, ⟨trivial, trivial⟩⟩⟩⟩⟩⟩⟩) (fun k x => by kernel_rfl)
def law12_near.E : Ent := ⟨[.data true (.cons (.int .i64) (.one (.int .i64)))], [⟨false, (.one .bool), none⟩], fun _ x => law12_near.f x.1⟩
def law12_near.L : List (Nat × LoopE (ResD law12_near.E.rs)) := []
theorem law12_near.H : HM Try.prog 33 law12_near.E :=
  hm_of (T := []) mixed hT_nil Try.func33 (c := Try.f33.body.getD .skip) (by kernel_rfl) (by kernel_rfl) law12_near.E law12_near.L (by decide) (by exact ⟨trivial, ⟨trivial, trivial⟩⟩) (fun k x => by kernel_rfl)
def law12_TurnKeeps.E : Ent := ⟨[.data true (.cons .bool (.one (.int .i64))), .data true (.cons (.int .i64) (.one (.int .i64))), .data true (.cons (.int .i64) (.one (.int .i64)))], [⟨false, (.one .bool), none⟩], fun k x => law12_TurnKeeps.f k x.1 x.2.1 x.2.2.1⟩
def law12_TurnKeeps.L : List (Nat × LoopE (ResD law12_TurnKeeps.E.rs)) := []
theorem law12_TurnKeeps.H : HM Try.prog 9 law12_TurnKeeps.E :=
  hm_of (T := [(15, turn_Apply.E), (21, law12_exampleHolds.E), (33, law12_near.E)]) mixed (hT_cons turn_Apply.H (hT_cons law12_exampleHolds.H (hT_cons law12_near.H hT_nil))) Try.func9 (c := Try.f9.body.getD .skip) (by kernel_rfl) (by kernel_rfl) law12_TurnKeeps.E law12_TurnKeeps.L (by decide) (by exact ⟨trivial, ⟨⟨trivial, ⟨⟨trivial, trivial⟩, trivial⟩⟩, ⟨trivial, ⟨trivial, ⟨trivial, ⟨⟨trivial, ⟨trivial, trivial⟩⟩, ⟨trivial, trivial⟩⟩⟩⟩⟩⟩⟩) (fun k x => by kernel_rfl)
def law12_TurnAgrees.E : Ent := ⟨[.data true (.cons .bool (.one (.int .i64))), .data true (.cons (.int .i64) (.one (.int .i64)))], [⟨false, (.one .bool), none⟩], fun k x => law12_TurnAgrees.f k x.1 x.2.1⟩
def law12_TurnAgrees.L : List (Nat × LoopE (ResD law12_TurnAgrees.E.rs)) := []
theorem law12_TurnAgrees.H : HM Try.prog 10 law12_TurnAgrees.E :=
  hm_of (T := [(15, turn_Apply.E), (23, turn_Point.E), (34, point_Of.E), (36, ratio_Cmp.E), (35, point_Same.E), (21, law12_exampleHolds.E)]) mixed (hT_cons turn_Apply.H (hT_cons turn_Point.H (hT_cons point_Of.H (hT_cons ratio_Cmp.H (hT_cons point_Same.H (hT_cons law12_exampleHolds.H hT_nil)))))) Try.func10 (c := Try.f10.body.getD .skip) (by kernel_rfl) (by kernel_rfl) law12_TurnAgrees.E law12_TurnAgrees.L (by decide) (by exact ⟨trivial, ⟨⟨trivial, ⟨⟨trivial, trivial⟩, trivial⟩⟩, ⟨trivial, ⟨trivial, ⟨trivial, trivial⟩⟩⟩⟩⟩) (fun k x => by kernel_rfl)
def law12_TurnAllowed.E : Ent := ⟨[.data false (.one (.int .i64)), .data false (.one .bool), .data true (.cons .bool (.one (.int .i64))), .data true (.cons .bool (.one (.int .i64)))], [⟨false, (.one .bool), none⟩], fun k x => law12_TurnAllowed.f k x.1 x.2.1 x.2.2.1 x.2.2.2.1⟩
def law12_TurnAllowed.L : List (Nat × LoopE (ResD law12_TurnAllowed.E.rs)) := []
theorem law12_TurnAllowed.H : HM Try.prog 11 law12_TurnAllowed.E :=
  hm_of (T := [(17, turn_Compose.E), (19, turn_Inverse.E), (31, turn_Allowed.E), (21, law12_exampleHolds.E)]) mixed (hT_cons turn_Compose.H (hT_cons turn_Inverse.H (hT_cons turn_Allowed.H (hT_cons law12_exampleHolds.H hT_nil)))) Try.func11 (c := Try.f11.body.getD .skip) (by kernel_rfl) (by kernel_rfl) law12_TurnAllowed.E law12_TurnAllowed.L (by decide) (by exact ⟨trivial, ⟨⟨trivial, ⟨⟨trivial, trivial⟩, trivial⟩⟩, ⟨⟨trivial, ⟨⟨trivial, trivial⟩, trivial⟩⟩, ⟨trivial, trivial⟩⟩⟩⟩) (fun k x => by kernel_rfl)
def polygon_inside.E : Ent := ⟨[.data false (.one (.int .i64))], [⟨false, (.one .bool), none⟩], fun _ x => polygon_inside.f x.1⟩
def polygon_inside.L : List (Nat × LoopE (ResD polygon_inside.E.rs)) := []
theorem polygon_inside.H : HM Try.prog 49 polygon_inside.E :=
  hm_of (T := []) mixed hT_nil Try.func49 (c := Try.f49.body.getD .skip) (by kernel_rfl) (by kernel_rfl) polygon_inside.E polygon_inside.L (by decide) (by exact ⟨trivial, ⟨trivial, trivial⟩⟩) (fun k x => by kernel_rfl)
def polygon_sides.sk0 : Sk := ⟨1, [(0, .one (.c (.sl (.cons (.int .i64) (.one (.int .i64)))))), (3, .one (.own 0)), (9, .one (.c (.sl (.cons (.int .i64) (.one (.int .i64)))))), (10, .one (.c (.int .i64))), (11, .one (.c (.int .i64)))], [(0, .row 85 (.cons (.int .i64) (.cons (.int .i64) (.cons (.int .i64) (.one (.int .i64))))) false)]⟩
def polygon_sides.E : Ent := ⟨[.data false (.one (.sl (.cons (.int .i64) (.one (.int .i64)))))], [⟨false, (.one (.sl (.cons (.int .i64) (.cons (.int .i64) (.cons (.int .i64) (.one (.int .i64))))))), some 85⟩], fun k x => polygon_sides.f k x.1⟩
def polygon_sides.L : List (Nat × LoopE (ResD polygon_sides.E.rs)) := [(4, ⟨polygon_sides.sk0, fun k d => polygon_sides.l0 k d.1.1 d.1.2.2.1 d.1.2.2.2.1 d.1.2.2.2.2.1 d.2.1⟩)]
theorem polygon_sides.H : HM Try.prog 63 polygon_sides.E :=
  hm_of (T := []) mixed hT_nil Try.func63 (c := Try.f63.body.getD .skip) (by kernel_rfl) (by kernel_rfl) polygon_sides.E polygon_sides.L (by decide) (by exact ⟨trivial, ⟨trivial, ⟨⟨trivial, ⟨fun le h => by cases h; exact ⟨fun d => by kernel_rfl, fun k d => by kernel_rfl⟩, ⟨trivial, ⟨⟨trivial, trivial⟩, ⟨⟨trivial, trivial⟩, trivial⟩⟩⟩⟩⟩, ⟨trivial, trivial⟩⟩⟩⟩) (fun k x => by kernel_rfl)
def polygon_turn.E : Ent := ⟨[.data true (.cons (.int .i64) (.one (.int .i64))), .data true (.cons (.int .i64) (.one (.int .i64))), .data true (.cons (.int .i64) (.one (.int .i64)))], [⟨false, (.one (.int .i64)), none⟩], fun _ x => polygon_turn.f x.1 x.2.1 x.2.2.1⟩
def polygon_turn.L : List (Nat × LoopE (ResD polygon_turn.E.rs)) := []
theorem polygon_turn.H : HM Try.prog 80 polygon_turn.E :=
  hm_of (T := []) mixed hT_nil Try.func80 (c := Try.f80.body.getD .skip) (by kernel_rfl) (by kernel_rfl) polygon_turn.E polygon_turn.L (by decide) (by exact ⟨trivial, ⟨trivial, trivial⟩⟩) (fun k x => by kernel_rfl)
def polygon_within.E : Ent := ⟨[.data false (.one (.int .i64)), .data false (.one (.int .i64)), .data false (.one (.int .i64))], [⟨false, (.one .bool), none⟩], fun _ x => polygon_within.f x.1 x.2.1 x.2.2.1⟩
def polygon_within.L : List (Nat × LoopE (ResD polygon_within.E.rs)) := []
theorem polygon_within.H : HM Try.prog 81 polygon_within.E :=
  hm_of (T := []) mixed hT_nil Try.func81 (c := Try.f81.body.getD .skip) (by kernel_rfl) (by kernel_rfl) polygon_within.E polygon_within.L (by decide) (by exact ⟨trivial, ⟨trivial, trivial⟩⟩) (fun k x => by kernel_rfl)
def polygon_side_holds.E : Ent := ⟨[.data true (.cons (.int .i64) (.cons (.int .i64) (.cons (.int .i64) (.one (.int .i64))))), .data true (.cons (.int .i64) (.one (.int .i64)))], [⟨false, (.one .bool), none⟩], fun _ x => polygon_side_holds.f x.1 x.2.1⟩
def polygon_side_holds.L : List (Nat × LoopE (ResD polygon_side_holds.E.rs)) := []
theorem polygon_side_holds.H : HM Try.prog 64 polygon_side_holds.E :=
  hm_of (T := [(80, polygon_turn.E), (81, polygon_within.E)]) mixed (hT_cons polygon_turn.H (hT_cons polygon_within.H hT_nil)) Try.func64 (c := Try.f64.body.getD .skip) (by kernel_rfl) (by kernel_rfl) polygon_side_holds.E polygon_side_holds.L (by decide) (by exact ⟨trivial, ⟨trivial, trivial⟩⟩) (fun k x => by kernel_rfl)
def polygon_side_divides.E : Ent := ⟨[.data true (.cons (.int .i64) (.cons (.int .i64) (.cons (.int .i64) (.one (.int .i64))))), .data true (.cons (.int .i64) (.one (.int .i64))), .data true (.cons (.int .i64) (.one (.int .i64)))], [⟨false, (.one .bool), none⟩], fun _ x => polygon_side_divides.f x.1 x.2.1 x.2.2.1⟩
def polygon_side_divides.L : List (Nat × LoopE (ResD polygon_side_divides.E.rs)) := []
theorem polygon_side_divides.H : HM Try.prog 82 polygon_side_divides.E :=
  hm_of (T := [(80, polygon_turn.E)]) mixed (hT_cons polygon_turn.H hT_nil) Try.func82 (c := Try.f82.body.getD .skip) (by kernel_rfl) (by kernel_rfl) polygon_side_divides.E polygon_side_divides.L (by decide) (by exact ⟨trivial, ⟨trivial, ⟨trivial, trivial⟩⟩⟩) (fun k x => by kernel_rfl)
def polygon_side_meets.E : Ent := ⟨[.data true (.cons (.int .i64) (.cons (.int .i64) (.cons (.int .i64) (.one (.int .i64))))), .data true (.cons (.int .i64) (.cons (.int .i64) (.cons (.int .i64) (.one (.int .i64)))))], [⟨false, (.one .bool), none⟩], fun _ x => polygon_side_meets.f x.1 x.2.1⟩
def polygon_side_meets.L : List (Nat × LoopE (ResD polygon_side_meets.E.rs)) := []
theorem polygon_side_meets.H : HM Try.prog 65 polygon_side_meets.E :=
  hm_of (T := [(64, polygon_side_holds.E), (82, polygon_side_divides.E)]) mixed (hT_cons polygon_side_holds.H (hT_cons polygon_side_divides.H hT_nil)) Try.func65 (c := Try.f65.body.getD .skip) (by kernel_rfl) (by kernel_rfl) polygon_side_meets.E polygon_side_meets.L (by decide) (by exact ⟨trivial, ⟨trivial, trivial⟩⟩) (fun k x => by kernel_rfl)
def polygon_simple.sk0 : Sk := ⟨1, [(3, .one (.own 0)), (10, .one (.own 0)), (11, .one (.c (.int .i64))), (12, .one (.c (.int .i64)))], [(0, .row 85 (.cons (.int .i64) (.cons (.int .i64) (.cons (.int .i64) (.one (.int .i64))))) false)]⟩
def polygon_simple.sk1 : Sk := ⟨2, [(3, .one (.own 0)), (4, .one (.c (.int .i64))), (5, .one (.ptr 1 0)), (7, .one (.c (.int .i64))), (10, .one (.own 0)), (11, .one (.c (.int .i64))), (12, .one (.c (.int .i64)))], [(0, .row 85 (.cons (.int .i64) (.cons (.int .i64) (.cons (.int .i64) (.one (.int .i64))))) false), (1, .box 85 [.c (.int .i64), .c (.int .i64), .c (.int .i64), .c (.int .i64)])]⟩
def polygon_simple.E : Ent := ⟨[.data false (.one (.sl (.cons (.int .i64) (.one (.int .i64)))))], [⟨false, (.one .bool), none⟩], fun k x => polygon_simple.f k x.1⟩
def polygon_simple.L : List (Nat × LoopE (ResD polygon_simple.E.rs)) := [(4, ⟨polygon_simple.sk0, fun k d => polygon_simple.l0 k d.1.2.2.1 d.1.2.2.2.1 d.2.1⟩), (12, ⟨polygon_simple.sk1, fun k d => polygon_simple.l1 k d.1.2.1 d.1.2.2.2.1 d.1.2.2.2.2.2.1 d.1.2.2.2.2.2.2.1 d.2.1 d.2.2.1.1 d.2.2.1.2.1 d.2.2.1.2.2.1 d.2.2.1.2.2.2.1⟩)]
theorem polygon_simple.H : HM Try.prog 50 polygon_simple.E :=
  hm_of (T := [(63, polygon_sides.E), (64, polygon_side_holds.E), (65, polygon_side_meets.E)]) mixed (hT_cons polygon_sides.H (hT_cons polygon_side_holds.H (hT_cons polygon_side_meets.H hT_nil))) Try.func50 (c := Try.f50.body.getD .skip) (by kernel_rfl) (by kernel_rfl) polygon_simple.E polygon_simple.L (by decide) (by exact ⟨trivial, ⟨trivial, ⟨⟨trivial, ⟨fun le h => by cases h; exact ⟨fun d => by kernel_rfl, fun k d => by kernel_rfl⟩, ⟨trivial, ⟨⟨trivial, trivial⟩, ⟨⟨trivial, ⟨⟨trivial, ⟨⟨trivial, trivial⟩, trivial⟩⟩, ⟨trivial, ⟨⟨trivial, ⟨⟨trivial, trivial⟩, trivial⟩⟩, ⟨trivial, ⟨fun le h => by cases h; exact ⟨fun d => by kernel_rfl, fun k d => by kernel_rfl⟩, ⟨⟨trivial, ⟨trivial, trivial⟩⟩, ⟨⟨⟨trivial, ⟨trivial, trivial⟩⟩, ⟨trivial, ⟨⟨trivial, trivial⟩, trivial⟩⟩⟩, trivial⟩⟩⟩⟩⟩⟩⟩⟩, trivial⟩⟩⟩⟩⟩, ⟨trivial, trivial⟩⟩⟩⟩) (fun k x => by kernel_rfl)
def polygon_Check.sk0 : Sk := ⟨0, [(0, .one (.c (.sl (.cons (.int .i64) (.one (.int .i64)))))), (11, .one (.c (.sl (.cons (.int .i64) (.one (.int .i64)))))), (12, .one (.c (.int .i64))), (13, .one (.c (.int .i64)))], []⟩
def polygon_Check.E : Ent := ⟨[.data false (.one (.sl (.cons (.int .i64) (.one (.int .i64)))))], [⟨false, (.one (.int .i64)), none⟩], fun k x => polygon_Check.f k x.1⟩
def polygon_Check.L : List (Nat × LoopE (ResD polygon_Check.E.rs)) := [(7, ⟨polygon_Check.sk0, fun k d => polygon_Check.l0 k d.1.1 d.1.2.1 d.1.2.2.1 d.1.2.2.2.1⟩)]
theorem polygon_Check.H : HM Try.prog 37 polygon_Check.E :=
  hm_of (T := [(49, polygon_inside.E), (50, polygon_simple.E)]) mixed (hT_cons polygon_inside.H (hT_cons polygon_simple.H hT_nil)) Try.func37 (c := Try.f37.body.getD .skip) (by kernel_rfl) (by kernel_rfl) polygon_Check.E polygon_Check.L (by decide) (by exact ⟨trivial, ⟨⟨trivial, ⟨⟨trivial, trivial⟩, trivial⟩⟩, ⟨⟨trivial, ⟨⟨trivial, trivial⟩, trivial⟩⟩, ⟨⟨trivial, ⟨fun le h => by cases h; exact ⟨fun d => by kernel_rfl, fun k d => by kernel_rfl⟩, ⟨trivial, ⟨⟨trivial, trivial⟩, ⟨⟨trivial, ⟨trivial, ⟨⟨trivial, trivial⟩, trivial⟩⟩⟩, trivial⟩⟩⟩⟩⟩, ⟨⟨trivial, ⟨⟨trivial, trivial⟩, trivial⟩⟩, ⟨trivial, trivial⟩⟩⟩⟩⟩⟩) (fun k x => by kernel_rfl)
def polygon_area.sk0 : Sk := ⟨1, [(3, .one (.c (.int .i64))), (7, .one (.own 0)), (8, .one (.c (.int .i64))), (9, .one (.c (.int .i64)))], [(0, .row 85 (.cons (.int .i64) (.cons (.int .i64) (.cons (.int .i64) (.one (.int .i64))))) false)]⟩
def polygon_area.E : Ent := ⟨[.data false (.one (.sl (.cons (.int .i64) (.one (.int .i64)))))], [⟨false, (.one (.int .i64)), none⟩], fun k x => polygon_area.f k x.1⟩
def polygon_area.L : List (Nat × LoopE (ResD polygon_area.E.rs)) := [(4, ⟨polygon_area.sk0, fun k d => polygon_area.l0 k d.1.1 d.1.2.2.1 d.1.2.2.2.1 d.2.1⟩)]
theorem polygon_area.H : HM Try.prog 51 polygon_area.E :=
  hm_of (T := [(63, polygon_sides.E)]) mixed (hT_cons polygon_sides.H hT_nil) Try.func51 (c := Try.f51.body.getD .skip) (by kernel_rfl) (by kernel_rfl) polygon_area.E polygon_area.L (by decide) (by exact ⟨trivial, ⟨trivial, ⟨⟨trivial, ⟨fun le h => by cases h; exact ⟨fun d => by kernel_rfl, fun k d => by kernel_rfl⟩, ⟨trivial, ⟨⟨trivial, trivial⟩, ⟨⟨trivial, trivial⟩, trivial⟩⟩⟩⟩⟩, ⟨trivial, trivial⟩⟩⟩⟩) (fun k x => by kernel_rfl)
def polygon_Area2.E : Ent := ⟨[.data false (.one (.sl (.cons (.int .i64) (.one (.int .i64)))))], [⟨false, (.one (.int .i64)), none⟩], fun k x => polygon_Area2.f k x.1⟩
def polygon_Area2.L : List (Nat × LoopE (ResD polygon_Area2.E.rs)) := []
theorem polygon_Area2.H : HM Try.prog 38 polygon_Area2.E :=
  hm_of (T := [(37, polygon_Check.E), (51, polygon_area.E)]) mixed (hT_cons polygon_Check.H (hT_cons polygon_area.H hT_nil)) Try.func38 (c := Try.f38.body.getD .skip) (by kernel_rfl) (by kernel_rfl) polygon_Area2.E polygon_Area2.L (by decide) (by exact ⟨trivial, ⟨⟨trivial, ⟨⟨trivial, trivial⟩, trivial⟩⟩, ⟨trivial, trivial⟩⟩⟩) (fun k x => by kernel_rfl)
def law12_TurnPolygons.E : Ent := ⟨[.data true (.cons .bool (.one (.int .i64))), .data false (.one (.sl (.cons (.int .i64) (.one (.int .i64)))))], [⟨false, (.one .bool), none⟩], fun k x => law12_TurnPolygons.f k x.1 x.2.1⟩
def law12_TurnPolygons.L : List (Nat × LoopE (ResD law12_TurnPolygons.E.rs)) := []
theorem law12_TurnPolygons.H : HM Try.prog 12 law12_TurnPolygons.E :=
  hm_of (T := [(19, turn_Inverse.E), (26, ref12_SameSpots.E), (27, turn_Poly.E), (21, law12_exampleHolds.E), (37, polygon_Check.E), (38, polygon_Area2.E)]) mixed (hT_cons turn_Inverse.H (hT_cons ref12_SameSpots.H (hT_cons turn_Poly.H (hT_cons law12_exampleHolds.H (hT_cons polygon_Check.H (hT_cons polygon_Area2.H hT_nil)))))) Try.func12 (c := Try.f12.body.getD .skip) (by kernel_rfl) (by kernel_rfl) law12_TurnPolygons.E law12_TurnPolygons.L (by decide) (by exact ⟨trivial, ⟨⟨trivial, ⟨⟨trivial, trivial⟩, trivial⟩⟩, ⟨trivial, ⟨⟨trivial, ⟨⟨trivial, trivial⟩, trivial⟩⟩, ⟨trivial, ⟨trivial, trivial⟩⟩⟩⟩⟩⟩) (fun k x => by kernel_rfl)
end Go.Gm
