/- The functions compute it. -/
import Derived.Test.YtclmkhbdnidhpaaChecked
import Derived.Test.YtclmkhbdnidhpaaPi34
import Derived.Test.YtclmkhbdnidhpaaPi38
import Derived.KernelRfl
import Derived.Test.YtclmkhbdnidhpaaD07x0
set_option linter.unusedVariables false
set_option linter.unusedSimpArgs false
set_option maxRecDepth 100000
set_option maxHeartbeats 4000000
namespace Go.Gm
open Go.Pi Go.Proofs
theorem mixed : Try.prog.follows .mixedOrders = true := by kernel_rfl
def bits_Mul64.E : Ent := ⟨[.data false (.one (.int .u64)), .data false (.one (.int .u64))], [⟨false, (.one (.int .u64)), none⟩, ⟨false, (.one (.int .u64)), none⟩], fun _ x => bits_Mul64.f x.1 x.2.1⟩
def bits_Mul64.L : List (Nat × LoopE (ResD bits_Mul64.E.rs)) := []
theorem bits_Mul64.H : HM Try.prog 29 bits_Mul64.E :=
  hm_of (T := []) mixed hT_nil Try.func29 (c := Try.f29.body.getD .skip) (by kernel_rfl) (by kernel_rfl) bits_Mul64.E bits_Mul64.L (by decide) (by exact ⟨trivial, ⟨trivial, ⟨trivial, ⟨trivial, ⟨trivial, ⟨trivial, ⟨trivial, ⟨trivial, ⟨trivial, ⟨trivial, ⟨trivial, ⟨trivial, trivial⟩⟩⟩⟩⟩⟩⟩⟩⟩⟩⟩⟩) (fun k x => by kernel_rfl)
def bits_Len64.E : Ent := ⟨[.data false (.one (.int .u64))], [⟨false, (.one (.int .i64)), none⟩], fun _ x => bits_Len64.f x.1⟩
def bits_Len64.L : List (Nat × LoopE (ResD bits_Len64.E.rs)) := []
theorem bits_Len64.H : HM Try.prog 33 bits_Len64.E :=
  hm_of (T := []) mixed hT_nil Try.func33 (c := Try.f33.body.getD .skip) (by kernel_rfl) (by kernel_rfl) bits_Len64.E bits_Len64.L (by decide) (by exact ⟨trivial, ⟨⟨trivial, ⟨⟨trivial, trivial⟩, trivial⟩⟩, ⟨⟨trivial, ⟨⟨trivial, trivial⟩, trivial⟩⟩, ⟨⟨trivial, ⟨⟨trivial, trivial⟩, trivial⟩⟩, ⟨trivial, trivial⟩⟩⟩⟩⟩) (fun k x => by kernel_rfl)
def bits_LeadingZeros64.E : Ent := ⟨[.data false (.one (.int .u64))], [⟨false, (.one (.int .i64)), none⟩], fun _ x => bits_LeadingZeros64.f x.1⟩
def bits_LeadingZeros64.L : List (Nat × LoopE (ResD bits_LeadingZeros64.E.rs)) := []
theorem bits_LeadingZeros64.H : HM Try.prog 32 bits_LeadingZeros64.E :=
  hm_of (T := [(33, bits_Len64.E)]) mixed (hT_cons bits_Len64.H hT_nil) Try.func32 (c := Try.f32.body.getD .skip) (by kernel_rfl) (by kernel_rfl) bits_LeadingZeros64.E bits_LeadingZeros64.L (by decide) (by exact ⟨trivial, ⟨trivial, trivial⟩⟩) (fun k x => by kernel_rfl)
def bits_Div64.sk0 : Sk := ⟨0, [(2, .one (.c (.int .u64))), (8, .one (.c (.int .u64))), (9, .one (.c (.int .u64))), (10, .one (.c (.int .u64))), (11, .one (.c (.int .u64))), (13, .one (.c (.int .u64))), (14, .one (.c (.int .u64))), (15, .one (.c (.int .u64))), (16, .one (.c (.int .u64)))], []⟩
def bits_Div64.sk1 : Sk := ⟨0, [(2, .one (.c (.int .u64))), (8, .one (.c (.int .u64))), (9, .one (.c (.int .u64))), (10, .one (.c (.int .u64))), (14, .one (.c (.int .u64))), (15, .one (.c (.int .u64))), (16, .one (.c (.int .u64))), (17, .one (.c (.int .u64))), (18, .one (.c (.int .u64)))], []⟩
def bits_Div64.E : Ent := ⟨[.data false (.one (.int .u64)), .data false (.one (.int .u64)), .data false (.one (.int .u64))], [⟨false, (.one (.int .u64)), none⟩, ⟨false, (.one (.int .u64)), none⟩], fun k x => bits_Div64.f k x.1 x.2.1 x.2.2.1⟩
def bits_Div64.L : List (Nat × LoopE (ResD bits_Div64.E.rs)) := [(18, ⟨bits_Div64.sk0, fun k d => bits_Div64.l0 k d.1.1 d.1.2.1 d.1.2.2.1 d.1.2.2.2.1 d.1.2.2.2.2.1 d.1.2.2.2.2.2.1 d.1.2.2.2.2.2.2.1 d.1.2.2.2.2.2.2.2.1 d.1.2.2.2.2.2.2.2.2.1⟩), (25, ⟨bits_Div64.sk1, fun k d => bits_Div64.l1 k d.1.1 d.1.2.1 d.1.2.2.1 d.1.2.2.2.1 d.1.2.2.2.2.1 d.1.2.2.2.2.2.1 d.1.2.2.2.2.2.2.1 d.1.2.2.2.2.2.2.2.1 d.1.2.2.2.2.2.2.2.2.1⟩)]
theorem bits_Div64.H : HM Try.prog 31 bits_Div64.E :=
  hm_of (T := [(32, bits_LeadingZeros64.E)]) mixed (hT_cons bits_LeadingZeros64.H hT_nil) Try.func31 (c := Try.f31.body.getD .skip) (by kernel_rfl) (by kernel_rfl) bits_Div64.E bits_Div64.L (by decide) (by exact ⟨trivial, ⟨⟨trivial, ⟨trivial, trivial⟩⟩, ⟨⟨trivial, ⟨trivial, trivial⟩⟩, ⟨⟨trivial, ⟨⟨trivial, trivial⟩, trivial⟩⟩, ⟨trivial, ⟨trivial, ⟨trivial, ⟨trivial, ⟨trivial, ⟨trivial, ⟨trivial, ⟨trivial, ⟨trivial, ⟨trivial, ⟨⟨fun le h => by cases h; exact ⟨fun d => by kernel_rfl, fun k d => by kernel_rfl⟩, ⟨⟨trivial, ⟨trivial, trivial⟩⟩, ⟨trivial, ⟨trivial, ⟨trivial, ⟨trivial, trivial⟩⟩⟩⟩⟩⟩, ⟨trivial, ⟨trivial, ⟨trivial, ⟨⟨fun le h => by cases h; exact ⟨fun d => by kernel_rfl, fun k d => by kernel_rfl⟩, ⟨⟨trivial, ⟨trivial, trivial⟩⟩, ⟨trivial, ⟨trivial, ⟨trivial, ⟨trivial, trivial⟩⟩⟩⟩⟩⟩, ⟨trivial, trivial⟩⟩⟩⟩⟩⟩⟩⟩⟩⟩⟩⟩⟩⟩⟩⟩⟩⟩⟩⟩) (fun k x => by kernel_rfl)
def bits_Rem64.E : Ent := ⟨[.data false (.one (.int .u64)), .data false (.one (.int .u64)), .data false (.one (.int .u64))], [⟨false, (.one (.int .u64)), none⟩], fun k x => bits_Rem64.f k x.1 x.2.1 x.2.2.1⟩
def bits_Rem64.L : List (Nat × LoopE (ResD bits_Rem64.E.rs)) := []
theorem bits_Rem64.H : HM Try.prog 30 bits_Rem64.E :=
  hm_of (T := [(31, bits_Div64.E)]) mixed (hT_cons bits_Div64.H hT_nil) Try.func30 (c := Try.f30.body.getD .skip) (by kernel_rfl) (by kernel_rfl) bits_Rem64.E bits_Rem64.L (by decide) (by exact ⟨trivial, ⟨trivial, ⟨trivial, trivial⟩⟩⟩) (fun k x => by kernel_rfl)
def digest_mul.E : Ent := ⟨[.data false (.one (.int .u64)), .data false (.one (.int .u64))], [⟨false, (.one (.int .u64)), none⟩], fun k x => digest_mul.f k x.1 x.2.1⟩
def digest_mul.L : List (Nat × LoopE (ResD digest_mul.E.rs)) := []
theorem digest_mul.H : HM Try.prog 25 digest_mul.E :=
  hm_of (T := [(29, bits_Mul64.E), (30, bits_Rem64.E)]) mixed (hT_cons bits_Mul64.H (hT_cons bits_Rem64.H hT_nil)) Try.func25 (c := Try.f25.body.getD .skip) (by kernel_rfl) (by kernel_rfl) digest_mul.E digest_mul.L (by decide) (by exact ⟨trivial, ⟨trivial, ⟨trivial, trivial⟩⟩⟩) (fun k x => by kernel_rfl)
def digest_Of.sk0 : Sk := ⟨0, [(0, .one (.c .str)), (3, .one (.c (.int .u64))), (6, .one (.c (.int .i64))), (7, .one (.c (.int .i64)))], []⟩
def digest_Of.E : Ent := ⟨[.data false (.one .str)], [⟨false, (.one (.int .u64)), none⟩], fun k x => digest_Of.f k x.1⟩
def digest_Of.L : List (Nat × LoopE (ResD digest_Of.E.rs)) := [(4, ⟨digest_Of.sk0, fun k d => digest_Of.l0 k d.1.1 d.1.2.1 d.1.2.2.1 d.1.2.2.2.1⟩)]
theorem digest_Of.H : HM Try.prog 12 digest_Of.E :=
  hm_of (T := [(25, digest_mul.E)]) mixed (hT_cons digest_mul.H hT_nil) Try.func12 (c := Try.f12.body.getD .skip) (by kernel_rfl) (by kernel_rfl) digest_Of.E digest_Of.L (by decide) (by exact ⟨trivial, ⟨trivial, ⟨⟨trivial, ⟨fun le h => by cases h; exact ⟨fun d => by kernel_rfl, fun k d => by kernel_rfl⟩, ⟨trivial, ⟨⟨trivial, trivial⟩, ⟨⟨trivial, trivial⟩, trivial⟩⟩⟩⟩⟩, ⟨trivial, trivial⟩⟩⟩⟩) (fun k x => by kernel_rfl)
def digest_Join.sk0 : Sk := ⟨0, [(0, .one (.c (.int .u64))), (1, .one (.c (.int .i64))), (2, .one (.c (.int .u64))), (7, .one (.c (.int .u64))), (8, .one (.c (.int .u64)))], []⟩
def digest_Join.E : Ent := ⟨[.data false (.one (.int .u64)), .data false (.one (.int .i64)), .data false (.one (.int .u64))], [⟨false, (.one (.int .u64)), none⟩], fun k x => digest_Join.f k x.1 x.2.1 x.2.2.1⟩
def digest_Join.L : List (Nat × LoopE (ResD digest_Join.E.rs)) := [(3, ⟨digest_Join.sk0, fun k d => digest_Join.l0 k d.1.1 d.1.2.1 d.1.2.2.1 d.1.2.2.2.1 d.1.2.2.2.2.1⟩)]
theorem digest_Join.H : HM Try.prog 14 digest_Join.E :=
  hm_of (T := [(25, digest_mul.E)]) mixed (hT_cons digest_mul.H hT_nil) Try.func14 (c := Try.f14.body.getD .skip) (by kernel_rfl) (by kernel_rfl) digest_Join.E digest_Join.L (by decide) (by exact ⟨trivial, ⟨trivial, ⟨⟨fun le h => by cases h; exact ⟨fun d => by kernel_rfl, fun k d => by kernel_rfl⟩, ⟨⟨trivial, ⟨trivial, trivial⟩⟩, ⟨⟨⟨trivial, ⟨trivial, trivial⟩⟩, trivial⟩, trivial⟩⟩⟩, ⟨trivial, trivial⟩⟩⟩⟩) (fun k x => by kernel_rfl)
def digest_Chain.E : Ent := ⟨[.data false (.one (.int .u64)), .data false (.one .str)], [⟨false, (.one (.int .u64)), none⟩], fun k x => digest_Chain.f k x.1 x.2.1⟩
def digest_Chain.L : List (Nat × LoopE (ResD digest_Chain.E.rs)) := []
theorem digest_Chain.H : HM Try.prog 16 digest_Chain.E :=
  hm_of (T := [(12, digest_Of.E), (14, digest_Join.E)]) mixed (hT_cons digest_Of.H (hT_cons digest_Join.H hT_nil)) Try.func16 (c := Try.f16.body.getD .skip) (by kernel_rfl) (by kernel_rfl) digest_Chain.E digest_Chain.L (by decide) (by exact ⟨trivial, ⟨trivial, trivial⟩⟩) (fun k x => by kernel_rfl)
def digest_Links.sk0 : Sk := ⟨1, [(3, .one (.own 0)), (4, .one (.c (.int .u64))), (7, .one (.c (.sl (.one .str)))), (8, .one (.c (.int .i64))), (9, .one (.c (.int .i64)))], [(0, .row 22 (.one (.int .u64)) false)]⟩
def digest_Links.E : Ent := ⟨[.data false (.one (.sl (.one .str)))], [⟨false, (.one (.sl (.one (.int .u64)))), some 22⟩], fun k x => digest_Links.f k x.1⟩
def digest_Links.L : List (Nat × LoopE (ResD digest_Links.E.rs)) := [(5, ⟨digest_Links.sk0, fun k d => digest_Links.l0 k d.1.2.1 d.1.2.2.1 d.1.2.2.2.1 d.1.2.2.2.2.1 d.2.1⟩)]
theorem digest_Links.H : HM Try.prog 19 digest_Links.E :=
  hm_of (T := [(16, digest_Chain.E)]) mixed (hT_cons digest_Chain.H hT_nil) Try.func19 (c := Try.f19.body.getD .skip) (by kernel_rfl) (by kernel_rfl) digest_Links.E digest_Links.L (by decide) (by exact ⟨trivial, ⟨trivial, ⟨trivial, ⟨⟨trivial, ⟨fun le h => by cases h; exact ⟨fun d => by kernel_rfl, fun k d => by kernel_rfl⟩, ⟨trivial, ⟨⟨trivial, trivial⟩, ⟨⟨trivial, ⟨trivial, trivial⟩⟩, trivial⟩⟩⟩⟩⟩, ⟨trivial, trivial⟩⟩⟩⟩⟩) (fun k x => by kernel_rfl)
def digest_Parse.sk0 : Sk := ⟨0, [(0, .one (.c .str)), (4, .one (.c (.int .u64))), (10, .one (.c (.int .i64)))], []⟩
def digest_Parse.E : Ent := ⟨[.data false (.one .str)], [⟨false, (.one (.int .u64)), none⟩, ⟨false, (.one (.int .i64)), none⟩], fun k x => digest_Parse.f k x.1⟩
def digest_Parse.L : List (Nat × LoopE (ResD digest_Parse.E.rs)) := [(6, ⟨digest_Parse.sk0, fun k d => digest_Parse.l0 k d.1.1 d.1.2.1 d.1.2.2.1⟩)]
theorem digest_Parse.H : HM Try.prog 21 digest_Parse.E :=
  hm_of (T := []) mixed hT_nil Try.func21 (c := Try.f21.body.getD .skip) (by kernel_rfl) (by kernel_rfl) digest_Parse.E digest_Parse.L (by decide) (by exact ⟨trivial, ⟨⟨trivial, ⟨⟨trivial, trivial⟩, trivial⟩⟩, ⟨trivial, ⟨⟨trivial, ⟨fun le h => by cases h; exact ⟨fun d => by kernel_rfl, fun k d => by kernel_rfl⟩, ⟨trivial, ⟨⟨trivial, trivial⟩, ⟨⟨trivial, ⟨trivial, ⟨trivial, ⟨trivial, ⟨trivial, ⟨trivial, ⟨trivial, trivial⟩⟩⟩⟩⟩⟩⟩, trivial⟩⟩⟩⟩⟩, ⟨⟨trivial, ⟨⟨trivial, trivial⟩, trivial⟩⟩, ⟨trivial, trivial⟩⟩⟩⟩⟩⟩) (fun k x => by kernel_rfl)
def digest_Hex.sk0 : Sk := ⟨1, [(0, .one (.c (.int .u64))), (3, .one (.ptr 0 0)), (5, .one (.c (.int .i64)))], [(0, .arr 47 (.one (.int .u8)) 16)]⟩
def digest_Hex.E : Ent := ⟨[.data false (.one (.int .u64))], [⟨false, (.one .str), none⟩], fun k x => digest_Hex.f k x.1⟩
def digest_Hex.L : List (Nat × LoopE (ResD digest_Hex.E.rs)) := [(4, ⟨digest_Hex.sk0, fun k d => digest_Hex.l0 k d.1.1 d.1.2.2.1 d.2.1⟩)]
theorem digest_Hex.H : HM Try.prog 23 digest_Hex.E :=
  hm_of (T := []) mixed hT_nil Try.func23 (c := Try.f23.body.getD .skip) (by kernel_rfl) (by kernel_rfl) digest_Hex.E digest_Hex.L (by decide) (by exact ⟨trivial, ⟨trivial, ⟨⟨trivial, ⟨fun le h => by cases h; exact ⟨fun d => by kernel_rfl, fun k d => by kernel_rfl⟩, ⟨trivial, ⟨⟨trivial, trivial⟩, ⟨⟨trivial, trivial⟩, trivial⟩⟩⟩⟩⟩, ⟨trivial, trivial⟩⟩⟩⟩) (fun k x => by kernel_rfl)
def law07_alive.E : Ent := ⟨[], [⟨false, (.one .bool), none⟩], fun k _ => law07_alive.f k⟩
def law07_alive.L : List (Nat × LoopE (ResD law07_alive.E.rs)) := []
theorem law07_alive.H : HM Try.prog 11 law07_alive.E :=
  hm_of (T := [(12, digest_Of.E), (14, digest_Join.E), (16, digest_Chain.E), (19, digest_Links.E), (21, digest_Parse.E), (23, digest_Hex.E)]) mixed (hT_cons digest_Of.H (hT_cons digest_Join.H (hT_cons digest_Chain.H (hT_cons digest_Links.H (hT_cons digest_Parse.H (hT_cons digest_Hex.H hT_nil)))))) Try.func11 (c := Try.f11.body.getD .skip) (by kernel_rfl) (by kernel_rfl) law07_alive.E law07_alive.L (by decide) (by exact ⟨trivial, ⟨trivial, ⟨trivial, ⟨trivial, ⟨trivial, trivial⟩⟩⟩⟩⟩) (fun k x => by kernel_rfl)
def ref07_add.E : Ent := ⟨[.data false (.one (.int .u64)), .data false (.one (.int .u64))], [⟨false, (.one (.int .u64)), none⟩], fun _ x => ref07_add.f x.1 x.2.1⟩
def ref07_add.L : List (Nat × LoopE (ResD ref07_add.E.rs)) := []
theorem ref07_add.H : HM Try.prog 26 ref07_add.E :=
  hm_of (T := []) mixed hT_nil Try.func26 (c := Try.f26.body.getD .skip) (by kernel_rfl) (by kernel_rfl) ref07_add.E ref07_add.L (by decide) (by exact ⟨trivial, ⟨trivial, trivial⟩⟩) (fun k x => by kernel_rfl)
def ref07_mul.sk0 : Sk := ⟨0, [(0, .one (.c (.int .u64))), (1, .one (.c (.int .u64))), (5, .one (.c (.int .u64)))], []⟩
def ref07_mul.E : Ent := ⟨[.data false (.one (.int .u64)), .data false (.one (.int .u64))], [⟨false, (.one (.int .u64)), none⟩], fun k x => ref07_mul.f k x.1 x.2.1⟩
def ref07_mul.L : List (Nat × LoopE (ResD ref07_mul.E.rs)) := [(3, ⟨ref07_mul.sk0, fun k d => ref07_mul.l0 k d.1.1 d.1.2.1 d.1.2.2.1⟩)]
theorem ref07_mul.H : HM Try.prog 27 ref07_mul.E :=
  hm_of (T := [(26, ref07_add.E)]) mixed (hT_cons ref07_add.H hT_nil) Try.func27 (c := Try.f27.body.getD .skip) (by kernel_rfl) (by kernel_rfl) ref07_mul.E ref07_mul.L (by decide) (by exact ⟨trivial, ⟨trivial, ⟨⟨fun le h => by cases h; exact ⟨fun d => by kernel_rfl, fun k d => by kernel_rfl⟩, ⟨⟨trivial, ⟨trivial, trivial⟩⟩, ⟨⟨trivial, ⟨trivial, trivial⟩⟩, ⟨trivial, trivial⟩⟩⟩⟩, ⟨trivial, trivial⟩⟩⟩⟩) (fun k x => by kernel_rfl)
def ref07_Of.sk0 : Sk := ⟨0, [(0, .one (.c .str)), (3, .one (.c (.int .u64))), (4, .one (.c (.int .i64)))], []⟩
def ref07_Of.E : Ent := ⟨[.data false (.one .str)], [⟨false, (.one (.int .u64)), none⟩], fun k x => ref07_Of.f k x.1⟩
def ref07_Of.L : List (Nat × LoopE (ResD ref07_Of.E.rs)) := [(4, ⟨ref07_Of.sk0, fun k d => ref07_Of.l0 k d.1.1 d.1.2.1 d.1.2.2.1⟩)]
theorem ref07_Of.H : HM Try.prog 13 ref07_Of.E :=
  hm_of (T := [(26, ref07_add.E), (27, ref07_mul.E)]) mixed (hT_cons ref07_add.H (hT_cons ref07_mul.H hT_nil)) Try.func13 (c := Try.f13.body.getD .skip) (by kernel_rfl) (by kernel_rfl) ref07_Of.E ref07_Of.L (by decide) (by exact ⟨trivial, ⟨trivial, ⟨⟨trivial, ⟨fun le h => by cases h; exact ⟨fun d => by kernel_rfl, fun k d => by kernel_rfl⟩, ⟨⟨trivial, ⟨trivial, trivial⟩⟩, ⟨trivial, trivial⟩⟩⟩⟩, ⟨trivial, trivial⟩⟩⟩⟩) (fun k x => by kernel_rfl)
def ref07_power.sk0 : Sk := ⟨0, [(0, .one (.c (.int .i64))), (3, .one (.c (.int .u64))), (4, .one (.c (.int .u64)))], []⟩
def ref07_power.E : Ent := ⟨[.data false (.one (.int .i64))], [⟨false, (.one (.int .u64)), none⟩], fun k x => ref07_power.f k x.1⟩
def ref07_power.L : List (Nat × LoopE (ResD ref07_power.E.rs)) := [(3, ⟨ref07_power.sk0, fun k d => ref07_power.l0 k d.1.1 d.1.2.1 d.1.2.2.1⟩)]
theorem ref07_power.H : HM Try.prog 28 ref07_power.E :=
  hm_of (T := [(27, ref07_mul.E)]) mixed (hT_cons ref07_mul.H hT_nil) Try.func28 (c := Try.f28.body.getD .skip) (by kernel_rfl) (by kernel_rfl) ref07_power.E ref07_power.L (by decide) (by exact ⟨trivial, ⟨trivial, ⟨⟨fun le h => by cases h; exact ⟨fun d => by kernel_rfl, fun k d => by kernel_rfl⟩, ⟨⟨trivial, ⟨trivial, trivial⟩⟩, ⟨⟨trivial, ⟨trivial, trivial⟩⟩, ⟨trivial, trivial⟩⟩⟩⟩, ⟨trivial, trivial⟩⟩⟩⟩) (fun k x => by kernel_rfl)
def ref07_Join.E : Ent := ⟨[.data false (.one (.int .u64)), .data false (.one (.int .i64)), .data false (.one (.int .u64))], [⟨false, (.one (.int .u64)), none⟩], fun k x => ref07_Join.f k x.1 x.2.1 x.2.2.1⟩
def ref07_Join.L : List (Nat × LoopE (ResD ref07_Join.E.rs)) := []
theorem ref07_Join.H : HM Try.prog 15 ref07_Join.E :=
  hm_of (T := [(26, ref07_add.E), (27, ref07_mul.E), (28, ref07_power.E)]) mixed (hT_cons ref07_add.H (hT_cons ref07_mul.H (hT_cons ref07_power.H hT_nil))) Try.func15 (c := Try.f15.body.getD .skip) (by kernel_rfl) (by kernel_rfl) ref07_Join.E ref07_Join.L (by decide) (by exact ⟨trivial, ⟨trivial, trivial⟩⟩) (fun k x => by kernel_rfl)
def ref07_Chain.E : Ent := ⟨[.data false (.one (.int .u64)), .data false (.one .str)], [⟨false, (.one (.int .u64)), none⟩], fun k x => ref07_Chain.f k x.1 x.2.1⟩
def ref07_Chain.L : List (Nat × LoopE (ResD ref07_Chain.E.rs)) := []
theorem ref07_Chain.H : HM Try.prog 17 ref07_Chain.E :=
  hm_of (T := [(13, ref07_Of.E), (15, ref07_Join.E)]) mixed (hT_cons ref07_Of.H (hT_cons ref07_Join.H hT_nil)) Try.func17 (c := Try.f17.body.getD .skip) (by kernel_rfl) (by kernel_rfl) ref07_Chain.E ref07_Chain.L (by decide) (by exact ⟨trivial, ⟨trivial, trivial⟩⟩) (fun k x => by kernel_rfl)
def law07_DigestDefines.E : Ent := ⟨[.data false (.one .str), .data true (.cons (.int .u64) (.cons (.int .i64) (.one (.int .u64))))], [⟨false, (.one .bool), none⟩], fun k x => law07_DigestDefines.f k x.1 x.2.1⟩
def law07_DigestDefines.L : List (Nat × LoopE (ResD law07_DigestDefines.E.rs)) := []
theorem law07_DigestDefines.H : HM Try.prog 3 law07_DigestDefines.E :=
  hm_of (T := [(12, digest_Of.E), (14, digest_Join.E), (16, digest_Chain.E), (11, law07_alive.E), (13, ref07_Of.E), (15, ref07_Join.E), (17, ref07_Chain.E)]) mixed (hT_cons digest_Of.H (hT_cons digest_Join.H (hT_cons digest_Chain.H (hT_cons law07_alive.H (hT_cons ref07_Of.H (hT_cons ref07_Join.H (hT_cons ref07_Chain.H hT_nil))))))) Try.func3 (c := Try.f3.body.getD .skip) (by kernel_rfl) (by kernel_rfl) law07_DigestDefines.E law07_DigestDefines.L (by decide) (by exact ⟨trivial, ⟨⟨trivial, ⟨⟨trivial, trivial⟩, trivial⟩⟩, ⟨trivial, trivial⟩⟩⟩) (fun k x => by kernel_rfl)
def law07_light.sk0 : Sk := ⟨0, [(0, .one (.c (.sl (.one .str)))), (3, .one (.c (.int .i64)))], []⟩
def law07_light.E : Ent := ⟨[.data false (.one (.sl (.one .str)))], [⟨false, (.one .bool), none⟩], fun k x => law07_light.f k x.1⟩
def law07_light.L : List (Nat × LoopE (ResD law07_light.E.rs)) := [(5, ⟨law07_light.sk0, fun k d => law07_light.l0 k d.1.1 d.1.2.1⟩)]
theorem law07_light.H : HM Try.prog 18 law07_light.E :=
  hm_of (T := []) mixed hT_nil Try.func18 (c := Try.f18.body.getD .skip) (by kernel_rfl) (by kernel_rfl) law07_light.E law07_light.L (by decide) (by exact ⟨trivial, ⟨⟨trivial, ⟨⟨trivial, trivial⟩, trivial⟩⟩, ⟨⟨trivial, ⟨fun le h => by cases h; exact ⟨fun d => by kernel_rfl, fun k d => by kernel_rfl⟩, ⟨⟨trivial, ⟨trivial, trivial⟩⟩, ⟨⟨trivial, ⟨⟨trivial, trivial⟩, trivial⟩⟩, trivial⟩⟩⟩⟩, ⟨trivial, trivial⟩⟩⟩⟩) (fun k x => by kernel_rfl)
def ref07_Links.sk0 : Sk := ⟨1, [(0, .one (.c (.sl (.one .str)))), (3, .one (.own 0)), (4, .one (.c (.int .u64))), (5, .one (.c (.int .i64)))], [(0, .row 22 (.one (.int .u64)) false)]⟩
def ref07_Links.E : Ent := ⟨[.data false (.one (.sl (.one .str)))], [⟨false, (.one (.sl (.one (.int .u64)))), some 22⟩], fun k x => ref07_Links.f k x.1⟩
def ref07_Links.L : List (Nat × LoopE (ResD ref07_Links.E.rs)) := [(5, ⟨ref07_Links.sk0, fun k d => ref07_Links.l0 k d.1.1 d.1.2.2.1 d.1.2.2.2.1 d.2.1⟩)]
theorem ref07_Links.H : HM Try.prog 20 ref07_Links.E :=
  hm_of (T := [(17, ref07_Chain.E)]) mixed (hT_cons ref07_Chain.H hT_nil) Try.func20 (c := Try.f20.body.getD .skip) (by kernel_rfl) (by kernel_rfl) ref07_Links.E ref07_Links.L (by decide) (by exact ⟨trivial, ⟨trivial, ⟨trivial, ⟨⟨trivial, ⟨fun le h => by cases h; exact ⟨fun d => by kernel_rfl, fun k d => by kernel_rfl⟩, ⟨⟨trivial, ⟨trivial, trivial⟩⟩, ⟨⟨trivial, trivial⟩, trivial⟩⟩⟩⟩, ⟨trivial, trivial⟩⟩⟩⟩⟩) (fun k x => by kernel_rfl)
def law07_DigestLists.sk0 : Sk := ⟨2, [(3, .one (.own 0)), (4, .one (.own 1)), (5, .one (.c (.int .i64)))], [(0, .row 22 (.one (.int .u64)) false), (1, .row 22 (.one (.int .u64)) false)]⟩
def law07_DigestLists.E : Ent := ⟨[.data false (.one (.sl (.one .str)))], [⟨false, (.one .bool), none⟩], fun k x => law07_DigestLists.f k x.1⟩
def law07_DigestLists.L : List (Nat × LoopE (ResD law07_DigestLists.E.rs)) := [(8, ⟨law07_DigestLists.sk0, fun k d => law07_DigestLists.l0 k d.1.2.2.1 d.2.1 d.2.2.1⟩)]
theorem law07_DigestLists.H : HM Try.prog 4 law07_DigestLists.E :=
  hm_of (T := [(19, digest_Links.E), (11, law07_alive.E), (18, law07_light.E), (20, ref07_Links.E)]) mixed (hT_cons digest_Links.H (hT_cons law07_alive.H (hT_cons law07_light.H (hT_cons ref07_Links.H hT_nil)))) Try.func4 (c := Try.f4.body.getD .skip) (by kernel_rfl) (by kernel_rfl) law07_DigestLists.E law07_DigestLists.L (by decide) (by exact ⟨trivial, ⟨⟨trivial, ⟨⟨trivial, trivial⟩, trivial⟩⟩, ⟨trivial, ⟨⟨trivial, ⟨⟨trivial, trivial⟩, trivial⟩⟩, ⟨⟨trivial, ⟨fun le h => by cases h; exact ⟨fun d => by kernel_rfl, fun k d => by kernel_rfl⟩, ⟨⟨trivial, ⟨trivial, trivial⟩⟩, ⟨⟨trivial, ⟨⟨trivial, trivial⟩, trivial⟩⟩, trivial⟩⟩⟩⟩, ⟨trivial, trivial⟩⟩⟩⟩⟩⟩) (fun k x => by kernel_rfl)
def ref07_Parse.sk0 : Sk := ⟨0, [(0, .one (.c .str)), (4, .one (.c (.int .u64))), (5, .one (.c (.int .i64)))], []⟩
def ref07_Parse.E : Ent := ⟨[.data false (.one .str)], [⟨false, (.one (.int .u64)), none⟩, ⟨false, (.one (.int .i64)), none⟩], fun k x => ref07_Parse.f k x.1⟩
def ref07_Parse.L : List (Nat × LoopE (ResD ref07_Parse.E.rs)) := [(6, ⟨ref07_Parse.sk0, fun k d => ref07_Parse.l0 k d.1.1 d.1.2.1 d.1.2.2.1⟩)]
theorem ref07_Parse.H : HM Try.prog 22 ref07_Parse.E :=
  hm_of (T := []) mixed hT_nil Try.func22 (c := Try.f22.body.getD .skip) (by kernel_rfl) (by kernel_rfl) ref07_Parse.E ref07_Parse.L (by decide) (by exact ⟨trivial, ⟨⟨trivial, ⟨⟨trivial, trivial⟩, trivial⟩⟩, ⟨trivial, ⟨⟨trivial, ⟨fun le h => by cases h; exact ⟨fun d => by kernel_rfl, fun k d => by kernel_rfl⟩, ⟨⟨trivial, ⟨trivial, trivial⟩⟩, ⟨⟨trivial, ⟨trivial, ⟨trivial, ⟨trivial, ⟨trivial, ⟨trivial, trivial⟩⟩⟩⟩⟩⟩, trivial⟩⟩⟩⟩, ⟨⟨trivial, ⟨⟨trivial, trivial⟩, trivial⟩⟩, ⟨trivial, trivial⟩⟩⟩⟩⟩⟩) (fun k x => by kernel_rfl)
def ref07_Hex.sk0 : Sk := ⟨0, [(0, .one (.c (.int .u64))), (3, .one (.c .str)), (4, .one (.c (.int .i64)))], []⟩
def ref07_Hex.E : Ent := ⟨[.data false (.one (.int .u64))], [⟨false, (.one .str), none⟩], fun k x => ref07_Hex.f k x.1⟩
def ref07_Hex.L : List (Nat × LoopE (ResD ref07_Hex.E.rs)) := [(4, ⟨ref07_Hex.sk0, fun k d => ref07_Hex.l0 k d.1.1 d.1.2.1 d.1.2.2.1⟩)]
theorem ref07_Hex.H : HM Try.prog 24 ref07_Hex.E :=
  hm_of (T := []) mixed hT_nil Try.func24 (c := Try.f24.body.getD .skip) (by kernel_rfl) (by kernel_rfl) ref07_Hex.E ref07_Hex.L (by decide) (by exact ⟨trivial, ⟨trivial, ⟨⟨trivial, ⟨fun le h => by cases h; exact ⟨fun d => by kernel_rfl, fun k d => by kernel_rfl⟩, ⟨⟨trivial, ⟨trivial, trivial⟩⟩, ⟨⟨trivial, trivial⟩, trivial⟩⟩⟩⟩, ⟨trivial, trivial⟩⟩⟩⟩) (fun k x => by kernel_rfl)
def law07_DigestTexts.E : Ent := ⟨[.data false (.one (.int .u64)), .data false (.one .str)], [⟨false, (.one .bool), none⟩], fun k x => law07_DigestTexts.f k x.1 x.2.1⟩
def law07_DigestTexts.L : List (Nat × LoopE (ResD law07_DigestTexts.E.rs)) := []
theorem law07_DigestTexts.H : HM Try.prog 5 law07_DigestTexts.E :=
  hm_of (T := [(21, digest_Parse.E), (23, digest_Hex.E), (11, law07_alive.E), (22, ref07_Parse.E), (24, ref07_Hex.E)]) mixed (hT_cons digest_Parse.H (hT_cons digest_Hex.H (hT_cons law07_alive.H (hT_cons ref07_Parse.H (hT_cons ref07_Hex.H hT_nil))))) Try.func5 (c := Try.f5.body.getD .skip) (by kernel_rfl) (by kernel_rfl) law07_DigestTexts.E law07_DigestTexts.L (by decide) (by exact ⟨trivial, ⟨⟨trivial, ⟨⟨trivial, trivial⟩, trivial⟩⟩, ⟨trivial, ⟨trivial, ⟨trivial, trivial⟩⟩⟩⟩⟩) (fun k x => by kernel_rfl)
def law07_DigestNotices.E : Ent := ⟨[.data false (.one .str), .data false (.one (.int .u16)), .data false (.one (.int .u8))], [⟨false, (.one .bool), none⟩], fun k x => law07_DigestNotices.f k x.1 x.2.1 x.2.2.1⟩
def law07_DigestNotices.L : List (Nat × LoopE (ResD law07_DigestNotices.E.rs)) := []
theorem law07_DigestNotices.H : HM Try.prog 6 law07_DigestNotices.E :=
  hm_of (T := [(12, digest_Of.E), (19, digest_Links.E), (11, law07_alive.E)]) mixed (hT_cons digest_Of.H (hT_cons digest_Links.H (hT_cons law07_alive.H hT_nil))) Try.func6 (c := Try.f6.body.getD .skip) (by kernel_rfl) (by kernel_rfl) law07_DigestNotices.E law07_DigestNotices.L (by decide) (by exact ⟨trivial, ⟨⟨trivial, ⟨⟨trivial, trivial⟩, trivial⟩⟩, ⟨trivial, ⟨trivial, ⟨trivial, ⟨⟨trivial, ⟨⟨trivial, trivial⟩, trivial⟩⟩, ⟨trivial, ⟨trivial, trivial⟩⟩⟩⟩⟩⟩⟩⟩) (fun k x => by kernel_rfl)
def law07_DigestJoins.E : Ent := ⟨[.data false (.one .str), .data false (.one .str), .data false (.one .str)], [⟨false, (.one .bool), none⟩], fun k x => law07_DigestJoins.f k x.1 x.2.1 x.2.2.1⟩
def law07_DigestJoins.L : List (Nat × LoopE (ResD law07_DigestJoins.E.rs)) := []
theorem law07_DigestJoins.H : HM Try.prog 7 law07_DigestJoins.E :=
  hm_of (T := [(12, digest_Of.E), (14, digest_Join.E), (11, law07_alive.E)]) mixed (hT_cons digest_Of.H (hT_cons digest_Join.H (hT_cons law07_alive.H hT_nil))) Try.func7 (c := Try.f7.body.getD .skip) (by kernel_rfl) (by kernel_rfl) law07_DigestJoins.E law07_DigestJoins.L (by decide) (by exact ⟨trivial, ⟨⟨trivial, ⟨⟨trivial, trivial⟩, trivial⟩⟩, ⟨trivial, ⟨⟨trivial, ⟨⟨trivial, trivial⟩, trivial⟩⟩, ⟨trivial, ⟨trivial, trivial⟩⟩⟩⟩⟩⟩) (fun k x => by kernel_rfl)
def law07_DigestChains.sk0 : Sk := ⟨2, [(0, .one (.c (.sl (.one .str)))), (1, .one (.c .str)), (5, .one (.own 0)), (6, .one (.own 1)), (7, .one (.c (.int .u64))), (8, .one (.c .str)), (9, .one (.c (.int .i64)))], [(0, .row 22 (.one (.int .u64)) false), (1, .row 22 (.one (.int .u64)) false)]⟩
def law07_DigestChains.E : Ent := ⟨[.data false (.one (.sl (.one .str))), .data false (.one .str)], [⟨false, (.one .bool), none⟩], fun k x => law07_DigestChains.f k x.1 x.2.1⟩
def law07_DigestChains.L : List (Nat × LoopE (ResD law07_DigestChains.E.rs)) := [(10, ⟨law07_DigestChains.sk0, fun k d => law07_DigestChains.l0 k d.1.1 d.1.2.1 d.1.2.2.2.2.1 d.1.2.2.2.2.2.1 d.1.2.2.2.2.2.2.1 d.2.1 d.2.2.1⟩)]
theorem law07_DigestChains.H : HM Try.prog 8 law07_DigestChains.E :=
  hm_of (T := [(12, digest_Of.E), (16, digest_Chain.E), (19, digest_Links.E), (11, law07_alive.E), (18, law07_light.E)]) mixed (hT_cons digest_Of.H (hT_cons digest_Chain.H (hT_cons digest_Links.H (hT_cons law07_alive.H (hT_cons law07_light.H hT_nil))))) Try.func8 (c := Try.f8.body.getD .skip) (by kernel_rfl) (by kernel_rfl) law07_DigestChains.E law07_DigestChains.L (by decide) (by exact ⟨trivial, ⟨⟨trivial, ⟨⟨trivial, trivial⟩, trivial⟩⟩, ⟨trivial, ⟨trivial, ⟨⟨trivial, ⟨⟨trivial, trivial⟩, trivial⟩⟩, ⟨trivial, ⟨⟨trivial, ⟨fun le h => by cases h; exact ⟨fun d => by kernel_rfl, fun k d => by kernel_rfl⟩, ⟨⟨trivial, ⟨trivial, trivial⟩⟩, ⟨⟨trivial, ⟨trivial, ⟨trivial, ⟨⟨trivial, trivial⟩, trivial⟩⟩⟩⟩, trivial⟩⟩⟩⟩, ⟨trivial, trivial⟩⟩⟩⟩⟩⟩⟩⟩) (fun k x => by kernel_rfl)
def law07_DigestReads.E : Ent := ⟨[.data false (.one (.int .u64)), .data false (.one .str)], [⟨false, (.one .bool), none⟩], fun k x => law07_DigestReads.f k x.1 x.2.1⟩
def law07_DigestReads.L : List (Nat × LoopE (ResD law07_DigestReads.E.rs)) := []
theorem law07_DigestReads.H : HM Try.prog 9 law07_DigestReads.E :=
  hm_of (T := [(21, digest_Parse.E), (23, digest_Hex.E), (11, law07_alive.E)]) mixed (hT_cons digest_Parse.H (hT_cons digest_Hex.H (hT_cons law07_alive.H hT_nil))) Try.func9 (c := Try.f9.body.getD .skip) (by kernel_rfl) (by kernel_rfl) law07_DigestReads.E law07_DigestReads.L (by decide) (by exact ⟨trivial, ⟨⟨trivial, ⟨⟨trivial, trivial⟩, trivial⟩⟩, ⟨trivial, ⟨trivial, ⟨⟨trivial, ⟨⟨trivial, trivial⟩, trivial⟩⟩, ⟨trivial, ⟨trivial, trivial⟩⟩⟩⟩⟩⟩⟩) (fun k x => by kernel_rfl)
def law07_DigestBounds.E : Ent := ⟨[.data false (.one .str), .data true (.cons (.int .u64) (.cons (.int .i64) (.one (.int .u64))))], [⟨false, (.one .bool), none⟩], fun k x => law07_DigestBounds.f k x.1 x.2.1⟩
def law07_DigestBounds.L : List (Nat × LoopE (ResD law07_DigestBounds.E.rs)) := []
theorem law07_DigestBounds.H : HM Try.prog 10 law07_DigestBounds.E :=
  hm_of (T := [(12, digest_Of.E), (14, digest_Join.E), (16, digest_Chain.E), (11, law07_alive.E)]) mixed (hT_cons digest_Of.H (hT_cons digest_Join.H (hT_cons digest_Chain.H (hT_cons law07_alive.H hT_nil)))) Try.func10 (c := Try.f10.body.getD .skip) (by kernel_rfl) (by kernel_rfl) law07_DigestBounds.E law07_DigestBounds.L (by decide) (by exact ⟨trivial, ⟨⟨trivial, ⟨⟨trivial, trivial⟩, trivial⟩⟩, ⟨trivial, ⟨trivial, trivial⟩⟩⟩⟩) (fun k x => by kernel_rfl)
end Go.Gm
