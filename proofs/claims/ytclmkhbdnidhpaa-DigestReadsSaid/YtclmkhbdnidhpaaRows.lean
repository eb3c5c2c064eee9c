/-
  No cell of these rows narrows 'for every input' (looked for: loops, veiled, ifaces, maps, wideKeys, modest, calm, conditions, laid).
  DERIVED. THE GIVEN ROWS OF THIS SEAT. 8 by the template 'for every input the law returns true; each argument reads behind the call as it read before'; 0 by the template 'total and deterministic' (their statements: YtclmkhbdnidhpaaTotals.lean).
  GIVEN WITH THE SEED: the statements are not yours to turn. If you find one false, say at which input.
  Laid BY PROGRAM, IN A SANDBOX (cutbox-rows.mjs): the forced cells as the released guide's own fill.sh prints them over the translation c6ec730480cd33d7… (all of the seat's roots in one cut). By AI agents, Wed Nov 11 2026. No macro, syntax, notation, axiom, sorry.
-/
import Derived.Test.YtclmkhbdnidhpaaChecked
import GoSem.Claim
import GoSem.ClaimJoined
import GoSem.ClaimMapViews
import Derived.JoinedTies
import Derived.KernelRfl
namespace Go.Proofs.Ytclmkhbdnidhpaa
/- THE CELL 'sum', in the pinned program and in every row, IS THE sha256 OF THE DUMP (.gsa) THAT YtclmkhbdnidhpaaProg.lean LOADS. Nothing in Lean hashes anything: it is a label: what it is worth is what the hold of that sum in a sandbox is worth. -/
noncomputable def Try.pinned : Pinned := { name := "ytclmkhbdnidhpaa", sum := "c6ec730480cd33d760ddb1a682fe5a4fb47851dc42967dceef45a34faf836e82", checked := Try.checked }
namespace Rows
def none {H : Type} : Left H := { results := [], args := [] }

/-- 'garmentlaw07.DigestDefines': WHATEVER THE INPUT: true; the input reads as it did. -/
def digestDefinesSpec : ChangeSpec := { name := "digestDefines", fn := fun _ => fun
  | [d1, d2] => { results := [.lit (.bool true)], args := [d1, d2] }
  | _ => none }
def digestDefinesRow : OpenClaim := { program := "ytclmkhbdnidhpaa", sum := "c6ec730480cd33d760ddb1a682fe5a4fb47851dc42967dceef45a34faf836e82", func := "garment/garmentlaw07.DigestDefines", spec := "digestDefines", named := ["math/bits.divideError", "math/bits.overflowError"], apart := false }
def DigestDefinesSaid : Prop := digestDefinesRow.holds Try.pinned (OpenSpec.ofChange digestDefinesSpec)

/-- ITS FALSE NEIGHBOUR: 'it returns false'. Refute it at one input. -/
def digestDefinesWrong : ChangeSpec := { name := "digestDefines", fn := fun _ => fun
  | [d1, d2] => { results := [.lit (.bool false)], args := [d1, d2] }
  | _ => none }
def DigestDefinesWrongFalsely : Prop := digestDefinesRow.holds Try.pinned (OpenSpec.ofChange digestDefinesWrong)

/-- 'garmentlaw07.DigestLists': WHATEVER THE INPUT: true; the input reads as it did. -/
def digestListsSpec : ChangeSpec := { name := "digestLists", fn := fun _ => fun
  | [d] => { results := [.lit (.bool true)], args := [d] }
  | _ => none }
def digestListsRow : OpenClaim := { program := "ytclmkhbdnidhpaa", sum := "c6ec730480cd33d760ddb1a682fe5a4fb47851dc42967dceef45a34faf836e82", func := "garment/garmentlaw07.DigestLists", spec := "digestLists", named := ["math/bits.divideError", "math/bits.overflowError"], apart := false }
def DigestListsSaid : Prop := digestListsRow.holds Try.pinned (OpenSpec.ofChange digestListsSpec)

/-- ITS FALSE NEIGHBOUR: 'it returns false'. Refute it at one input. -/
def digestListsWrong : ChangeSpec := { name := "digestLists", fn := fun _ => fun
  | [d] => { results := [.lit (.bool false)], args := [d] }
  | _ => none }
def DigestListsWrongFalsely : Prop := digestListsRow.holds Try.pinned (OpenSpec.ofChange digestListsWrong)

/-- 'garmentlaw07.DigestTexts': WHATEVER THE INPUT: true; the input reads as it did. -/
def digestTextsSpec : ChangeSpec := { name := "digestTexts", fn := fun _ => fun
  | [d1, d2] => { results := [.lit (.bool true)], args := [d1, d2] }
  | _ => none }
def digestTextsRow : OpenClaim := { program := "ytclmkhbdnidhpaa", sum := "c6ec730480cd33d760ddb1a682fe5a4fb47851dc42967dceef45a34faf836e82", func := "garment/garmentlaw07.DigestTexts", spec := "digestTexts", named := ["math/bits.divideError", "math/bits.overflowError"], apart := false }
def DigestTextsSaid : Prop := digestTextsRow.holds Try.pinned (OpenSpec.ofChange digestTextsSpec)

/-- ITS FALSE NEIGHBOUR: 'it returns false'. Refute it at one input. -/
def digestTextsWrong : ChangeSpec := { name := "digestTexts", fn := fun _ => fun
  | [d1, d2] => { results := [.lit (.bool false)], args := [d1, d2] }
  | _ => none }
def DigestTextsWrongFalsely : Prop := digestTextsRow.holds Try.pinned (OpenSpec.ofChange digestTextsWrong)

/-- 'garmentlaw07.DigestNotices': WHATEVER THE INPUT: true; the input reads as it did. -/
def digestNoticesSpec : ChangeSpec := { name := "digestNotices", fn := fun _ => fun
  | [d1, d2, d3] => { results := [.lit (.bool true)], args := [d1, d2, d3] }
  | _ => none }
def digestNoticesRow : OpenClaim := { program := "ytclmkhbdnidhpaa", sum := "c6ec730480cd33d760ddb1a682fe5a4fb47851dc42967dceef45a34faf836e82", func := "garment/garmentlaw07.DigestNotices", spec := "digestNotices", named := ["math/bits.divideError", "math/bits.overflowError"], apart := false }
def DigestNoticesSaid : Prop := digestNoticesRow.holds Try.pinned (OpenSpec.ofChange digestNoticesSpec)

/-- ITS FALSE NEIGHBOUR: 'it returns false'. Refute it at one input. -/
def digestNoticesWrong : ChangeSpec := { name := "digestNotices", fn := fun _ => fun
  | [d1, d2, d3] => { results := [.lit (.bool false)], args := [d1, d2, d3] }
  | _ => none }
def DigestNoticesWrongFalsely : Prop := digestNoticesRow.holds Try.pinned (OpenSpec.ofChange digestNoticesWrong)

/-- 'garmentlaw07.DigestJoins': WHATEVER THE INPUT: true; the input reads as it did. -/
def digestJoinsSpec : ChangeSpec := { name := "digestJoins", fn := fun _ => fun
  | [d1, d2, d3] => { results := [.lit (.bool true)], args := [d1, d2, d3] }
  | _ => none }
def digestJoinsRow : OpenClaim := { program := "ytclmkhbdnidhpaa", sum := "c6ec730480cd33d760ddb1a682fe5a4fb47851dc42967dceef45a34faf836e82", func := "garment/garmentlaw07.DigestJoins", spec := "digestJoins", named := ["math/bits.divideError", "math/bits.overflowError"], apart := false }
def DigestJoinsSaid : Prop := digestJoinsRow.holds Try.pinned (OpenSpec.ofChange digestJoinsSpec)

/-- ITS FALSE NEIGHBOUR: 'it returns false'. Refute it at one input. -/
def digestJoinsWrong : ChangeSpec := { name := "digestJoins", fn := fun _ => fun
  | [d1, d2, d3] => { results := [.lit (.bool false)], args := [d1, d2, d3] }
  | _ => none }
def DigestJoinsWrongFalsely : Prop := digestJoinsRow.holds Try.pinned (OpenSpec.ofChange digestJoinsWrong)

/-- 'garmentlaw07.DigestChains': WHATEVER THE INPUT: true; the input reads as it did. -/
def digestChainsSpec : ChangeSpec := { name := "digestChains", fn := fun _ => fun
  | [d1, d2] => { results := [.lit (.bool true)], args := [d1, d2] }
  | _ => none }
def digestChainsRow : OpenClaim := { program := "ytclmkhbdnidhpaa", sum := "c6ec730480cd33d760ddb1a682fe5a4fb47851dc42967dceef45a34faf836e82", func := "garment/garmentlaw07.DigestChains", spec := "digestChains", named := ["math/bits.divideError", "math/bits.overflowError"], apart := false }
def DigestChainsSaid : Prop := digestChainsRow.holds Try.pinned (OpenSpec.ofChange digestChainsSpec)

/-- ITS FALSE NEIGHBOUR: 'it returns false'. Refute it at one input. -/
def digestChainsWrong : ChangeSpec := { name := "digestChains", fn := fun _ => fun
  | [d1, d2] => { results := [.lit (.bool false)], args := [d1, d2] }
  | _ => none }
def DigestChainsWrongFalsely : Prop := digestChainsRow.holds Try.pinned (OpenSpec.ofChange digestChainsWrong)

/-- 'garmentlaw07.DigestReads': WHATEVER THE INPUT: true; the input reads as it did. -/
def digestReadsSpec : ChangeSpec := { name := "digestReads", fn := fun _ => fun
  | [d1, d2] => { results := [.lit (.bool true)], args := [d1, d2] }
  | _ => none }
def digestReadsRow : OpenClaim := { program := "ytclmkhbdnidhpaa", sum := "c6ec730480cd33d760ddb1a682fe5a4fb47851dc42967dceef45a34faf836e82", func := "garment/garmentlaw07.DigestReads", spec := "digestReads", named := ["math/bits.divideError", "math/bits.overflowError"], apart := false }
def DigestReadsSaid : Prop := digestReadsRow.holds Try.pinned (OpenSpec.ofChange digestReadsSpec)

/-- ITS FALSE NEIGHBOUR: 'it returns false'. Refute it at one input. -/
def digestReadsWrong : ChangeSpec := { name := "digestReads", fn := fun _ => fun
  | [d1, d2] => { results := [.lit (.bool false)], args := [d1, d2] }
  | _ => none }
def DigestReadsWrongFalsely : Prop := digestReadsRow.holds Try.pinned (OpenSpec.ofChange digestReadsWrong)

/-- 'garmentlaw07.DigestBounds': WHATEVER THE INPUT: true; the input reads as it did. -/
def digestBoundsSpec : ChangeSpec := { name := "digestBounds", fn := fun _ => fun
  | [d1, d2] => { results := [.lit (.bool true)], args := [d1, d2] }
  | _ => none }
def digestBoundsRow : OpenClaim := { program := "ytclmkhbdnidhpaa", sum := "c6ec730480cd33d760ddb1a682fe5a4fb47851dc42967dceef45a34faf836e82", func := "garment/garmentlaw07.DigestBounds", spec := "digestBounds", named := ["math/bits.divideError", "math/bits.overflowError"], apart := false }
def DigestBoundsSaid : Prop := digestBoundsRow.holds Try.pinned (OpenSpec.ofChange digestBoundsSpec)

/-- ITS FALSE NEIGHBOUR: 'it returns false'. Refute it at one input. -/
def digestBoundsWrong : ChangeSpec := { name := "digestBounds", fn := fun _ => fun
  | [d1, d2] => { results := [.lit (.bool false)], args := [d1, d2] }
  | _ => none }
def DigestBoundsWrongFalsely : Prop := digestBoundsRow.holds Try.pinned (OpenSpec.ofChange digestBoundsWrong)

/- THE SECOND FORM. 'bulk': how many values and letters a reading holds, each counted each time it is reached (what is shared counts as often as it is met; a slice's spare places count too). A statement '..UptoSaid' is the law's where the arguments, and the package variables that the reading takes, are together of bulk at most 1048576: NARROWER than '..Said'. Prove '..Said' where nothing that the law and all that it calls make is longer than what came in: it says more and counts as full. Else prove '..UptoSaid'. A law counts once. -/
mutual
def uptoBulk {H : Type} : DataW H → Nat
  | .lit (.string bytes) => bytes.length + 1
  | .lit _ => 1
  | .nil => 1
  | .ptr d => uptoBulk d + 1
  | .slice elems spare => uptoBulkAll elems + uptoBulkAll spare + 1
  | .agg parts => uptoBulkAll parts + 1
  | .iface _ d => uptoBulk d + 1
  | .map entries => uptoBulkEntries entries + 1
  | .held _ => 1
def uptoBulkAll {H : Type} : List (DataW H) → Nat
  | [] => 0
  | d :: r => uptoBulk d + uptoBulkAll r
def uptoBulkEntries {H : Type} : List (Lit × DataW H) → Nat
  | [] => 0
  | x :: r => uptoBulkEntry x + uptoBulkEntries r
def uptoBulkEntry {H : Type} : Lit × DataW H → Nat
  | (.string bytes, d) => bytes.length + uptoBulk d + 1
  | (_, d) => uptoBulk d + 1
 end
def uptoSmall : (H : Type) → List (DataW H) → Bool := fun _ ds => decide (uptoBulkAll ds ≤ 1048576)
def OpenSpec.upto (s : _root_.Go.ChangeSpec) : _root_.Go.OpenSpec := { _root_.Go.OpenSpec.ofChange s with cond := some uptoSmall }

/-- 'garmentlaw07.DigestDefines', WHERE WHAT IT READS IS OF BULK AT MOST 1048576: true; the input reads as it did. -/
def digestDefinesUptoRow : OpenClaim := { program := "ytclmkhbdnidhpaa", sum := "c6ec730480cd33d760ddb1a682fe5a4fb47851dc42967dceef45a34faf836e82", func := "garment/garmentlaw07.DigestDefines", spec := "digestDefines", named := ["math/bits.divideError", "math/bits.overflowError"], apart := false, narrowed := true }
def DigestDefinesUptoSaid : Prop := digestDefinesUptoRow.holds Try.pinned (OpenSpec.upto digestDefinesSpec)

/-- 'garmentlaw07.DigestLists', WHERE WHAT IT READS IS OF BULK AT MOST 1048576: true; the input reads as it did. -/
def digestListsUptoRow : OpenClaim := { program := "ytclmkhbdnidhpaa", sum := "c6ec730480cd33d760ddb1a682fe5a4fb47851dc42967dceef45a34faf836e82", func := "garment/garmentlaw07.DigestLists", spec := "digestLists", named := ["math/bits.divideError", "math/bits.overflowError"], apart := false, narrowed := true }
def DigestListsUptoSaid : Prop := digestListsUptoRow.holds Try.pinned (OpenSpec.upto digestListsSpec)

/-- 'garmentlaw07.DigestTexts', WHERE WHAT IT READS IS OF BULK AT MOST 1048576: true; the input reads as it did. -/
def digestTextsUptoRow : OpenClaim := { program := "ytclmkhbdnidhpaa", sum := "c6ec730480cd33d760ddb1a682fe5a4fb47851dc42967dceef45a34faf836e82", func := "garment/garmentlaw07.DigestTexts", spec := "digestTexts", named := ["math/bits.divideError", "math/bits.overflowError"], apart := false, narrowed := true }
def DigestTextsUptoSaid : Prop := digestTextsUptoRow.holds Try.pinned (OpenSpec.upto digestTextsSpec)

/-- 'garmentlaw07.DigestNotices', WHERE WHAT IT READS IS OF BULK AT MOST 1048576: true; the input reads as it did. -/
def digestNoticesUptoRow : OpenClaim := { program := "ytclmkhbdnidhpaa", sum := "c6ec730480cd33d760ddb1a682fe5a4fb47851dc42967dceef45a34faf836e82", func := "garment/garmentlaw07.DigestNotices", spec := "digestNotices", named := ["math/bits.divideError", "math/bits.overflowError"], apart := false, narrowed := true }
def DigestNoticesUptoSaid : Prop := digestNoticesUptoRow.holds Try.pinned (OpenSpec.upto digestNoticesSpec)

/-- 'garmentlaw07.DigestJoins', WHERE WHAT IT READS IS OF BULK AT MOST 1048576: true; the input reads as it did. -/
def digestJoinsUptoRow : OpenClaim := { program := "ytclmkhbdnidhpaa", sum := "c6ec730480cd33d760ddb1a682fe5a4fb47851dc42967dceef45a34faf836e82", func := "garment/garmentlaw07.DigestJoins", spec := "digestJoins", named := ["math/bits.divideError", "math/bits.overflowError"], apart := false, narrowed := true }
def DigestJoinsUptoSaid : Prop := digestJoinsUptoRow.holds Try.pinned (OpenSpec.upto digestJoinsSpec)

/-- 'garmentlaw07.DigestChains', WHERE WHAT IT READS IS OF BULK AT MOST 1048576: true; the input reads as it did. -/
def digestChainsUptoRow : OpenClaim := { program := "ytclmkhbdnidhpaa", sum := "c6ec730480cd33d760ddb1a682fe5a4fb47851dc42967dceef45a34faf836e82", func := "garment/garmentlaw07.DigestChains", spec := "digestChains", named := ["math/bits.divideError", "math/bits.overflowError"], apart := false, narrowed := true }
def DigestChainsUptoSaid : Prop := digestChainsUptoRow.holds Try.pinned (OpenSpec.upto digestChainsSpec)

/-- 'garmentlaw07.DigestReads', WHERE WHAT IT READS IS OF BULK AT MOST 1048576: true; the input reads as it did. -/
def digestReadsUptoRow : OpenClaim := { program := "ytclmkhbdnidhpaa", sum := "c6ec730480cd33d760ddb1a682fe5a4fb47851dc42967dceef45a34faf836e82", func := "garment/garmentlaw07.DigestReads", spec := "digestReads", named := ["math/bits.divideError", "math/bits.overflowError"], apart := false, narrowed := true }
def DigestReadsUptoSaid : Prop := digestReadsUptoRow.holds Try.pinned (OpenSpec.upto digestReadsSpec)

/-- 'garmentlaw07.DigestBounds', WHERE WHAT IT READS IS OF BULK AT MOST 1048576: true; the input reads as it did. -/
def digestBoundsUptoRow : OpenClaim := { program := "ytclmkhbdnidhpaa", sum := "c6ec730480cd33d760ddb1a682fe5a4fb47851dc42967dceef45a34faf836e82", func := "garment/garmentlaw07.DigestBounds", spec := "digestBounds", named := ["math/bits.divideError", "math/bits.overflowError"], apart := false, narrowed := true }
def DigestBoundsUptoSaid : Prop := digestBoundsUptoRow.holds Try.pinned (OpenSpec.upto digestBoundsSpec)

end Rows
end Go.Proofs.Ytclmkhbdnidhpaa
