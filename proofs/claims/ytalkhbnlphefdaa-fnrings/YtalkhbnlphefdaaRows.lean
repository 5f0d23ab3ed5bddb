/-
  No cell of these rows narrows 'for every input' (looked for: loops, veiled, ifaces, maps, wideKeys, modest, calm, conditions, laid).
  DERIVED. THE GIVEN ROWS OF THIS SEAT. 12 by the template 'for every input the law returns true; each argument reads behind the call as it read before'; 0 by the template 'total and deterministic' (their statements: YtalkhbnlphefdaaTotals.lean).
  GIVEN WITH THE SEED: the statements are not yours to turn. If you find one false, say at which input.
  Laid BY PROGRAM, IN A SANDBOX (cutbox-rows.mjs): the forced cells as the released guide's own fill.sh prints them over the translation 68f5cc4740de8cfa… (all of the seat's roots in one cut). By AI agents, Wed Nov 11 2026. No macro, syntax, notation, axiom, sorry.
-/
import Derived.Test.YtalkhbnlphefdaaChecked
import GoSem.Claim
import GoSem.ClaimJoined
import GoSem.ClaimMapViews
import Derived.JoinedTies
import Derived.KernelRfl
namespace Go.Proofs.Ytalkhbnlphefdaa
/- THE CELL 'sum', in the pinned program and in every row, IS THE sha256 OF THE DUMP (.gsa) THAT YtalkhbnlphefdaaProg.lean LOADS. Nothing in Lean hashes anything: it is a label: what it is worth is what the hold of that sum in a sandbox is worth. -/
noncomputable def Try.pinned : Pinned := { name := "ytalkhbnlphefdaa", sum := "68f5cc4740de8cfa95bfa81811ce21065d8098eb3898ed1dd071f28383609dce", checked := Try.checked }
namespace Rows
def none {H : Type} : Left H := { results := [], args := [] }

/-- 'laws.FnRings': WHATEVER THE INPUT: true; the input reads as it did. -/
def fnRingsSpec : ChangeSpec := { name := "fnRings", fn := fun _ => fun
  | [d1, d2] => { results := [.lit (.bool true)], args := [d1, d2] }
  | _ => none }
def fnRingsRow : OpenClaim := { program := "ytalkhbnlphefdaa", sum := "68f5cc4740de8cfa95bfa81811ce21065d8098eb3898ed1dd071f28383609dce", func := "loop.example/g01201/laws.FnRings", spec := "fnRings", apart := false }
def FnRingsSaid : Prop := fnRingsRow.holds Try.pinned (OpenSpec.ofChange fnRingsSpec)

/-- ITS FALSE NEIGHBOUR: 'it returns false'. Refute it at one input. -/
def fnRingsWrong : ChangeSpec := { name := "fnRings", fn := fun _ => fun
  | [d1, d2] => { results := [.lit (.bool false)], args := [d1, d2] }
  | _ => none }
def FnRingsWrongFalsely : Prop := fnRingsRow.holds Try.pinned (OpenSpec.ofChange fnRingsWrong)

/-- 'laws.FnExactRingAround': WHATEVER THE INPUT: true; the input reads as it did. -/
def fnExactRingAroundSpec : ChangeSpec := { name := "fnExactRingAround", fn := fun _ => fun
  | [d1, d2, d3, d4] => { results := [.lit (.bool true)], args := [d1, d2, d3, d4] }
  | _ => none }
def fnExactRingAroundRow : OpenClaim := { program := "ytalkhbnlphefdaa", sum := "68f5cc4740de8cfa95bfa81811ce21065d8098eb3898ed1dd071f28383609dce", func := "loop.example/g01201/laws.FnExactRingAround", spec := "fnExactRingAround", apart := false }
def FnExactRingAroundSaid : Prop := fnExactRingAroundRow.holds Try.pinned (OpenSpec.ofChange fnExactRingAroundSpec)

/-- ITS FALSE NEIGHBOUR: 'it returns false'. Refute it at one input. -/
def fnExactRingAroundWrong : ChangeSpec := { name := "fnExactRingAround", fn := fun _ => fun
  | [d1, d2, d3, d4] => { results := [.lit (.bool false)], args := [d1, d2, d3, d4] }
  | _ => none }
def FnExactRingAroundWrongFalsely : Prop := fnExactRingAroundRow.holds Try.pinned (OpenSpec.ofChange fnExactRingAroundWrong)

/-- 'laws.FnExactRowOf': WHATEVER THE INPUT: true; the input reads as it did. -/
def fnExactRowOfSpec : ChangeSpec := { name := "fnExactRowOf", fn := fun _ => fun
  | [d1, d2, d3] => { results := [.lit (.bool true)], args := [d1, d2, d3] }
  | _ => none }
def fnExactRowOfRow : OpenClaim := { program := "ytalkhbnlphefdaa", sum := "68f5cc4740de8cfa95bfa81811ce21065d8098eb3898ed1dd071f28383609dce", func := "loop.example/g01201/laws.FnExactRowOf", spec := "fnExactRowOf", apart := false }
def FnExactRowOfSaid : Prop := fnExactRowOfRow.holds Try.pinned (OpenSpec.ofChange fnExactRowOfSpec)

/-- ITS FALSE NEIGHBOUR: 'it returns false'. Refute it at one input. -/
def fnExactRowOfWrong : ChangeSpec := { name := "fnExactRowOf", fn := fun _ => fun
  | [d1, d2, d3] => { results := [.lit (.bool false)], args := [d1, d2, d3] }
  | _ => none }
def FnExactRowOfWrongFalsely : Prop := fnExactRowOfRow.holds Try.pinned (OpenSpec.ofChange fnExactRowOfWrong)

/-- 'laws.FnExactPeakOf': WHATEVER THE INPUT: true; the input reads as it did. -/
def fnExactPeakOfSpec : ChangeSpec := { name := "fnExactPeakOf", fn := fun _ => fun
  | [d1, d2] => { results := [.lit (.bool true)], args := [d1, d2] }
  | _ => none }
def fnExactPeakOfRow : OpenClaim := { program := "ytalkhbnlphefdaa", sum := "68f5cc4740de8cfa95bfa81811ce21065d8098eb3898ed1dd071f28383609dce", func := "loop.example/g01201/laws.FnExactPeakOf", spec := "fnExactPeakOf", apart := false }
def FnExactPeakOfSaid : Prop := fnExactPeakOfRow.holds Try.pinned (OpenSpec.ofChange fnExactPeakOfSpec)

/-- ITS FALSE NEIGHBOUR: 'it returns false'. Refute it at one input. -/
def fnExactPeakOfWrong : ChangeSpec := { name := "fnExactPeakOf", fn := fun _ => fun
  | [d1, d2] => { results := [.lit (.bool false)], args := [d1, d2] }
  | _ => none }
def FnExactPeakOfWrongFalsely : Prop := fnExactPeakOfRow.holds Try.pinned (OpenSpec.ofChange fnExactPeakOfWrong)

/-- 'laws.FnExactColumnOf': WHATEVER THE INPUT: true; the input reads as it did. -/
def fnExactColumnOfSpec : ChangeSpec := { name := "fnExactColumnOf", fn := fun _ => fun
  | [d1, d2, d3] => { results := [.lit (.bool true)], args := [d1, d2, d3] }
  | _ => none }
def fnExactColumnOfRow : OpenClaim := { program := "ytalkhbnlphefdaa", sum := "68f5cc4740de8cfa95bfa81811ce21065d8098eb3898ed1dd071f28383609dce", func := "loop.example/g01201/laws.FnExactColumnOf", spec := "fnExactColumnOf", apart := false }
def FnExactColumnOfSaid : Prop := fnExactColumnOfRow.holds Try.pinned (OpenSpec.ofChange fnExactColumnOfSpec)

/-- ITS FALSE NEIGHBOUR: 'it returns false'. Refute it at one input. -/
def fnExactColumnOfWrong : ChangeSpec := { name := "fnExactColumnOf", fn := fun _ => fun
  | [d1, d2, d3] => { results := [.lit (.bool false)], args := [d1, d2, d3] }
  | _ => none }
def FnExactColumnOfWrongFalsely : Prop := fnExactColumnOfRow.holds Try.pinned (OpenSpec.ofChange fnExactColumnOfWrong)

/-- 'laws.FnExactAreSources': WHATEVER THE INPUT: true; the input reads as it did. -/
def fnExactAreSourcesSpec : ChangeSpec := { name := "fnExactAreSources", fn := fun _ => fun
  | [d1, d2] => { results := [.lit (.bool true)], args := [d1, d2] }
  | _ => none }
def fnExactAreSourcesRow : OpenClaim := { program := "ytalkhbnlphefdaa", sum := "68f5cc4740de8cfa95bfa81811ce21065d8098eb3898ed1dd071f28383609dce", func := "loop.example/g01201/laws.FnExactAreSources", spec := "fnExactAreSources", apart := false }
def FnExactAreSourcesSaid : Prop := fnExactAreSourcesRow.holds Try.pinned (OpenSpec.ofChange fnExactAreSourcesSpec)

/-- ITS FALSE NEIGHBOUR: 'it returns false'. Refute it at one input. -/
def fnExactAreSourcesWrong : ChangeSpec := { name := "fnExactAreSources", fn := fun _ => fun
  | [d1, d2] => { results := [.lit (.bool false)], args := [d1, d2] }
  | _ => none }
def FnExactAreSourcesWrongFalsely : Prop := fnExactAreSourcesRow.holds Try.pinned (OpenSpec.ofChange fnExactAreSourcesWrong)

/-- 'laws.FnExactPutValue': WHATEVER THE INPUT: true; the input reads as it did. -/
def fnExactPutValueSpec : ChangeSpec := { name := "fnExactPutValue", fn := fun _ => fun
  | [d1, d2, d3, d4, d5] => { results := [.lit (.bool true)], args := [d1, d2, d3, d4, d5] }
  | _ => none }
def fnExactPutValueRow : OpenClaim := { program := "ytalkhbnlphefdaa", sum := "68f5cc4740de8cfa95bfa81811ce21065d8098eb3898ed1dd071f28383609dce", func := "loop.example/g01201/laws.FnExactPutValue", spec := "fnExactPutValue", apart := false }
def FnExactPutValueSaid : Prop := fnExactPutValueRow.holds Try.pinned (OpenSpec.ofChange fnExactPutValueSpec)

/-- ITS FALSE NEIGHBOUR: 'it returns false'. Refute it at one input. -/
def fnExactPutValueWrong : ChangeSpec := { name := "fnExactPutValue", fn := fun _ => fun
  | [d1, d2, d3, d4, d5] => { results := [.lit (.bool false)], args := [d1, d2, d3, d4, d5] }
  | _ => none }
def FnExactPutValueWrongFalsely : Prop := fnExactPutValueRow.holds Try.pinned (OpenSpec.ofChange fnExactPutValueWrong)

/-- 'laws.FnExactScaleField': WHATEVER THE INPUT: true; the input reads as it did. -/
def fnExactScaleFieldSpec : ChangeSpec := { name := "fnExactScaleField", fn := fun _ => fun
  | [d1, d2, d3] => { results := [.lit (.bool true)], args := [d1, d2, d3] }
  | _ => none }
def fnExactScaleFieldRow : OpenClaim := { program := "ytalkhbnlphefdaa", sum := "68f5cc4740de8cfa95bfa81811ce21065d8098eb3898ed1dd071f28383609dce", func := "loop.example/g01201/laws.FnExactScaleField", spec := "fnExactScaleField", unfollowed := true, recurses := true, apart := false }
def FnExactScaleFieldSaid : Prop := fnExactScaleFieldRow.holds Try.pinned (OpenSpec.ofChange fnExactScaleFieldSpec)

/-- ITS FALSE NEIGHBOUR: 'it returns false'. Refute it at one input. -/
def fnExactScaleFieldWrong : ChangeSpec := { name := "fnExactScaleField", fn := fun _ => fun
  | [d1, d2, d3] => { results := [.lit (.bool false)], args := [d1, d2, d3] }
  | _ => none }
def FnExactScaleFieldWrongFalsely : Prop := fnExactScaleFieldRow.holds Try.pinned (OpenSpec.ofChange fnExactScaleFieldWrong)

/-- 'laws.FnExactAddFields': WHATEVER THE INPUT: true; the input reads as it did. -/
def fnExactAddFieldsSpec : ChangeSpec := { name := "fnExactAddFields", fn := fun _ => fun
  | [d1, d2, d3] => { results := [.lit (.bool true)], args := [d1, d2, d3] }
  | _ => none }
def fnExactAddFieldsRow : OpenClaim := { program := "ytalkhbnlphefdaa", sum := "68f5cc4740de8cfa95bfa81811ce21065d8098eb3898ed1dd071f28383609dce", func := "loop.example/g01201/laws.FnExactAddFields", spec := "fnExactAddFields", unfollowed := true, recurses := true, apart := false }
def FnExactAddFieldsSaid : Prop := fnExactAddFieldsRow.holds Try.pinned (OpenSpec.ofChange fnExactAddFieldsSpec)

/-- ITS FALSE NEIGHBOUR: 'it returns false'. Refute it at one input. -/
def fnExactAddFieldsWrong : ChangeSpec := { name := "fnExactAddFields", fn := fun _ => fun
  | [d1, d2, d3] => { results := [.lit (.bool false)], args := [d1, d2, d3] }
  | _ => none }
def FnExactAddFieldsWrongFalsely : Prop := fnExactAddFieldsRow.holds Try.pinned (OpenSpec.ofChange fnExactAddFieldsWrong)

/-- 'laws.FnExactShiftField': WHATEVER THE INPUT: true; the input reads as it did. -/
def fnExactShiftFieldSpec : ChangeSpec := { name := "fnExactShiftField", fn := fun _ => fun
  | [d1, d2, d3, d4] => { results := [.lit (.bool true)], args := [d1, d2, d3, d4] }
  | _ => none }
def fnExactShiftFieldRow : OpenClaim := { program := "ytalkhbnlphefdaa", sum := "68f5cc4740de8cfa95bfa81811ce21065d8098eb3898ed1dd071f28383609dce", func := "loop.example/g01201/laws.FnExactShiftField", spec := "fnExactShiftField", unfollowed := true, recurses := true, apart := false }
def FnExactShiftFieldSaid : Prop := fnExactShiftFieldRow.holds Try.pinned (OpenSpec.ofChange fnExactShiftFieldSpec)

/-- ITS FALSE NEIGHBOUR: 'it returns false'. Refute it at one input. -/
def fnExactShiftFieldWrong : ChangeSpec := { name := "fnExactShiftField", fn := fun _ => fun
  | [d1, d2, d3, d4] => { results := [.lit (.bool false)], args := [d1, d2, d3, d4] }
  | _ => none }
def FnExactShiftFieldWrongFalsely : Prop := fnExactShiftFieldRow.holds Try.pinned (OpenSpec.ofChange fnExactShiftFieldWrong)

/-- 'laws.FnExactMirrorField': WHATEVER THE INPUT: true; the input reads as it did. -/
def fnExactMirrorFieldSpec : ChangeSpec := { name := "fnExactMirrorField", fn := fun _ => fun
  | [d1, d2] => { results := [.lit (.bool true)], args := [d1, d2] }
  | _ => none }
def fnExactMirrorFieldRow : OpenClaim := { program := "ytalkhbnlphefdaa", sum := "68f5cc4740de8cfa95bfa81811ce21065d8098eb3898ed1dd071f28383609dce", func := "loop.example/g01201/laws.FnExactMirrorField", spec := "fnExactMirrorField", unfollowed := true, recurses := true, apart := false }
def FnExactMirrorFieldSaid : Prop := fnExactMirrorFieldRow.holds Try.pinned (OpenSpec.ofChange fnExactMirrorFieldSpec)

/-- ITS FALSE NEIGHBOUR: 'it returns false'. Refute it at one input. -/
def fnExactMirrorFieldWrong : ChangeSpec := { name := "fnExactMirrorField", fn := fun _ => fun
  | [d1, d2] => { results := [.lit (.bool false)], args := [d1, d2] }
  | _ => none }
def FnExactMirrorFieldWrongFalsely : Prop := fnExactMirrorFieldRow.holds Try.pinned (OpenSpec.ofChange fnExactMirrorFieldWrong)

/-- 'laws.FnExactSwapField': WHATEVER THE INPUT: true; the input reads as it did. -/
def fnExactSwapFieldSpec : ChangeSpec := { name := "fnExactSwapField", fn := fun _ => fun
  | [d1, d2] => { results := [.lit (.bool true)], args := [d1, d2] }
  | _ => none }
def fnExactSwapFieldRow : OpenClaim := { program := "ytalkhbnlphefdaa", sum := "68f5cc4740de8cfa95bfa81811ce21065d8098eb3898ed1dd071f28383609dce", func := "loop.example/g01201/laws.FnExactSwapField", spec := "fnExactSwapField", unfollowed := true, recurses := true, apart := false }
def FnExactSwapFieldSaid : Prop := fnExactSwapFieldRow.holds Try.pinned (OpenSpec.ofChange fnExactSwapFieldSpec)

/-- ITS FALSE NEIGHBOUR: 'it returns false'. Refute it at one input. -/
def fnExactSwapFieldWrong : ChangeSpec := { name := "fnExactSwapField", fn := fun _ => fun
  | [d1, d2] => { results := [.lit (.bool false)], args := [d1, d2] }
  | _ => none }
def FnExactSwapFieldWrongFalsely : Prop := fnExactSwapFieldRow.holds Try.pinned (OpenSpec.ofChange fnExactSwapFieldWrong)

/- THE SECOND FORM. 'bulk': how many values and letters a reading holds, each counted each time it is reached (what is shared counts as often as it is met; a slice's spare places count too). A statement '..UptoSaid' is the law's where the arguments, and the package variables that the reading takes, are together of bulk at most 1048576: NARROWER than '..Said'. Prove '..Said' where nothing that the law and all that it calls make is longer than what came in: it says more and counts as full. Else prove '..UptoSaid'. A law counts once. -/
mutual
def uptoBulk {H : Type} : DataW H → Nat
  | .lit (.string bytes) => bytes.length + 1
  | .lit _ => 1
  | .nil => 1
  | .ptr d => uptoBulk d + 1
  | .slice elems spare => uptoBulkAll elems + uptoBulkAll spare + 1
  | .agg parts => uptoBulkAll parts + 1
  | .iface _ d => uptoBulk d + 1
  | .map entries => uptoBulkEntries entries + 1
  | .held _ => 1
def uptoBulkAll {H : Type} : List (DataW H) → Nat
  | [] => 0
  | d :: r => uptoBulk d + uptoBulkAll r
def uptoBulkEntries {H : Type} : List (Lit × DataW H) → Nat
  | [] => 0
  | x :: r => uptoBulkEntry x + uptoBulkEntries r
def uptoBulkEntry {H : Type} : Lit × DataW H → Nat
  | (.string bytes, d) => bytes.length + uptoBulk d + 1
  | (_, d) => uptoBulk d + 1
 end
def uptoSmall : (H : Type) → List (DataW H) → Bool := fun _ ds => decide (uptoBulkAll ds ≤ 1048576)
def OpenSpec.upto (s : _root_.Go.ChangeSpec) : _root_.Go.OpenSpec := { _root_.Go.OpenSpec.ofChange s with cond := some uptoSmall }

/-- 'laws.FnRings', WHERE WHAT IT READS IS OF BULK AT MOST 1048576: true; the input reads as it did. -/
def fnRingsUptoRow : OpenClaim := { program := "ytalkhbnlphefdaa", sum := "68f5cc4740de8cfa95bfa81811ce21065d8098eb3898ed1dd071f28383609dce", func := "loop.example/g01201/laws.FnRings", spec := "fnRings", apart := false, narrowed := true }
def FnRingsUptoSaid : Prop := fnRingsUptoRow.holds Try.pinned (OpenSpec.upto fnRingsSpec)

/-- 'laws.FnExactRingAround', WHERE WHAT IT READS IS OF BULK AT MOST 1048576: true; the input reads as it did. -/
def fnExactRingAroundUptoRow : OpenClaim := { program := "ytalkhbnlphefdaa", sum := "68f5cc4740de8cfa95bfa81811ce21065d8098eb3898ed1dd071f28383609dce", func := "loop.example/g01201/laws.FnExactRingAround", spec := "fnExactRingAround", apart := false, narrowed := true }
def FnExactRingAroundUptoSaid : Prop := fnExactRingAroundUptoRow.holds Try.pinned (OpenSpec.upto fnExactRingAroundSpec)

/-- 'laws.FnExactRowOf', WHERE WHAT IT READS IS OF BULK AT MOST 1048576: true; the input reads as it did. -/
def fnExactRowOfUptoRow : OpenClaim := { program := "ytalkhbnlphefdaa", sum := "68f5cc4740de8cfa95bfa81811ce21065d8098eb3898ed1dd071f28383609dce", func := "loop.example/g01201/laws.FnExactRowOf", spec := "fnExactRowOf", apart := false, narrowed := true }
def FnExactRowOfUptoSaid : Prop := fnExactRowOfUptoRow.holds Try.pinned (OpenSpec.upto fnExactRowOfSpec)

/-- 'laws.FnExactPeakOf', WHERE WHAT IT READS IS OF BULK AT MOST 1048576: true; the input reads as it did. -/
def fnExactPeakOfUptoRow : OpenClaim := { program := "ytalkhbnlphefdaa", sum := "68f5cc4740de8cfa95bfa81811ce21065d8098eb3898ed1dd071f28383609dce", func := "loop.example/g01201/laws.FnExactPeakOf", spec := "fnExactPeakOf", apart := false, narrowed := true }
def FnExactPeakOfUptoSaid : Prop := fnExactPeakOfUptoRow.holds Try.pinned (OpenSpec.upto fnExactPeakOfSpec)

/-- 'laws.FnExactColumnOf', WHERE WHAT IT READS IS OF BULK AT MOST 1048576: true; the input reads as it did. -/
def fnExactColumnOfUptoRow : OpenClaim := { program := "ytalkhbnlphefdaa", sum := "68f5cc4740de8cfa95bfa81811ce21065d8098eb3898ed1dd071f28383609dce", func := "loop.example/g01201/laws.FnExactColumnOf", spec := "fnExactColumnOf", apart := false, narrowed := true }
def FnExactColumnOfUptoSaid : Prop := fnExactColumnOfUptoRow.holds Try.pinned (OpenSpec.upto fnExactColumnOfSpec)

/-- 'laws.FnExactAreSources', WHERE WHAT IT READS IS OF BULK AT MOST 1048576: true; the input reads as it did. -/
def fnExactAreSourcesUptoRow : OpenClaim := { program := "ytalkhbnlphefdaa", sum := "68f5cc4740de8cfa95bfa81811ce21065d8098eb3898ed1dd071f28383609dce", func := "loop.example/g01201/laws.FnExactAreSources", spec := "fnExactAreSources", apart := false, narrowed := true }
def FnExactAreSourcesUptoSaid : Prop := fnExactAreSourcesUptoRow.holds Try.pinned (OpenSpec.upto fnExactAreSourcesSpec)

/-- 'laws.FnExactPutValue', WHERE WHAT IT READS IS OF BULK AT MOST 1048576: true; the input reads as it did. -/
def fnExactPutValueUptoRow : OpenClaim := { program := "ytalkhbnlphefdaa", sum := "68f5cc4740de8cfa95bfa81811ce21065d8098eb3898ed1dd071f28383609dce", func := "loop.example/g01201/laws.FnExactPutValue", spec := "fnExactPutValue", apart := false, narrowed := true }
def FnExactPutValueUptoSaid : Prop := fnExactPutValueUptoRow.holds Try.pinned (OpenSpec.upto fnExactPutValueSpec)

/-- 'laws.FnExactScaleField', WHERE WHAT IT READS IS OF BULK AT MOST 1048576: true; the input reads as it did. -/
def fnExactScaleFieldUptoRow : OpenClaim := { program := "ytalkhbnlphefdaa", sum := "68f5cc4740de8cfa95bfa81811ce21065d8098eb3898ed1dd071f28383609dce", func := "loop.example/g01201/laws.FnExactScaleField", spec := "fnExactScaleField", unfollowed := true, recurses := true, apart := false, narrowed := true }
def FnExactScaleFieldUptoSaid : Prop := fnExactScaleFieldUptoRow.holds Try.pinned (OpenSpec.upto fnExactScaleFieldSpec)

/-- 'laws.FnExactAddFields', WHERE WHAT IT READS IS OF BULK AT MOST 1048576: true; the input reads as it did. -/
def fnExactAddFieldsUptoRow : OpenClaim := { program := "ytalkhbnlphefdaa", sum := "68f5cc4740de8cfa95bfa81811ce21065d8098eb3898ed1dd071f28383609dce", func := "loop.example/g01201/laws.FnExactAddFields", spec := "fnExactAddFields", unfollowed := true, recurses := true, apart := false, narrowed := true }
def FnExactAddFieldsUptoSaid : Prop := fnExactAddFieldsUptoRow.holds Try.pinned (OpenSpec.upto fnExactAddFieldsSpec)

/-- 'laws.FnExactShiftField', WHERE WHAT IT READS IS OF BULK AT MOST 1048576: true; the input reads as it did. -/
def fnExactShiftFieldUptoRow : OpenClaim := { program := "ytalkhbnlphefdaa", sum := "68f5cc4740de8cfa95bfa81811ce21065d8098eb3898ed1dd071f28383609dce", func := "loop.example/g01201/laws.FnExactShiftField", spec := "fnExactShiftField", unfollowed := true, recurses := true, apart := false, narrowed := true }
def FnExactShiftFieldUptoSaid : Prop := fnExactShiftFieldUptoRow.holds Try.pinned (OpenSpec.upto fnExactShiftFieldSpec)

/-- 'laws.FnExactMirrorField', WHERE WHAT IT READS IS OF BULK AT MOST 1048576: true; the input reads as it did. -/
def fnExactMirrorFieldUptoRow : OpenClaim := { program := "ytalkhbnlphefdaa", sum := "68f5cc4740de8cfa95bfa81811ce21065d8098eb3898ed1dd071f28383609dce", func := "loop.example/g01201/laws.FnExactMirrorField", spec := "fnExactMirrorField", unfollowed := true, recurses := true, apart := false, narrowed := true }
def FnExactMirrorFieldUptoSaid : Prop := fnExactMirrorFieldUptoRow.holds Try.pinned (OpenSpec.upto fnExactMirrorFieldSpec)

/-- 'laws.FnExactSwapField', WHERE WHAT IT READS IS OF BULK AT MOST 1048576: true; the input reads as it did. -/
def fnExactSwapFieldUptoRow : OpenClaim := { program := "ytalkhbnlphefdaa", sum := "68f5cc4740de8cfa95bfa81811ce21065d8098eb3898ed1dd071f28383609dce", func := "loop.example/g01201/laws.FnExactSwapField", spec := "fnExactSwapField", unfollowed := true, recurses := true, apart := false, narrowed := true }
def FnExactSwapFieldUptoSaid : Prop := fnExactSwapFieldUptoRow.holds Try.pinned (OpenSpec.upto fnExactSwapFieldSpec)

end Rows
end Go.Proofs.Ytalkhbnlphefdaa
