/-
  No cell of these rows narrows 'for every input' (looked for: loops, veiled, ifaces, maps, wideKeys, modest, calm, conditions, laid).
  DERIVED. THE GIVEN ROWS OF THIS SEAT. 12 by the template 'for every input the law returns true; each argument reads behind the call as it read before'; 0 by the template 'total and deterministic' (their statements: YtmcldploldaceaaTotals.lean).
  GIVEN WITH THE SEED: the statements are not yours to turn. If you find one false, say at which input.
  Laid BY PROGRAM, IN A SANDBOX (cutbox-rows.mjs): the forced cells as the released guide's own fill.sh prints them over the translation 015ffc9163c20382… (all of the seat's roots in one cut). By AI agents, Wed Nov 11 2026. No macro, syntax, notation, axiom, sorry.
-/
import Derived.Test.YtmcldploldaceaaChecked
import GoSem.Claim
import GoSem.ClaimJoined
import GoSem.ClaimMapViews
import Derived.JoinedTies
import Derived.KernelRfl
namespace Go.Proofs.Ytmcldploldaceaa
/- THE CELL 'sum', in the pinned program and in every row, IS THE sha256 OF THE DUMP (.gsa) THAT YtmcldploldaceaaProg.lean LOADS. Nothing in Lean hashes anything: it is a label: what it is worth is what the hold of that sum in a sandbox is worth. -/
noncomputable def Try.pinned : Pinned := { name := "ytmcldploldaceaa", sum := "015ffc9163c2038250d74c5e0a1fc4b120741865d5d21a49a3a008c89666b442", checked := Try.checked }
namespace Rows
def none {H : Type} : Left H := { results := [], args := [] }

/-- 'laws.FnFieldsScaled': WHATEVER THE INPUT: true; the input reads as it did. -/
def fnFieldsScaledSpec : ChangeSpec := { name := "fnFieldsScaled", fn := fun _ => fun
  | [d1, d2] => { results := [.lit (.bool true)], args := [d1, d2] }
  | _ => none }
def fnFieldsScaledRow : OpenClaim := { program := "ytmcldploldaceaa", sum := "015ffc9163c2038250d74c5e0a1fc4b120741865d5d21a49a3a008c89666b442", func := "loop.example/g01201/laws.FnFieldsScaled", spec := "fnFieldsScaled", unfollowed := true, recurses := true, apart := false }
def FnFieldsScaledSaid : Prop := fnFieldsScaledRow.holds Try.pinned (OpenSpec.ofChange fnFieldsScaledSpec)

/-- ITS FALSE NEIGHBOUR: 'it returns false'. Refute it at one input. -/
def fnFieldsScaledWrong : ChangeSpec := { name := "fnFieldsScaled", fn := fun _ => fun
  | [d1, d2] => { results := [.lit (.bool false)], args := [d1, d2] }
  | _ => none }
def FnFieldsScaledWrongFalsely : Prop := fnFieldsScaledRow.holds Try.pinned (OpenSpec.ofChange fnFieldsScaledWrong)

/-- 'laws.FnStepsMirrored': WHATEVER THE INPUT: true; the input reads as it did. -/
def fnStepsMirroredSpec : ChangeSpec := { name := "fnStepsMirrored", fn := fun _ => fun
  | [d1, d2] => { results := [.lit (.bool true)], args := [d1, d2] }
  | _ => none }
def fnStepsMirroredRow : OpenClaim := { program := "ytmcldploldaceaa", sum := "015ffc9163c2038250d74c5e0a1fc4b120741865d5d21a49a3a008c89666b442", func := "loop.example/g01201/laws.FnStepsMirrored", spec := "fnStepsMirrored", unfollowed := true, recurses := true, apart := false }
def FnStepsMirroredSaid : Prop := fnStepsMirroredRow.holds Try.pinned (OpenSpec.ofChange fnStepsMirroredSpec)

/-- ITS FALSE NEIGHBOUR: 'it returns false'. Refute it at one input. -/
def fnStepsMirroredWrong : ChangeSpec := { name := "fnStepsMirrored", fn := fun _ => fun
  | [d1, d2] => { results := [.lit (.bool false)], args := [d1, d2] }
  | _ => none }
def FnStepsMirroredWrongFalsely : Prop := fnStepsMirroredRow.holds Try.pinned (OpenSpec.ofChange fnStepsMirroredWrong)

/-- 'laws.FnExactFarCells': WHATEVER THE INPUT: true; the input reads as it did. -/
def fnExactFarCellsSpec : ChangeSpec := { name := "fnExactFarCells", fn := fun _ => fun
  | [d1, d2] => { results := [.lit (.bool true)], args := [d1, d2] }
  | _ => none }
def fnExactFarCellsRow : OpenClaim := { program := "ytmcldploldaceaa", sum := "015ffc9163c2038250d74c5e0a1fc4b120741865d5d21a49a3a008c89666b442", func := "loop.example/g01201/laws.FnExactFarCells", spec := "fnExactFarCells", unfollowed := true, recurses := true, apart := false }
def FnExactFarCellsSaid : Prop := fnExactFarCellsRow.holds Try.pinned (OpenSpec.ofChange fnExactFarCellsSpec)

/-- ITS FALSE NEIGHBOUR: 'it returns false'. Refute it at one input. -/
def fnExactFarCellsWrong : ChangeSpec := { name := "fnExactFarCells", fn := fun _ => fun
  | [d1, d2] => { results := [.lit (.bool false)], args := [d1, d2] }
  | _ => none }
def FnExactFarCellsWrongFalsely : Prop := fnExactFarCellsRow.holds Try.pinned (OpenSpec.ofChange fnExactFarCellsWrong)

/-- 'laws.FnExactHalfStep': WHATEVER THE INPUT: true; the input reads as it did. -/
def fnExactHalfStepSpec : ChangeSpec := { name := "fnExactHalfStep", fn := fun _ => fun
  | [d1, d2] => { results := [.lit (.bool true)], args := [d1, d2] }
  | _ => none }
def fnExactHalfStepRow : OpenClaim := { program := "ytmcldploldaceaa", sum := "015ffc9163c2038250d74c5e0a1fc4b120741865d5d21a49a3a008c89666b442", func := "loop.example/g01201/laws.FnExactHalfStep", spec := "fnExactHalfStep", apart := false }
def FnExactHalfStepSaid : Prop := fnExactHalfStepRow.holds Try.pinned (OpenSpec.ofChange fnExactHalfStepSpec)

/-- ITS FALSE NEIGHBOUR: 'it returns false'. Refute it at one input. -/
def fnExactHalfStepWrong : ChangeSpec := { name := "fnExactHalfStep", fn := fun _ => fun
  | [d1, d2] => { results := [.lit (.bool false)], args := [d1, d2] }
  | _ => none }
def FnExactHalfStepWrongFalsely : Prop := fnExactHalfStepRow.holds Try.pinned (OpenSpec.ofChange fnExactHalfStepWrong)

/-- 'laws.FnMirrors': WHATEVER THE INPUT: true; the input reads as it did. -/
def fnMirrorsSpec : ChangeSpec := { name := "fnMirrors", fn := fun _ => fun
  | [d1, d2] => { results := [.lit (.bool true)], args := [d1, d2] }
  | _ => none }
def fnMirrorsRow : OpenClaim := { program := "ytmcldploldaceaa", sum := "015ffc9163c2038250d74c5e0a1fc4b120741865d5d21a49a3a008c89666b442", func := "loop.example/g01201/laws.FnMirrors", spec := "fnMirrors", inPlace := ["math.Float32frombits", "math.Float64bits"], unfollowed := true, recurses := true, apart := false }
def FnMirrorsSaid : Prop := fnMirrorsRow.holds Try.pinned (OpenSpec.ofChange fnMirrorsSpec)

/-- ITS FALSE NEIGHBOUR: 'it returns false'. Refute it at one input. -/
def fnMirrorsWrong : ChangeSpec := { name := "fnMirrors", fn := fun _ => fun
  | [d1, d2] => { results := [.lit (.bool false)], args := [d1, d2] }
  | _ => none }
def FnMirrorsWrongFalsely : Prop := fnMirrorsRow.holds Try.pinned (OpenSpec.ofChange fnMirrorsWrong)

/-- 'laws.FnExactReadProbes': WHATEVER THE INPUT: true; the input reads as it did. -/
def fnExactReadProbesSpec : ChangeSpec := { name := "fnExactReadProbes", fn := fun _ => fun
  | [d1, d2, d3] => { results := [.lit (.bool true)], args := [d1, d2, d3] }
  | _ => none }
def fnExactReadProbesRow : OpenClaim := { program := "ytmcldploldaceaa", sum := "015ffc9163c2038250d74c5e0a1fc4b120741865d5d21a49a3a008c89666b442", func := "loop.example/g01201/laws.FnExactReadProbes", spec := "fnExactReadProbes", apart := false }
def FnExactReadProbesSaid : Prop := fnExactReadProbesRow.holds Try.pinned (OpenSpec.ofChange fnExactReadProbesSpec)

/-- ITS FALSE NEIGHBOUR: 'it returns false'. Refute it at one input. -/
def fnExactReadProbesWrong : ChangeSpec := { name := "fnExactReadProbes", fn := fun _ => fun
  | [d1, d2, d3] => { results := [.lit (.bool false)], args := [d1, d2, d3] }
  | _ => none }
def FnExactReadProbesWrongFalsely : Prop := fnExactReadProbesRow.holds Try.pinned (OpenSpec.ofChange fnExactReadProbesWrong)

/-- 'laws.FnExactStepField': WHATEVER THE INPUT: true; the input reads as it did. -/
def fnExactStepFieldSpec : ChangeSpec := { name := "fnExactStepField", fn := fun _ => fun
  | [d1, d2] => { results := [.lit (.bool true)], args := [d1, d2] }
  | _ => none }
def fnExactStepFieldRow : OpenClaim := { program := "ytmcldploldaceaa", sum := "015ffc9163c2038250d74c5e0a1fc4b120741865d5d21a49a3a008c89666b442", func := "loop.example/g01201/laws.FnExactStepField", spec := "fnExactStepField", unfollowed := true, recurses := true, apart := false }
def FnExactStepFieldSaid : Prop := fnExactStepFieldRow.holds Try.pinned (OpenSpec.ofChange fnExactStepFieldSpec)

/-- ITS FALSE NEIGHBOUR: 'it returns false'. Refute it at one input. -/
def fnExactStepFieldWrong : ChangeSpec := { name := "fnExactStepField", fn := fun _ => fun
  | [d1, d2] => { results := [.lit (.bool false)], args := [d1, d2] }
  | _ => none }
def FnExactStepFieldWrongFalsely : Prop := fnExactStepFieldRow.holds Try.pinned (OpenSpec.ofChange fnExactStepFieldWrong)

/-- 'laws.FnExactSumOfSteps': WHATEVER THE INPUT: true; the input reads as it did. -/
def fnExactSumOfStepsSpec : ChangeSpec := { name := "fnExactSumOfSteps", fn := fun _ => fun
  | [d1, d2, d3] => { results := [.lit (.bool true)], args := [d1, d2, d3] }
  | _ => none }
def fnExactSumOfStepsRow : OpenClaim := { program := "ytmcldploldaceaa", sum := "015ffc9163c2038250d74c5e0a1fc4b120741865d5d21a49a3a008c89666b442", func := "loop.example/g01201/laws.FnExactSumOfSteps", spec := "fnExactSumOfSteps", unfollowed := true, recurses := true, apart := false }
def FnExactSumOfStepsSaid : Prop := fnExactSumOfStepsRow.holds Try.pinned (OpenSpec.ofChange fnExactSumOfStepsSpec)

/-- ITS FALSE NEIGHBOUR: 'it returns false'. Refute it at one input. -/
def fnExactSumOfStepsWrong : ChangeSpec := { name := "fnExactSumOfSteps", fn := fun _ => fun
  | [d1, d2, d3] => { results := [.lit (.bool false)], args := [d1, d2, d3] }
  | _ => none }
def FnExactSumOfStepsWrongFalsely : Prop := fnExactSumOfStepsRow.holds Try.pinned (OpenSpec.ofChange fnExactSumOfStepsWrong)

/-- 'laws.FnExactTraceOf': WHATEVER THE INPUT: true; the input reads as it did. -/
def fnExactTraceOfSpec : ChangeSpec := { name := "fnExactTraceOf", fn := fun _ => fun
  | [d1, d2, d3, d4, d5] => { results := [.lit (.bool true)], args := [d1, d2, d3, d4, d5] }
  | _ => none }
def fnExactTraceOfRow : OpenClaim := { program := "ytmcldploldaceaa", sum := "015ffc9163c2038250d74c5e0a1fc4b120741865d5d21a49a3a008c89666b442", func := "loop.example/g01201/laws.FnExactTraceOf", spec := "fnExactTraceOf", unfollowed := true, recurses := true, apart := false }
def FnExactTraceOfSaid : Prop := fnExactTraceOfRow.holds Try.pinned (OpenSpec.ofChange fnExactTraceOfSpec)

/-- ITS FALSE NEIGHBOUR: 'it returns false'. Refute it at one input. -/
def fnExactTraceOfWrong : ChangeSpec := { name := "fnExactTraceOf", fn := fun _ => fun
  | [d1, d2, d3, d4, d5] => { results := [.lit (.bool false)], args := [d1, d2, d3, d4, d5] }
  | _ => none }
def FnExactTraceOfWrongFalsely : Prop := fnExactTraceOfRow.holds Try.pinned (OpenSpec.ofChange fnExactTraceOfWrong)

/-- 'laws.FnExactRunField': WHATEVER THE INPUT: true; the input reads as it did. -/
def fnExactRunFieldSpec : ChangeSpec := { name := "fnExactRunField", fn := fun _ => fun
  | [d1, d2, d3] => { results := [.lit (.bool true)], args := [d1, d2, d3] }
  | _ => none }
def fnExactRunFieldRow : OpenClaim := { program := "ytmcldploldaceaa", sum := "015ffc9163c2038250d74c5e0a1fc4b120741865d5d21a49a3a008c89666b442", func := "loop.example/g01201/laws.FnExactRunField", spec := "fnExactRunField", unfollowed := true, recurses := true, apart := false }
def FnExactRunFieldSaid : Prop := fnExactRunFieldRow.holds Try.pinned (OpenSpec.ofChange fnExactRunFieldSpec)

/-- ITS FALSE NEIGHBOUR: 'it returns false'. Refute it at one input. -/
def fnExactRunFieldWrong : ChangeSpec := { name := "fnExactRunField", fn := fun _ => fun
  | [d1, d2, d3] => { results := [.lit (.bool false)], args := [d1, d2, d3] }
  | _ => none }
def FnExactRunFieldWrongFalsely : Prop := fnExactRunFieldRow.holds Try.pinned (OpenSpec.ofChange fnExactRunFieldWrong)

/-- 'laws.FnExactQuietAfter': WHATEVER THE INPUT: true; the input reads as it did. -/
def fnExactQuietAfterSpec : ChangeSpec := { name := "fnExactQuietAfter", fn := fun _ => fun
  | [d1, d2, d3, d4] => { results := [.lit (.bool true)], args := [d1, d2, d3, d4] }
  | _ => none }
def fnExactQuietAfterRow : OpenClaim := { program := "ytmcldploldaceaa", sum := "015ffc9163c2038250d74c5e0a1fc4b120741865d5d21a49a3a008c89666b442", func := "loop.example/g01201/laws.FnExactQuietAfter", spec := "fnExactQuietAfter", apart := false }
def FnExactQuietAfterSaid : Prop := fnExactQuietAfterRow.holds Try.pinned (OpenSpec.ofChange fnExactQuietAfterSpec)

/-- ITS FALSE NEIGHBOUR: 'it returns false'. Refute it at one input. -/
def fnExactQuietAfterWrong : ChangeSpec := { name := "fnExactQuietAfter", fn := fun _ => fun
  | [d1, d2, d3, d4] => { results := [.lit (.bool false)], args := [d1, d2, d3, d4] }
  | _ => none }
def FnExactQuietAfterWrongFalsely : Prop := fnExactQuietAfterRow.holds Try.pinned (OpenSpec.ofChange fnExactQuietAfterWrong)

/-- 'laws.FnExactPeakTrace': WHATEVER THE INPUT: true; the input reads as it did. -/
def fnExactPeakTraceSpec : ChangeSpec := { name := "fnExactPeakTrace", fn := fun _ => fun
  | [d1, d2, d3] => { results := [.lit (.bool true)], args := [d1, d2, d3] }
  | _ => none }
def fnExactPeakTraceRow : OpenClaim := { program := "ytmcldploldaceaa", sum := "015ffc9163c2038250d74c5e0a1fc4b120741865d5d21a49a3a008c89666b442", func := "loop.example/g01201/laws.FnExactPeakTrace", spec := "fnExactPeakTrace", unfollowed := true, recurses := true, apart := false }
def FnExactPeakTraceSaid : Prop := fnExactPeakTraceRow.holds Try.pinned (OpenSpec.ofChange fnExactPeakTraceSpec)

/-- ITS FALSE NEIGHBOUR: 'it returns false'. Refute it at one input. -/
def fnExactPeakTraceWrong : ChangeSpec := { name := "fnExactPeakTrace", fn := fun _ => fun
  | [d1, d2, d3] => { results := [.lit (.bool false)], args := [d1, d2, d3] }
  | _ => none }
def FnExactPeakTraceWrongFalsely : Prop := fnExactPeakTraceRow.holds Try.pinned (OpenSpec.ofChange fnExactPeakTraceWrong)

/- THE SECOND FORM. 'bulk': how many values and letters a reading holds, each counted each time it is reached (what is shared counts as often as it is met; a slice's spare places count too). A statement '..UptoSaid' is the law's where the arguments, and the package variables that the reading takes, are together of bulk at most 1048576: NARROWER than '..Said'. Prove '..Said' where nothing that the law and all that it calls make is longer than what came in: it says more and counts as full. Else prove '..UptoSaid'. A law counts once. -/
mutual
def uptoBulk {H : Type} : DataW H → Nat
  | .lit (.string bytes) => bytes.length + 1
  | .lit _ => 1
  | .nil => 1
  | .ptr d => uptoBulk d + 1
  | .slice elems spare => uptoBulkAll elems + uptoBulkAll spare + 1
  | .agg parts => uptoBulkAll parts + 1
  | .iface _ d => uptoBulk d + 1
  | .map entries => uptoBulkEntries entries + 1
  | .held _ => 1
def uptoBulkAll {H : Type} : List (DataW H) → Nat
  | [] => 0
  | d :: r => uptoBulk d + uptoBulkAll r
def uptoBulkEntries {H : Type} : List (Lit × DataW H) → Nat
  | [] => 0
  | x :: r => uptoBulkEntry x + uptoBulkEntries r
def uptoBulkEntry {H : Type} : Lit × DataW H → Nat
  | (.string bytes, d) => bytes.length + uptoBulk d + 1
  | (_, d) => uptoBulk d + 1
 end
def uptoSmall : (H : Type) → List (DataW H) → Bool := fun _ ds => decide (uptoBulkAll ds ≤ 1048576)
def OpenSpec.upto (s : _root_.Go.ChangeSpec) : _root_.Go.OpenSpec := { _root_.Go.OpenSpec.ofChange s with cond := some uptoSmall }

/-- 'laws.FnFieldsScaled', WHERE WHAT IT READS IS OF BULK AT MOST 1048576: true; the input reads as it did. -/
def fnFieldsScaledUptoRow : OpenClaim := { program := "ytmcldploldaceaa", sum := "015ffc9163c2038250d74c5e0a1fc4b120741865d5d21a49a3a008c89666b442", func := "loop.example/g01201/laws.FnFieldsScaled", spec := "fnFieldsScaled", unfollowed := true, recurses := true, apart := false, narrowed := true }
def FnFieldsScaledUptoSaid : Prop := fnFieldsScaledUptoRow.holds Try.pinned (OpenSpec.upto fnFieldsScaledSpec)

/-- 'laws.FnStepsMirrored', WHERE WHAT IT READS IS OF BULK AT MOST 1048576: true; the input reads as it did. -/
def fnStepsMirroredUptoRow : OpenClaim := { program := "ytmcldploldaceaa", sum := "015ffc9163c2038250d74c5e0a1fc4b120741865d5d21a49a3a008c89666b442", func := "loop.example/g01201/laws.FnStepsMirrored", spec := "fnStepsMirrored", unfollowed := true, recurses := true, apart := false, narrowed := true }
def FnStepsMirroredUptoSaid : Prop := fnStepsMirroredUptoRow.holds Try.pinned (OpenSpec.upto fnStepsMirroredSpec)

/-- 'laws.FnExactFarCells', WHERE WHAT IT READS IS OF BULK AT MOST 1048576: true; the input reads as it did. -/
def fnExactFarCellsUptoRow : OpenClaim := { program := "ytmcldploldaceaa", sum := "015ffc9163c2038250d74c5e0a1fc4b120741865d5d21a49a3a008c89666b442", func := "loop.example/g01201/laws.FnExactFarCells", spec := "fnExactFarCells", unfollowed := true, recurses := true, apart := false, narrowed := true }
def FnExactFarCellsUptoSaid : Prop := fnExactFarCellsUptoRow.holds Try.pinned (OpenSpec.upto fnExactFarCellsSpec)

/-- 'laws.FnExactHalfStep', WHERE WHAT IT READS IS OF BULK AT MOST 1048576: true; the input reads as it did. -/
def fnExactHalfStepUptoRow : OpenClaim := { program := "ytmcldploldaceaa", sum := "015ffc9163c2038250d74c5e0a1fc4b120741865d5d21a49a3a008c89666b442", func := "loop.example/g01201/laws.FnExactHalfStep", spec := "fnExactHalfStep", apart := false, narrowed := true }
def FnExactHalfStepUptoSaid : Prop := fnExactHalfStepUptoRow.holds Try.pinned (OpenSpec.upto fnExactHalfStepSpec)

/-- 'laws.FnMirrors', WHERE WHAT IT READS IS OF BULK AT MOST 1048576: true; the input reads as it did. -/
def fnMirrorsUptoRow : OpenClaim := { program := "ytmcldploldaceaa", sum := "015ffc9163c2038250d74c5e0a1fc4b120741865d5d21a49a3a008c89666b442", func := "loop.example/g01201/laws.FnMirrors", spec := "fnMirrors", inPlace := ["math.Float32frombits", "math.Float64bits"], unfollowed := true, recurses := true, apart := false, narrowed := true }
def FnMirrorsUptoSaid : Prop := fnMirrorsUptoRow.holds Try.pinned (OpenSpec.upto fnMirrorsSpec)

/-- 'laws.FnExactReadProbes', WHERE WHAT IT READS IS OF BULK AT MOST 1048576: true; the input reads as it did. -/
def fnExactReadProbesUptoRow : OpenClaim := { program := "ytmcldploldaceaa", sum := "015ffc9163c2038250d74c5e0a1fc4b120741865d5d21a49a3a008c89666b442", func := "loop.example/g01201/laws.FnExactReadProbes", spec := "fnExactReadProbes", apart := false, narrowed := true }
def FnExactReadProbesUptoSaid : Prop := fnExactReadProbesUptoRow.holds Try.pinned (OpenSpec.upto fnExactReadProbesSpec)

/-- 'laws.FnExactStepField', WHERE WHAT IT READS IS OF BULK AT MOST 1048576: true; the input reads as it did. -/
def fnExactStepFieldUptoRow : OpenClaim := { program := "ytmcldploldaceaa", sum := "015ffc9163c2038250d74c5e0a1fc4b120741865d5d21a49a3a008c89666b442", func := "loop.example/g01201/laws.FnExactStepField", spec := "fnExactStepField", unfollowed := true, recurses := true, apart := false, narrowed := true }
def FnExactStepFieldUptoSaid : Prop := fnExactStepFieldUptoRow.holds Try.pinned (OpenSpec.upto fnExactStepFieldSpec)

/-- 'laws.FnExactSumOfSteps', WHERE WHAT IT READS IS OF BULK AT MOST 1048576: true; the input reads as it did. -/
def fnExactSumOfStepsUptoRow : OpenClaim := { program := "ytmcldploldaceaa", sum := "015ffc9163c2038250d74c5e0a1fc4b120741865d5d21a49a3a008c89666b442", func := "loop.example/g01201/laws.FnExactSumOfSteps", spec := "fnExactSumOfSteps", unfollowed := true, recurses := true, apart := false, narrowed := true }
def FnExactSumOfStepsUptoSaid : Prop := fnExactSumOfStepsUptoRow.holds Try.pinned (OpenSpec.upto fnExactSumOfStepsSpec)

/-- 'laws.FnExactTraceOf', WHERE WHAT IT READS IS OF BULK AT MOST 1048576: true; the input reads as it did. -/
def fnExactTraceOfUptoRow : OpenClaim := { program := "ytmcldploldaceaa", sum := "015ffc9163c2038250d74c5e0a1fc4b120741865d5d21a49a3a008c89666b442", func := "loop.example/g01201/laws.FnExactTraceOf", spec := "fnExactTraceOf", unfollowed := true, recurses := true, apart := false, narrowed := true }
def FnExactTraceOfUptoSaid : Prop := fnExactTraceOfUptoRow.holds Try.pinned (OpenSpec.upto fnExactTraceOfSpec)

/-- 'laws.FnExactRunField', WHERE WHAT IT READS IS OF BULK AT MOST 1048576: true; the input reads as it did. -/
def fnExactRunFieldUptoRow : OpenClaim := { program := "ytmcldploldaceaa", sum := "015ffc9163c2038250d74c5e0a1fc4b120741865d5d21a49a3a008c89666b442", func := "loop.example/g01201/laws.FnExactRunField", spec := "fnExactRunField", unfollowed := true, recurses := true, apart := false, narrowed := true }
def FnExactRunFieldUptoSaid : Prop := fnExactRunFieldUptoRow.holds Try.pinned (OpenSpec.upto fnExactRunFieldSpec)

/-- 'laws.FnExactQuietAfter', WHERE WHAT IT READS IS OF BULK AT MOST 1048576: true; the input reads as it did. -/
def fnExactQuietAfterUptoRow : OpenClaim := { program := "ytmcldploldaceaa", sum := "015ffc9163c2038250d74c5e0a1fc4b120741865d5d21a49a3a008c89666b442", func := "loop.example/g01201/laws.FnExactQuietAfter", spec := "fnExactQuietAfter", apart := false, narrowed := true }
def FnExactQuietAfterUptoSaid : Prop := fnExactQuietAfterUptoRow.holds Try.pinned (OpenSpec.upto fnExactQuietAfterSpec)

/-- 'laws.FnExactPeakTrace', WHERE WHAT IT READS IS OF BULK AT MOST 1048576: true; the input reads as it did. -/
def fnExactPeakTraceUptoRow : OpenClaim := { program := "ytmcldploldaceaa", sum := "015ffc9163c2038250d74c5e0a1fc4b120741865d5d21a49a3a008c89666b442", func := "loop.example/g01201/laws.FnExactPeakTrace", spec := "fnExactPeakTrace", unfollowed := true, recurses := true, apart := false, narrowed := true }
def FnExactPeakTraceUptoSaid : Prop := fnExactPeakTraceUptoRow.holds Try.pinned (OpenSpec.upto fnExactPeakTraceSpec)

end Rows
end Go.Proofs.Ytmcldploldaceaa
