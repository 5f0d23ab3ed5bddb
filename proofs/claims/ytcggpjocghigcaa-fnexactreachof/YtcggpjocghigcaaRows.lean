/-
  No cell of these rows narrows 'for every input' (looked for: loops, veiled, ifaces, maps, wideKeys, modest, calm, conditions, laid).
  DERIVED. THE GIVEN ROWS OF THIS SEAT. 12 by the template 'for every input the law returns true; each argument reads behind the call as it read before'; 0 by the template 'total and deterministic' (their statements: YtcggpjocghigcaaTotals.lean).
  GIVEN WITH THE SEED: the statements are not yours to turn. If you find one false, say at which input.
  Laid BY PROGRAM, IN A SANDBOX (cutbox-rows.mjs): the forced cells as the released guide's own fill.sh prints them over the translation 12f43306f919c2d0… (all of the seat's roots in one cut). By AI agents, Wed Nov 11 2026. No macro, syntax, notation, axiom, sorry.
-/
import Derived.Test.YtcggpjocghigcaaChecked
import GoSem.Claim
import GoSem.ClaimJoined
import GoSem.ClaimMapViews
import Derived.JoinedTies
import Derived.KernelRfl
namespace Go.Proofs.Ytcggpjocghigcaa
/- THE CELL 'sum', in the pinned program and in every row, IS THE sha256 OF THE DUMP (.gsa) THAT YtcggpjocghigcaaProg.lean LOADS. Nothing in Lean hashes anything: it is a label: what it is worth is what the hold of that sum in a sandbox is worth. -/
noncomputable def Try.pinned : Pinned := { name := "ytcggpjocghigcaa", sum := "12f43306f919c2d0063c94d16448a35a2773831c97214f7b748462e7285cda01", checked := Try.checked }
namespace Rows
def none {H : Type} : Left H := { results := [], args := [] }

/-- 'laws.FnRings': WHATEVER THE INPUT: true; the input reads as it did. -/
def fnRingsSpec : ChangeSpec := { name := "fnRings", fn := fun _ => fun
  | [d1, d2] => { results := [.lit (.bool true)], args := [d1, d2] }
  | _ => none }
def fnRingsRow : OpenClaim := { program := "ytcggpjocghigcaa", sum := "12f43306f919c2d0063c94d16448a35a2773831c97214f7b748462e7285cda01", func := "loop.example/g01201/laws.FnRings", spec := "fnRings", apart := false }
def FnRingsSaid : Prop := fnRingsRow.holds Try.pinned (OpenSpec.ofChange fnRingsSpec)

/-- ITS FALSE NEIGHBOUR: 'it returns false'. Refute it at one input. -/
def fnRingsWrong : ChangeSpec := { name := "fnRings", fn := fun _ => fun
  | [d1, d2] => { results := [.lit (.bool false)], args := [d1, d2] }
  | _ => none }
def FnRingsWrongFalsely : Prop := fnRingsRow.holds Try.pinned (OpenSpec.ofChange fnRingsWrong)

/-- 'laws.FnExactSheetCost': WHATEVER THE INPUT: true; the input reads as it did. -/
def fnExactSheetCostSpec : ChangeSpec := { name := "fnExactSheetCost", fn := fun _ => fun
  | [d] => { results := [.lit (.bool true)], args := [d] }
  | _ => none }
def fnExactSheetCostRow : OpenClaim := { program := "ytcggpjocghigcaa", sum := "12f43306f919c2d0063c94d16448a35a2773831c97214f7b748462e7285cda01", func := "loop.example/g01201/laws.FnExactSheetCost", spec := "fnExactSheetCost", apart := false }
def FnExactSheetCostSaid : Prop := fnExactSheetCostRow.holds Try.pinned (OpenSpec.ofChange fnExactSheetCostSpec)

/-- ITS FALSE NEIGHBOUR: 'it returns false'. Refute it at one input. -/
def fnExactSheetCostWrong : ChangeSpec := { name := "fnExactSheetCost", fn := fun _ => fun
  | [d] => { results := [.lit (.bool false)], args := [d] }
  | _ => none }
def FnExactSheetCostWrongFalsely : Prop := fnExactSheetCostRow.holds Try.pinned (OpenSpec.ofChange fnExactSheetCostWrong)

/-- 'laws.FnExactIsRect': WHATEVER THE INPUT: true; the input reads as it did. -/
def fnExactIsRectSpec : ChangeSpec := { name := "fnExactIsRect", fn := fun _ => fun
  | [d1, d2] => { results := [.lit (.bool true)], args := [d1, d2] }
  | _ => none }
def fnExactIsRectRow : OpenClaim := { program := "ytcggpjocghigcaa", sum := "12f43306f919c2d0063c94d16448a35a2773831c97214f7b748462e7285cda01", func := "loop.example/g01201/laws.FnExactIsRect", spec := "fnExactIsRect", apart := false }
def FnExactIsRectSaid : Prop := fnExactIsRectRow.holds Try.pinned (OpenSpec.ofChange fnExactIsRectSpec)

/-- ITS FALSE NEIGHBOUR: 'it returns false'. Refute it at one input. -/
def fnExactIsRectWrong : ChangeSpec := { name := "fnExactIsRect", fn := fun _ => fun
  | [d1, d2] => { results := [.lit (.bool false)], args := [d1, d2] }
  | _ => none }
def FnExactIsRectWrongFalsely : Prop := fnExactIsRectRow.holds Try.pinned (OpenSpec.ofChange fnExactIsRectWrong)

/-- 'laws.FnExactDepthOf': WHATEVER THE INPUT: true; the input reads as it did. -/
def fnExactDepthOfSpec : ChangeSpec := { name := "fnExactDepthOf", fn := fun _ => fun
  | [d1, d2, d3] => { results := [.lit (.bool true)], args := [d1, d2, d3] }
  | _ => none }
def fnExactDepthOfRow : OpenClaim := { program := "ytcggpjocghigcaa", sum := "12f43306f919c2d0063c94d16448a35a2773831c97214f7b748462e7285cda01", func := "loop.example/g01201/laws.FnExactDepthOf", spec := "fnExactDepthOf", apart := false }
def FnExactDepthOfSaid : Prop := fnExactDepthOfRow.holds Try.pinned (OpenSpec.ofChange fnExactDepthOfSpec)

/-- ITS FALSE NEIGHBOUR: 'it returns false'. Refute it at one input. -/
def fnExactDepthOfWrong : ChangeSpec := { name := "fnExactDepthOf", fn := fun _ => fun
  | [d1, d2, d3] => { results := [.lit (.bool false)], args := [d1, d2, d3] }
  | _ => none }
def FnExactDepthOfWrongFalsely : Prop := fnExactDepthOfRow.holds Try.pinned (OpenSpec.ofChange fnExactDepthOfWrong)

/-- 'laws.FnExactAreProbes': WHATEVER THE INPUT: true; the input reads as it did. -/
def fnExactAreProbesSpec : ChangeSpec := { name := "fnExactAreProbes", fn := fun _ => fun
  | [d1, d2] => { results := [.lit (.bool true)], args := [d1, d2] }
  | _ => none }
def fnExactAreProbesRow : OpenClaim := { program := "ytcggpjocghigcaa", sum := "12f43306f919c2d0063c94d16448a35a2773831c97214f7b748462e7285cda01", func := "loop.example/g01201/laws.FnExactAreProbes", spec := "fnExactAreProbes", apart := false }
def FnExactAreProbesSaid : Prop := fnExactAreProbesRow.holds Try.pinned (OpenSpec.ofChange fnExactAreProbesSpec)

/-- ITS FALSE NEIGHBOUR: 'it returns false'. Refute it at one input. -/
def fnExactAreProbesWrong : ChangeSpec := { name := "fnExactAreProbes", fn := fun _ => fun
  | [d1, d2] => { results := [.lit (.bool false)], args := [d1, d2] }
  | _ => none }
def FnExactAreProbesWrongFalsely : Prop := fnExactAreProbesRow.holds Try.pinned (OpenSpec.ofChange fnExactAreProbesWrong)

/-- 'laws.FnExactMirrorSheet': WHATEVER THE INPUT: true; the input reads as it did. -/
def fnExactMirrorSheetSpec : ChangeSpec := { name := "fnExactMirrorSheet", fn := fun _ => fun
  | [d] => { results := [.lit (.bool true)], args := [d] }
  | _ => none }
def fnExactMirrorSheetRow : OpenClaim := { program := "ytcggpjocghigcaa", sum := "12f43306f919c2d0063c94d16448a35a2773831c97214f7b748462e7285cda01", func := "loop.example/g01201/laws.FnExactMirrorSheet", spec := "fnExactMirrorSheet", unfollowed := true, recurses := true, apart := false }
def FnExactMirrorSheetSaid : Prop := fnExactMirrorSheetRow.holds Try.pinned (OpenSpec.ofChange fnExactMirrorSheetSpec)

/-- ITS FALSE NEIGHBOUR: 'it returns false'. Refute it at one input. -/
def fnExactMirrorSheetWrong : ChangeSpec := { name := "fnExactMirrorSheet", fn := fun _ => fun
  | [d] => { results := [.lit (.bool false)], args := [d] }
  | _ => none }
def FnExactMirrorSheetWrongFalsely : Prop := fnExactMirrorSheetRow.holds Try.pinned (OpenSpec.ofChange fnExactMirrorSheetWrong)

/-- 'laws.FnExactSwapSheet': WHATEVER THE INPUT: true; the input reads as it did. -/
def fnExactSwapSheetSpec : ChangeSpec := { name := "fnExactSwapSheet", fn := fun _ => fun
  | [d] => { results := [.lit (.bool true)], args := [d] }
  | _ => none }
def fnExactSwapSheetRow : OpenClaim := { program := "ytcggpjocghigcaa", sum := "12f43306f919c2d0063c94d16448a35a2773831c97214f7b748462e7285cda01", func := "loop.example/g01201/laws.FnExactSwapSheet", spec := "fnExactSwapSheet", unfollowed := true, recurses := true, apart := false }
def FnExactSwapSheetSaid : Prop := fnExactSwapSheetRow.holds Try.pinned (OpenSpec.ofChange fnExactSwapSheetSpec)

/-- ITS FALSE NEIGHBOUR: 'it returns false'. Refute it at one input. -/
def fnExactSwapSheetWrong : ChangeSpec := { name := "fnExactSwapSheet", fn := fun _ => fun
  | [d] => { results := [.lit (.bool false)], args := [d] }
  | _ => none }
def FnExactSwapSheetWrongFalsely : Prop := fnExactSwapSheetRow.holds Try.pinned (OpenSpec.ofChange fnExactSwapSheetWrong)

/-- 'laws.FnExactValueAt': WHATEVER THE INPUT: true; the input reads as it did. -/
def fnExactValueAtSpec : ChangeSpec := { name := "fnExactValueAt", fn := fun _ => fun
  | [d1, d2, d3, d4] => { results := [.lit (.bool true)], args := [d1, d2, d3, d4] }
  | _ => none }
def fnExactValueAtRow : OpenClaim := { program := "ytcggpjocghigcaa", sum := "12f43306f919c2d0063c94d16448a35a2773831c97214f7b748462e7285cda01", func := "loop.example/g01201/laws.FnExactValueAt", spec := "fnExactValueAt", apart := false }
def FnExactValueAtSaid : Prop := fnExactValueAtRow.holds Try.pinned (OpenSpec.ofChange fnExactValueAtSpec)

/-- ITS FALSE NEIGHBOUR: 'it returns false'. Refute it at one input. -/
def fnExactValueAtWrong : ChangeSpec := { name := "fnExactValueAt", fn := fun _ => fun
  | [d1, d2, d3, d4] => { results := [.lit (.bool false)], args := [d1, d2, d3, d4] }
  | _ => none }
def FnExactValueAtWrongFalsely : Prop := fnExactValueAtRow.holds Try.pinned (OpenSpec.ofChange fnExactValueAtWrong)

/-- 'laws.FnExactRingAround': WHATEVER THE INPUT: true; the input reads as it did. -/
def fnExactRingAroundSpec : ChangeSpec := { name := "fnExactRingAround", fn := fun _ => fun
  | [d1, d2, d3, d4] => { results := [.lit (.bool true)], args := [d1, d2, d3, d4] }
  | _ => none }
def fnExactRingAroundRow : OpenClaim := { program := "ytcggpjocghigcaa", sum := "12f43306f919c2d0063c94d16448a35a2773831c97214f7b748462e7285cda01", func := "loop.example/g01201/laws.FnExactRingAround", spec := "fnExactRingAround", apart := false }
def FnExactRingAroundSaid : Prop := fnExactRingAroundRow.holds Try.pinned (OpenSpec.ofChange fnExactRingAroundSpec)

/-- ITS FALSE NEIGHBOUR: 'it returns false'. Refute it at one input. -/
def fnExactRingAroundWrong : ChangeSpec := { name := "fnExactRingAround", fn := fun _ => fun
  | [d1, d2, d3, d4] => { results := [.lit (.bool false)], args := [d1, d2, d3, d4] }
  | _ => none }
def FnExactRingAroundWrongFalsely : Prop := fnExactRingAroundRow.holds Try.pinned (OpenSpec.ofChange fnExactRingAroundWrong)

/-- 'laws.FnExactShiftSheet': WHATEVER THE INPUT: true; the input reads as it did. -/
def fnExactShiftSheetSpec : ChangeSpec := { name := "fnExactShiftSheet", fn := fun _ => fun
  | [d1, d2, d3] => { results := [.lit (.bool true)], args := [d1, d2, d3] }
  | _ => none }
def fnExactShiftSheetRow : OpenClaim := { program := "ytcggpjocghigcaa", sum := "12f43306f919c2d0063c94d16448a35a2773831c97214f7b748462e7285cda01", func := "loop.example/g01201/laws.FnExactShiftSheet", spec := "fnExactShiftSheet", unfollowed := true, recurses := true, apart := false }
def FnExactShiftSheetSaid : Prop := fnExactShiftSheetRow.holds Try.pinned (OpenSpec.ofChange fnExactShiftSheetSpec)

/-- ITS FALSE NEIGHBOUR: 'it returns false'. Refute it at one input. -/
def fnExactShiftSheetWrong : ChangeSpec := { name := "fnExactShiftSheet", fn := fun _ => fun
  | [d1, d2, d3] => { results := [.lit (.bool false)], args := [d1, d2, d3] }
  | _ => none }
def FnExactShiftSheetWrongFalsely : Prop := fnExactShiftSheetRow.holds Try.pinned (OpenSpec.ofChange fnExactShiftSheetWrong)

/-- 'laws.FnExactReachOf': WHATEVER THE INPUT: true; the input reads as it did. -/
def fnExactReachOfSpec : ChangeSpec := { name := "fnExactReachOf", fn := fun _ => fun
  | [d1, d2, d3, d4] => { results := [.lit (.bool true)], args := [d1, d2, d3, d4] }
  | _ => none }
def fnExactReachOfRow : OpenClaim := { program := "ytcggpjocghigcaa", sum := "12f43306f919c2d0063c94d16448a35a2773831c97214f7b748462e7285cda01", func := "loop.example/g01201/laws.FnExactReachOf", spec := "fnExactReachOf", unfollowed := true, recurses := true, apart := false }
def FnExactReachOfSaid : Prop := fnExactReachOfRow.holds Try.pinned (OpenSpec.ofChange fnExactReachOfSpec)

/-- ITS FALSE NEIGHBOUR: 'it returns false'. Refute it at one input. -/
def fnExactReachOfWrong : ChangeSpec := { name := "fnExactReachOf", fn := fun _ => fun
  | [d1, d2, d3, d4] => { results := [.lit (.bool false)], args := [d1, d2, d3, d4] }
  | _ => none }
def FnExactReachOfWrongFalsely : Prop := fnExactReachOfRow.holds Try.pinned (OpenSpec.ofChange fnExactReachOfWrong)

/-- 'laws.FnExactAreSources': WHATEVER THE INPUT: true; the input reads as it did. -/
def fnExactAreSourcesSpec : ChangeSpec := { name := "fnExactAreSources", fn := fun _ => fun
  | [d1, d2] => { results := [.lit (.bool true)], args := [d1, d2] }
  | _ => none }
def fnExactAreSourcesRow : OpenClaim := { program := "ytcggpjocghigcaa", sum := "12f43306f919c2d0063c94d16448a35a2773831c97214f7b748462e7285cda01", func := "loop.example/g01201/laws.FnExactAreSources", spec := "fnExactAreSources", apart := false }
def FnExactAreSourcesSaid : Prop := fnExactAreSourcesRow.holds Try.pinned (OpenSpec.ofChange fnExactAreSourcesSpec)

/-- ITS FALSE NEIGHBOUR: 'it returns false'. Refute it at one input. -/
def fnExactAreSourcesWrong : ChangeSpec := { name := "fnExactAreSources", fn := fun _ => fun
  | [d1, d2] => { results := [.lit (.bool false)], args := [d1, d2] }
  | _ => none }
def FnExactAreSourcesWrongFalsely : Prop := fnExactAreSourcesRow.holds Try.pinned (OpenSpec.ofChange fnExactAreSourcesWrong)

/- THE SECOND FORM. 'bulk': how many values and letters a reading holds, each counted each time it is reached (what is shared counts as often as it is met; a slice's spare places count too). A statement '..UptoSaid' is the law's where the arguments, and the package variables that the reading takes, are together of bulk at most 1048576: NARROWER than '..Said'. Prove '..Said' where nothing that the law and all that it calls make is longer than what came in: it says more and counts as full. Else prove '..UptoSaid'. A law counts once. -/
mutual
def uptoBulk {H : Type} : DataW H → Nat
  | .lit (.string bytes) => bytes.length + 1
  | .lit _ => 1
  | .nil => 1
  | .ptr d => uptoBulk d + 1
  | .slice elems spare => uptoBulkAll elems + uptoBulkAll spare + 1
  | .agg parts => uptoBulkAll parts + 1
  | .iface _ d => uptoBulk d + 1
  | .map entries => uptoBulkEntries entries + 1
  | .held _ => 1
def uptoBulkAll {H : Type} : List (DataW H) → Nat
  | [] => 0
  | d :: r => uptoBulk d + uptoBulkAll r
def uptoBulkEntries {H : Type} : List (Lit × DataW H) → Nat
  | [] => 0
  | x :: r => uptoBulkEntry x + uptoBulkEntries r
def uptoBulkEntry {H : Type} : Lit × DataW H → Nat
  | (.string bytes, d) => bytes.length + uptoBulk d + 1
  | (_, d) => uptoBulk d + 1
 end
def uptoSmall : (H : Type) → List (DataW H) → Bool := fun _ ds => decide (uptoBulkAll ds ≤ 1048576)
def OpenSpec.upto (s : _root_.Go.ChangeSpec) : _root_.Go.OpenSpec := { _root_.Go.OpenSpec.ofChange s with cond := some uptoSmall }

/-- 'laws.FnRings', WHERE WHAT IT READS IS OF BULK AT MOST 1048576: true; the input reads as it did. -/
def fnRingsUptoRow : OpenClaim := { program := "ytcggpjocghigcaa", sum := "12f43306f919c2d0063c94d16448a35a2773831c97214f7b748462e7285cda01", func := "loop.example/g01201/laws.FnRings", spec := "fnRings", apart := false, narrowed := true }
def FnRingsUptoSaid : Prop := fnRingsUptoRow.holds Try.pinned (OpenSpec.upto fnRingsSpec)

/-- 'laws.FnExactSheetCost', WHERE WHAT IT READS IS OF BULK AT MOST 1048576: true; the input reads as it did. -/
def fnExactSheetCostUptoRow : OpenClaim := { program := "ytcggpjocghigcaa", sum := "12f43306f919c2d0063c94d16448a35a2773831c97214f7b748462e7285cda01", func := "loop.example/g01201/laws.FnExactSheetCost", spec := "fnExactSheetCost", apart := false, narrowed := true }
def FnExactSheetCostUptoSaid : Prop := fnExactSheetCostUptoRow.holds Try.pinned (OpenSpec.upto fnExactSheetCostSpec)

/-- 'laws.FnExactIsRect', WHERE WHAT IT READS IS OF BULK AT MOST 1048576: true; the input reads as it did. -/
def fnExactIsRectUptoRow : OpenClaim := { program := "ytcggpjocghigcaa", sum := "12f43306f919c2d0063c94d16448a35a2773831c97214f7b748462e7285cda01", func := "loop.example/g01201/laws.FnExactIsRect", spec := "fnExactIsRect", apart := false, narrowed := true }
def FnExactIsRectUptoSaid : Prop := fnExactIsRectUptoRow.holds Try.pinned (OpenSpec.upto fnExactIsRectSpec)

/-- 'laws.FnExactDepthOf', WHERE WHAT IT READS IS OF BULK AT MOST 1048576: true; the input reads as it did. -/
def fnExactDepthOfUptoRow : OpenClaim := { program := "ytcggpjocghigcaa", sum := "12f43306f919c2d0063c94d16448a35a2773831c97214f7b748462e7285cda01", func := "loop.example/g01201/laws.FnExactDepthOf", spec := "fnExactDepthOf", apart := false, narrowed := true }
def FnExactDepthOfUptoSaid : Prop := fnExactDepthOfUptoRow.holds Try.pinned (OpenSpec.upto fnExactDepthOfSpec)

/-- 'laws.FnExactAreProbes', WHERE WHAT IT READS IS OF BULK AT MOST 1048576: true; the input reads as it did. -/
def fnExactAreProbesUptoRow : OpenClaim := { program := "ytcggpjocghigcaa", sum := "12f43306f919c2d0063c94d16448a35a2773831c97214f7b748462e7285cda01", func := "loop.example/g01201/laws.FnExactAreProbes", spec := "fnExactAreProbes", apart := false, narrowed := true }
def FnExactAreProbesUptoSaid : Prop := fnExactAreProbesUptoRow.holds Try.pinned (OpenSpec.upto fnExactAreProbesSpec)

/-- 'laws.FnExactMirrorSheet', WHERE WHAT IT READS IS OF BULK AT MOST 1048576: true; the input reads as it did. -/
def fnExactMirrorSheetUptoRow : OpenClaim := { program := "ytcggpjocghigcaa", sum := "12f43306f919c2d0063c94d16448a35a2773831c97214f7b748462e7285cda01", func := "loop.example/g01201/laws.FnExactMirrorSheet", spec := "fnExactMirrorSheet", unfollowed := true, recurses := true, apart := false, narrowed := true }
def FnExactMirrorSheetUptoSaid : Prop := fnExactMirrorSheetUptoRow.holds Try.pinned (OpenSpec.upto fnExactMirrorSheetSpec)

/-- 'laws.FnExactSwapSheet', WHERE WHAT IT READS IS OF BULK AT MOST 1048576: true; the input reads as it did. -/
def fnExactSwapSheetUptoRow : OpenClaim := { program := "ytcggpjocghigcaa", sum := "12f43306f919c2d0063c94d16448a35a2773831c97214f7b748462e7285cda01", func := "loop.example/g01201/laws.FnExactSwapSheet", spec := "fnExactSwapSheet", unfollowed := true, recurses := true, apart := false, narrowed := true }
def FnExactSwapSheetUptoSaid : Prop := fnExactSwapSheetUptoRow.holds Try.pinned (OpenSpec.upto fnExactSwapSheetSpec)

/-- 'laws.FnExactValueAt', WHERE WHAT IT READS IS OF BULK AT MOST 1048576: true; the input reads as it did. -/
def fnExactValueAtUptoRow : OpenClaim := { program := "ytcggpjocghigcaa", sum := "12f43306f919c2d0063c94d16448a35a2773831c97214f7b748462e7285cda01", func := "loop.example/g01201/laws.FnExactValueAt", spec := "fnExactValueAt", apart := false, narrowed := true }
def FnExactValueAtUptoSaid : Prop := fnExactValueAtUptoRow.holds Try.pinned (OpenSpec.upto fnExactValueAtSpec)

/-- 'laws.FnExactRingAround', WHERE WHAT IT READS IS OF BULK AT MOST 1048576: true; the input reads as it did. -/
def fnExactRingAroundUptoRow : OpenClaim := { program := "ytcggpjocghigcaa", sum := "12f43306f919c2d0063c94d16448a35a2773831c97214f7b748462e7285cda01", func := "loop.example/g01201/laws.FnExactRingAround", spec := "fnExactRingAround", apart := false, narrowed := true }
def FnExactRingAroundUptoSaid : Prop := fnExactRingAroundUptoRow.holds Try.pinned (OpenSpec.upto fnExactRingAroundSpec)

/-- 'laws.FnExactShiftSheet', WHERE WHAT IT READS IS OF BULK AT MOST 1048576: true; the input reads as it did. -/
def fnExactShiftSheetUptoRow : OpenClaim := { program := "ytcggpjocghigcaa", sum := "12f43306f919c2d0063c94d16448a35a2773831c97214f7b748462e7285cda01", func := "loop.example/g01201/laws.FnExactShiftSheet", spec := "fnExactShiftSheet", unfollowed := true, recurses := true, apart := false, narrowed := true }
def FnExactShiftSheetUptoSaid : Prop := fnExactShiftSheetUptoRow.holds Try.pinned (OpenSpec.upto fnExactShiftSheetSpec)

/-- 'laws.FnExactReachOf', WHERE WHAT IT READS IS OF BULK AT MOST 1048576: true; the input reads as it did. -/
def fnExactReachOfUptoRow : OpenClaim := { program := "ytcggpjocghigcaa", sum := "12f43306f919c2d0063c94d16448a35a2773831c97214f7b748462e7285cda01", func := "loop.example/g01201/laws.FnExactReachOf", spec := "fnExactReachOf", unfollowed := true, recurses := true, apart := false, narrowed := true }
def FnExactReachOfUptoSaid : Prop := fnExactReachOfUptoRow.holds Try.pinned (OpenSpec.upto fnExactReachOfSpec)

/-- 'laws.FnExactAreSources', WHERE WHAT IT READS IS OF BULK AT MOST 1048576: true; the input reads as it did. -/
def fnExactAreSourcesUptoRow : OpenClaim := { program := "ytcggpjocghigcaa", sum := "12f43306f919c2d0063c94d16448a35a2773831c97214f7b748462e7285cda01", func := "loop.example/g01201/laws.FnExactAreSources", spec := "fnExactAreSources", apart := false, narrowed := true }
def FnExactAreSourcesUptoSaid : Prop := fnExactAreSourcesUptoRow.holds Try.pinned (OpenSpec.upto fnExactAreSourcesSpec)

end Rows
end Go.Proofs.Ytcggpjocghigcaa
