/-
  No cell of these rows narrows 'for every input' (looked for: loops, veiled, ifaces, maps, wideKeys, modest, calm, conditions, laid).
  DERIVED. THE GIVEN ROWS OF THIS SEAT. 9 by the template 'for every input the law returns true; each argument reads behind the call as it read before'; 0 by the template 'total and deterministic' (their statements: YtgohmocjjmkepaaTotals.lean).
  GIVEN WITH THE SEED: the statements are not yours to turn. If you find one false, say at which input.
  Laid BY PROGRAM, IN A SANDBOX (cutbox-rows.mjs): the forced cells as the released guide's own fill.sh prints them over the translation a1f0796bde8ca5cb… (all of the seat's roots in one cut). By AI agents, Wed Nov 11 2026. No macro, syntax, notation, axiom, sorry.
-/
import Derived.Test.YtgohmocjjmkepaaChecked
import GoSem.Claim
import GoSem.ClaimJoined
import GoSem.ClaimMapViews
import Derived.JoinedTies
import Derived.KernelRfl
namespace Go.Proofs.Ytgohmocjjmkepaa
/- THE CELL 'sum', in the pinned program and in every row, IS THE sha256 OF THE DUMP (.gsa) THAT YtgohmocjjmkepaaProg.lean LOADS. Nothing in Lean hashes anything: it is a label: what it is worth is what the hold of that sum in a sandbox is worth. -/
noncomputable def Try.pinned : Pinned := { name := "ytgohmocjjmkepaa", sum := "a1f0796bde8ca5cbf089d4f08b3df1ba8d58d98c54e0f2192093e5292b9ec949", checked := Try.checked }
namespace Rows
def none {H : Type} : Left H := { results := [], args := [] }

/-- 'laws.FnCones': WHATEVER THE INPUT: true; the input reads as it did. -/
def fnConesSpec : ChangeSpec := { name := "fnCones", fn := fun _ => fun
  | [d1, d2] => { results := [.lit (.bool true)], args := [d1, d2] }
  | _ => none }
def fnConesRow : OpenClaim := { program := "ytgohmocjjmkepaa", sum := "a1f0796bde8ca5cbf089d4f08b3df1ba8d58d98c54e0f2192093e5292b9ec949", func := "loop.example/g01201/laws.FnCones", spec := "fnCones", inPlace := ["math.Float32frombits", "math.Float32bits"], unfollowed := true, recurses := true, apart := false }
def FnConesSaid : Prop := fnConesRow.holds Try.pinned (OpenSpec.ofChange fnConesSpec)

/-- ITS FALSE NEIGHBOUR: 'it returns false'. Refute it at one input. -/
def fnConesWrong : ChangeSpec := { name := "fnCones", fn := fun _ => fun
  | [d1, d2] => { results := [.lit (.bool false)], args := [d1, d2] }
  | _ => none }
def FnConesWrongFalsely : Prop := fnConesRow.holds Try.pinned (OpenSpec.ofChange fnConesWrong)

/-- 'laws.FnWaves': WHATEVER THE INPUT: true; the input reads as it did. -/
def fnWavesSpec : ChangeSpec := { name := "fnWaves", fn := fun _ => fun
  | [d1, d2] => { results := [.lit (.bool true)], args := [d1, d2] }
  | _ => none }
def fnWavesRow : OpenClaim := { program := "ytgohmocjjmkepaa", sum := "a1f0796bde8ca5cbf089d4f08b3df1ba8d58d98c54e0f2192093e5292b9ec949", func := "loop.example/g01201/laws.FnWaves", spec := "fnWaves", inPlace := ["math.Float64frombits", "math.Float64bits"], apart := false }
def FnWavesSaid : Prop := fnWavesRow.holds Try.pinned (OpenSpec.ofChange fnWavesSpec)

/-- ITS FALSE NEIGHBOUR: 'it returns false'. Refute it at one input. -/
def fnWavesWrong : ChangeSpec := { name := "fnWaves", fn := fun _ => fun
  | [d1, d2] => { results := [.lit (.bool false)], args := [d1, d2] }
  | _ => none }
def FnWavesWrongFalsely : Prop := fnWavesRow.holds Try.pinned (OpenSpec.ofChange fnWavesWrong)

/-- 'laws.FnArrivals': WHATEVER THE INPUT: true; the input reads as it did. -/
def fnArrivalsSpec : ChangeSpec := { name := "fnArrivals", fn := fun _ => fun
  | [d1, d2] => { results := [.lit (.bool true)], args := [d1, d2] }
  | _ => none }
def fnArrivalsRow : OpenClaim := { program := "ytgohmocjjmkepaa", sum := "a1f0796bde8ca5cbf089d4f08b3df1ba8d58d98c54e0f2192093e5292b9ec949", func := "loop.example/g01201/laws.FnArrivals", spec := "fnArrivals", inPlace := ["math.Float64frombits", "math.Float64bits"], apart := false }
def FnArrivalsSaid : Prop := fnArrivalsRow.holds Try.pinned (OpenSpec.ofChange fnArrivalsSpec)

/-- ITS FALSE NEIGHBOUR: 'it returns false'. Refute it at one input. -/
def fnArrivalsWrong : ChangeSpec := { name := "fnArrivals", fn := fun _ => fun
  | [d1, d2] => { results := [.lit (.bool false)], args := [d1, d2] }
  | _ => none }
def FnArrivalsWrongFalsely : Prop := fnArrivalsRow.holds Try.pinned (OpenSpec.ofChange fnArrivalsWrong)

/-- 'laws.FnEnergies': WHATEVER THE INPUT: true; the input reads as it did. -/
def fnEnergiesSpec : ChangeSpec := { name := "fnEnergies", fn := fun _ => fun
  | [d1, d2] => { results := [.lit (.bool true)], args := [d1, d2] }
  | _ => none }
def fnEnergiesRow : OpenClaim := { program := "ytgohmocjjmkepaa", sum := "a1f0796bde8ca5cbf089d4f08b3df1ba8d58d98c54e0f2192093e5292b9ec949", func := "loop.example/g01201/laws.FnEnergies", spec := "fnEnergies", unfollowed := true, recurses := true, apart := false }
def FnEnergiesSaid : Prop := fnEnergiesRow.holds Try.pinned (OpenSpec.ofChange fnEnergiesSpec)

/-- ITS FALSE NEIGHBOUR: 'it returns false'. Refute it at one input. -/
def fnEnergiesWrong : ChangeSpec := { name := "fnEnergies", fn := fun _ => fun
  | [d1, d2] => { results := [.lit (.bool false)], args := [d1, d2] }
  | _ => none }
def FnEnergiesWrongFalsely : Prop := fnEnergiesRow.holds Try.pinned (OpenSpec.ofChange fnEnergiesWrong)

/-- 'laws.FnRecordsCut': WHATEVER THE INPUT: true; the input reads as it did. -/
def fnRecordsCutSpec : ChangeSpec := { name := "fnRecordsCut", fn := fun _ => fun
  | [d1, d2] => { results := [.lit (.bool true)], args := [d1, d2] }
  | _ => none }
def fnRecordsCutRow : OpenClaim := { program := "ytgohmocjjmkepaa", sum := "a1f0796bde8ca5cbf089d4f08b3df1ba8d58d98c54e0f2192093e5292b9ec949", func := "loop.example/g01201/laws.FnRecordsCut", spec := "fnRecordsCut", inPlace := ["math.Float32frombits", "math.Float64frombits", "math.Float64bits"], apart := false }
def FnRecordsCutSaid : Prop := fnRecordsCutRow.holds Try.pinned (OpenSpec.ofChange fnRecordsCutSpec)

/-- ITS FALSE NEIGHBOUR: 'it returns false'. Refute it at one input. -/
def fnRecordsCutWrong : ChangeSpec := { name := "fnRecordsCut", fn := fun _ => fun
  | [d1, d2] => { results := [.lit (.bool false)], args := [d1, d2] }
  | _ => none }
def FnRecordsCutWrongFalsely : Prop := fnRecordsCutRow.holds Try.pinned (OpenSpec.ofChange fnRecordsCutWrong)

/-- 'laws.FnFieldsScaled': WHATEVER THE INPUT: true; the input reads as it did. -/
def fnFieldsScaledSpec : ChangeSpec := { name := "fnFieldsScaled", fn := fun _ => fun
  | [d1, d2] => { results := [.lit (.bool true)], args := [d1, d2] }
  | _ => none }
def fnFieldsScaledRow : OpenClaim := { program := "ytgohmocjjmkepaa", sum := "a1f0796bde8ca5cbf089d4f08b3df1ba8d58d98c54e0f2192093e5292b9ec949", func := "loop.example/g01201/laws.FnFieldsScaled", spec := "fnFieldsScaled", unfollowed := true, recurses := true, apart := false }
def FnFieldsScaledSaid : Prop := fnFieldsScaledRow.holds Try.pinned (OpenSpec.ofChange fnFieldsScaledSpec)

/-- ITS FALSE NEIGHBOUR: 'it returns false'. Refute it at one input. -/
def fnFieldsScaledWrong : ChangeSpec := { name := "fnFieldsScaled", fn := fun _ => fun
  | [d1, d2] => { results := [.lit (.bool false)], args := [d1, d2] }
  | _ => none }
def FnFieldsScaledWrongFalsely : Prop := fnFieldsScaledRow.holds Try.pinned (OpenSpec.ofChange fnFieldsScaledWrong)

/-- 'laws.FnStepsMirrored': WHATEVER THE INPUT: true; the input reads as it did. -/
def fnStepsMirroredSpec : ChangeSpec := { name := "fnStepsMirrored", fn := fun _ => fun
  | [d1, d2] => { results := [.lit (.bool true)], args := [d1, d2] }
  | _ => none }
def fnStepsMirroredRow : OpenClaim := { program := "ytgohmocjjmkepaa", sum := "a1f0796bde8ca5cbf089d4f08b3df1ba8d58d98c54e0f2192093e5292b9ec949", func := "loop.example/g01201/laws.FnStepsMirrored", spec := "fnStepsMirrored", unfollowed := true, recurses := true, apart := false }
def FnStepsMirroredSaid : Prop := fnStepsMirroredRow.holds Try.pinned (OpenSpec.ofChange fnStepsMirroredSpec)

/-- ITS FALSE NEIGHBOUR: 'it returns false'. Refute it at one input. -/
def fnStepsMirroredWrong : ChangeSpec := { name := "fnStepsMirrored", fn := fun _ => fun
  | [d1, d2] => { results := [.lit (.bool false)], args := [d1, d2] }
  | _ => none }
def FnStepsMirroredWrongFalsely : Prop := fnStepsMirroredRow.holds Try.pinned (OpenSpec.ofChange fnStepsMirroredWrong)

/-- 'laws.FnMirrors': WHATEVER THE INPUT: true; the input reads as it did. -/
def fnMirrorsSpec : ChangeSpec := { name := "fnMirrors", fn := fun _ => fun
  | [d1, d2] => { results := [.lit (.bool true)], args := [d1, d2] }
  | _ => none }
def fnMirrorsRow : OpenClaim := { program := "ytgohmocjjmkepaa", sum := "a1f0796bde8ca5cbf089d4f08b3df1ba8d58d98c54e0f2192093e5292b9ec949", func := "loop.example/g01201/laws.FnMirrors", spec := "fnMirrors", inPlace := ["math.Float32frombits", "math.Float64bits"], unfollowed := true, recurses := true, apart := false }
def FnMirrorsSaid : Prop := fnMirrorsRow.holds Try.pinned (OpenSpec.ofChange fnMirrorsSpec)

/-- ITS FALSE NEIGHBOUR: 'it returns false'. Refute it at one input. -/
def fnMirrorsWrong : ChangeSpec := { name := "fnMirrors", fn := fun _ => fun
  | [d1, d2] => { results := [.lit (.bool false)], args := [d1, d2] }
  | _ => none }
def FnMirrorsWrongFalsely : Prop := fnMirrorsRow.holds Try.pinned (OpenSpec.ofChange fnMirrorsWrong)

/-- 'laws.FnQuiet': WHATEVER THE INPUT: true; the input reads as it did. -/
def fnQuietSpec : ChangeSpec := { name := "fnQuiet", fn := fun _ => fun
  | [d1, d2] => { results := [.lit (.bool true)], args := [d1, d2] }
  | _ => none }
def fnQuietRow : OpenClaim := { program := "ytgohmocjjmkepaa", sum := "a1f0796bde8ca5cbf089d4f08b3df1ba8d58d98c54e0f2192093e5292b9ec949", func := "loop.example/g01201/laws.FnQuiet", spec := "fnQuiet", inPlace := ["math.Float32frombits", "math.Float32bits"], unfollowed := true, recurses := true, apart := false }
def FnQuietSaid : Prop := fnQuietRow.holds Try.pinned (OpenSpec.ofChange fnQuietSpec)

/-- ITS FALSE NEIGHBOUR: 'it returns false'. Refute it at one input. -/
def fnQuietWrong : ChangeSpec := { name := "fnQuiet", fn := fun _ => fun
  | [d1, d2] => { results := [.lit (.bool false)], args := [d1, d2] }
  | _ => none }
def FnQuietWrongFalsely : Prop := fnQuietRow.holds Try.pinned (OpenSpec.ofChange fnQuietWrong)

/- THE SECOND FORM. 'bulk': how many values and letters a reading holds, each counted each time it is reached (what is shared counts as often as it is met; a slice's spare places count too). A statement '..UptoSaid' is the law's where the arguments, and the package variables that the reading takes, are together of bulk at most 1048576: NARROWER than '..Said'. Prove '..Said' where nothing that the law and all that it calls make is longer than what came in: it says more and counts as full. Else prove '..UptoSaid'. A law counts once. -/
mutual
def uptoBulk {H : Type} : DataW H → Nat
  | .lit (.string bytes) => bytes.length + 1
  | .lit _ => 1
  | .nil => 1
  | .ptr d => uptoBulk d + 1
  | .slice elems spare => uptoBulkAll elems + uptoBulkAll spare + 1
  | .agg parts => uptoBulkAll parts + 1
  | .iface _ d => uptoBulk d + 1
  | .map entries => uptoBulkEntries entries + 1
  | .held _ => 1
def uptoBulkAll {H : Type} : List (DataW H) → Nat
  | [] => 0
  | d :: r => uptoBulk d + uptoBulkAll r
def uptoBulkEntries {H : Type} : List (Lit × DataW H) → Nat
  | [] => 0
  | x :: r => uptoBulkEntry x + uptoBulkEntries r
def uptoBulkEntry {H : Type} : Lit × DataW H → Nat
  | (.string bytes, d) => bytes.length + uptoBulk d + 1
  | (_, d) => uptoBulk d + 1
 end
def uptoSmall : (H : Type) → List (DataW H) → Bool := fun _ ds => decide (uptoBulkAll ds ≤ 1048576)
def OpenSpec.upto (s : _root_.Go.ChangeSpec) : _root_.Go.OpenSpec := { _root_.Go.OpenSpec.ofChange s with cond := some uptoSmall }

/-- 'laws.FnCones', WHERE WHAT IT READS IS OF BULK AT MOST 1048576: true; the input reads as it did. -/
def fnConesUptoRow : OpenClaim := { program := "ytgohmocjjmkepaa", sum := "a1f0796bde8ca5cbf089d4f08b3df1ba8d58d98c54e0f2192093e5292b9ec949", func := "loop.example/g01201/laws.FnCones", spec := "fnCones", inPlace := ["math.Float32frombits", "math.Float32bits"], unfollowed := true, recurses := true, apart := false, narrowed := true }
def FnConesUptoSaid : Prop := fnConesUptoRow.holds Try.pinned (OpenSpec.upto fnConesSpec)

/-- 'laws.FnWaves', WHERE WHAT IT READS IS OF BULK AT MOST 1048576: true; the input reads as it did. -/
def fnWavesUptoRow : OpenClaim := { program := "ytgohmocjjmkepaa", sum := "a1f0796bde8ca5cbf089d4f08b3df1ba8d58d98c54e0f2192093e5292b9ec949", func := "loop.example/g01201/laws.FnWaves", spec := "fnWaves", inPlace := ["math.Float64frombits", "math.Float64bits"], apart := false, narrowed := true }
def FnWavesUptoSaid : Prop := fnWavesUptoRow.holds Try.pinned (OpenSpec.upto fnWavesSpec)

/-- 'laws.FnArrivals', WHERE WHAT IT READS IS OF BULK AT MOST 1048576: true; the input reads as it did. -/
def fnArrivalsUptoRow : OpenClaim := { program := "ytgohmocjjmkepaa", sum := "a1f0796bde8ca5cbf089d4f08b3df1ba8d58d98c54e0f2192093e5292b9ec949", func := "loop.example/g01201/laws.FnArrivals", spec := "fnArrivals", inPlace := ["math.Float64frombits", "math.Float64bits"], apart := false, narrowed := true }
def FnArrivalsUptoSaid : Prop := fnArrivalsUptoRow.holds Try.pinned (OpenSpec.upto fnArrivalsSpec)

/-- 'laws.FnEnergies', WHERE WHAT IT READS IS OF BULK AT MOST 1048576: true; the input reads as it did. -/
def fnEnergiesUptoRow : OpenClaim := { program := "ytgohmocjjmkepaa", sum := "a1f0796bde8ca5cbf089d4f08b3df1ba8d58d98c54e0f2192093e5292b9ec949", func := "loop.example/g01201/laws.FnEnergies", spec := "fnEnergies", unfollowed := true, recurses := true, apart := false, narrowed := true }
def FnEnergiesUptoSaid : Prop := fnEnergiesUptoRow.holds Try.pinned (OpenSpec.upto fnEnergiesSpec)

/-- 'laws.FnRecordsCut', WHERE WHAT IT READS IS OF BULK AT MOST 1048576: true; the input reads as it did. -/
def fnRecordsCutUptoRow : OpenClaim := { program := "ytgohmocjjmkepaa", sum := "a1f0796bde8ca5cbf089d4f08b3df1ba8d58d98c54e0f2192093e5292b9ec949", func := "loop.example/g01201/laws.FnRecordsCut", spec := "fnRecordsCut", inPlace := ["math.Float32frombits", "math.Float64frombits", "math.Float64bits"], apart := false, narrowed := true }
def FnRecordsCutUptoSaid : Prop := fnRecordsCutUptoRow.holds Try.pinned (OpenSpec.upto fnRecordsCutSpec)

/-- 'laws.FnFieldsScaled', WHERE WHAT IT READS IS OF BULK AT MOST 1048576: true; the input reads as it did. -/
def fnFieldsScaledUptoRow : OpenClaim := { program := "ytgohmocjjmkepaa", sum := "a1f0796bde8ca5cbf089d4f08b3df1ba8d58d98c54e0f2192093e5292b9ec949", func := "loop.example/g01201/laws.FnFieldsScaled", spec := "fnFieldsScaled", unfollowed := true, recurses := true, apart := false, narrowed := true }
def FnFieldsScaledUptoSaid : Prop := fnFieldsScaledUptoRow.holds Try.pinned (OpenSpec.upto fnFieldsScaledSpec)

/-- 'laws.FnStepsMirrored', WHERE WHAT IT READS IS OF BULK AT MOST 1048576: true; the input reads as it did. -/
def fnStepsMirroredUptoRow : OpenClaim := { program := "ytgohmocjjmkepaa", sum := "a1f0796bde8ca5cbf089d4f08b3df1ba8d58d98c54e0f2192093e5292b9ec949", func := "loop.example/g01201/laws.FnStepsMirrored", spec := "fnStepsMirrored", unfollowed := true, recurses := true, apart := false, narrowed := true }
def FnStepsMirroredUptoSaid : Prop := fnStepsMirroredUptoRow.holds Try.pinned (OpenSpec.upto fnStepsMirroredSpec)

/-- 'laws.FnMirrors', WHERE WHAT IT READS IS OF BULK AT MOST 1048576: true; the input reads as it did. -/
def fnMirrorsUptoRow : OpenClaim := { program := "ytgohmocjjmkepaa", sum := "a1f0796bde8ca5cbf089d4f08b3df1ba8d58d98c54e0f2192093e5292b9ec949", func := "loop.example/g01201/laws.FnMirrors", spec := "fnMirrors", inPlace := ["math.Float32frombits", "math.Float64bits"], unfollowed := true, recurses := true, apart := false, narrowed := true }
def FnMirrorsUptoSaid : Prop := fnMirrorsUptoRow.holds Try.pinned (OpenSpec.upto fnMirrorsSpec)

/-- 'laws.FnQuiet', WHERE WHAT IT READS IS OF BULK AT MOST 1048576: true; the input reads as it did. -/
def fnQuietUptoRow : OpenClaim := { program := "ytgohmocjjmkepaa", sum := "a1f0796bde8ca5cbf089d4f08b3df1ba8d58d98c54e0f2192093e5292b9ec949", func := "loop.example/g01201/laws.FnQuiet", spec := "fnQuiet", inPlace := ["math.Float32frombits", "math.Float32bits"], unfollowed := true, recurses := true, apart := false, narrowed := true }
def FnQuietUptoSaid : Prop := fnQuietUptoRow.holds Try.pinned (OpenSpec.upto fnQuietSpec)

end Rows
end Go.Proofs.Ytgohmocjjmkepaa
