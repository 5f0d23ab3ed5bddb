/-
  No cell of these rows narrows 'for every input' (looked for: loops, veiled, ifaces, maps, wideKeys, modest, calm, conditions, laid).
  DERIVED. THE GIVEN ROWS OF THIS SEAT. 4 by the template 'for every input the law returns true; each argument reads behind the call as it read before'; 0 by the template 'total and deterministic' (their statements: YtebigoiegiaggaaTotals.lean).
  GIVEN WITH THE SEED: the statements are not yours to turn. If you find one false, say at which input.
  Laid BY PROGRAM, IN A SANDBOX (cutbox-rows.mjs): the forced cells as the released guide's own fill.sh prints them over the translation d56e25cb0f2619b0… (all of the seat's roots in one cut). By AI agents, Wed Nov 11 2026. No macro, syntax, notation, axiom, sorry.
-/
import Derived.Test.YtebigoiegiaggaaChecked
import GoSem.Claim
import GoSem.ClaimJoined
import GoSem.ClaimMapViews
import Derived.JoinedTies
import Derived.KernelRfl
namespace Go.Proofs.Ytebigoiegiaggaa
/- THE CELL 'sum', in the pinned program and in every row, IS THE sha256 OF THE DUMP (.gsa) THAT YtebigoiegiaggaaProg.lean LOADS. Nothing in Lean hashes anything: it is a label: what it is worth is what the hold of that sum in a sandbox is worth. -/
noncomputable def Try.pinned : Pinned := { name := "ytebigoiegiaggaa", sum := "d56e25cb0f2619b015d0610d4c5f446fb601ae720c26714fa6175edc80762745", checked := Try.checked }
namespace Rows
def none {H : Type} : Left H := { results := [], args := [] }

/-- 'laws.FnExactNextSeed': WHATEVER THE INPUT: true; the input reads as it did. -/
def fnExactNextSeedSpec : ChangeSpec := { name := "fnExactNextSeed", fn := fun _ => fun
  | [d] => { results := [.lit (.bool true)], args := [d] }
  | _ => none }
def fnExactNextSeedRow : OpenClaim := { program := "ytebigoiegiaggaa", sum := "d56e25cb0f2619b015d0610d4c5f446fb601ae720c26714fa6175edc80762745", func := "loop.example/g01201/laws.FnExactNextSeed", spec := "fnExactNextSeed", apart := false }
def FnExactNextSeedSaid : Prop := fnExactNextSeedRow.holds Try.pinned (OpenSpec.ofChange fnExactNextSeedSpec)

/-- ITS FALSE NEIGHBOUR: 'it returns false'. Refute it at one input. -/
def fnExactNextSeedWrong : ChangeSpec := { name := "fnExactNextSeed", fn := fun _ => fun
  | [d] => { results := [.lit (.bool false)], args := [d] }
  | _ => none }
def FnExactNextSeedWrongFalsely : Prop := fnExactNextSeedRow.holds Try.pinned (OpenSpec.ofChange fnExactNextSeedWrong)

/-- 'laws.FnExactValidWave': WHATEVER THE INPUT: true; the input reads as it did. -/
def fnExactValidWaveSpec : ChangeSpec := { name := "fnExactValidWave", fn := fun _ => fun
  | [d] => { results := [.lit (.bool true)], args := [d] }
  | _ => none }
def fnExactValidWaveRow : OpenClaim := { program := "ytebigoiegiaggaa", sum := "d56e25cb0f2619b015d0610d4c5f446fb601ae720c26714fa6175edc80762745", func := "loop.example/g01201/laws.FnExactValidWave", spec := "fnExactValidWave", apart := false }
def FnExactValidWaveSaid : Prop := fnExactValidWaveRow.holds Try.pinned (OpenSpec.ofChange fnExactValidWaveSpec)

/-- ITS FALSE NEIGHBOUR: 'it returns false'. Refute it at one input. -/
def fnExactValidWaveWrong : ChangeSpec := { name := "fnExactValidWave", fn := fun _ => fun
  | [d] => { results := [.lit (.bool false)], args := [d] }
  | _ => none }
def FnExactValidWaveWrongFalsely : Prop := fnExactValidWaveRow.holds Try.pinned (OpenSpec.ofChange fnExactValidWaveWrong)

/-- 'laws.FnExactArrivalOf': WHATEVER THE INPUT: true; the input reads as it did. -/
def fnExactArrivalOfSpec : ChangeSpec := { name := "fnExactArrivalOf", fn := fun _ => fun
  | [d1, d2] => { results := [.lit (.bool true)], args := [d1, d2] }
  | _ => none }
def fnExactArrivalOfRow : OpenClaim := { program := "ytebigoiegiaggaa", sum := "d56e25cb0f2619b015d0610d4c5f446fb601ae720c26714fa6175edc80762745", func := "loop.example/g01201/laws.FnExactArrivalOf", spec := "fnExactArrivalOf", apart := false }
def FnExactArrivalOfSaid : Prop := fnExactArrivalOfRow.holds Try.pinned (OpenSpec.ofChange fnExactArrivalOfSpec)

/-- ITS FALSE NEIGHBOUR: 'it returns false'. Refute it at one input. -/
def fnExactArrivalOfWrong : ChangeSpec := { name := "fnExactArrivalOf", fn := fun _ => fun
  | [d1, d2] => { results := [.lit (.bool false)], args := [d1, d2] }
  | _ => none }
def FnExactArrivalOfWrongFalsely : Prop := fnExactArrivalOfRow.holds Try.pinned (OpenSpec.ofChange fnExactArrivalOfWrong)

/-- 'laws.FnExactLaterWave': WHATEVER THE INPUT: true; the input reads as it did. -/
def fnExactLaterWaveSpec : ChangeSpec := { name := "fnExactLaterWave", fn := fun _ => fun
  | [d1, d2] => { results := [.lit (.bool true)], args := [d1, d2] }
  | _ => none }
def fnExactLaterWaveRow : OpenClaim := { program := "ytebigoiegiaggaa", sum := "d56e25cb0f2619b015d0610d4c5f446fb601ae720c26714fa6175edc80762745", func := "loop.example/g01201/laws.FnExactLaterWave", spec := "fnExactLaterWave", apart := false }
def FnExactLaterWaveSaid : Prop := fnExactLaterWaveRow.holds Try.pinned (OpenSpec.ofChange fnExactLaterWaveSpec)

/-- ITS FALSE NEIGHBOUR: 'it returns false'. Refute it at one input. -/
def fnExactLaterWaveWrong : ChangeSpec := { name := "fnExactLaterWave", fn := fun _ => fun
  | [d1, d2] => { results := [.lit (.bool false)], args := [d1, d2] }
  | _ => none }
def FnExactLaterWaveWrongFalsely : Prop := fnExactLaterWaveRow.holds Try.pinned (OpenSpec.ofChange fnExactLaterWaveWrong)

/- THE SECOND FORM. 'bulk': how many values and letters a reading holds, each counted each time it is reached (what is shared counts as often as it is met; a slice's spare places count too). A statement '..UptoSaid' is the law's where the arguments, and the package variables that the reading takes, are together of bulk at most 1048576: NARROWER than '..Said'. Prove '..Said' where nothing that the law and all that it calls make is longer than what came in: it says more and counts as full. Else prove '..UptoSaid'. A law counts once. -/
mutual
def uptoBulk {H : Type} : DataW H → Nat
  | .lit (.string bytes) => bytes.length + 1
  | .lit _ => 1
  | .nil => 1
  | .ptr d => uptoBulk d + 1
  | .slice elems spare => uptoBulkAll elems + uptoBulkAll spare + 1
  | .agg parts => uptoBulkAll parts + 1
  | .iface _ d => uptoBulk d + 1
  | .map entries => uptoBulkEntries entries + 1
  | .held _ => 1
def uptoBulkAll {H : Type} : List (DataW H) → Nat
  | [] => 0
  | d :: r => uptoBulk d + uptoBulkAll r
def uptoBulkEntries {H : Type} : List (Lit × DataW H) → Nat
  | [] => 0
  | x :: r => uptoBulkEntry x + uptoBulkEntries r
def uptoBulkEntry {H : Type} : Lit × DataW H → Nat
  | (.string bytes, d) => bytes.length + uptoBulk d + 1
  | (_, d) => uptoBulk d + 1
 end
def uptoSmall : (H : Type) → List (DataW H) → Bool := fun _ ds => decide (uptoBulkAll ds ≤ 1048576)
def OpenSpec.upto (s : _root_.Go.ChangeSpec) : _root_.Go.OpenSpec := { _root_.Go.OpenSpec.ofChange s with cond := some uptoSmall }

/-- 'laws.FnExactNextSeed', WHERE WHAT IT READS IS OF BULK AT MOST 1048576: true; the input reads as it did. -/
def fnExactNextSeedUptoRow : OpenClaim := { program := "ytebigoiegiaggaa", sum := "d56e25cb0f2619b015d0610d4c5f446fb601ae720c26714fa6175edc80762745", func := "loop.example/g01201/laws.FnExactNextSeed", spec := "fnExactNextSeed", apart := false, narrowed := true }
def FnExactNextSeedUptoSaid : Prop := fnExactNextSeedUptoRow.holds Try.pinned (OpenSpec.upto fnExactNextSeedSpec)

/-- 'laws.FnExactValidWave', WHERE WHAT IT READS IS OF BULK AT MOST 1048576: true; the input reads as it did. -/
def fnExactValidWaveUptoRow : OpenClaim := { program := "ytebigoiegiaggaa", sum := "d56e25cb0f2619b015d0610d4c5f446fb601ae720c26714fa6175edc80762745", func := "loop.example/g01201/laws.FnExactValidWave", spec := "fnExactValidWave", apart := false, narrowed := true }
def FnExactValidWaveUptoSaid : Prop := fnExactValidWaveUptoRow.holds Try.pinned (OpenSpec.upto fnExactValidWaveSpec)

/-- 'laws.FnExactArrivalOf', WHERE WHAT IT READS IS OF BULK AT MOST 1048576: true; the input reads as it did. -/
def fnExactArrivalOfUptoRow : OpenClaim := { program := "ytebigoiegiaggaa", sum := "d56e25cb0f2619b015d0610d4c5f446fb601ae720c26714fa6175edc80762745", func := "loop.example/g01201/laws.FnExactArrivalOf", spec := "fnExactArrivalOf", apart := false, narrowed := true }
def FnExactArrivalOfUptoSaid : Prop := fnExactArrivalOfUptoRow.holds Try.pinned (OpenSpec.upto fnExactArrivalOfSpec)

/-- 'laws.FnExactLaterWave', WHERE WHAT IT READS IS OF BULK AT MOST 1048576: true; the input reads as it did. -/
def fnExactLaterWaveUptoRow : OpenClaim := { program := "ytebigoiegiaggaa", sum := "d56e25cb0f2619b015d0610d4c5f446fb601ae720c26714fa6175edc80762745", func := "loop.example/g01201/laws.FnExactLaterWave", spec := "fnExactLaterWave", apart := false, narrowed := true }
def FnExactLaterWaveUptoSaid : Prop := fnExactLaterWaveUptoRow.holds Try.pinned (OpenSpec.upto fnExactLaterWaveSpec)

end Rows
end Go.Proofs.Ytebigoiegiaggaa
