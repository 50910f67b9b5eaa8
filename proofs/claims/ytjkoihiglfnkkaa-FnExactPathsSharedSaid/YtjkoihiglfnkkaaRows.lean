/-
  No cell of these rows narrows 'for every input' (looked for: loops, veiled, ifaces, maps, wideKeys, modest, calm, conditions, laid).
  DERIVED. THE GIVEN ROWS OF THIS SEAT. 12 by the template 'for every input the law returns true; each argument reads behind the call as it read before'; 0 by the template 'total and deterministic' (their statements: YtjkoihiglfnkkaaTotals.lean).
  GIVEN WITH THE SEED: the statements are not yours to turn. If you find one false, say at which input.
  Laid BY PROGRAM, IN A SANDBOX (cutbox-rows.mjs): the forced cells as the released guide's own fill.sh prints them over the translation de640f3ddec67f64… (all of the seat's roots in one cut). By AI agents, Wed Nov 11 2026. No macro, syntax, notation, axiom, sorry.
-/
import Derived.Test.YtjkoihiglfnkkaaChecked
import GoSem.Claim
import GoSem.ClaimJoined
import GoSem.ClaimMapViews
import Derived.JoinedTies
import Derived.KernelRfl
namespace Go.Proofs.Ytjkoihiglfnkkaa
/- THE CELL 'sum', in the pinned program and in every row, IS THE sha256 OF THE DUMP (.gsa) THAT YtjkoihiglfnkkaaProg.lean LOADS. Nothing in Lean hashes anything: it is a label: what it is worth is what the hold of that sum in a sandbox is worth. -/
noncomputable def Try.pinned : Pinned := { name := "ytjkoihiglfnkkaa", sum := "de640f3ddec67f6487daa0ba08f9df7f225455f6ac3083aad3798b3d77c403e9", checked := Try.checked }
namespace Rows
def none {H : Type} : Left H := { results := [], args := [] }

/-- 'laws.FnExactPathCross': WHATEVER THE INPUT: true; the input reads as it did. -/
def fnExactPathCrossSpec : ChangeSpec := { name := "fnExactPathCross", fn := fun _ => fun
  | [d1, d2, d3] => { results := [.lit (.bool true)], args := [d1, d2, d3] }
  | _ => none }
def fnExactPathCrossRow : OpenClaim := { program := "ytjkoihiglfnkkaa", sum := "de640f3ddec67f6487daa0ba08f9df7f225455f6ac3083aad3798b3d77c403e9", func := "loop.example/g01382/laws.FnExactPathCross", spec := "fnExactPathCross", unfollowed := true, recurses := true, apart := false }
def FnExactPathCrossSaid : Prop := fnExactPathCrossRow.holds Try.pinned (OpenSpec.ofChange fnExactPathCrossSpec)

/-- ITS FALSE NEIGHBOUR: 'it returns false'. Refute it at one input. -/
def fnExactPathCrossWrong : ChangeSpec := { name := "fnExactPathCross", fn := fun _ => fun
  | [d1, d2, d3] => { results := [.lit (.bool false)], args := [d1, d2, d3] }
  | _ => none }
def FnExactPathCrossWrongFalsely : Prop := fnExactPathCrossRow.holds Try.pinned (OpenSpec.ofChange fnExactPathCrossWrong)

/-- 'laws.FnExactStepAge': WHATEVER THE INPUT: true; the input reads as it did. -/
def fnExactStepAgeSpec : ChangeSpec := { name := "fnExactStepAge", fn := fun _ => fun
  | [d1, d2, d3] => { results := [.lit (.bool true)], args := [d1, d2, d3] }
  | _ => none }
def fnExactStepAgeRow : OpenClaim := { program := "ytjkoihiglfnkkaa", sum := "de640f3ddec67f6487daa0ba08f9df7f225455f6ac3083aad3798b3d77c403e9", func := "loop.example/g01382/laws.FnExactStepAge", spec := "fnExactStepAge", unfollowed := true, recurses := true, apart := false }
def FnExactStepAgeSaid : Prop := fnExactStepAgeRow.holds Try.pinned (OpenSpec.ofChange fnExactStepAgeSpec)

/-- ITS FALSE NEIGHBOUR: 'it returns false'. Refute it at one input. -/
def fnExactStepAgeWrong : ChangeSpec := { name := "fnExactStepAge", fn := fun _ => fun
  | [d1, d2, d3] => { results := [.lit (.bool false)], args := [d1, d2, d3] }
  | _ => none }
def FnExactStepAgeWrongFalsely : Prop := fnExactStepAgeRow.holds Try.pinned (OpenSpec.ofChange fnExactStepAgeWrong)

/-- 'laws.FnExactPathLine': WHATEVER THE INPUT: true; the input reads as it did. -/
def fnExactPathLineSpec : ChangeSpec := { name := "fnExactPathLine", fn := fun _ => fun
  | [d1, d2] => { results := [.lit (.bool true)], args := [d1, d2] }
  | _ => none }
def fnExactPathLineRow : OpenClaim := { program := "ytjkoihiglfnkkaa", sum := "de640f3ddec67f6487daa0ba08f9df7f225455f6ac3083aad3798b3d77c403e9", func := "loop.example/g01382/laws.FnExactPathLine", spec := "fnExactPathLine", unfollowed := true, recurses := true, apart := false }
def FnExactPathLineSaid : Prop := fnExactPathLineRow.holds Try.pinned (OpenSpec.ofChange fnExactPathLineSpec)

/-- ITS FALSE NEIGHBOUR: 'it returns false'. Refute it at one input. -/
def fnExactPathLineWrong : ChangeSpec := { name := "fnExactPathLine", fn := fun _ => fun
  | [d1, d2] => { results := [.lit (.bool false)], args := [d1, d2] }
  | _ => none }
def FnExactPathLineWrongFalsely : Prop := fnExactPathLineRow.holds Try.pinned (OpenSpec.ofChange fnExactPathLineWrong)

/-- 'laws.FnExactDriftWalk': WHATEVER THE INPUT: true; the input reads as it did. -/
def fnExactDriftWalkSpec : ChangeSpec := { name := "fnExactDriftWalk", fn := fun _ => fun
  | [d1, d2, d3, d4] => { results := [.lit (.bool true)], args := [d1, d2, d3, d4] }
  | _ => none }
def fnExactDriftWalkRow : OpenClaim := { program := "ytjkoihiglfnkkaa", sum := "de640f3ddec67f6487daa0ba08f9df7f225455f6ac3083aad3798b3d77c403e9", func := "loop.example/g01382/laws.FnExactDriftWalk", spec := "fnExactDriftWalk", unfollowed := true, recurses := true, apart := false }
def FnExactDriftWalkSaid : Prop := fnExactDriftWalkRow.holds Try.pinned (OpenSpec.ofChange fnExactDriftWalkSpec)

/-- ITS FALSE NEIGHBOUR: 'it returns false'. Refute it at one input. -/
def fnExactDriftWalkWrong : ChangeSpec := { name := "fnExactDriftWalk", fn := fun _ => fun
  | [d1, d2, d3, d4] => { results := [.lit (.bool false)], args := [d1, d2, d3, d4] }
  | _ => none }
def FnExactDriftWalkWrongFalsely : Prop := fnExactDriftWalkRow.holds Try.pinned (OpenSpec.ofChange fnExactDriftWalkWrong)

/-- 'laws.FnExactPathsShared': WHATEVER THE INPUT: true; the input reads as it did. -/
def fnExactPathsSharedSpec : ChangeSpec := { name := "fnExactPathsShared", fn := fun _ => fun
  | [d1, d2, d3] => { results := [.lit (.bool true)], args := [d1, d2, d3] }
  | _ => none }
def fnExactPathsSharedRow : OpenClaim := { program := "ytjkoihiglfnkkaa", sum := "de640f3ddec67f6487daa0ba08f9df7f225455f6ac3083aad3798b3d77c403e9", func := "loop.example/g01382/laws.FnExactPathsShared", spec := "fnExactPathsShared", unfollowed := true, recurses := true, apart := false }
def FnExactPathsSharedSaid : Prop := fnExactPathsSharedRow.holds Try.pinned (OpenSpec.ofChange fnExactPathsSharedSpec)

/-- ITS FALSE NEIGHBOUR: 'it returns false'. Refute it at one input. -/
def fnExactPathsSharedWrong : ChangeSpec := { name := "fnExactPathsShared", fn := fun _ => fun
  | [d1, d2, d3] => { results := [.lit (.bool false)], args := [d1, d2, d3] }
  | _ => none }
def FnExactPathsSharedWrongFalsely : Prop := fnExactPathsSharedRow.holds Try.pinned (OpenSpec.ofChange fnExactPathsSharedWrong)

/-- 'laws.FnPathsSharedOfAll': WHATEVER THE INPUT: true; the input reads as it did. -/
def fnPathsSharedOfAllSpec : ChangeSpec := { name := "fnPathsSharedOfAll", fn := fun _ => fun
  | [d1, d2, d3, d4] => { results := [.lit (.bool true)], args := [d1, d2, d3, d4] }
  | _ => none }
def fnPathsSharedOfAllRow : OpenClaim := { program := "ytjkoihiglfnkkaa", sum := "de640f3ddec67f6487daa0ba08f9df7f225455f6ac3083aad3798b3d77c403e9", func := "loop.example/g01382/laws.FnPathsSharedOfAll", spec := "fnPathsSharedOfAll", unfollowed := true, recurses := true, apart := false }
def FnPathsSharedOfAllSaid : Prop := fnPathsSharedOfAllRow.holds Try.pinned (OpenSpec.ofChange fnPathsSharedOfAllSpec)

/-- ITS FALSE NEIGHBOUR: 'it returns false'. Refute it at one input. -/
def fnPathsSharedOfAllWrong : ChangeSpec := { name := "fnPathsSharedOfAll", fn := fun _ => fun
  | [d1, d2, d3, d4] => { results := [.lit (.bool false)], args := [d1, d2, d3, d4] }
  | _ => none }
def FnPathsSharedOfAllWrongFalsely : Prop := fnPathsSharedOfAllRow.holds Try.pinned (OpenSpec.ofChange fnPathsSharedOfAllWrong)

/-- 'laws.FnExactParticles': WHATEVER THE INPUT: true; the input reads as it did. -/
def fnExactParticlesSpec : ChangeSpec := { name := "fnExactParticles", fn := fun _ => fun
  | [d1, d2, d3, d4] => { results := [.lit (.bool true)], args := [d1, d2, d3, d4] }
  | _ => none }
def fnExactParticlesRow : OpenClaim := { program := "ytjkoihiglfnkkaa", sum := "de640f3ddec67f6487daa0ba08f9df7f225455f6ac3083aad3798b3d77c403e9", func := "loop.example/g01382/laws.FnExactParticles", spec := "fnExactParticles", unfollowed := true, recurses := true, apart := false }
def FnExactParticlesSaid : Prop := fnExactParticlesRow.holds Try.pinned (OpenSpec.ofChange fnExactParticlesSpec)

/-- ITS FALSE NEIGHBOUR: 'it returns false'. Refute it at one input. -/
def fnExactParticlesWrong : ChangeSpec := { name := "fnExactParticles", fn := fun _ => fun
  | [d1, d2, d3, d4] => { results := [.lit (.bool false)], args := [d1, d2, d3, d4] }
  | _ => none }
def FnExactParticlesWrongFalsely : Prop := fnExactParticlesRow.holds Try.pinned (OpenSpec.ofChange fnExactParticlesWrong)

/-- 'laws.FnExactMovedParticles': WHATEVER THE INPUT: true; the input reads as it did. -/
def fnExactMovedParticlesSpec : ChangeSpec := { name := "fnExactMovedParticles", fn := fun _ => fun
  | [d1, d2, d3, d4] => { results := [.lit (.bool true)], args := [d1, d2, d3, d4] }
  | _ => none }
def fnExactMovedParticlesRow : OpenClaim := { program := "ytjkoihiglfnkkaa", sum := "de640f3ddec67f6487daa0ba08f9df7f225455f6ac3083aad3798b3d77c403e9", func := "loop.example/g01382/laws.FnExactMovedParticles", spec := "fnExactMovedParticles", unfollowed := true, recurses := true, apart := false }
def FnExactMovedParticlesSaid : Prop := fnExactMovedParticlesRow.holds Try.pinned (OpenSpec.ofChange fnExactMovedParticlesSpec)

/-- ITS FALSE NEIGHBOUR: 'it returns false'. Refute it at one input. -/
def fnExactMovedParticlesWrong : ChangeSpec := { name := "fnExactMovedParticles", fn := fun _ => fun
  | [d1, d2, d3, d4] => { results := [.lit (.bool false)], args := [d1, d2, d3, d4] }
  | _ => none }
def FnExactMovedParticlesWrongFalsely : Prop := fnExactMovedParticlesRow.holds Try.pinned (OpenSpec.ofChange fnExactMovedParticlesWrong)

/-- 'laws.FnExactDrawAgain': WHATEVER THE INPUT: true; the input reads as it did. -/
def fnExactDrawAgainSpec : ChangeSpec := { name := "fnExactDrawAgain", fn := fun _ => fun
  | [d1, d2, d3] => { results := [.lit (.bool true)], args := [d1, d2, d3] }
  | _ => none }
def fnExactDrawAgainRow : OpenClaim := { program := "ytjkoihiglfnkkaa", sum := "de640f3ddec67f6487daa0ba08f9df7f225455f6ac3083aad3798b3d77c403e9", func := "loop.example/g01382/laws.FnExactDrawAgain", spec := "fnExactDrawAgain", unfollowed := true, recurses := true, apart := false }
def FnExactDrawAgainSaid : Prop := fnExactDrawAgainRow.holds Try.pinned (OpenSpec.ofChange fnExactDrawAgainSpec)

/-- ITS FALSE NEIGHBOUR: 'it returns false'. Refute it at one input. -/
def fnExactDrawAgainWrong : ChangeSpec := { name := "fnExactDrawAgain", fn := fun _ => fun
  | [d1, d2, d3] => { results := [.lit (.bool false)], args := [d1, d2, d3] }
  | _ => none }
def FnExactDrawAgainWrongFalsely : Prop := fnExactDrawAgainRow.holds Try.pinned (OpenSpec.ofChange fnExactDrawAgainWrong)

/-- 'laws.FnExactWeighParticles': WHATEVER THE INPUT: true; the input reads as it did. -/
def fnExactWeighParticlesSpec : ChangeSpec := { name := "fnExactWeighParticles", fn := fun _ => fun
  | [d1, d2, d3, d4] => { results := [.lit (.bool true)], args := [d1, d2, d3, d4] }
  | _ => none }
def fnExactWeighParticlesRow : OpenClaim := { program := "ytjkoihiglfnkkaa", sum := "de640f3ddec67f6487daa0ba08f9df7f225455f6ac3083aad3798b3d77c403e9", func := "loop.example/g01382/laws.FnExactWeighParticles", spec := "fnExactWeighParticles", inPlace := ["math.Float64frombits"], unfollowed := true, recurses := true, apart := false }
def FnExactWeighParticlesSaid : Prop := fnExactWeighParticlesRow.holds Try.pinned (OpenSpec.ofChange fnExactWeighParticlesSpec)

/-- ITS FALSE NEIGHBOUR: 'it returns false'. Refute it at one input. -/
def fnExactWeighParticlesWrong : ChangeSpec := { name := "fnExactWeighParticles", fn := fun _ => fun
  | [d1, d2, d3, d4] => { results := [.lit (.bool false)], args := [d1, d2, d3, d4] }
  | _ => none }
def FnExactWeighParticlesWrongFalsely : Prop := fnExactWeighParticlesRow.holds Try.pinned (OpenSpec.ofChange fnExactWeighParticlesWrong)

/-- 'laws.FnExactGrowthSums': WHATEVER THE INPUT: true; the input reads as it did. -/
def fnExactGrowthSumsSpec : ChangeSpec := { name := "fnExactGrowthSums", fn := fun _ => fun
  | [d1, d2] => { results := [.lit (.bool true)], args := [d1, d2] }
  | _ => none }
def fnExactGrowthSumsRow : OpenClaim := { program := "ytjkoihiglfnkkaa", sum := "de640f3ddec67f6487daa0ba08f9df7f225455f6ac3083aad3798b3d77c403e9", func := "loop.example/g01382/laws.FnExactGrowthSums", spec := "fnExactGrowthSums", unfollowed := true, recurses := true, apart := false }
def FnExactGrowthSumsSaid : Prop := fnExactGrowthSumsRow.holds Try.pinned (OpenSpec.ofChange fnExactGrowthSumsSpec)

/-- ITS FALSE NEIGHBOUR: 'it returns false'. Refute it at one input. -/
def fnExactGrowthSumsWrong : ChangeSpec := { name := "fnExactGrowthSums", fn := fun _ => fun
  | [d1, d2] => { results := [.lit (.bool false)], args := [d1, d2] }
  | _ => none }
def FnExactGrowthSumsWrongFalsely : Prop := fnExactGrowthSumsRow.holds Try.pinned (OpenSpec.ofChange fnExactGrowthSumsWrong)

/-- 'laws.FnExactLeftTimes': WHATEVER THE INPUT: true; the input reads as it did. -/
def fnExactLeftTimesSpec : ChangeSpec := { name := "fnExactLeftTimes", fn := fun _ => fun
  | [d1, d2, d3] => { results := [.lit (.bool true)], args := [d1, d2, d3] }
  | _ => none }
def fnExactLeftTimesRow : OpenClaim := { program := "ytjkoihiglfnkkaa", sum := "de640f3ddec67f6487daa0ba08f9df7f225455f6ac3083aad3798b3d77c403e9", func := "loop.example/g01382/laws.FnExactLeftTimes", spec := "fnExactLeftTimes", unfollowed := true, recurses := true, apart := false }
def FnExactLeftTimesSaid : Prop := fnExactLeftTimesRow.holds Try.pinned (OpenSpec.ofChange fnExactLeftTimesSpec)

/-- ITS FALSE NEIGHBOUR: 'it returns false'. Refute it at one input. -/
def fnExactLeftTimesWrong : ChangeSpec := { name := "fnExactLeftTimes", fn := fun _ => fun
  | [d1, d2, d3] => { results := [.lit (.bool false)], args := [d1, d2, d3] }
  | _ => none }
def FnExactLeftTimesWrongFalsely : Prop := fnExactLeftTimesRow.holds Try.pinned (OpenSpec.ofChange fnExactLeftTimesWrong)

/- THE SECOND FORM. 'bulk': how many values and letters a reading holds, each counted each time it is reached (what is shared counts as often as it is met; a slice's spare places count too). A statement '..UptoSaid' is the law's where the arguments, and the package variables that the reading takes, are together of bulk at most 1048576: NARROWER than '..Said'. Prove '..Said' where nothing that the law and all that it calls make is longer than what came in: it says more and counts as full. Else prove '..UptoSaid'. A law counts once. -/
mutual
def uptoBulk {H : Type} : DataW H → Nat
  | .lit (.string bytes) => bytes.length + 1
  | .lit _ => 1
  | .nil => 1
  | .ptr d => uptoBulk d + 1
  | .slice elems spare => uptoBulkAll elems + uptoBulkAll spare + 1
  | .agg parts => uptoBulkAll parts + 1
  | .iface _ d => uptoBulk d + 1
  | .map entries => uptoBulkEntries entries + 1
  | .held _ => 1
def uptoBulkAll {H : Type} : List (DataW H) → Nat
  | [] => 0
  | d :: r => uptoBulk d + uptoBulkAll r
def uptoBulkEntries {H : Type} : List (Lit × DataW H) → Nat
  | [] => 0
  | x :: r => uptoBulkEntry x + uptoBulkEntries r
def uptoBulkEntry {H : Type} : Lit × DataW H → Nat
  | (.string bytes, d) => bytes.length + uptoBulk d + 1
  | (_, d) => uptoBulk d + 1
 end
def uptoSmall : (H : Type) → List (DataW H) → Bool := fun _ ds => decide (uptoBulkAll ds ≤ 1048576)
def OpenSpec.upto (s : _root_.Go.ChangeSpec) : _root_.Go.OpenSpec := { _root_.Go.OpenSpec.ofChange s with cond := some uptoSmall }

/-- 'laws.FnExactPathCross', WHERE WHAT IT READS IS OF BULK AT MOST 1048576: true; the input reads as it did. -/
def fnExactPathCrossUptoRow : OpenClaim := { program := "ytjkoihiglfnkkaa", sum := "de640f3ddec67f6487daa0ba08f9df7f225455f6ac3083aad3798b3d77c403e9", func := "loop.example/g01382/laws.FnExactPathCross", spec := "fnExactPathCross", unfollowed := true, recurses := true, apart := false, narrowed := true }
def FnExactPathCrossUptoSaid : Prop := fnExactPathCrossUptoRow.holds Try.pinned (OpenSpec.upto fnExactPathCrossSpec)

/-- 'laws.FnExactStepAge', WHERE WHAT IT READS IS OF BULK AT MOST 1048576: true; the input reads as it did. -/
def fnExactStepAgeUptoRow : OpenClaim := { program := "ytjkoihiglfnkkaa", sum := "de640f3ddec67f6487daa0ba08f9df7f225455f6ac3083aad3798b3d77c403e9", func := "loop.example/g01382/laws.FnExactStepAge", spec := "fnExactStepAge", unfollowed := true, recurses := true, apart := false, narrowed := true }
def FnExactStepAgeUptoSaid : Prop := fnExactStepAgeUptoRow.holds Try.pinned (OpenSpec.upto fnExactStepAgeSpec)

/-- 'laws.FnExactPathLine', WHERE WHAT IT READS IS OF BULK AT MOST 1048576: true; the input reads as it did. -/
def fnExactPathLineUptoRow : OpenClaim := { program := "ytjkoihiglfnkkaa", sum := "de640f3ddec67f6487daa0ba08f9df7f225455f6ac3083aad3798b3d77c403e9", func := "loop.example/g01382/laws.FnExactPathLine", spec := "fnExactPathLine", unfollowed := true, recurses := true, apart := false, narrowed := true }
def FnExactPathLineUptoSaid : Prop := fnExactPathLineUptoRow.holds Try.pinned (OpenSpec.upto fnExactPathLineSpec)

/-- 'laws.FnExactDriftWalk', WHERE WHAT IT READS IS OF BULK AT MOST 1048576: true; the input reads as it did. -/
def fnExactDriftWalkUptoRow : OpenClaim := { program := "ytjkoihiglfnkkaa", sum := "de640f3ddec67f6487daa0ba08f9df7f225455f6ac3083aad3798b3d77c403e9", func := "loop.example/g01382/laws.FnExactDriftWalk", spec := "fnExactDriftWalk", unfollowed := true, recurses := true, apart := false, narrowed := true }
def FnExactDriftWalkUptoSaid : Prop := fnExactDriftWalkUptoRow.holds Try.pinned (OpenSpec.upto fnExactDriftWalkSpec)

/-- 'laws.FnExactPathsShared', WHERE WHAT IT READS IS OF BULK AT MOST 1048576: true; the input reads as it did. -/
def fnExactPathsSharedUptoRow : OpenClaim := { program := "ytjkoihiglfnkkaa", sum := "de640f3ddec67f6487daa0ba08f9df7f225455f6ac3083aad3798b3d77c403e9", func := "loop.example/g01382/laws.FnExactPathsShared", spec := "fnExactPathsShared", unfollowed := true, recurses := true, apart := false, narrowed := true }
def FnExactPathsSharedUptoSaid : Prop := fnExactPathsSharedUptoRow.holds Try.pinned (OpenSpec.upto fnExactPathsSharedSpec)

/-- 'laws.FnPathsSharedOfAll', WHERE WHAT IT READS IS OF BULK AT MOST 1048576: true; the input reads as it did. -/
def fnPathsSharedOfAllUptoRow : OpenClaim := { program := "ytjkoihiglfnkkaa", sum := "de640f3ddec67f6487daa0ba08f9df7f225455f6ac3083aad3798b3d77c403e9", func := "loop.example/g01382/laws.FnPathsSharedOfAll", spec := "fnPathsSharedOfAll", unfollowed := true, recurses := true, apart := false, narrowed := true }
def FnPathsSharedOfAllUptoSaid : Prop := fnPathsSharedOfAllUptoRow.holds Try.pinned (OpenSpec.upto fnPathsSharedOfAllSpec)

/-- 'laws.FnExactParticles', WHERE WHAT IT READS IS OF BULK AT MOST 1048576: true; the input reads as it did. -/
def fnExactParticlesUptoRow : OpenClaim := { program := "ytjkoihiglfnkkaa", sum := "de640f3ddec67f6487daa0ba08f9df7f225455f6ac3083aad3798b3d77c403e9", func := "loop.example/g01382/laws.FnExactParticles", spec := "fnExactParticles", unfollowed := true, recurses := true, apart := false, narrowed := true }
def FnExactParticlesUptoSaid : Prop := fnExactParticlesUptoRow.holds Try.pinned (OpenSpec.upto fnExactParticlesSpec)

/-- 'laws.FnExactMovedParticles', WHERE WHAT IT READS IS OF BULK AT MOST 1048576: true; the input reads as it did. -/
def fnExactMovedParticlesUptoRow : OpenClaim := { program := "ytjkoihiglfnkkaa", sum := "de640f3ddec67f6487daa0ba08f9df7f225455f6ac3083aad3798b3d77c403e9", func := "loop.example/g01382/laws.FnExactMovedParticles", spec := "fnExactMovedParticles", unfollowed := true, recurses := true, apart := false, narrowed := true }
def FnExactMovedParticlesUptoSaid : Prop := fnExactMovedParticlesUptoRow.holds Try.pinned (OpenSpec.upto fnExactMovedParticlesSpec)

/-- 'laws.FnExactDrawAgain', WHERE WHAT IT READS IS OF BULK AT MOST 1048576: true; the input reads as it did. -/
def fnExactDrawAgainUptoRow : OpenClaim := { program := "ytjkoihiglfnkkaa", sum := "de640f3ddec67f6487daa0ba08f9df7f225455f6ac3083aad3798b3d77c403e9", func := "loop.example/g01382/laws.FnExactDrawAgain", spec := "fnExactDrawAgain", unfollowed := true, recurses := true, apart := false, narrowed := true }
def FnExactDrawAgainUptoSaid : Prop := fnExactDrawAgainUptoRow.holds Try.pinned (OpenSpec.upto fnExactDrawAgainSpec)

/-- 'laws.FnExactWeighParticles', WHERE WHAT IT READS IS OF BULK AT MOST 1048576: true; the input reads as it did. -/
def fnExactWeighParticlesUptoRow : OpenClaim := { program := "ytjkoihiglfnkkaa", sum := "de640f3ddec67f6487daa0ba08f9df7f225455f6ac3083aad3798b3d77c403e9", func := "loop.example/g01382/laws.FnExactWeighParticles", spec := "fnExactWeighParticles", inPlace := ["math.Float64frombits"], unfollowed := true, recurses := true, apart := false, narrowed := true }
def FnExactWeighParticlesUptoSaid : Prop := fnExactWeighParticlesUptoRow.holds Try.pinned (OpenSpec.upto fnExactWeighParticlesSpec)

/-- 'laws.FnExactGrowthSums', WHERE WHAT IT READS IS OF BULK AT MOST 1048576: true; the input reads as it did. -/
def fnExactGrowthSumsUptoRow : OpenClaim := { program := "ytjkoihiglfnkkaa", sum := "de640f3ddec67f6487daa0ba08f9df7f225455f6ac3083aad3798b3d77c403e9", func := "loop.example/g01382/laws.FnExactGrowthSums", spec := "fnExactGrowthSums", unfollowed := true, recurses := true, apart := false, narrowed := true }
def FnExactGrowthSumsUptoSaid : Prop := fnExactGrowthSumsUptoRow.holds Try.pinned (OpenSpec.upto fnExactGrowthSumsSpec)

/-- 'laws.FnExactLeftTimes', WHERE WHAT IT READS IS OF BULK AT MOST 1048576: true; the input reads as it did. -/
def fnExactLeftTimesUptoRow : OpenClaim := { program := "ytjkoihiglfnkkaa", sum := "de640f3ddec67f6487daa0ba08f9df7f225455f6ac3083aad3798b3d77c403e9", func := "loop.example/g01382/laws.FnExactLeftTimes", spec := "fnExactLeftTimes", unfollowed := true, recurses := true, apart := false, narrowed := true }
def FnExactLeftTimesUptoSaid : Prop := fnExactLeftTimesUptoRow.holds Try.pinned (OpenSpec.upto fnExactLeftTimesSpec)

end Rows
end Go.Proofs.Ytjkoihiglfnkkaa
