/-
  No cell of these rows narrows 'for every input' (looked for: loops, veiled, ifaces, maps, wideKeys, modest, calm, conditions, laid).
  DERIVED. THE GIVEN ROWS OF THIS SEAT. 11 by the template 'for every input the law returns true; each argument reads behind the call as it read before'; 0 by the template 'total and deterministic' (their statements: YtkonlchholfpoaaTotals.lean).
  GIVEN WITH THE SEED: the statements are not yours to turn. If you find one false, say at which input.
  Laid BY PROGRAM, IN A SANDBOX (cutbox-rows.mjs): the forced cells as the released guide's own fill.sh prints them over the translation 1ed2d5fbd84a5a6f… (all of the seat's roots in one cut). By AI agents, Wed Nov 11 2026. No macro, syntax, notation, axiom, sorry.
-/
import Derived.Test.YtkonlchholfpoaaChecked
import GoSem.Claim
import GoSem.ClaimJoined
import GoSem.ClaimMapViews
import Derived.JoinedTies
import Derived.KernelRfl
namespace Go.Proofs.Ytkonlchholfpoaa
/- THE CELL 'sum', in the pinned program and in every row, IS THE sha256 OF THE DUMP (.gsa) THAT YtkonlchholfpoaaProg.lean LOADS. Nothing in Lean hashes anything: it is a label: what it is worth is what the hold of that sum in a sandbox is worth. -/
noncomputable def Try.pinned : Pinned := { name := "ytkonlchholfpoaa", sum := "1ed2d5fbd84a5a6f6fa1e7ec10a9bce5e62d658b11d214d255b2621ca4a1d270", checked := Try.checked }
namespace Rows
def none {H : Type} : Left H := { results := [], args := [] }

/-- 'laws.FnExactAcceptCurve': WHATEVER THE INPUT: true; the input reads as it did. -/
def fnExactAcceptCurveSpec : ChangeSpec := { name := "fnExactAcceptCurve", fn := fun _ => fun
  | [d1, d2] => { results := [.lit (.bool true)], args := [d1, d2] }
  | _ => none }
def fnExactAcceptCurveRow : OpenClaim := { program := "ytkonlchholfpoaa", sum := "1ed2d5fbd84a5a6f6fa1e7ec10a9bce5e62d658b11d214d255b2621ca4a1d270", func := "loop.example/g01382/laws.FnExactAcceptCurve", spec := "fnExactAcceptCurve", apart := false }
def FnExactAcceptCurveSaid : Prop := fnExactAcceptCurveRow.holds Try.pinned (OpenSpec.ofChange fnExactAcceptCurveSpec)

/-- ITS FALSE NEIGHBOUR: 'it returns false'. Refute it at one input. -/
def fnExactAcceptCurveWrong : ChangeSpec := { name := "fnExactAcceptCurve", fn := fun _ => fun
  | [d1, d2] => { results := [.lit (.bool false)], args := [d1, d2] }
  | _ => none }
def FnExactAcceptCurveWrongFalsely : Prop := fnExactAcceptCurveRow.holds Try.pinned (OpenSpec.ofChange fnExactAcceptCurveWrong)

/-- 'laws.FnExactMeanLooks': WHATEVER THE INPUT: true; the input reads as it did. -/
def fnExactMeanLooksSpec : ChangeSpec := { name := "fnExactMeanLooks", fn := fun _ => fun
  | [d1, d2, d3] => { results := [.lit (.bool true)], args := [d1, d2, d3] }
  | _ => none }
def fnExactMeanLooksRow : OpenClaim := { program := "ytkonlchholfpoaa", sum := "1ed2d5fbd84a5a6f6fa1e7ec10a9bce5e62d658b11d214d255b2621ca4a1d270", func := "loop.example/g01382/laws.FnExactMeanLooks", spec := "fnExactMeanLooks", apart := false }
def FnExactMeanLooksSaid : Prop := fnExactMeanLooksRow.holds Try.pinned (OpenSpec.ofChange fnExactMeanLooksSpec)

/-- ITS FALSE NEIGHBOUR: 'it returns false'. Refute it at one input. -/
def fnExactMeanLooksWrong : ChangeSpec := { name := "fnExactMeanLooks", fn := fun _ => fun
  | [d1, d2, d3] => { results := [.lit (.bool false)], args := [d1, d2, d3] }
  | _ => none }
def FnExactMeanLooksWrongFalsely : Prop := fnExactMeanLooksRow.holds Try.pinned (OpenSpec.ofChange fnExactMeanLooksWrong)

/-- 'laws.FnExactOutgoingOf': WHATEVER THE INPUT: true; the input reads as it did. -/
def fnExactOutgoingOfSpec : ChangeSpec := { name := "fnExactOutgoingOf", fn := fun _ => fun
  | [d1, d2, d3] => { results := [.lit (.bool true)], args := [d1, d2, d3] }
  | _ => none }
def fnExactOutgoingOfRow : OpenClaim := { program := "ytkonlchholfpoaa", sum := "1ed2d5fbd84a5a6f6fa1e7ec10a9bce5e62d658b11d214d255b2621ca4a1d270", func := "loop.example/g01382/laws.FnExactOutgoingOf", spec := "fnExactOutgoingOf", apart := false }
def FnExactOutgoingOfSaid : Prop := fnExactOutgoingOfRow.holds Try.pinned (OpenSpec.ofChange fnExactOutgoingOfSpec)

/-- ITS FALSE NEIGHBOUR: 'it returns false'. Refute it at one input. -/
def fnExactOutgoingOfWrong : ChangeSpec := { name := "fnExactOutgoingOf", fn := fun _ => fun
  | [d1, d2, d3] => { results := [.lit (.bool false)], args := [d1, d2, d3] }
  | _ => none }
def FnExactOutgoingOfWrongFalsely : Prop := fnExactOutgoingOfRow.holds Try.pinned (OpenSpec.ofChange fnExactOutgoingOfWrong)

/-- 'laws.FnExactDoubleShare': WHATEVER THE INPUT: true; the input reads as it did. -/
def fnExactDoubleShareSpec : ChangeSpec := { name := "fnExactDoubleShare", fn := fun _ => fun
  | [d1, d2, d3, d4, d5] => { results := [.lit (.bool true)], args := [d1, d2, d3, d4, d5] }
  | _ => none }
def fnExactDoubleShareRow : OpenClaim := { program := "ytkonlchholfpoaa", sum := "1ed2d5fbd84a5a6f6fa1e7ec10a9bce5e62d658b11d214d255b2621ca4a1d270", func := "loop.example/g01382/laws.FnExactDoubleShare", spec := "fnExactDoubleShare", apart := false }
def FnExactDoubleShareSaid : Prop := fnExactDoubleShareRow.holds Try.pinned (OpenSpec.ofChange fnExactDoubleShareSpec)

/-- ITS FALSE NEIGHBOUR: 'it returns false'. Refute it at one input. -/
def fnExactDoubleShareWrong : ChangeSpec := { name := "fnExactDoubleShare", fn := fun _ => fun
  | [d1, d2, d3, d4, d5] => { results := [.lit (.bool false)], args := [d1, d2, d3, d4, d5] }
  | _ => none }
def FnExactDoubleShareWrongFalsely : Prop := fnExactDoubleShareRow.holds Try.pinned (OpenSpec.ofChange fnExactDoubleShareWrong)

/-- 'laws.FnExactWorstOutgoing': WHATEVER THE INPUT: true; the input reads as it did. -/
def fnExactWorstOutgoingSpec : ChangeSpec := { name := "fnExactWorstOutgoing", fn := fun _ => fun
  | [d1, d2, d3] => { results := [.lit (.bool true)], args := [d1, d2, d3] }
  | _ => none }
def fnExactWorstOutgoingRow : OpenClaim := { program := "ytkonlchholfpoaa", sum := "1ed2d5fbd84a5a6f6fa1e7ec10a9bce5e62d658b11d214d255b2621ca4a1d270", func := "loop.example/g01382/laws.FnExactWorstOutgoing", spec := "fnExactWorstOutgoing", apart := false }
def FnExactWorstOutgoingSaid : Prop := fnExactWorstOutgoingRow.holds Try.pinned (OpenSpec.ofChange fnExactWorstOutgoingSpec)

/-- ITS FALSE NEIGHBOUR: 'it returns false'. Refute it at one input. -/
def fnExactWorstOutgoingWrong : ChangeSpec := { name := "fnExactWorstOutgoing", fn := fun _ => fun
  | [d1, d2, d3] => { results := [.lit (.bool false)], args := [d1, d2, d3] }
  | _ => none }
def FnExactWorstOutgoingWrongFalsely : Prop := fnExactWorstOutgoingRow.holds Try.pinned (OpenSpec.ofChange fnExactWorstOutgoingWrong)

/-- 'laws.FnExactOutOf': WHATEVER THE INPUT: true; the input reads as it did. -/
def fnExactOutOfSpec : ChangeSpec := { name := "fnExactOutOf", fn := fun _ => fun
  | [d1, d2, d3] => { results := [.lit (.bool true)], args := [d1, d2, d3] }
  | _ => none }
def fnExactOutOfRow : OpenClaim := { program := "ytkonlchholfpoaa", sum := "1ed2d5fbd84a5a6f6fa1e7ec10a9bce5e62d658b11d214d255b2621ca4a1d270", func := "loop.example/g01382/laws.FnExactOutOf", spec := "fnExactOutOf", unfollowed := true, recurses := true, apart := false }
def FnExactOutOfSaid : Prop := fnExactOutOfRow.holds Try.pinned (OpenSpec.ofChange fnExactOutOfSpec)

/-- ITS FALSE NEIGHBOUR: 'it returns false'. Refute it at one input. -/
def fnExactOutOfWrong : ChangeSpec := { name := "fnExactOutOf", fn := fun _ => fun
  | [d1, d2, d3] => { results := [.lit (.bool false)], args := [d1, d2, d3] }
  | _ => none }
def FnExactOutOfWrongFalsely : Prop := fnExactOutOfRow.holds Try.pinned (OpenSpec.ofChange fnExactOutOfWrong)

/-- 'laws.FnExactSameSide': WHATEVER THE INPUT: true; the input reads as it did. -/
def fnExactSameSideSpec : ChangeSpec := { name := "fnExactSameSide", fn := fun _ => fun
  | [d1, d2, d3] => { results := [.lit (.bool true)], args := [d1, d2, d3] }
  | _ => none }
def fnExactSameSideRow : OpenClaim := { program := "ytkonlchholfpoaa", sum := "1ed2d5fbd84a5a6f6fa1e7ec10a9bce5e62d658b11d214d255b2621ca4a1d270", func := "loop.example/g01382/laws.FnExactSameSide", spec := "fnExactSameSide", unfollowed := true, recurses := true, apart := false }
def FnExactSameSideSaid : Prop := fnExactSameSideRow.holds Try.pinned (OpenSpec.ofChange fnExactSameSideSpec)

/-- ITS FALSE NEIGHBOUR: 'it returns false'. Refute it at one input. -/
def fnExactSameSideWrong : ChangeSpec := { name := "fnExactSameSide", fn := fun _ => fun
  | [d1, d2, d3] => { results := [.lit (.bool false)], args := [d1, d2, d3] }
  | _ => none }
def FnExactSameSideWrongFalsely : Prop := fnExactSameSideRow.holds Try.pinned (OpenSpec.ofChange fnExactSameSideWrong)

/-- 'laws.FnExactSequenceBars': WHATEVER THE INPUT: true; the input reads as it did. -/
def fnExactSequenceBarsSpec : ChangeSpec := { name := "fnExactSequenceBars", fn := fun _ => fun
  | [d1, d2] => { results := [.lit (.bool true)], args := [d1, d2] }
  | _ => none }
def fnExactSequenceBarsRow : OpenClaim := { program := "ytkonlchholfpoaa", sum := "1ed2d5fbd84a5a6f6fa1e7ec10a9bce5e62d658b11d214d255b2621ca4a1d270", func := "loop.example/g01382/laws.FnExactSequenceBars", spec := "fnExactSequenceBars", inPlace := ["math.Float64frombits", "math.Float64bits"], unfollowed := true, recurses := true, apart := false }
def FnExactSequenceBarsSaid : Prop := fnExactSequenceBarsRow.holds Try.pinned (OpenSpec.ofChange fnExactSequenceBarsSpec)

/-- ITS FALSE NEIGHBOUR: 'it returns false'. Refute it at one input. -/
def fnExactSequenceBarsWrong : ChangeSpec := { name := "fnExactSequenceBars", fn := fun _ => fun
  | [d1, d2] => { results := [.lit (.bool false)], args := [d1, d2] }
  | _ => none }
def FnExactSequenceBarsWrongFalsely : Prop := fnExactSequenceBarsRow.holds Try.pinned (OpenSpec.ofChange fnExactSequenceBarsWrong)

/-- 'laws.FnExactAgreeOf': WHATEVER THE INPUT: true; the input reads as it did. -/
def fnExactAgreeOfSpec : ChangeSpec := { name := "fnExactAgreeOf", fn := fun _ => fun
  | [d1, d2] => { results := [.lit (.bool true)], args := [d1, d2] }
  | _ => none }
def fnExactAgreeOfRow : OpenClaim := { program := "ytkonlchholfpoaa", sum := "1ed2d5fbd84a5a6f6fa1e7ec10a9bce5e62d658b11d214d255b2621ca4a1d270", func := "loop.example/g01382/laws.FnExactAgreeOf", spec := "fnExactAgreeOf", unfollowed := true, recurses := true, apart := false }
def FnExactAgreeOfSaid : Prop := fnExactAgreeOfRow.holds Try.pinned (OpenSpec.ofChange fnExactAgreeOfSpec)

/-- ITS FALSE NEIGHBOUR: 'it returns false'. Refute it at one input. -/
def fnExactAgreeOfWrong : ChangeSpec := { name := "fnExactAgreeOf", fn := fun _ => fun
  | [d1, d2] => { results := [.lit (.bool false)], args := [d1, d2] }
  | _ => none }
def FnExactAgreeOfWrongFalsely : Prop := fnExactAgreeOfRow.holds Try.pinned (OpenSpec.ofChange fnExactAgreeOfWrong)

/-- 'laws.FnExactCurvesShared': WHATEVER THE INPUT: true; the input reads as it did. -/
def fnExactCurvesSharedSpec : ChangeSpec := { name := "fnExactCurvesShared", fn := fun _ => fun
  | [d1, d2, d3] => { results := [.lit (.bool true)], args := [d1, d2, d3] }
  | _ => none }
def fnExactCurvesSharedRow : OpenClaim := { program := "ytkonlchholfpoaa", sum := "1ed2d5fbd84a5a6f6fa1e7ec10a9bce5e62d658b11d214d255b2621ca4a1d270", func := "loop.example/g01382/laws.FnExactCurvesShared", spec := "fnExactCurvesShared", unfollowed := true, recurses := true, apart := false }
def FnExactCurvesSharedSaid : Prop := fnExactCurvesSharedRow.holds Try.pinned (OpenSpec.ofChange fnExactCurvesSharedSpec)

/-- ITS FALSE NEIGHBOUR: 'it returns false'. Refute it at one input. -/
def fnExactCurvesSharedWrong : ChangeSpec := { name := "fnExactCurvesShared", fn := fun _ => fun
  | [d1, d2, d3] => { results := [.lit (.bool false)], args := [d1, d2, d3] }
  | _ => none }
def FnExactCurvesSharedWrongFalsely : Prop := fnExactCurvesSharedRow.holds Try.pinned (OpenSpec.ofChange fnExactCurvesSharedWrong)

/-- 'laws.FnCurvesSharedOfAll': WHATEVER THE INPUT: true; the input reads as it did. -/
def fnCurvesSharedOfAllSpec : ChangeSpec := { name := "fnCurvesSharedOfAll", fn := fun _ => fun
  | [d1, d2, d3, d4] => { results := [.lit (.bool true)], args := [d1, d2, d3, d4] }
  | _ => none }
def fnCurvesSharedOfAllRow : OpenClaim := { program := "ytkonlchholfpoaa", sum := "1ed2d5fbd84a5a6f6fa1e7ec10a9bce5e62d658b11d214d255b2621ca4a1d270", func := "loop.example/g01382/laws.FnCurvesSharedOfAll", spec := "fnCurvesSharedOfAll", unfollowed := true, recurses := true, apart := false }
def FnCurvesSharedOfAllSaid : Prop := fnCurvesSharedOfAllRow.holds Try.pinned (OpenSpec.ofChange fnCurvesSharedOfAllSpec)

/-- ITS FALSE NEIGHBOUR: 'it returns false'. Refute it at one input. -/
def fnCurvesSharedOfAllWrong : ChangeSpec := { name := "fnCurvesSharedOfAll", fn := fun _ => fun
  | [d1, d2, d3, d4] => { results := [.lit (.bool false)], args := [d1, d2, d3, d4] }
  | _ => none }
def FnCurvesSharedOfAllWrongFalsely : Prop := fnCurvesSharedOfAllRow.holds Try.pinned (OpenSpec.ofChange fnCurvesSharedOfAllWrong)

/- THE SECOND FORM. 'bulk': how many values and letters a reading holds, each counted each time it is reached (what is shared counts as often as it is met; a slice's spare places count too). A statement '..UptoSaid' is the law's where the arguments, and the package variables that the reading takes, are together of bulk at most 1048576: NARROWER than '..Said'. Prove '..Said' where nothing that the law and all that it calls make is longer than what came in: it says more and counts as full. Else prove '..UptoSaid'. A law counts once. -/
mutual
def uptoBulk {H : Type} : DataW H → Nat
  | .lit (.string bytes) => bytes.length + 1
  | .lit _ => 1
  | .nil => 1
  | .ptr d => uptoBulk d + 1
  | .slice elems spare => uptoBulkAll elems + uptoBulkAll spare + 1
  | .agg parts => uptoBulkAll parts + 1
  | .iface _ d => uptoBulk d + 1
  | .map entries => uptoBulkEntries entries + 1
  | .held _ => 1
def uptoBulkAll {H : Type} : List (DataW H) → Nat
  | [] => 0
  | d :: r => uptoBulk d + uptoBulkAll r
def uptoBulkEntries {H : Type} : List (Lit × DataW H) → Nat
  | [] => 0
  | x :: r => uptoBulkEntry x + uptoBulkEntries r
def uptoBulkEntry {H : Type} : Lit × DataW H → Nat
  | (.string bytes, d) => bytes.length + uptoBulk d + 1
  | (_, d) => uptoBulk d + 1
 end
def uptoSmall : (H : Type) → List (DataW H) → Bool := fun _ ds => decide (uptoBulkAll ds ≤ 1048576)
def OpenSpec.upto (s : _root_.Go.ChangeSpec) : _root_.Go.OpenSpec := { _root_.Go.OpenSpec.ofChange s with cond := some uptoSmall }

/-- 'laws.FnExactAcceptCurve', WHERE WHAT IT READS IS OF BULK AT MOST 1048576: true; the input reads as it did. -/
def fnExactAcceptCurveUptoRow : OpenClaim := { program := "ytkonlchholfpoaa", sum := "1ed2d5fbd84a5a6f6fa1e7ec10a9bce5e62d658b11d214d255b2621ca4a1d270", func := "loop.example/g01382/laws.FnExactAcceptCurve", spec := "fnExactAcceptCurve", apart := false, narrowed := true }
def FnExactAcceptCurveUptoSaid : Prop := fnExactAcceptCurveUptoRow.holds Try.pinned (OpenSpec.upto fnExactAcceptCurveSpec)

/-- 'laws.FnExactMeanLooks', WHERE WHAT IT READS IS OF BULK AT MOST 1048576: true; the input reads as it did. -/
def fnExactMeanLooksUptoRow : OpenClaim := { program := "ytkonlchholfpoaa", sum := "1ed2d5fbd84a5a6f6fa1e7ec10a9bce5e62d658b11d214d255b2621ca4a1d270", func := "loop.example/g01382/laws.FnExactMeanLooks", spec := "fnExactMeanLooks", apart := false, narrowed := true }
def FnExactMeanLooksUptoSaid : Prop := fnExactMeanLooksUptoRow.holds Try.pinned (OpenSpec.upto fnExactMeanLooksSpec)

/-- 'laws.FnExactOutgoingOf', WHERE WHAT IT READS IS OF BULK AT MOST 1048576: true; the input reads as it did. -/
def fnExactOutgoingOfUptoRow : OpenClaim := { program := "ytkonlchholfpoaa", sum := "1ed2d5fbd84a5a6f6fa1e7ec10a9bce5e62d658b11d214d255b2621ca4a1d270", func := "loop.example/g01382/laws.FnExactOutgoingOf", spec := "fnExactOutgoingOf", apart := false, narrowed := true }
def FnExactOutgoingOfUptoSaid : Prop := fnExactOutgoingOfUptoRow.holds Try.pinned (OpenSpec.upto fnExactOutgoingOfSpec)

/-- 'laws.FnExactDoubleShare', WHERE WHAT IT READS IS OF BULK AT MOST 1048576: true; the input reads as it did. -/
def fnExactDoubleShareUptoRow : OpenClaim := { program := "ytkonlchholfpoaa", sum := "1ed2d5fbd84a5a6f6fa1e7ec10a9bce5e62d658b11d214d255b2621ca4a1d270", func := "loop.example/g01382/laws.FnExactDoubleShare", spec := "fnExactDoubleShare", apart := false, narrowed := true }
def FnExactDoubleShareUptoSaid : Prop := fnExactDoubleShareUptoRow.holds Try.pinned (OpenSpec.upto fnExactDoubleShareSpec)

/-- 'laws.FnExactWorstOutgoing', WHERE WHAT IT READS IS OF BULK AT MOST 1048576: true; the input reads as it did. -/
def fnExactWorstOutgoingUptoRow : OpenClaim := { program := "ytkonlchholfpoaa", sum := "1ed2d5fbd84a5a6f6fa1e7ec10a9bce5e62d658b11d214d255b2621ca4a1d270", func := "loop.example/g01382/laws.FnExactWorstOutgoing", spec := "fnExactWorstOutgoing", apart := false, narrowed := true }
def FnExactWorstOutgoingUptoSaid : Prop := fnExactWorstOutgoingUptoRow.holds Try.pinned (OpenSpec.upto fnExactWorstOutgoingSpec)

/-- 'laws.FnExactOutOf', WHERE WHAT IT READS IS OF BULK AT MOST 1048576: true; the input reads as it did. -/
def fnExactOutOfUptoRow : OpenClaim := { program := "ytkonlchholfpoaa", sum := "1ed2d5fbd84a5a6f6fa1e7ec10a9bce5e62d658b11d214d255b2621ca4a1d270", func := "loop.example/g01382/laws.FnExactOutOf", spec := "fnExactOutOf", unfollowed := true, recurses := true, apart := false, narrowed := true }
def FnExactOutOfUptoSaid : Prop := fnExactOutOfUptoRow.holds Try.pinned (OpenSpec.upto fnExactOutOfSpec)

/-- 'laws.FnExactSameSide', WHERE WHAT IT READS IS OF BULK AT MOST 1048576: true; the input reads as it did. -/
def fnExactSameSideUptoRow : OpenClaim := { program := "ytkonlchholfpoaa", sum := "1ed2d5fbd84a5a6f6fa1e7ec10a9bce5e62d658b11d214d255b2621ca4a1d270", func := "loop.example/g01382/laws.FnExactSameSide", spec := "fnExactSameSide", unfollowed := true, recurses := true, apart := false, narrowed := true }
def FnExactSameSideUptoSaid : Prop := fnExactSameSideUptoRow.holds Try.pinned (OpenSpec.upto fnExactSameSideSpec)

/-- 'laws.FnExactSequenceBars', WHERE WHAT IT READS IS OF BULK AT MOST 1048576: true; the input reads as it did. -/
def fnExactSequenceBarsUptoRow : OpenClaim := { program := "ytkonlchholfpoaa", sum := "1ed2d5fbd84a5a6f6fa1e7ec10a9bce5e62d658b11d214d255b2621ca4a1d270", func := "loop.example/g01382/laws.FnExactSequenceBars", spec := "fnExactSequenceBars", inPlace := ["math.Float64frombits", "math.Float64bits"], unfollowed := true, recurses := true, apart := false, narrowed := true }
def FnExactSequenceBarsUptoSaid : Prop := fnExactSequenceBarsUptoRow.holds Try.pinned (OpenSpec.upto fnExactSequenceBarsSpec)

/-- 'laws.FnExactAgreeOf', WHERE WHAT IT READS IS OF BULK AT MOST 1048576: true; the input reads as it did. -/
def fnExactAgreeOfUptoRow : OpenClaim := { program := "ytkonlchholfpoaa", sum := "1ed2d5fbd84a5a6f6fa1e7ec10a9bce5e62d658b11d214d255b2621ca4a1d270", func := "loop.example/g01382/laws.FnExactAgreeOf", spec := "fnExactAgreeOf", unfollowed := true, recurses := true, apart := false, narrowed := true }
def FnExactAgreeOfUptoSaid : Prop := fnExactAgreeOfUptoRow.holds Try.pinned (OpenSpec.upto fnExactAgreeOfSpec)

/-- 'laws.FnExactCurvesShared', WHERE WHAT IT READS IS OF BULK AT MOST 1048576: true; the input reads as it did. -/
def fnExactCurvesSharedUptoRow : OpenClaim := { program := "ytkonlchholfpoaa", sum := "1ed2d5fbd84a5a6f6fa1e7ec10a9bce5e62d658b11d214d255b2621ca4a1d270", func := "loop.example/g01382/laws.FnExactCurvesShared", spec := "fnExactCurvesShared", unfollowed := true, recurses := true, apart := false, narrowed := true }
def FnExactCurvesSharedUptoSaid : Prop := fnExactCurvesSharedUptoRow.holds Try.pinned (OpenSpec.upto fnExactCurvesSharedSpec)

/-- 'laws.FnCurvesSharedOfAll', WHERE WHAT IT READS IS OF BULK AT MOST 1048576: true; the input reads as it did. -/
def fnCurvesSharedOfAllUptoRow : OpenClaim := { program := "ytkonlchholfpoaa", sum := "1ed2d5fbd84a5a6f6fa1e7ec10a9bce5e62d658b11d214d255b2621ca4a1d270", func := "loop.example/g01382/laws.FnCurvesSharedOfAll", spec := "fnCurvesSharedOfAll", unfollowed := true, recurses := true, apart := false, narrowed := true }
def FnCurvesSharedOfAllUptoSaid : Prop := fnCurvesSharedOfAllUptoRow.holds Try.pinned (OpenSpec.upto fnCurvesSharedOfAllSpec)

end Rows
end Go.Proofs.Ytkonlchholfpoaa
