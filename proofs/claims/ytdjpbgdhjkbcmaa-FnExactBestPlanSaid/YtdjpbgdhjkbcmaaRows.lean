/-
  No cell of these rows narrows 'for every input' (looked for: loops, veiled, ifaces, maps, wideKeys, modest, calm, conditions, laid).
  DERIVED. THE GIVEN ROWS OF THIS SEAT. 10 by the template 'for every input the law returns true; each argument reads behind the call as it read before'; 0 by the template 'total and deterministic' (their statements: YtdjpbgdhjkbcmaaTotals.lean).
  GIVEN WITH THE SEED: the statements are not yours to turn. If you find one false, say at which input.
  Laid BY PROGRAM, IN A SANDBOX (cutbox-rows.mjs): the forced cells as the released guide's own fill.sh prints them over the translation daff73f734ae7c33… (all of the seat's roots in one cut). By AI agents, Wed Nov 11 2026. No macro, syntax, notation, axiom, sorry.
-/
import Derived.Test.YtdjpbgdhjkbcmaaChecked
import GoSem.Claim
import GoSem.ClaimJoined
import GoSem.ClaimMapViews
import Derived.JoinedTies
import Derived.KernelRfl
namespace Go.Proofs.Ytdjpbgdhjkbcmaa
/- THE CELL 'sum', in the pinned program and in every row, IS THE sha256 OF THE DUMP (.gsa) THAT YtdjpbgdhjkbcmaaProg.lean LOADS. Nothing in Lean hashes anything: it is a label: what it is worth is what the hold of that sum in a sandbox is worth. -/
noncomputable def Try.pinned : Pinned := { name := "ytdjpbgdhjkbcmaa", sum := "daff73f734ae7c331270a87c5a18c02a1ed3d34023b4f983c0b0edd9335bf048", checked := Try.checked }
namespace Rows
def none {H : Type} : Left H := { results := [], args := [] }

/-- 'laws.FnExactSamePlan': WHATEVER THE INPUT: true; the input reads as it did. -/
def fnExactSamePlanSpec : ChangeSpec := { name := "fnExactSamePlan", fn := fun _ => fun
  | [d1, d2] => { results := [.lit (.bool true)], args := [d1, d2] }
  | _ => none }
def fnExactSamePlanRow : OpenClaim := { program := "ytdjpbgdhjkbcmaa", sum := "daff73f734ae7c331270a87c5a18c02a1ed3d34023b4f983c0b0edd9335bf048", func := "loop.example/g01382/laws.FnExactSamePlan", spec := "fnExactSamePlan", apart := false }
def FnExactSamePlanSaid : Prop := fnExactSamePlanRow.holds Try.pinned (OpenSpec.ofChange fnExactSamePlanSpec)

/-- ITS FALSE NEIGHBOUR: 'it returns false'. Refute it at one input. -/
def fnExactSamePlanWrong : ChangeSpec := { name := "fnExactSamePlan", fn := fun _ => fun
  | [d1, d2] => { results := [.lit (.bool false)], args := [d1, d2] }
  | _ => none }
def FnExactSamePlanWrongFalsely : Prop := fnExactSamePlanRow.holds Try.pinned (OpenSpec.ofChange fnExactSamePlanWrong)

/-- 'laws.FnExactValidPlan': WHATEVER THE INPUT: true; the input reads as it did. -/
def fnExactValidPlanSpec : ChangeSpec := { name := "fnExactValidPlan", fn := fun _ => fun
  | [d] => { results := [.lit (.bool true)], args := [d] }
  | _ => none }
def fnExactValidPlanRow : OpenClaim := { program := "ytdjpbgdhjkbcmaa", sum := "daff73f734ae7c331270a87c5a18c02a1ed3d34023b4f983c0b0edd9335bf048", func := "loop.example/g01382/laws.FnExactValidPlan", spec := "fnExactValidPlan", apart := false }
def FnExactValidPlanSaid : Prop := fnExactValidPlanRow.holds Try.pinned (OpenSpec.ofChange fnExactValidPlanSpec)

/-- ITS FALSE NEIGHBOUR: 'it returns false'. Refute it at one input. -/
def fnExactValidPlanWrong : ChangeSpec := { name := "fnExactValidPlan", fn := fun _ => fun
  | [d] => { results := [.lit (.bool false)], args := [d] }
  | _ => none }
def FnExactValidPlanWrongFalsely : Prop := fnExactValidPlanRow.holds Try.pinned (OpenSpec.ofChange fnExactValidPlanWrong)

/-- 'laws.FnExactFoundFaults': WHATEVER THE INPUT: true; the input reads as it did. -/
def fnExactFoundFaultsSpec : ChangeSpec := { name := "fnExactFoundFaults", fn := fun _ => fun
  | [d1, d2, d3] => { results := [.lit (.bool true)], args := [d1, d2, d3] }
  | _ => none }
def fnExactFoundFaultsRow : OpenClaim := { program := "ytdjpbgdhjkbcmaa", sum := "daff73f734ae7c331270a87c5a18c02a1ed3d34023b4f983c0b0edd9335bf048", func := "loop.example/g01382/laws.FnExactFoundFaults", spec := "fnExactFoundFaults", apart := false }
def FnExactFoundFaultsSaid : Prop := fnExactFoundFaultsRow.holds Try.pinned (OpenSpec.ofChange fnExactFoundFaultsSpec)

/-- ITS FALSE NEIGHBOUR: 'it returns false'. Refute it at one input. -/
def fnExactFoundFaultsWrong : ChangeSpec := { name := "fnExactFoundFaults", fn := fun _ => fun
  | [d1, d2, d3] => { results := [.lit (.bool false)], args := [d1, d2, d3] }
  | _ => none }
def FnExactFoundFaultsWrongFalsely : Prop := fnExactFoundFaultsRow.holds Try.pinned (OpenSpec.ofChange fnExactFoundFaultsWrong)

/-- 'laws.FnExactWaitForRun': WHATEVER THE INPUT: true; the input reads as it did. -/
def fnExactWaitForRunSpec : ChangeSpec := { name := "fnExactWaitForRun", fn := fun _ => fun
  | [d1, d2] => { results := [.lit (.bool true)], args := [d1, d2] }
  | _ => none }
def fnExactWaitForRunRow : OpenClaim := { program := "ytdjpbgdhjkbcmaa", sum := "daff73f734ae7c331270a87c5a18c02a1ed3d34023b4f983c0b0edd9335bf048", func := "loop.example/g01382/laws.FnExactWaitForRun", spec := "fnExactWaitForRun", apart := false }
def FnExactWaitForRunSaid : Prop := fnExactWaitForRunRow.holds Try.pinned (OpenSpec.ofChange fnExactWaitForRunSpec)

/-- ITS FALSE NEIGHBOUR: 'it returns false'. Refute it at one input. -/
def fnExactWaitForRunWrong : ChangeSpec := { name := "fnExactWaitForRun", fn := fun _ => fun
  | [d1, d2] => { results := [.lit (.bool false)], args := [d1, d2] }
  | _ => none }
def FnExactWaitForRunWrongFalsely : Prop := fnExactWaitForRunRow.holds Try.pinned (OpenSpec.ofChange fnExactWaitForRunWrong)

/-- 'laws.FnExactTimeToLimit': WHATEVER THE INPUT: true; the input reads as it did. -/
def fnExactTimeToLimitSpec : ChangeSpec := { name := "fnExactTimeToLimit", fn := fun _ => fun
  | [d1, d2, d3] => { results := [.lit (.bool true)], args := [d1, d2, d3] }
  | _ => none }
def fnExactTimeToLimitRow : OpenClaim := { program := "ytdjpbgdhjkbcmaa", sum := "daff73f734ae7c331270a87c5a18c02a1ed3d34023b4f983c0b0edd9335bf048", func := "loop.example/g01382/laws.FnExactTimeToLimit", spec := "fnExactTimeToLimit", unfollowed := true, recurses := true, apart := false }
def FnExactTimeToLimitSaid : Prop := fnExactTimeToLimitRow.holds Try.pinned (OpenSpec.ofChange fnExactTimeToLimitSpec)

/-- ITS FALSE NEIGHBOUR: 'it returns false'. Refute it at one input. -/
def fnExactTimeToLimitWrong : ChangeSpec := { name := "fnExactTimeToLimit", fn := fun _ => fun
  | [d1, d2, d3] => { results := [.lit (.bool false)], args := [d1, d2, d3] }
  | _ => none }
def FnExactTimeToLimitWrongFalsely : Prop := fnExactTimeToLimitRow.holds Try.pinned (OpenSpec.ofChange fnExactTimeToLimitWrong)

/-- 'laws.FnFaults': WHATEVER THE INPUT: true; the input reads as it did. -/
def fnFaultsSpec : ChangeSpec := { name := "fnFaults", fn := fun _ => fun
  | [d1, d2] => { results := [.lit (.bool true)], args := [d1, d2] }
  | _ => none }
def fnFaultsRow : OpenClaim := { program := "ytdjpbgdhjkbcmaa", sum := "daff73f734ae7c331270a87c5a18c02a1ed3d34023b4f983c0b0edd9335bf048", func := "loop.example/g01382/laws.FnFaults", spec := "fnFaults", unfollowed := true, recurses := true, apart := false }
def FnFaultsSaid : Prop := fnFaultsRow.holds Try.pinned (OpenSpec.ofChange fnFaultsSpec)

/-- ITS FALSE NEIGHBOUR: 'it returns false'. Refute it at one input. -/
def fnFaultsWrong : ChangeSpec := { name := "fnFaults", fn := fun _ => fun
  | [d1, d2] => { results := [.lit (.bool false)], args := [d1, d2] }
  | _ => none }
def FnFaultsWrongFalsely : Prop := fnFaultsRow.holds Try.pinned (OpenSpec.ofChange fnFaultsWrong)

/-- 'laws.FnExactBestPlan': WHATEVER THE INPUT: true; the input reads as it did. -/
def fnExactBestPlanSpec : ChangeSpec := { name := "fnExactBestPlan", fn := fun _ => fun
  | [d1, d2, d3, d4, d5] => { results := [.lit (.bool true)], args := [d1, d2, d3, d4, d5] }
  | _ => none }
def fnExactBestPlanRow : OpenClaim := { program := "ytdjpbgdhjkbcmaa", sum := "daff73f734ae7c331270a87c5a18c02a1ed3d34023b4f983c0b0edd9335bf048", func := "loop.example/g01382/laws.FnExactBestPlan", spec := "fnExactBestPlan", unfollowed := true, recurses := true, apart := false }
def FnExactBestPlanSaid : Prop := fnExactBestPlanRow.holds Try.pinned (OpenSpec.ofChange fnExactBestPlanSpec)

/-- ITS FALSE NEIGHBOUR: 'it returns false'. Refute it at one input. -/
def fnExactBestPlanWrong : ChangeSpec := { name := "fnExactBestPlan", fn := fun _ => fun
  | [d1, d2, d3, d4, d5] => { results := [.lit (.bool false)], args := [d1, d2, d3, d4, d5] }
  | _ => none }
def FnExactBestPlanWrongFalsely : Prop := fnExactBestPlanRow.holds Try.pinned (OpenSpec.ofChange fnExactBestPlanWrong)

/-- 'laws.FnExactAcceptShare': WHATEVER THE INPUT: true; the input reads as it did. -/
def fnExactAcceptShareSpec : ChangeSpec := { name := "fnExactAcceptShare", fn := fun _ => fun
  | [d1, d2, d3] => { results := [.lit (.bool true)], args := [d1, d2, d3] }
  | _ => none }
def fnExactAcceptShareRow : OpenClaim := { program := "ytdjpbgdhjkbcmaa", sum := "daff73f734ae7c331270a87c5a18c02a1ed3d34023b4f983c0b0edd9335bf048", func := "loop.example/g01382/laws.FnExactAcceptShare", spec := "fnExactAcceptShare", apart := false }
def FnExactAcceptShareSaid : Prop := fnExactAcceptShareRow.holds Try.pinned (OpenSpec.ofChange fnExactAcceptShareSpec)

/-- ITS FALSE NEIGHBOUR: 'it returns false'. Refute it at one input. -/
def fnExactAcceptShareWrong : ChangeSpec := { name := "fnExactAcceptShare", fn := fun _ => fun
  | [d1, d2, d3] => { results := [.lit (.bool false)], args := [d1, d2, d3] }
  | _ => none }
def FnExactAcceptShareWrongFalsely : Prop := fnExactAcceptShareRow.holds Try.pinned (OpenSpec.ofChange fnExactAcceptShareWrong)

/-- 'laws.FnExactChanceAccept': WHATEVER THE INPUT: true; the input reads as it did. -/
def fnExactChanceAcceptSpec : ChangeSpec := { name := "fnExactChanceAccept", fn := fun _ => fun
  | [d1, d2] => { results := [.lit (.bool true)], args := [d1, d2] }
  | _ => none }
def fnExactChanceAcceptRow : OpenClaim := { program := "ytdjpbgdhjkbcmaa", sum := "daff73f734ae7c331270a87c5a18c02a1ed3d34023b4f983c0b0edd9335bf048", func := "loop.example/g01382/laws.FnExactChanceAccept", spec := "fnExactChanceAccept", apart := false }
def FnExactChanceAcceptSaid : Prop := fnExactChanceAcceptRow.holds Try.pinned (OpenSpec.ofChange fnExactChanceAcceptSpec)

/-- ITS FALSE NEIGHBOUR: 'it returns false'. Refute it at one input. -/
def fnExactChanceAcceptWrong : ChangeSpec := { name := "fnExactChanceAccept", fn := fun _ => fun
  | [d1, d2] => { results := [.lit (.bool false)], args := [d1, d2] }
  | _ => none }
def FnExactChanceAcceptWrongFalsely : Prop := fnExactChanceAcceptRow.holds Try.pinned (OpenSpec.ofChange fnExactChanceAcceptWrong)

/-- 'laws.FnExactFaultsLeft': WHATEVER THE INPUT: true; the input reads as it did. -/
def fnExactFaultsLeftSpec : ChangeSpec := { name := "fnExactFaultsLeft", fn := fun _ => fun
  | [d] => { results := [.lit (.bool true)], args := [d] }
  | _ => none }
def fnExactFaultsLeftRow : OpenClaim := { program := "ytdjpbgdhjkbcmaa", sum := "daff73f734ae7c331270a87c5a18c02a1ed3d34023b4f983c0b0edd9335bf048", func := "loop.example/g01382/laws.FnExactFaultsLeft", spec := "fnExactFaultsLeft", unfollowed := true, recurses := true, apart := false }
def FnExactFaultsLeftSaid : Prop := fnExactFaultsLeftRow.holds Try.pinned (OpenSpec.ofChange fnExactFaultsLeftSpec)

/-- ITS FALSE NEIGHBOUR: 'it returns false'. Refute it at one input. -/
def fnExactFaultsLeftWrong : ChangeSpec := { name := "fnExactFaultsLeft", fn := fun _ => fun
  | [d] => { results := [.lit (.bool false)], args := [d] }
  | _ => none }
def FnExactFaultsLeftWrongFalsely : Prop := fnExactFaultsLeftRow.holds Try.pinned (OpenSpec.ofChange fnExactFaultsLeftWrong)

/- THE SECOND FORM. 'bulk': how many values and letters a reading holds, each counted each time it is reached (what is shared counts as often as it is met; a slice's spare places count too). A statement '..UptoSaid' is the law's where the arguments, and the package variables that the reading takes, are together of bulk at most 1048576: NARROWER than '..Said'. Prove '..Said' where nothing that the law and all that it calls make is longer than what came in: it says more and counts as full. Else prove '..UptoSaid'. A law counts once. -/
mutual
def uptoBulk {H : Type} : DataW H → Nat
  | .lit (.string bytes) => bytes.length + 1
  | .lit _ => 1
  | .nil => 1
  | .ptr d => uptoBulk d + 1
  | .slice elems spare => uptoBulkAll elems + uptoBulkAll spare + 1
  | .agg parts => uptoBulkAll parts + 1
  | .iface _ d => uptoBulk d + 1
  | .map entries => uptoBulkEntries entries + 1
  | .held _ => 1
def uptoBulkAll {H : Type} : List (DataW H) → Nat
  | [] => 0
  | d :: r => uptoBulk d + uptoBulkAll r
def uptoBulkEntries {H : Type} : List (Lit × DataW H) → Nat
  | [] => 0
  | x :: r => uptoBulkEntry x + uptoBulkEntries r
def uptoBulkEntry {H : Type} : Lit × DataW H → Nat
  | (.string bytes, d) => bytes.length + uptoBulk d + 1
  | (_, d) => uptoBulk d + 1
 end
def uptoSmall : (H : Type) → List (DataW H) → Bool := fun _ ds => decide (uptoBulkAll ds ≤ 1048576)
def OpenSpec.upto (s : _root_.Go.ChangeSpec) : _root_.Go.OpenSpec := { _root_.Go.OpenSpec.ofChange s with cond := some uptoSmall }

/-- 'laws.FnExactSamePlan', WHERE WHAT IT READS IS OF BULK AT MOST 1048576: true; the input reads as it did. -/
def fnExactSamePlanUptoRow : OpenClaim := { program := "ytdjpbgdhjkbcmaa", sum := "daff73f734ae7c331270a87c5a18c02a1ed3d34023b4f983c0b0edd9335bf048", func := "loop.example/g01382/laws.FnExactSamePlan", spec := "fnExactSamePlan", apart := false, narrowed := true }
def FnExactSamePlanUptoSaid : Prop := fnExactSamePlanUptoRow.holds Try.pinned (OpenSpec.upto fnExactSamePlanSpec)

/-- 'laws.FnExactValidPlan', WHERE WHAT IT READS IS OF BULK AT MOST 1048576: true; the input reads as it did. -/
def fnExactValidPlanUptoRow : OpenClaim := { program := "ytdjpbgdhjkbcmaa", sum := "daff73f734ae7c331270a87c5a18c02a1ed3d34023b4f983c0b0edd9335bf048", func := "loop.example/g01382/laws.FnExactValidPlan", spec := "fnExactValidPlan", apart := false, narrowed := true }
def FnExactValidPlanUptoSaid : Prop := fnExactValidPlanUptoRow.holds Try.pinned (OpenSpec.upto fnExactValidPlanSpec)

/-- 'laws.FnExactFoundFaults', WHERE WHAT IT READS IS OF BULK AT MOST 1048576: true; the input reads as it did. -/
def fnExactFoundFaultsUptoRow : OpenClaim := { program := "ytdjpbgdhjkbcmaa", sum := "daff73f734ae7c331270a87c5a18c02a1ed3d34023b4f983c0b0edd9335bf048", func := "loop.example/g01382/laws.FnExactFoundFaults", spec := "fnExactFoundFaults", apart := false, narrowed := true }
def FnExactFoundFaultsUptoSaid : Prop := fnExactFoundFaultsUptoRow.holds Try.pinned (OpenSpec.upto fnExactFoundFaultsSpec)

/-- 'laws.FnExactWaitForRun', WHERE WHAT IT READS IS OF BULK AT MOST 1048576: true; the input reads as it did. -/
def fnExactWaitForRunUptoRow : OpenClaim := { program := "ytdjpbgdhjkbcmaa", sum := "daff73f734ae7c331270a87c5a18c02a1ed3d34023b4f983c0b0edd9335bf048", func := "loop.example/g01382/laws.FnExactWaitForRun", spec := "fnExactWaitForRun", apart := false, narrowed := true }
def FnExactWaitForRunUptoSaid : Prop := fnExactWaitForRunUptoRow.holds Try.pinned (OpenSpec.upto fnExactWaitForRunSpec)

/-- 'laws.FnExactTimeToLimit', WHERE WHAT IT READS IS OF BULK AT MOST 1048576: true; the input reads as it did. -/
def fnExactTimeToLimitUptoRow : OpenClaim := { program := "ytdjpbgdhjkbcmaa", sum := "daff73f734ae7c331270a87c5a18c02a1ed3d34023b4f983c0b0edd9335bf048", func := "loop.example/g01382/laws.FnExactTimeToLimit", spec := "fnExactTimeToLimit", unfollowed := true, recurses := true, apart := false, narrowed := true }
def FnExactTimeToLimitUptoSaid : Prop := fnExactTimeToLimitUptoRow.holds Try.pinned (OpenSpec.upto fnExactTimeToLimitSpec)

/-- 'laws.FnFaults', WHERE WHAT IT READS IS OF BULK AT MOST 1048576: true; the input reads as it did. -/
def fnFaultsUptoRow : OpenClaim := { program := "ytdjpbgdhjkbcmaa", sum := "daff73f734ae7c331270a87c5a18c02a1ed3d34023b4f983c0b0edd9335bf048", func := "loop.example/g01382/laws.FnFaults", spec := "fnFaults", unfollowed := true, recurses := true, apart := false, narrowed := true }
def FnFaultsUptoSaid : Prop := fnFaultsUptoRow.holds Try.pinned (OpenSpec.upto fnFaultsSpec)

/-- 'laws.FnExactBestPlan', WHERE WHAT IT READS IS OF BULK AT MOST 1048576: true; the input reads as it did. -/
def fnExactBestPlanUptoRow : OpenClaim := { program := "ytdjpbgdhjkbcmaa", sum := "daff73f734ae7c331270a87c5a18c02a1ed3d34023b4f983c0b0edd9335bf048", func := "loop.example/g01382/laws.FnExactBestPlan", spec := "fnExactBestPlan", unfollowed := true, recurses := true, apart := false, narrowed := true }
def FnExactBestPlanUptoSaid : Prop := fnExactBestPlanUptoRow.holds Try.pinned (OpenSpec.upto fnExactBestPlanSpec)

/-- 'laws.FnExactAcceptShare', WHERE WHAT IT READS IS OF BULK AT MOST 1048576: true; the input reads as it did. -/
def fnExactAcceptShareUptoRow : OpenClaim := { program := "ytdjpbgdhjkbcmaa", sum := "daff73f734ae7c331270a87c5a18c02a1ed3d34023b4f983c0b0edd9335bf048", func := "loop.example/g01382/laws.FnExactAcceptShare", spec := "fnExactAcceptShare", apart := false, narrowed := true }
def FnExactAcceptShareUptoSaid : Prop := fnExactAcceptShareUptoRow.holds Try.pinned (OpenSpec.upto fnExactAcceptShareSpec)

/-- 'laws.FnExactChanceAccept', WHERE WHAT IT READS IS OF BULK AT MOST 1048576: true; the input reads as it did. -/
def fnExactChanceAcceptUptoRow : OpenClaim := { program := "ytdjpbgdhjkbcmaa", sum := "daff73f734ae7c331270a87c5a18c02a1ed3d34023b4f983c0b0edd9335bf048", func := "loop.example/g01382/laws.FnExactChanceAccept", spec := "fnExactChanceAccept", apart := false, narrowed := true }
def FnExactChanceAcceptUptoSaid : Prop := fnExactChanceAcceptUptoRow.holds Try.pinned (OpenSpec.upto fnExactChanceAcceptSpec)

/-- 'laws.FnExactFaultsLeft', WHERE WHAT IT READS IS OF BULK AT MOST 1048576: true; the input reads as it did. -/
def fnExactFaultsLeftUptoRow : OpenClaim := { program := "ytdjpbgdhjkbcmaa", sum := "daff73f734ae7c331270a87c5a18c02a1ed3d34023b4f983c0b0edd9335bf048", func := "loop.example/g01382/laws.FnExactFaultsLeft", spec := "fnExactFaultsLeft", unfollowed := true, recurses := true, apart := false, narrowed := true }
def FnExactFaultsLeftUptoSaid : Prop := fnExactFaultsLeftUptoRow.holds Try.pinned (OpenSpec.upto fnExactFaultsLeftSpec)

end Rows
end Go.Proofs.Ytdjpbgdhjkbcmaa
