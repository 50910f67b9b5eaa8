/-
  No cell of these rows narrows 'for every input' (looked for: loops, veiled, ifaces, maps, wideKeys, modest, calm, conditions, laid).
  DERIVED. THE GIVEN ROWS OF THIS SEAT. 5 by the template 'for every input the law returns true; each argument reads behind the call as it read before'; 0 by the template 'total and deterministic' (their statements: YtfnhpchgiknmpaaTotals.lean).
  GIVEN WITH THE SEED: the statements are not yours to turn. If you find one false, say at which input.
  Laid BY PROGRAM, IN A SANDBOX (cutbox-rows.mjs): the forced cells as the released guide's own fill.sh prints them over the translation 24bc9ce79fb8611f… (all of the seat's roots in one cut). By AI agents, Wed Nov 11 2026. No macro, syntax, notation, axiom, sorry.
-/
import Derived.Test.YtfnhpchgiknmpaaChecked
import GoSem.Claim
import GoSem.ClaimJoined
import GoSem.ClaimMapViews
import Derived.JoinedTies
import Derived.KernelRfl
namespace Go.Proofs.Ytfnhpchgiknmpaa
/- THE CELL 'sum', in the pinned program and in every row, IS THE sha256 OF THE DUMP (.gsa) THAT YtfnhpchgiknmpaaProg.lean LOADS. Nothing in Lean hashes anything: it is a label: what it is worth is what the hold of that sum in a sandbox is worth. -/
noncomputable def Try.pinned : Pinned := { name := "ytfnhpchgiknmpaa", sum := "24bc9ce79fb8611f6c946b684686adc1330103e2a251fc65a3a44ba96cd3734b", checked := Try.checked }
namespace Rows
def none {H : Type} : Left H := { results := [], args := [] }

/-- 'laws.FnExactAreUnits': WHATEVER THE INPUT: true; the input reads as it did. -/
def fnExactAreUnitsSpec : ChangeSpec := { name := "fnExactAreUnits", fn := fun _ => fun
  | [d] => { results := [.lit (.bool true)], args := [d] }
  | _ => none }
def fnExactAreUnitsRow : OpenClaim := { program := "ytfnhpchgiknmpaa", sum := "24bc9ce79fb8611f6c946b684686adc1330103e2a251fc65a3a44ba96cd3734b", func := "loop.example/g01382/laws.FnExactAreUnits", spec := "fnExactAreUnits", unfollowed := true, recurses := true, apart := false }
def FnExactAreUnitsSaid : Prop := fnExactAreUnitsRow.holds Try.pinned (OpenSpec.ofChange fnExactAreUnitsSpec)

/-- ITS FALSE NEIGHBOUR: 'it returns false'. Refute it at one input. -/
def fnExactAreUnitsWrong : ChangeSpec := { name := "fnExactAreUnits", fn := fun _ => fun
  | [d] => { results := [.lit (.bool false)], args := [d] }
  | _ => none }
def FnExactAreUnitsWrongFalsely : Prop := fnExactAreUnitsRow.holds Try.pinned (OpenSpec.ofChange fnExactAreUnitsWrong)

/-- 'laws.FnExactSameUnits': WHATEVER THE INPUT: true; the input reads as it did. -/
def fnExactSameUnitsSpec : ChangeSpec := { name := "fnExactSameUnits", fn := fun _ => fun
  | [d1, d2] => { results := [.lit (.bool true)], args := [d1, d2] }
  | _ => none }
def fnExactSameUnitsRow : OpenClaim := { program := "ytfnhpchgiknmpaa", sum := "24bc9ce79fb8611f6c946b684686adc1330103e2a251fc65a3a44ba96cd3734b", func := "loop.example/g01382/laws.FnExactSameUnits", spec := "fnExactSameUnits", inPlace := ["math.Float32bits", "math.Float64bits"], unfollowed := true, recurses := true, apart := false }
def FnExactSameUnitsSaid : Prop := fnExactSameUnitsRow.holds Try.pinned (OpenSpec.ofChange fnExactSameUnitsSpec)

/-- ITS FALSE NEIGHBOUR: 'it returns false'. Refute it at one input. -/
def fnExactSameUnitsWrong : ChangeSpec := { name := "fnExactSameUnits", fn := fun _ => fun
  | [d1, d2] => { results := [.lit (.bool false)], args := [d1, d2] }
  | _ => none }
def FnExactSameUnitsWrongFalsely : Prop := fnExactSameUnitsRow.holds Try.pinned (OpenSpec.ofChange fnExactSameUnitsWrong)

/-- 'laws.FnExactBalanceOf': WHATEVER THE INPUT: true; the input reads as it did. -/
def fnExactBalanceOfSpec : ChangeSpec := { name := "fnExactBalanceOf", fn := fun _ => fun
  | [d] => { results := [.lit (.bool true)], args := [d] }
  | _ => none }
def fnExactBalanceOfRow : OpenClaim := { program := "ytfnhpchgiknmpaa", sum := "24bc9ce79fb8611f6c946b684686adc1330103e2a251fc65a3a44ba96cd3734b", func := "loop.example/g01382/laws.FnExactBalanceOf", spec := "fnExactBalanceOf", unfollowed := true, recurses := true, apart := false }
def FnExactBalanceOfSaid : Prop := fnExactBalanceOfRow.holds Try.pinned (OpenSpec.ofChange fnExactBalanceOfSpec)

/-- ITS FALSE NEIGHBOUR: 'it returns false'. Refute it at one input. -/
def fnExactBalanceOfWrong : ChangeSpec := { name := "fnExactBalanceOf", fn := fun _ => fun
  | [d] => { results := [.lit (.bool false)], args := [d] }
  | _ => none }
def FnExactBalanceOfWrongFalsely : Prop := fnExactBalanceOfRow.holds Try.pinned (OpenSpec.ofChange fnExactBalanceOfWrong)

/-- 'laws.FnExactShareUp': WHATEVER THE INPUT: true; the input reads as it did. -/
def fnExactShareUpSpec : ChangeSpec := { name := "fnExactShareUp", fn := fun _ => fun
  | [d1, d2] => { results := [.lit (.bool true)], args := [d1, d2] }
  | _ => none }
def fnExactShareUpRow : OpenClaim := { program := "ytfnhpchgiknmpaa", sum := "24bc9ce79fb8611f6c946b684686adc1330103e2a251fc65a3a44ba96cd3734b", func := "loop.example/g01382/laws.FnExactShareUp", spec := "fnExactShareUp", unfollowed := true, recurses := true, apart := false }
def FnExactShareUpSaid : Prop := fnExactShareUpRow.holds Try.pinned (OpenSpec.ofChange fnExactShareUpSpec)

/-- ITS FALSE NEIGHBOUR: 'it returns false'. Refute it at one input. -/
def fnExactShareUpWrong : ChangeSpec := { name := "fnExactShareUp", fn := fun _ => fun
  | [d1, d2] => { results := [.lit (.bool false)], args := [d1, d2] }
  | _ => none }
def FnExactShareUpWrongFalsely : Prop := fnExactShareUpRow.holds Try.pinned (OpenSpec.ofChange fnExactShareUpWrong)

/-- 'laws.FnExactStressFit': WHATEVER THE INPUT: true; the input reads as it did. -/
def fnExactStressFitSpec : ChangeSpec := { name := "fnExactStressFit", fn := fun _ => fun
  | [d1, d2, d3] => { results := [.lit (.bool true)], args := [d1, d2, d3] }
  | _ => none }
def fnExactStressFitRow : OpenClaim := { program := "ytfnhpchgiknmpaa", sum := "24bc9ce79fb8611f6c946b684686adc1330103e2a251fc65a3a44ba96cd3734b", func := "loop.example/g01382/laws.FnExactStressFit", spec := "fnExactStressFit", inPlace := ["math.Float64frombits", "math.Float64bits"], unfollowed := true, recurses := true, apart := false }
def FnExactStressFitSaid : Prop := fnExactStressFitRow.holds Try.pinned (OpenSpec.ofChange fnExactStressFitSpec)

/-- ITS FALSE NEIGHBOUR: 'it returns false'. Refute it at one input. -/
def fnExactStressFitWrong : ChangeSpec := { name := "fnExactStressFit", fn := fun _ => fun
  | [d1, d2, d3] => { results := [.lit (.bool false)], args := [d1, d2, d3] }
  | _ => none }
def FnExactStressFitWrongFalsely : Prop := fnExactStressFitRow.holds Try.pinned (OpenSpec.ofChange fnExactStressFitWrong)

/- THE SECOND FORM. 'bulk': how many values and letters a reading holds, each counted each time it is reached (what is shared counts as often as it is met; a slice's spare places count too). A statement '..UptoSaid' is the law's where the arguments, and the package variables that the reading takes, are together of bulk at most 1048576: NARROWER than '..Said'. Prove '..Said' where nothing that the law and all that it calls make is longer than what came in: it says more and counts as full. Else prove '..UptoSaid'. A law counts once. -/
mutual
def uptoBulk {H : Type} : DataW H → Nat
  | .lit (.string bytes) => bytes.length + 1
  | .lit _ => 1
  | .nil => 1
  | .ptr d => uptoBulk d + 1
  | .slice elems spare => uptoBulkAll elems + uptoBulkAll spare + 1
  | .agg parts => uptoBulkAll parts + 1
  | .iface _ d => uptoBulk d + 1
  | .map entries => uptoBulkEntries entries + 1
  | .held _ => 1
def uptoBulkAll {H : Type} : List (DataW H) → Nat
  | [] => 0
  | d :: r => uptoBulk d + uptoBulkAll r
def uptoBulkEntries {H : Type} : List (Lit × DataW H) → Nat
  | [] => 0
  | x :: r => uptoBulkEntry x + uptoBulkEntries r
def uptoBulkEntry {H : Type} : Lit × DataW H → Nat
  | (.string bytes, d) => bytes.length + uptoBulk d + 1
  | (_, d) => uptoBulk d + 1
 end
def uptoSmall : (H : Type) → List (DataW H) → Bool := fun _ ds => decide (uptoBulkAll ds ≤ 1048576)
def OpenSpec.upto (s : _root_.Go.ChangeSpec) : _root_.Go.OpenSpec := { _root_.Go.OpenSpec.ofChange s with cond := some uptoSmall }

/-- 'laws.FnExactAreUnits', WHERE WHAT IT READS IS OF BULK AT MOST 1048576: true; the input reads as it did. -/
def fnExactAreUnitsUptoRow : OpenClaim := { program := "ytfnhpchgiknmpaa", sum := "24bc9ce79fb8611f6c946b684686adc1330103e2a251fc65a3a44ba96cd3734b", func := "loop.example/g01382/laws.FnExactAreUnits", spec := "fnExactAreUnits", unfollowed := true, recurses := true, apart := false, narrowed := true }
def FnExactAreUnitsUptoSaid : Prop := fnExactAreUnitsUptoRow.holds Try.pinned (OpenSpec.upto fnExactAreUnitsSpec)

/-- 'laws.FnExactSameUnits', WHERE WHAT IT READS IS OF BULK AT MOST 1048576: true; the input reads as it did. -/
def fnExactSameUnitsUptoRow : OpenClaim := { program := "ytfnhpchgiknmpaa", sum := "24bc9ce79fb8611f6c946b684686adc1330103e2a251fc65a3a44ba96cd3734b", func := "loop.example/g01382/laws.FnExactSameUnits", spec := "fnExactSameUnits", inPlace := ["math.Float32bits", "math.Float64bits"], unfollowed := true, recurses := true, apart := false, narrowed := true }
def FnExactSameUnitsUptoSaid : Prop := fnExactSameUnitsUptoRow.holds Try.pinned (OpenSpec.upto fnExactSameUnitsSpec)

/-- 'laws.FnExactBalanceOf', WHERE WHAT IT READS IS OF BULK AT MOST 1048576: true; the input reads as it did. -/
def fnExactBalanceOfUptoRow : OpenClaim := { program := "ytfnhpchgiknmpaa", sum := "24bc9ce79fb8611f6c946b684686adc1330103e2a251fc65a3a44ba96cd3734b", func := "loop.example/g01382/laws.FnExactBalanceOf", spec := "fnExactBalanceOf", unfollowed := true, recurses := true, apart := false, narrowed := true }
def FnExactBalanceOfUptoSaid : Prop := fnExactBalanceOfUptoRow.holds Try.pinned (OpenSpec.upto fnExactBalanceOfSpec)

/-- 'laws.FnExactShareUp', WHERE WHAT IT READS IS OF BULK AT MOST 1048576: true; the input reads as it did. -/
def fnExactShareUpUptoRow : OpenClaim := { program := "ytfnhpchgiknmpaa", sum := "24bc9ce79fb8611f6c946b684686adc1330103e2a251fc65a3a44ba96cd3734b", func := "loop.example/g01382/laws.FnExactShareUp", spec := "fnExactShareUp", unfollowed := true, recurses := true, apart := false, narrowed := true }
def FnExactShareUpUptoSaid : Prop := fnExactShareUpUptoRow.holds Try.pinned (OpenSpec.upto fnExactShareUpSpec)

/-- 'laws.FnExactStressFit', WHERE WHAT IT READS IS OF BULK AT MOST 1048576: true; the input reads as it did. -/
def fnExactStressFitUptoRow : OpenClaim := { program := "ytfnhpchgiknmpaa", sum := "24bc9ce79fb8611f6c946b684686adc1330103e2a251fc65a3a44ba96cd3734b", func := "loop.example/g01382/laws.FnExactStressFit", spec := "fnExactStressFit", inPlace := ["math.Float64frombits", "math.Float64bits"], unfollowed := true, recurses := true, apart := false, narrowed := true }
def FnExactStressFitUptoSaid : Prop := fnExactStressFitUptoRow.holds Try.pinned (OpenSpec.upto fnExactStressFitSpec)

end Rows
end Go.Proofs.Ytfnhpchgiknmpaa
