/- FnChains: crews: all cases, by the kernel (part 2). No program in sight. -/
import Derived.Test.YtkaeohlakeliiaaCrA
namespace Go.Proofs.Ytkaeohlakeliiaa
open Go.RowKit

set_option maxRecDepth 100000
theorem cr84 : crewSum 8 4 1 = true := by decide +kernel
theorem cr85 : crewSum 8 5 1 = true := by decide +kernel
theorem cr86 : crewSum 8 6 1 = true := by decide +kernel
theorem cr87 : crewSum 8 7 1 = true := by decide +kernel
end Go.Proofs.Ytkaeohlakeliiaa
