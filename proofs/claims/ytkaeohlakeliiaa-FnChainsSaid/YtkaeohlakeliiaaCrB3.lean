/- FnChains: crews: all cases, by the kernel (part 3). No program in sight. -/
import Derived.Test.YtkaeohlakeliiaaCrA
namespace Go.Proofs.Ytkaeohlakeliiaa
open Go.RowKit

set_option maxRecDepth 100000
theorem cr70 : crewSum 7 0 1 = true := by decide +kernel
theorem cr71 : crewSum 7 1 1 = true := by decide +kernel
theorem cr72 : crewSum 7 2 1 = true := by decide +kernel
theorem cr73 : crewSum 7 3 1 = true := by decide +kernel
end Go.Proofs.Ytkaeohlakeliiaa
