/- FnChains: crews: all cases, by the kernel (part 6). No program in sight. -/
import Derived.Test.YtkaeohlakeliiaaCrA
namespace Go.Proofs.Ytkaeohlakeliiaa
open Go.RowKit

set_option maxRecDepth 100000
theorem cr50 : crewSum 5 0 1 = true := by decide +kernel
theorem cr51 : crewSum 5 1 1 = true := by decide +kernel
theorem cr52 : crewSum 5 2 1 = true := by decide +kernel
theorem cr53 : crewSum 5 3 1 = true := by decide +kernel
theorem cr54 : crewSum 5 4 1 = true := by decide +kernel
theorem cr55 : crewSum 5 5 1 = true := by decide +kernel
theorem cr56 : crewSum 5 6 1 = true := by decide +kernel
theorem cr57 : crewSum 5 7 1 = true := by decide +kernel
end Go.Proofs.Ytkaeohlakeliiaa
