/- FnChains: crews: all cases, by the kernel (part 4). No program in sight. -/
import Derived.Test.YtkaeohlakeliiaaCrA
namespace Go.Proofs.Ytkaeohlakeliiaa
open Go.RowKit

set_option maxRecDepth 100000
theorem cr74 : crewSum 7 4 1 = true := by decide +kernel
theorem cr75 : crewSum 7 5 1 = true := by decide +kernel
theorem cr76 : crewSum 7 6 1 = true := by decide +kernel
theorem cr77 : crewSum 7 7 1 = true := by decide +kernel
end Go.Proofs.Ytkaeohlakeliiaa
