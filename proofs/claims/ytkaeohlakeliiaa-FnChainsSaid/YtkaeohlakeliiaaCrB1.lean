/- FnChains: crews: all cases, by the kernel (part 1). No program in sight. -/
import Derived.Test.YtkaeohlakeliiaaCrA
namespace Go.Proofs.Ytkaeohlakeliiaa
open Go.RowKit

set_option maxRecDepth 100000
theorem cr80 : crewSum 8 0 1 = true := by decide +kernel
theorem cr81 : crewSum 8 1 1 = true := by decide +kernel
theorem cr82 : crewSum 8 2 1 = true := by decide +kernel
theorem cr83 : crewSum 8 3 1 = true := by decide +kernel
end Go.Proofs.Ytkaeohlakeliiaa
