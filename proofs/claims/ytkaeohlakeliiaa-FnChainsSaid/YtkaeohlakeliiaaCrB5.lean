/- FnChains: crews: all cases, by the kernel (part 5). No program in sight. -/
import Derived.Test.YtkaeohlakeliiaaCrA
namespace Go.Proofs.Ytkaeohlakeliiaa
open Go.RowKit

set_option maxRecDepth 100000
theorem cr60 : crewSum 6 0 1 = true := by decide +kernel
theorem cr61 : crewSum 6 1 1 = true := by decide +kernel
theorem cr62 : crewSum 6 2 1 = true := by decide +kernel
theorem cr63 : crewSum 6 3 1 = true := by decide +kernel
theorem cr64 : crewSum 6 4 1 = true := by decide +kernel
theorem cr65 : crewSum 6 5 1 = true := by decide +kernel
theorem cr66 : crewSum 6 6 1 = true := by decide +kernel
theorem cr67 : crewSum 6 7 1 = true := by decide +kernel
end Go.Proofs.Ytkaeohlakeliiaa
