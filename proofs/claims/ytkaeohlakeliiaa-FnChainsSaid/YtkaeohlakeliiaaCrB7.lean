/- FnChains: crews: all cases, by the kernel (part 7). No program in sight. -/
import Derived.Test.YtkaeohlakeliiaaCrA
namespace Go.Proofs.Ytkaeohlakeliiaa
open Go.RowKit

set_option maxRecDepth 100000
theorem cr40 : crewSum 4 0 1 = true := by decide +kernel
theorem cr41 : crewSum 4 1 1 = true := by decide +kernel
theorem cr42 : crewSum 4 2 1 = true := by decide +kernel
theorem cr43 : crewSum 4 3 1 = true := by decide +kernel
theorem cr44 : crewSum 4 4 1 = true := by decide +kernel
theorem cr45 : crewSum 4 5 1 = true := by decide +kernel
theorem cr46 : crewSum 4 6 1 = true := by decide +kernel
theorem cr47 : crewSum 4 7 1 = true := by decide +kernel
theorem cr30 : crewSum 3 0 1 = true := by decide +kernel
theorem cr31 : crewSum 3 1 1 = true := by decide +kernel
theorem cr32 : crewSum 3 2 1 = true := by decide +kernel
theorem cr33 : crewSum 3 3 1 = true := by decide +kernel
theorem cr34 : crewSum 3 4 1 = true := by decide +kernel
theorem cr35 : crewSum 3 5 1 = true := by decide +kernel
theorem cr36 : crewSum 3 6 1 = true := by decide +kernel
theorem cr37 : crewSum 3 7 1 = true := by decide +kernel
theorem cr20 : crewSum 2 0 1 = true := by decide +kernel
theorem cr21 : crewSum 2 1 1 = true := by decide +kernel
theorem cr22 : crewSum 2 2 1 = true := by decide +kernel
theorem cr23 : crewSum 2 3 1 = true := by decide +kernel
theorem cr24 : crewSum 2 4 1 = true := by decide +kernel
theorem cr25 : crewSum 2 5 1 = true := by decide +kernel
theorem cr26 : crewSum 2 6 1 = true := by decide +kernel
theorem cr27 : crewSum 2 7 1 = true := by decide +kernel
theorem cr10 : crewSum 1 0 1 = true := by decide +kernel
theorem cr11 : crewSum 1 1 1 = true := by decide +kernel
theorem cr12 : crewSum 1 2 1 = true := by decide +kernel
theorem cr13 : crewSum 1 3 1 = true := by decide +kernel
theorem cr14 : crewSum 1 4 1 = true := by decide +kernel
theorem cr15 : crewSum 1 5 1 = true := by decide +kernel
theorem cr16 : crewSum 1 6 1 = true := by decide +kernel
theorem cr17 : crewSum 1 7 1 = true := by decide +kernel
end Go.Proofs.Ytkaeohlakeliiaa
