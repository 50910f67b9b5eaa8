/- FnGrowth: the fit of growth as rational numbers. No program in sight. -/
import Derived.Test.YtkaeohlakeliiaaGfT
import Derived.Test.YtkaeohlakeliiaaGrow
namespace Go.Proofs.Ytkaeohlakeliiaa
open Go.RowKit

set_option maxHeartbeats 4000000 in
theorem rat_table : ∀ Q, Q < 37 → ∀ q, q < Q → 0 < q → btwB (ratX Q q) 50 37 = true := by decide +kernel
set_option maxHeartbeats 4000000 in
theorem rat_two : ∀ Q, Q < 37 → ∀ q, q < Q → 0 < q → ratX (2 * Q) (2 * q) = ratX Q q := by decide +kernel
def lgN (n : Nat) : Option Nat := lg32 (some (floatOfInt .f32 (n : Int)))
set_option maxHeartbeats 4000000 in
theorem lgN_table : ∀ n, n < 9 → 0 < n → btwB (lgN n) 0 3 = true := by decide +kernel
theorem fq_to : ∀ q, q < 60 → fop .add .f32 (some (fq q)) (some 1065353216) = some (fq (q + 4)) := by decide +kernel
theorem fq_dbl : ∀ q, q < 38 → fop .mul .f32 (some 1073741824) (some (fq q)) = some (fq (2 * q)) := by decide +kernel
end Go.Proofs.Ytkaeohlakeliiaa
