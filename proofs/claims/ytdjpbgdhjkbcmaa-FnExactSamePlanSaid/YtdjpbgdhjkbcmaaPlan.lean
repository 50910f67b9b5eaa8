/- Contracts on plans: toPlan, ValidPlan, SamePlan .. -/
import Derived.Test.YtdjpbgdhjkbcmaaRows
import Derived.Test.YtdjpbgdhjkbcmaaLib
namespace Go.Proofs.Ytdjpbgdhjkbcmaa
open Go.RowKit

def planV (a b : Int) : Value := .agg #[.int .i64 a, .int .i64 b]

set_option maxHeartbeats 400000 in
theorem toPlan_any (a b : Int) (w : World) :
    Calls Try.prog 14 #[.agg #[.int .i64 a, .int .i64 b]] w fun e w' => e = .returned (.agg #[.int .i64 a, .int .i64 b]) ∧ Below w.heap.size w w' := by
  go_enter Try.func14, Try.ntmps14
  go_wp2
  exact bodyPost_ret (v := .agg #[.int .i64 a, .int .i64 b]) (by simp [results, Try.results14, go_sem]) rfl ⟨rfl, below_trans (below_trans (below_alloc _ _) (below_alloc _ _)) (below_alloc _ _)⟩

set_option maxHeartbeats 400000 in
theorem specSamePlan_any (a b c d : Int) (w : World) :
    Calls Try.prog 13 #[.agg #[.int .i64 a, .int .i64 b], .agg #[.int .i64 c, .int .i64 d]] w fun e w' => e = .returned (.bool (a == c && b == d)) ∧ Below w.heap.size w w' := by
  go_enter Try.func13, Try.ntmps13
  go_wp2
  all_goals (go_ret; exact ⟨by simp_all, below_trans (below_alloc _ _) (below_alloc _ _)⟩)

set_option maxHeartbeats 400000 in
theorem implSamePlan_any (a b c d : Int) (w : World) :
    Calls Try.prog 15 #[.agg #[.int .i64 a, .int .i64 b], .agg #[.int .i64 c, .int .i64 d]] w fun e w' => e = .returned (.bool (a == c && b == d)) ∧ Below w.heap.size w w' := by
  go_enter Try.func15, Try.ntmps15
  go_wp2
  all_goals (go_ret; exact ⟨by simp_all, below_trans (below_alloc _ _) (below_alloc _ _)⟩)
end Go.Proofs.Ytdjpbgdhjkbcmaa
