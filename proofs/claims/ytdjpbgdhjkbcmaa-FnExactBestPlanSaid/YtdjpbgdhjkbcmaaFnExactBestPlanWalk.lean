/- The walk of laws.FnExactBestPlan. -/
import Derived.Test.YtdjpbgdhjkbcmaaBest
namespace Go.Proofs.Ytdjpbgdhjkbcmaa
open Go.RowKit

set_option maxRecDepth 100000 in
set_option maxHeartbeats 400000 in
theorem eqPlan_yes (a b : Int) (w : World) :
    Calls Try.prog 30 #[.agg #[.int .i64 a, .int .i64 b], .agg #[.int .i64 a, .int .i64 b]] w fun e w' => e = .returned (.bool true) ∧ Below w.heap.size w w' := by
  go_enter Try.func30, Try.ntmps30
  go_wp2_with fail
  go_ret
  exact ⟨rfl, below_trans (below_alloc _ _) (below_alloc _ _)⟩

set_option maxRecDepth 100000 in
set_option maxHeartbeats 2000000 in
theorem walk_FnExactBestPlan (lot good bad risk chance : Int) (w : World) (_ : -9223372036854775808 ≤ lot ∧ lot ≤ 9223372036854775807) (hg : -9223372036854775808 ≤ good ∧ good ≤ 9223372036854775807) (hb0 : -9223372036854775808 ≤ bad ∧ bad ≤ 9223372036854775807) (_ : -9223372036854775808 ≤ risk ∧ risk ≤ 9223372036854775807) (_ : -9223372036854775808 ≤ chance ∧ chance ≤ 9223372036854775807) :
    Calls Try.prog 9 #[.int .i64 lot, .int .i64 good, .int .i64 bad, .int .i64 risk, .int .i64 chance] w fun e w' => e = .returned (.bool true) ∧ Below w.heap.size w w' := by
  obtain ⟨n, a, z, hm⟩ := bestM_form lot good bad risk chance
  have HM := hid hm; clear hm
  go_enter Try.func9, Try.ntmps9
  go_wp2_with fail
  refine (specBest_any _ _ _ _ _ _ hg hb0).mono ?_
  rw [HM.out]
  rintro e wp ⟨rfl, hbp⟩
  have hwp := hbp.size
  go_wp2_with fail
  obtain ⟨w1, hw1⟩ : ∃ w1 : World, w1 = wp.alloc (Obj.cells #[.int .i64 n, .int .i64 a] 25) := ⟨_, rfl⟩
  have c0 : w1.cell? ⟨wp.heap.size, 0, none⟩ = some (.int .i64 n) := by subst hw1; go_simp
  have c1 : w1.cell? ⟨wp.heap.size, 1, none⟩ = some (.int .i64 a) := by subst hw1; go_simp
  have s0 : wp.heap.size < w1.heap.size := by subst hw1; simp
  have hb1 : Below w.heap.size w w1 := by subst hw1; exact below_alloc1 hbp
  rw [← hw1]
  clear hw1
  refine (implBest_any _ _ _ _ _ _ hg hb0).mono ?_
  rw [HM.out]
  rintro e wq ⟨rfl, hbq⟩
  have hC := (bcell hbq).1
  have hwq := hbq.size
  have hlt : wp.heap.size < wq.heap.size := by omega
  go_wp2_with (first
    | (go_at_call 30; refine (eqPlan_yes _ _ _).mono ?_; rintro e w' ⟨rfl, hb⟩; have hB : Below w1.heap.size w1 w' := below_trans (by (repeat (first | (with_reducible assumption) | (with_reducible apply below_refl) | (with_reducible apply below_alloc1) | (with_reducible apply below_drewN1) | (with_reducible apply below_drew1)))) hb; have hC := (bcell hB).1; clear hb))
  go_ret
  exact ⟨rfl, below_trans hb1 (by assumption)⟩
end Go.Proofs.Ytdjpbgdhjkbcmaa
