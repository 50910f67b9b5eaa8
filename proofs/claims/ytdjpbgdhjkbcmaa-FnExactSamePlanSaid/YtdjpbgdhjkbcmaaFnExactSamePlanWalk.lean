/- The walk of laws.FnExactSamePlan. -/
import Derived.Test.YtdjpbgdhjkbcmaaPlan
namespace Go.Proofs.Ytdjpbgdhjkbcmaa
open Go.RowKit

set_option maxRecDepth 100000 in
set_option maxHeartbeats 400000 in
theorem walk_FnExactSamePlan (a b c d : Int) (w : World) (_ : -9223372036854775808 ≤ a ∧ a ≤ 9223372036854775807) (_ : -9223372036854775808 ≤ b ∧ b ≤ 9223372036854775807) (_ : -9223372036854775808 ≤ c ∧ c ≤ 9223372036854775807) (_ : -9223372036854775808 ≤ d ∧ d ≤ 9223372036854775807) :
    Calls Try.prog 3 #[.agg #[.int .i64 a, .int .i64 b], .agg #[.int .i64 c, .int .i64 d]] w fun e w' => e = .returned (.bool true) ∧ Below w.heap.size w w' := by
  go_enter Try.func3, Try.ntmps3
  go_wp2_with fail
  obtain ⟨w1, hw1⟩ : ∃ w1 : World, w1 = ((w.alloc (Obj.cells #[Value.int IntKind.i64 a, Value.int IntKind.i64 b] 23)).alloc (Obj.cells #[Value.int IntKind.i64 c, Value.int IntKind.i64 d] 23)) := ⟨_, rfl⟩
  have h0 : w1.cell? ⟨w.heap.size, 0, none⟩ = some (.int .i64 a) := by subst hw1; go_simp
  have h1 : w1.cell? ⟨w.heap.size, 1, none⟩ = some (.int .i64 b) := by subst hw1; go_simp
  have h2 : w1.cell? ⟨w.heap.size + 1, 0, none⟩ = some (.int .i64 c) := by subst hw1; go_simp
  have h3 : w1.cell? ⟨w.heap.size + 1, 1, none⟩ = some (.int .i64 d) := by subst hw1; go_simp
  rw [← hw1]
  have hb1 : Below w.heap.size w w1 := by subst hw1; exact below_trans (below_alloc _ _) (below_alloc _ _)
  have s0 : w.heap.size < w1.heap.size := by subst hw1; simp; omega
  have s1 : w.heap.size + 1 < w1.heap.size := by subst hw1; simp
  clear hw1
  go_wp2_with (first
    | (go_region_held3 (fun w' => Below w1.heap.size w1 w' ∧ ∀ b o, b < w1.heap.size → w'.cell? ⟨b, o, none⟩ = w1.cell? ⟨b, o, none⟩)
        (first | exact keep_start | exact keep_drew ‹_› | exact keep_next ‹_› ‹_›)
        (first
         | (go_at_call 14; refine (toPlan_any _ _ _).mono ?_; rintro e w' ⟨rfl, hb⟩)
         | (go_at_call 13; refine (specSamePlan_any _ _ _ _ _).mono ?_; rintro e w' ⟨rfl, hb⟩)
         | (go_at_call 15; refine (implSamePlan_any _ _ _ _ _).mono ?_; rintro e w' ⟨rfl, hb⟩))))
  go_ret
  rename_i hHeld
  exact ⟨rfl, below_trans hb1 hHeld.1⟩
end Go.Proofs.Ytdjpbgdhjkbcmaa
