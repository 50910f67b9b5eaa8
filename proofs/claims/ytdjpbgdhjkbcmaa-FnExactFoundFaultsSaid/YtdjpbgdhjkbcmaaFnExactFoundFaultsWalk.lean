/- The walk of laws.FnExactFoundFaults. -/
import Derived.Test.YtdjpbgdhjkbcmaaFault
namespace Go.Proofs.Ytdjpbgdhjkbcmaa
open Go.RowKit

theorem foundM_form (s f b : Int) : ∃ x y z, foundM s f b = .tuple #[.int .i64 x, .int .i64 y, .bool z] := by
  cases h : (inB s 1 100000 && inB f 0 100000 && inB b 1 s)
  · exact ⟨_, _, _, foundM_no h⟩
  · exact ⟨_, _, _, foundM_yes h⟩

set_option maxRecDepth 100000 in
set_option maxHeartbeats 400000 in
theorem walk_FnExactFoundFaults (a b c : Int) (w : World) (_ : -9223372036854775808 ≤ a ∧ a ≤ 9223372036854775807) (_ : -9223372036854775808 ≤ b ∧ b ≤ 9223372036854775807) (_ : -9223372036854775808 ≤ c ∧ c ≤ 9223372036854775807) :
    Calls Try.prog 5 #[.int .i64 a, .int .i64 b, .int .i64 c] w fun e w' => e = .returned (.bool true) ∧ Below w.heap.size w w' := by
  obtain ⟨x, y, z, hm⟩ := foundM_form a b c
  have HM := hid hm; clear hm
  go_enter Try.func5, Try.ntmps5
  go_wp2_with (first
    | (go_at_call 18; refine (specFound_any _ _ _ _).mono ?_; rw [HM.out]; rintro e w' ⟨rfl, hb⟩)
    | (go_at_call 19; refine (implFound_any _ _ _ _).mono ?_; rw [HM.out]; rintro e w' ⟨rfl, hb⟩))
  go_ret
  exact ⟨rfl, below_trans (by assumption) (by assumption)⟩
end Go.Proofs.Ytdjpbgdhjkbcmaa
