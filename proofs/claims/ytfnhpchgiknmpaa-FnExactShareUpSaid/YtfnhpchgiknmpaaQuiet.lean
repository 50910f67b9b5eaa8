/- Contracts that only draw. -/
import Derived.Test.YtfnhpchgiknmpaaCom
namespace Go.Proofs.Ytfnhpchgiknmpaa
open Go.RowKit

set_option maxHeartbeats 400000 in
theorem specFinite_q (x : Nat) (w : World) :
    Calls Try.prog 81 #[.float .f32 x] w fun e w' => e = .returned (.bool (finite32 (ab .f32 x))) ∧ ∃ m, w' = w.drewN m := by
  go_enter Try.func81, Try.ntmps81
  go_wp2_with (refine upon_float rfl ?_; intro r n hr; go_simp)
  go_ret
  exact ⟨rfl, _, rfl⟩
set_option maxHeartbeats 400000 in
theorem l02Above_q (x : Nat) (w : World) :
    Calls Try.prog 59 #[.float .f32 x] w fun e w' => e = .returned (.bool (moreB (ab .f32 x))) ∧ ∃ m, w' = w.drewN m := by
  unfold moreB
  cases h : finite32 (ab .f32 x)
  all_goals
    go_enter Try.func59, Try.ntmps59
    go_wp2_with (go_at_call 81; refine (specFinite_q _ _).mono ?_; rintro e w' ⟨rfl, m, rfl⟩)
    go_ret
    exact ⟨rfl, _, rfl⟩
set_option maxHeartbeats 400000 in
theorem l02Least_q (x : Nat) (w : World) :
    Calls Try.prog 74 #[.float .f32 x] w fun e w' => e = .returned (.bool (notLessB (ab .f32 x))) ∧ ∃ m, w' = w.drewN m := by
  unfold notLessB
  cases h : finite32 (ab .f32 x)
  all_goals
    go_enter Try.func74, Try.ntmps74
    go_wp2_with (go_at_call 81; refine (specFinite_q _ _).mono ?_; rintro e w' ⟨rfl, m, rfl⟩)
    go_ret
    exact ⟨rfl, _, rfl⟩
/-- A contract at a value that is known. -/
theorem quiet_at {P : Program} {f : FuncId} {args : Array Value} {w : World} {n : Nat} {r s : Bool} (e : r = s) (h : Calls P f args (w.drewN n) fun e w' => e = .returned (.bool r) ∧ ∃ m, w' = (w.drewN n).drewN m) :
    Calls P f args (w.drewN n) fun e w'' => e = .returned (.bool s) ∧ ∃ m, w'' = w.drewN m := e ▸ Calls.quiet_of h
end Go.Proofs.Ytfnhpchgiknmpaa
