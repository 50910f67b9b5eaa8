/- Contracts that only draw. -/
import Derived.Test.YtkaeohlakeliiaaCom
namespace Go.Proofs.Ytkaeohlakeliiaa
open Go.RowKit

set_option maxHeartbeats 400000 in
theorem specFinite_q (x : Nat) (w : World) :
    Calls Try.prog 64 #[.float .f32 x] w fun e w' => e = .returned (.bool (finite32 (ab .f32 x))) ∧ ∃ m, w' = w.drewN m := by
  go_enter Try.func64, Try.ntmps64
  go_wp2_with (refine upon_float rfl ?_; intro r n hr; go_simp)
  go_ret
  exact ⟨rfl, _, rfl⟩
set_option maxHeartbeats 400000 in
theorem l02Above_q (x : Nat) (w : World) :
    Calls Try.prog 71 #[.float .f32 x] w fun e w' => e = .returned (.bool (moreB (ab .f32 x))) ∧ ∃ m, w' = w.drewN m := by
  unfold moreB
  cases h : finite32 (ab .f32 x)
  all_goals
    go_enter Try.func71, Try.ntmps71
    go_wp2_with (go_at_call 64; refine (specFinite_q _ _).mono ?_; rintro e w' ⟨rfl, m, rfl⟩)
    go_ret
    exact ⟨rfl, _, rfl⟩
/-- A contract at a value that is known. -/
theorem quiet_at {P : Program} {f : FuncId} {args : Array Value} {w : World} {n : Nat} {r s : Bool} (e : r = s) (h : Calls P f args (w.drewN n) fun e w' => e = .returned (.bool r) ∧ ∃ m, w' = (w.drewN n).drewN m) :
    Calls P f args (w.drewN n) fun e w'' => e = .returned (.bool s) ∧ ∃ m, w'' = w.drewN m := e ▸ Calls.quiet_of h
end Go.Proofs.Ytkaeohlakeliiaa
