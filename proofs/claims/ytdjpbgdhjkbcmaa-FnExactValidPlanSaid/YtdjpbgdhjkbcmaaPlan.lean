/- Contracts on plans: toPlan, ValidPlan, SamePlan .. -/
import Derived.Test.YtdjpbgdhjkbcmaaRows
import Derived.Test.YtdjpbgdhjkbcmaaLib
import Derived.Test.YtdjpbgdhjkbcmaaInt
namespace Go.Proofs.Ytdjpbgdhjkbcmaa
open Go.RowKit

def planV (a b : Int) : Value := .agg #[.int .i64 a, .int .i64 b]

set_option maxHeartbeats 400000 in
theorem toPlan_any (a b : Int) (w : World) :
    Calls Try.prog 14 #[.agg #[.int .i64 a, .int .i64 b]] w fun e w' => e = .returned (.agg #[.int .i64 a, .int .i64 b]) ∧ Below w.heap.size w w' := by
  go_enter Try.func14, Try.ntmps14
  go_wp2
  exact bodyPost_ret (v := .agg #[.int .i64 a, .int .i64 b]) (by simp [results, Try.results14, go_sem]) rfl ⟨rfl, below_trans (below_trans (below_alloc _ _) (below_alloc _ _)) (below_alloc _ _)⟩

set_option maxHeartbeats 400000 in
theorem specSamePlan_any (a b c d : Int) (w : World) :
    Calls Try.prog 13 #[.agg #[.int .i64 a, .int .i64 b], .agg #[.int .i64 c, .int .i64 d]] w fun e w' => e = .returned (.bool (a == c && b == d)) ∧ Below w.heap.size w w' := by
  go_enter Try.func13, Try.ntmps13
  go_wp2
  all_goals (go_ret; exact ⟨by simp_all, below_trans (below_alloc _ _) (below_alloc _ _)⟩)

set_option maxHeartbeats 400000 in
theorem implSamePlan_any (a b c d : Int) (w : World) :
    Calls Try.prog 15 #[.agg #[.int .i64 a, .int .i64 b], .agg #[.int .i64 c, .int .i64 d]] w fun e w' => e = .returned (.bool (a == c && b == d)) ∧ Below w.heap.size w w' := by
  go_enter Try.func15, Try.ntmps15
  go_wp2
  all_goals (go_ret; exact ⟨by simp_all, below_trans (below_alloc _ _) (below_alloc _ _)⟩)
/-- A plan is valid. -/
def vldP (a b : Int) : Bool := inB a 1 40 && inB b 0 a

set_option maxRecDepth 100000 in
set_option maxHeartbeats 400000 in
theorem l06Is_any (b o : Nat) (x y : Int) (w : World) (h1 : w.cell? ⟨b, o, none⟩ = some (.int .i64 x)) (h2 : w.cell? ⟨b, o + 1, none⟩ = some (.int .i64 y)) :
    Calls Try.prog 38 #[.pointer (some ⟨b, o, none⟩)] w fun e w' => e = .returned (.bool (vldP x y)) ∧ Below w.heap.size w w' := by
  have hlt : b < w.heap.size := World.block_lt_of_cell? w _ h1
  cases hx : inB x 1 40
  · have hv : vldP x y = false := by simp [vldP, hx]
    rw [hv]; have HV := hid hv; clear hv
    go_enter Try.func38, Try.ntmps38
    go_wp2_with (first | go_quiet ((go_at_call 40; exact Calls.quiet_of_same (l00In_val _ _ _ _ (by first | assumption | rfl) _))))
    go_ret
    exact ⟨rfl, below_drewN _ _⟩
  · have hv : vldP x y = inB y 0 x := by simp [vldP, hx]
    rw [hv]; have HV := hid hv; clear hv
    go_enter Try.func38, Try.ntmps38
    go_wp2_with (first | go_quiet ((go_at_call 40; exact Calls.quiet_of_same (l00In_val _ _ _ _ (by first | assumption | rfl) _))))
    go_ret
    exact ⟨rfl, below_drewN _ _⟩
set_option maxRecDepth 100000 in
set_option maxHeartbeats 400000 in
theorem specValidPlan_any (x y : Int) (w : World) :
    Calls Try.prog 16 #[.agg #[.int .i64 x, .int .i64 y]] w fun e w' => e = .returned (.bool (vldP x y)) ∧ Below w.heap.size w w' := by
  go_enter Try.func16, Try.ntmps16
  go_wp2_with (go_at_call 38; refine (l06Is_any _ _ x y _ (by go_simp) (by go_simp)).mono ?_; rintro e w' ⟨rfl, hb⟩)
  go_ret
  exact ⟨rfl, below_trans (below_alloc _ _) hb⟩
set_option maxRecDepth 100000 in
set_option maxHeartbeats 400000 in
theorem implValidPlan_any (x y : Int) (w : World) :
    Calls Try.prog 17 #[.agg #[.int .i64 x, .int .i64 y]] w fun e w' => e = .returned (.bool (vldP x y)) ∧ Below w.heap.size w w' := by
  cases hx : inB x 1 40
  · have hv : vldP x y = false := by simp [vldP, hx]
    rw [hv]; have HV := hid hv; clear hv
    go_enter Try.func17, Try.ntmps17
    go_wp2_with (go_at_call 39; refine (within_any _ _ _ _).mono ?_; rintro e w' ⟨rfl, hb⟩; have hB : Below w.heap.size w w' := below_trans (by (repeat (first | (with_reducible assumption) | (with_reducible apply below_refl) | (with_reducible apply below_alloc1) | (with_reducible apply below_drewN1) | (with_reducible apply below_drew1)))) hb; have hC := (bcell hB).1; clear hb)
    go_ret
    exact ⟨rfl, by assumption⟩
  · have hv : vldP x y = inB y 0 x := by simp [vldP, hx]
    rw [hv]; have HV := hid hv; clear hv
    go_enter Try.func17, Try.ntmps17
    go_wp2_with fail
    obtain ⟨w1, hw1⟩ : ∃ w1 : World, w1 = (w.alloc (Obj.cells #[.int .i64 x, .int .i64 y] 25)) := ⟨_, rfl⟩
    have h0 : w1.cell? ⟨w.heap.size, 0, none⟩ = some (.int .i64 x) := by subst hw1; go_simp
    have h1 : w1.cell? ⟨w.heap.size, 1, none⟩ = some (.int .i64 y) := by subst hw1; go_simp
    rw [← hw1]
    have hb1 : Below w.heap.size w w1 := by subst hw1; exact below_alloc _ _
    have s0 : w.heap.size < w1.heap.size := by subst hw1; simp
    clear hw1
    go_wp2_with (go_at_call 39; refine (within_any _ _ _ _).mono ?_; rintro e w' ⟨rfl, hb⟩; have hB : Below w1.heap.size w1 w' := below_trans (by (repeat (first | (with_reducible assumption) | (with_reducible apply below_refl) | (with_reducible apply below_alloc1) | (with_reducible apply below_drewN1) | (with_reducible apply below_drew1)))) hb; have hC := (bcell hB).1; clear hb)
    go_ret
    exact ⟨rfl, below_trans hb1 (by assumption)⟩
end Go.Proofs.Ytdjpbgdhjkbcmaa