/- The walk of laws.FnExactDoubleShare. -/
import Derived.Test.YtkonlchholfpoaaDbl
namespace Go.Proofs.Ytkonlchholfpoaa
open Go.RowKit

set_option maxRecDepth 100000 in
set_option maxHeartbeats 2000000 in
theorem walk_FnExactDoubleShare (lot bad a1 a2 b1 b2 rj : Int) (w : World) (_ : -9223372036854775808 ≤ lot ∧ lot ≤ 9223372036854775807) (_ : -9223372036854775808 ≤ bad ∧ bad ≤ 9223372036854775807) (_ : -9223372036854775808 ≤ a1 ∧ a1 ≤ 9223372036854775807) (_ : -9223372036854775808 ≤ a2 ∧ a2 ≤ 9223372036854775807) (_ : -9223372036854775808 ≤ b1 ∧ b1 ≤ 9223372036854775807) (_ : -9223372036854775808 ≤ b2 ∧ b2 ≤ 9223372036854775807) (_ : -9223372036854775808 ≤ rj ∧ rj ≤ 9223372036854775807) :
    Calls Try.prog 6 #[.int .i64 lot, .int .i64 bad, .agg #[.int .i64 a1, .int .i64 a2], .agg #[.int .i64 b1, .int .i64 b2], .int .i64 rj] w fun e w' => e = .returned (.bool true) ∧ Below w.heap.size w w' := by
  obtain ⟨x, y, z, hm⟩ := dblM_form lot bad a1 a2 b1 b2 rj
  have HM := hid hm; clear hm
  go_enter Try.func6, Try.ntmps6
  go_wp2_with fail
  obtain ⟨w1, hw1⟩ : ∃ w1 : World, w1 = ((w.alloc (Obj.cells #[.int .i64 a1, .int .i64 a2] 23)).alloc (Obj.cells #[.int .i64 b1, .int .i64 b2] 23)) := ⟨_, rfl⟩
  have c0 : w1.cell? ⟨w.heap.size, 0, none⟩ = some (.int .i64 a1) := by subst hw1; go_simp
  have c1 : w1.cell? ⟨w.heap.size, 1, none⟩ = some (.int .i64 a2) := by subst hw1; go_simp
  have c2 : w1.cell? ⟨w.heap.size + 1, 0, none⟩ = some (.int .i64 b1) := by subst hw1; go_simp
  have c3 : w1.cell? ⟨w.heap.size + 1, 1, none⟩ = some (.int .i64 b2) := by subst hw1; go_simp
  rw [← hw1]
  have hb1 : Below w.heap.size w w1 := by subst hw1; exact below_trans (below_alloc _ _) (below_alloc _ _)
  have s0 : w.heap.size < w1.heap.size := by subst hw1; simp; omega
  have s1 : w.heap.size + 1 < w1.heap.size := by subst hw1; simp
  clear hw1
  go_wp2_with (first
    | (go_region_held3 (fun w' => Below w1.heap.size w1 w' ∧ ∀ b o, b < w1.heap.size → w'.cell? ⟨b, o, none⟩ = w1.cell? ⟨b, o, none⟩) (first | exact keep_next ‹_› ‹_› | exact keep_start | exact keep_drew ‹_› | exact keep_of (by (repeat (first | (with_reducible assumption) | (with_reducible apply below_refl) | (with_reducible apply below_alloc1) | (with_reducible apply below_drewN1) | (with_reducible apply below_drew1))))) (first
        | (go_at_call 15; refine (toPlan_any _ _ _).mono ?_; rintro e w' ⟨rfl, hb⟩)
        | (go_at_call 25; refine (specDouble_any _ _ _ _ _ _ _ _).mono ?_; rw [HM.out]; rintro e w' ⟨rfl, hb⟩)
        | (go_at_call 26; refine (implDouble_any _ _ _ _ _ _ _ _).mono ?_; rw [HM.out]; rintro e w' ⟨rfl, hb⟩)); rename_i hHeld; obtain ⟨hB, hC⟩ := hHeld)
    | (go_at_call 15; refine (toPlan_any _ _ _).mono ?_; rintro e w' ⟨rfl, hb⟩; have hB : Below w1.heap.size w1 w' := below_trans (by (repeat (first | (with_reducible assumption) | (with_reducible apply below_refl) | (with_reducible apply below_alloc1) | (with_reducible apply below_drewN1) | (with_reducible apply below_drew1)))) hb; have hC := (bcell hB).1; clear hb)
    | (go_at_call 25; refine (specDouble_any _ _ _ _ _ _ _ _).mono ?_; rw [HM.out]; rintro e w' ⟨rfl, hb⟩; have hB : Below w1.heap.size w1 w' := below_trans (by (repeat (first | (with_reducible assumption) | (with_reducible apply below_refl) | (with_reducible apply below_alloc1) | (with_reducible apply below_drewN1) | (with_reducible apply below_drew1)))) hb; have hC := (bcell hB).1; clear hb)
    | (go_at_call 26; refine (implDouble_any _ _ _ _ _ _ _ _).mono ?_; rw [HM.out]; rintro e w' ⟨rfl, hb⟩; have hB : Below w1.heap.size w1 w' := below_trans (by (repeat (first | (with_reducible assumption) | (with_reducible apply below_refl) | (with_reducible apply below_alloc1) | (with_reducible apply below_drewN1) | (with_reducible apply below_drew1)))) hb; have hC := (bcell hB).1; clear hb))
  go_ret
  exact ⟨rfl, below_trans hb1 (by assumption)⟩
end Go.Proofs.Ytkonlchholfpoaa
