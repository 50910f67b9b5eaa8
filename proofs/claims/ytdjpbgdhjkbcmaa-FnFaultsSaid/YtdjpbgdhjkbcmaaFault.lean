/- Contracts on faults. -/
import Derived.Test.YtdjpbgdhjkbcmaaRows
import Derived.Test.YtdjpbgdhjkbcmaaLib
import Derived.Test.YtdjpbgdhjkbcmaaInt
namespace Go.Proofs.Ytdjpbgdhjkbcmaa
open Go.RowKit

def foundM (s f b : Int) : Value := if inB s 1 100000 && inB f 0 100000 && inB b 1 s then .tuple #[.int .i64 (s * f / gcdI (s * f) b), .int .i64 (b / gcdI (s * f) b), .bool true] else .tuple #[.int .i64 0, .int .i64 0, .bool false]

theorem foundM_no {s f b : Int} (h : (inB s 1 100000 && inB f 0 100000 && inB b 1 s) = false) : foundM s f b = .tuple #[.int .i64 0, .int .i64 0, .bool false] := by simp only [foundM, h]; rfl
theorem foundM_yes {s f b : Int} (h : (inB s 1 100000 && inB f 0 100000 && inB b 1 s) = true) : foundM s f b = .tuple #[.int .i64 (s * f / gcdI (s * f) b), .int .i64 (b / gcdI (s * f) b), .bool true] := by simp only [foundM, h]; rfl

theorem found_bd {s f : Int} (h1 : inB s 1 100000 = true) (h2 : inB f 0 100000 = true) : 0 ≤ s * f ∧ s * f ≤ 9223372036854775807 := by
  obtain ⟨a, b⟩ := inB_true h1
  obtain ⟨c, d⟩ := inB_true h2
  refine ⟨Int.mul_nonneg (by omega) c, ?_⟩
  have : s * f ≤ 100000 * 100000 := Int.mul_le_mul b d c (by omega)
  omega

set_option maxHeartbeats 400000 in
theorem implFound_any (s f b : Int) (w : World) :
    Calls Try.prog 19 #[.int .i64 s, .int .i64 f, .int .i64 b] w fun e w' => e = .returned (foundM s f b) ∧ Below w.heap.size w w' := by
  cases h1 : inB s 1 100000
  · rw [foundM_no (by simp [h1])]
    go_enter Try.func19, Try.ntmps19
    go_wp2_with (go_at_call 39; refine (within_any _ _ _ _).mono ?_; rintro e w' ⟨rfl, hb⟩; have hB : Below w.heap.size w w' := below_trans (by (repeat (first | (with_reducible assumption) | (with_reducible apply below_refl) | (with_reducible apply below_alloc1) | (with_reducible apply below_drewN1) | (with_reducible apply below_drew1)))) hb; have hC := (bcell hB).1; clear hb)
    go_ret3
    exact ⟨rfl, by assumption⟩
  · cases h2 : inB f 0 100000
    · rw [foundM_no (by simp [h1, h2])]
      go_enter Try.func19, Try.ntmps19
      go_wp2_with (go_at_call 39; refine (within_any _ _ _ _).mono ?_; rintro e w' ⟨rfl, hb⟩; have hB : Below w.heap.size w w' := below_trans (by (repeat (first | (with_reducible assumption) | (with_reducible apply below_refl) | (with_reducible apply below_alloc1) | (with_reducible apply below_drewN1) | (with_reducible apply below_drew1)))) hb; have hC := (bcell hB).1; clear hb)
      go_ret3
      exact ⟨rfl, by assumption⟩
    · cases h3 : inB b 1 s
      · rw [foundM_no (by simp [h1, h2, h3])]
        go_enter Try.func19, Try.ntmps19
        go_wp2_with (go_at_call 39; refine (within_any _ _ _ _).mono ?_; rintro e w' ⟨rfl, hb⟩; have hB : Below w.heap.size w w' := below_trans (by (repeat (first | (with_reducible assumption) | (with_reducible apply below_refl) | (with_reducible apply below_alloc1) | (with_reducible apply below_drewN1) | (with_reducible apply below_drew1)))) hb; have hC := (bcell hB).1; clear hb)
        go_ret3
        exact ⟨rfl, by assumption⟩
      · rw [foundM_yes (by simp [h1, h2, h3])]
        obtain ⟨p1, p2⟩ := found_bd h1 h2
        obtain ⟨q1, q2⟩ := inB_true h3
        obtain ⟨q3, q4⟩ := inB_true h1
        have g1 := gcdI_pos (s * f) b (by omega)
        have g2 := gcdI_le (s * f) b (by omega)
        have g3 : (gcdI (s * f) b == 0) = false := by simp; omega
        obtain ⟨d1, d2⟩ := div_bd (s * f) (gcdI (s * f) b) p1 p2 g1
        obtain ⟨d3, d4⟩ := div_bd b (gcdI (s * f) b) (by omega) (by omega) g1
        go_enter Try.func19, Try.ntmps19
        go_wp2_with (first
          | (go_at_call 39; refine (within_any _ _ _ _).mono ?_; rintro e w' ⟨rfl, hb⟩; have hB : Below w.heap.size w w' := below_trans (by (repeat (first | (with_reducible assumption) | (with_reducible apply below_refl) | (with_reducible apply below_alloc1) | (with_reducible apply below_drewN1) | (with_reducible apply below_drew1)))) hb; have hC := (bcell hB).1; clear hb)
          | (go_at_call 42; refine (common_i _ _ ⟨p1, p2⟩ ⟨by omega, by omega⟩ _).mono ?_; rintro e w' ⟨rfl, hb⟩; have hB : Below w.heap.size w w' := below_trans (by (repeat (first | (with_reducible assumption) | (with_reducible apply below_refl) | (with_reducible apply below_alloc1) | (with_reducible apply below_drewN1) | (with_reducible apply below_drew1)))) hb; have hC := (bcell hB).1; clear hb)
          | go_quiet (fail))
        go_ret3
        exact ⟨rfl, by (repeat (first | (with_reducible assumption) | (with_reducible apply below_refl) | (with_reducible apply below_alloc1) | (with_reducible apply below_drewN1) | (with_reducible apply below_drew1)))⟩

set_option maxHeartbeats 400000 in
theorem specFound_any (s f b : Int) (w : World) :
    Calls Try.prog 18 #[.int .i64 s, .int .i64 f, .int .i64 b] w fun e w' => e = .returned (foundM s f b) ∧ Below w.heap.size w w' := by
  cases h1 : inB s 1 100000
  · rw [foundM_no (by simp [h1])]
    go_enter Try.func18, Try.ntmps18
    go_wp2_with (go_at_call 40; refine (l00In_any _ _ _ _).mono ?_; rintro e w' ⟨rfl, hb⟩; have hB : Below w.heap.size w w' := below_trans (by (repeat (first | (with_reducible assumption) | (with_reducible apply below_refl) | (with_reducible apply below_alloc1) | (with_reducible apply below_drewN1) | (with_reducible apply below_drew1)))) hb; have hC := (bcell hB).1; clear hb)
    go_ret3
    exact ⟨rfl, by assumption⟩
  · cases h3 : inB b 1 s
    · rw [foundM_no (by simp [h1, h3])]
      go_enter Try.func18, Try.ntmps18
      go_wp2_with (go_at_call 40; refine (l00In_any _ _ _ _).mono ?_; rintro e w' ⟨rfl, hb⟩; have hB : Below w.heap.size w w' := below_trans (by (repeat (first | (with_reducible assumption) | (with_reducible apply below_refl) | (with_reducible apply below_alloc1) | (with_reducible apply below_drewN1) | (with_reducible apply below_drew1)))) hb; have hC := (bcell hB).1; clear hb)
      go_ret3
      exact ⟨rfl, by assumption⟩
    · cases h2 : inB f 0 100000
      · rw [foundM_no (by simp [h1, h2, h3])]
        go_enter Try.func18, Try.ntmps18
        go_wp2_with (go_at_call 40; refine (l00In_any _ _ _ _).mono ?_; rintro e w' ⟨rfl, hb⟩; have hB : Below w.heap.size w w' := below_trans (by (repeat (first | (with_reducible assumption) | (with_reducible apply below_refl) | (with_reducible apply below_alloc1) | (with_reducible apply below_drewN1) | (with_reducible apply below_drew1)))) hb; have hC := (bcell hB).1; clear hb)
        go_ret3
        exact ⟨rfl, by assumption⟩
      · rw [foundM_yes (by simp [h1, h2, h3])]
        obtain ⟨p1, p2⟩ := found_bd h1 h2
        obtain ⟨q1, q2⟩ := inB_true h3
        obtain ⟨q3, q4⟩ := inB_true h1
        have g1 := gcdI_pos (s * f) b (by omega)
        have g2 := gcdI_le (s * f) b (by omega)
        have g3 : (gcdI (s * f) b == 0) = false := by simp; omega
        obtain ⟨d1, d2⟩ := div_bd (s * f) (gcdI (s * f) b) p1 p2 g1
        obtain ⟨d3, d4⟩ := div_bd b (gcdI (s * f) b) (by omega) (by omega) g1
        go_enter Try.func18, Try.ntmps18
        go_wp2_with (first
          | (go_at_call 40; refine (l00In_any _ _ _ _).mono ?_; rintro e w' ⟨rfl, hb⟩; have hB : Below w.heap.size w w' := below_trans (by (repeat (first | (with_reducible assumption) | (with_reducible apply below_refl) | (with_reducible apply below_alloc1) | (with_reducible apply below_drewN1) | (with_reducible apply below_drew1)))) hb; have hC := (bcell hB).1; clear hb)
          | (go_at_call 41; refine (l05Common_i _ _ ⟨p1, p2⟩ ⟨by omega, by omega⟩ _).mono ?_; rintro e w' ⟨rfl, hb⟩; have hB : Below w.heap.size w w' := below_trans (by (repeat (first | (with_reducible assumption) | (with_reducible apply below_refl) | (with_reducible apply below_alloc1) | (with_reducible apply below_drewN1) | (with_reducible apply below_drew1)))) hb; have hC := (bcell hB).1; clear hb)
          | go_quiet (fail))
        go_ret3
        exact ⟨rfl, by (repeat (first | (with_reducible assumption) | (with_reducible apply below_refl) | (with_reducible apply below_alloc1) | (with_reducible apply below_drewN1) | (with_reducible apply below_drew1)))⟩
end Go.Proofs.Ytdjpbgdhjkbcmaa
