/- choosePivotOrdered at float32. -/
import Derived.Test.YtdldlfefbeflcaaSort9
namespace Go.Proofs.Ytdldlfefbeflcaa
open Go.RowKit

def hintOf : Sort.Hint → Int
  | .unknown => 0
  | .increasing => 1
  | .decreasing => 2
theorem below_of_own {w w' : World} (h : w.grownBy w' (some w.heap.size)) : Below w.heap.size w w' := below_box (Below.refl _ _) h (Nat.le_refl _) (Nat.le_refl _)
theorem choose_small {d : Array Nat} {a b : Nat} (h8 : b - a ≥ 8) (h50 : ¬ b - a ≥ 50) : Sort.choosePivot ltN d a b = ((Sort.median ltN d (a + (b - a) / 4 * 1) (a + (b - a) / 4 * 2) (a + (b - a) / 4 * 3) 0).1, if (Sort.median ltN d (a + (b - a) / 4 * 1) (a + (b - a) / 4 * 2) (a + (b - a) / 4 * 3) 0).2 = 0 then .increasing else if (Sort.median ltN d (a + (b - a) / 4 * 1) (a + (b - a) / 4 * 2) (a + (b - a) / 4 * 3) 0).2 = 12 then .decreasing else .unknown) := by
  unfold Sort.choosePivot
  simp only
  rw [if_pos h8, if_neg h50]
theorem choose_big {d : Array Nat} {a b : Nat} (h8 : b - a ≥ 8) (h50 : b - a ≥ 50) {i j k : Nat} (hi : a + (b - a) / 4 * 1 = i) (hj : a + (b - a) / 4 * 2 = j) (hk : a + (b - a) / 4 * 3 = k) {u v x : Nat × Nat} (hu : Sort.medianAdjacent ltN d i 0 = u) (hv : Sort.medianAdjacent ltN d j u.2 = v) (hx : Sort.medianAdjacent ltN d k v.2 = x) {r : Nat × Nat} (hr : Sort.median ltN d u.1 v.1 x.1 x.2 = r) : Sort.choosePivot ltN d a b = (r.1, if r.2 = 0 then .increasing else if r.2 = 12 then .decreasing else .unknown) := by
  unfold Sort.choosePivot
  simp only
  rw [if_pos h8, if_pos h50, hi, hj, hk, hu, hv, hx, hr]
theorem adj_vals (d : Array Nat) (a s : Nat) (h : 1 ≤ a) : (a - 1 ≤ (Sort.medianAdjacent ltN d a s).1 ∧ (Sort.medianAdjacent ltN d a s).1 ≤ a + 1) ∧ (Sort.medianAdjacent ltN d a s).2 ≤ s + 3 := by
  have := med_vals d (a - 1) a (a + 1) s
  unfold Sort.medianAdjacent
  omega
set_option maxRecDepth 100000 in
set_option maxHeartbeats 3200000 in
theorem choosePv_any (lo g cap n a b : Nat) (d : Array Nat) (hab : a + 13 ≤ b) (hb : b ≤ n) (hn : n ≤ 64) (w : World) (_ : lo ≤ w.heap.size) (h : SRow 23 w lo g cap n d) :
    Calls Try.prog 61 #[.slice (some ⟨g, 0, none⟩) n cap, .int .i64 a, .int .i64 b] w fun e w' => e = .returned (.tuple #[.int .i64 ((Sort.choosePivot ltN d a b).1 : Nat), .int .i64 (hintOf (Sort.choosePivot ltN d a b).2)]) ∧ Below w.heap.size w w' := by
  have HS := hid h
  have hg := h.lt.2
  clear h
  obtain ⟨m, hm⟩ : ∃ m, b - a = m := ⟨_, rfl⟩
  obtain ⟨q, hq⟩ : ∃ q, m / 4 = q := ⟨_, rfl⟩
  have W1 : IntKind.i64.wrap ((b : Int) - (a : Int)) = (m : Int) := by rw [IntKind.wrap_i64]; omega
  have D1 : Int.tdiv (m : Int) 4 = (q : Int) := by rw [← hq]; exact Int.ofNat_tdiv m 4
  have W2 : IntKind.i64.wrap (q : Int) = (q : Int) := by rw [IntKind.wrap_i64]; omega
  have W3 : IntKind.i64.wrap ((q : Int) * 2) = (q : Int) * 2 := by rw [IntKind.wrap_i64]; omega
  have W4 : IntKind.i64.wrap ((q : Int) * 3) = (q : Int) * 3 := by rw [IntKind.wrap_i64]; omega
  obtain ⟨i1, hi1⟩ : ∃ i1, a + q * 1 = i1 := ⟨_, rfl⟩
  obtain ⟨i2, hi2⟩ : ∃ i2, a + q * 2 = i2 := ⟨_, rfl⟩
  obtain ⟨i3, hi3⟩ : ∃ i3, a + q * 3 = i3 := ⟨_, rfl⟩
  have W5 : IntKind.i64.wrap ((a : Int) + (q : Int)) = (i1 : Int) := by rw [IntKind.wrap_i64]; omega
  have W6 : IntKind.i64.wrap ((a : Int) + (q : Int) * 2) = (i2 : Int) := by rw [IntKind.wrap_i64]; omega
  have W7 : IntKind.i64.wrap ((a : Int) + (q : Int) * 3) = (i3 : Int) := by rw [IntKind.wrap_i64]; omega
  have h8 : (8 : Int) ≤ (m : Int) := by omega
  have HB0 := hid (box_alloc w (.int .i64 0) 3)
  by_cases h50 : m ≥ 50
  · have h50i : (50 : Int) ≤ (m : Int) := by omega
    have HA := fun i s => adj_any lo g cap n i s w.heap.size d
    obtain ⟨u, hu⟩ : ∃ u, Sort.medianAdjacent ltN d i1 0 = u := ⟨_, rfl⟩
    obtain ⟨v, hv⟩ : ∃ v, Sort.medianAdjacent ltN d i2 u.2 = v := ⟨_, rfl⟩
    obtain ⟨x, hx⟩ : ∃ x, Sort.medianAdjacent ltN d i3 v.2 = x := ⟨_, rfl⟩
    obtain ⟨r, hr⟩ : ∃ r, Sort.median ltN d u.1 v.1 x.1 x.2 = r := ⟨_, rfl⟩
    have va := adj_vals d i1 0 (by omega)
    have vb := adj_vals d i2 u.2 (by omega)
    have vc := adj_vals d i3 v.2 (by omega)
    obtain ⟨-, g1⟩ := med_vals d u.1 v.1 x.1 x.2
    rw [hu] at va
    rw [hv] at vb
    rw [hx] at vc
    rw [hr] at g1
    have HC := hid (choose_big (a := a) (b := b) (by omega) (by omega) (by rw [hm, hq]; exact hi1) (by rw [hm, hq]; exact hi2) (by rw [hm, hq]; exact hi3) hu hv hx hr)
    have HA1 := hid (HA i1 0 (by omega) (by omega) hn (by omega))
    have HA2 := hid (HA i2 u.2 (by omega) (by omega) hn (by omega))
    have HA3 := hid (HA i3 v.2 (by omega) (by omega) hn (by omega))
    have HM := hid (med_any lo g cap n u.1 v.1 x.1 x.2 w.heap.size d (by omega) (by omega) (by omega) hn (by omega))
    rw [hu] at HA1
    rw [hv] at HA2
    rw [hx] at HA3
    rw [hr] at HM
    clear hu hv hx hr HA hm hq hi1 hi2 hi3
    obtain ⟨u1, u2⟩ := u
    obtain ⟨v1, v2⟩ := v
    obtain ⟨x1, x2⟩ := x
    obtain ⟨r1, r2⟩ := r
    simp only at HC HA1 HA2 HA3 HM va vb vc g1
    obtain ⟨-, g2⟩ := va
    obtain ⟨-, g3⟩ := vb
    obtain ⟨-, g4⟩ := vc
    have g5 : r2 ≤ 12 := by omega
    clear g1 g2 g3 g4
    by_cases hz : r2 = 0
    · rw [if_pos hz] at HC
      have z0 : (r2 : Int) = 0 := by omega
      clear hz
      go_enter Try.func61, Try.ntmps61
      go_wp2_with (first
        | (go_at_call 74; (fail_if_success have := T1); refine (HA1.out _ (HS.out.below (by (repeat (first | (with_reducible assumption) | (with_reducible apply below_refl) | (with_reducible apply below_alloc1) | (with_reducible apply below_drewN1) | (with_reducible apply below_drew1))))) (HB0.out.below (by (repeat (first | (with_reducible assumption) | (with_reducible apply below_refl) | (with_reducible apply below_alloc1) | (with_reducible apply below_drewN1) | (with_reducible apply below_drew1))))) (by omega)).mono ?_; rintro e w2 ⟨rfl, hx2, hg2⟩; have T1 := hid (grown_trans (grown_of_below (show Below w.heap.size w _ by (repeat (first | (with_reducible assumption) | (with_reducible apply below_refl) | (with_reducible apply below_alloc1) | (with_reducible apply below_drewN1) | (with_reducible apply below_drew1)))) (some w.heap.size)) hg2); have X1 := hid hx2; have S1 := hid (HS.out.grown T1.out (by omega)); clear hx2 hg2)
        | (go_at_call 74; (fail_if_success have := T2); refine (HA2.out _ (S1.out.below (by (repeat (first | (with_reducible assumption) | (with_reducible apply below_refl) | (with_reducible apply below_alloc1) | (with_reducible apply below_drewN1) | (with_reducible apply below_drew1))))) (X1.out.below (by (repeat (first | (with_reducible assumption) | (with_reducible apply below_refl) | (with_reducible apply below_alloc1) | (with_reducible apply below_drewN1) | (with_reducible apply below_drew1))))) (by omega)).mono ?_; rintro e w3 ⟨rfl, hx2, hg2⟩; have T2 := hid (grown_trans (grown_trans T1.out (grown_of_below (show Below w2.heap.size w2 _ by (repeat (first | (with_reducible assumption) | (with_reducible apply below_refl) | (with_reducible apply below_alloc1) | (with_reducible apply below_drewN1) | (with_reducible apply below_drew1)))) (some w.heap.size))) hg2); have X2 := hid hx2; have S2 := hid (HS.out.grown T2.out (by omega)); clear hx2 hg2)
        | (go_at_call 74; refine (HA3.out _ (S2.out.below (by (repeat (first | (with_reducible assumption) | (with_reducible apply below_refl) | (with_reducible apply below_alloc1) | (with_reducible apply below_drewN1) | (with_reducible apply below_drew1))))) (X2.out.below (by (repeat (first | (with_reducible assumption) | (with_reducible apply below_refl) | (with_reducible apply below_alloc1) | (with_reducible apply below_drewN1) | (with_reducible apply below_drew1))))) (by omega)).mono ?_; rintro e w4 ⟨rfl, hx2, hg2⟩; have T3 := hid (grown_trans (grown_trans T2.out (grown_of_below (show Below w3.heap.size w3 _ by (repeat (first | (with_reducible assumption) | (with_reducible apply below_refl) | (with_reducible apply below_alloc1) | (with_reducible apply below_drewN1) | (with_reducible apply below_drew1)))) (some w.heap.size))) hg2); have X3 := hid hx2; have S3 := hid (HS.out.grown T3.out (by omega)); clear hx2 hg2)
        | (go_at_call 75; refine (HM.out _ (S3.out.below (by (repeat (first | (with_reducible assumption) | (with_reducible apply below_refl) | (with_reducible apply below_alloc1) | (with_reducible apply below_drewN1) | (with_reducible apply below_drew1))))) (X3.out.below (by (repeat (first | (with_reducible assumption) | (with_reducible apply below_refl) | (with_reducible apply below_alloc1) | (with_reducible apply below_drewN1) | (with_reducible apply below_drew1))))) (by omega)).mono ?_; rintro e w5 ⟨rfl, hx2, hg2⟩; have T5 := hid (grown_trans (grown_trans T3.out (grown_of_below (show Below w4.heap.size w4 _ by (repeat (first | (with_reducible assumption) | (with_reducible apply below_refl) | (with_reducible apply below_alloc1) | (with_reducible apply below_drewN1) | (with_reducible apply below_drew1)))) (some w.heap.size))) hg2); have X5 := hid hx2; obtain ⟨x0, x1⟩ := hx2; clear hg2))
      go_ret2
      rw [HC.out]
      exact ⟨rfl, below_of_own (grown_trans T5.out (grown_of_below (show Below w5.heap.size w5 _ by (repeat (first | (with_reducible assumption) | (with_reducible apply below_refl) | (with_reducible apply below_alloc1) | (with_reducible apply below_drewN1) | (with_reducible apply below_drew1)))) (some w.heap.size)))⟩
    · rw [if_neg hz] at HC
      have z0 : ((r2 : Int) == 0) = false := by simpa using hz
      have z1 : ¬ (r2 : Int) = 0 := by omega
      by_cases ht : r2 = 12
      · rw [if_pos ht] at HC
        have t0 : (r2 : Int) = 12 := by omega
        clear hz ht z0 z1
        go_enter Try.func61, Try.ntmps61
        go_wp2_with (first
          | (go_at_call 74; (fail_if_success have := T1); refine (HA1.out _ (HS.out.below (by (repeat (first | (with_reducible assumption) | (with_reducible apply below_refl) | (with_reducible apply below_alloc1) | (with_reducible apply below_drewN1) | (with_reducible apply below_drew1))))) (HB0.out.below (by (repeat (first | (with_reducible assumption) | (with_reducible apply below_refl) | (with_reducible apply below_alloc1) | (with_reducible apply below_drewN1) | (with_reducible apply below_drew1))))) (by omega)).mono ?_; rintro e w2 ⟨rfl, hx2, hg2⟩; have T1 := hid (grown_trans (grown_of_below (show Below w.heap.size w _ by (repeat (first | (with_reducible assumption) | (with_reducible apply below_refl) | (with_reducible apply below_alloc1) | (with_reducible apply below_drewN1) | (with_reducible apply below_drew1)))) (some w.heap.size)) hg2); have X1 := hid hx2; have S1 := hid (HS.out.grown T1.out (by omega)); clear hx2 hg2)
          | (go_at_call 74; (fail_if_success have := T2); refine (HA2.out _ (S1.out.below (by (repeat (first | (with_reducible assumption) | (with_reducible apply below_refl) | (with_reducible apply below_alloc1) | (with_reducible apply below_drewN1) | (with_reducible apply below_drew1))))) (X1.out.below (by (repeat (first | (with_reducible assumption) | (with_reducible apply below_refl) | (with_reducible apply below_alloc1) | (with_reducible apply below_drewN1) | (with_reducible apply below_drew1))))) (by omega)).mono ?_; rintro e w3 ⟨rfl, hx2, hg2⟩; have T2 := hid (grown_trans (grown_trans T1.out (grown_of_below (show Below w2.heap.size w2 _ by (repeat (first | (with_reducible assumption) | (with_reducible apply below_refl) | (with_reducible apply below_alloc1) | (with_reducible apply below_drewN1) | (with_reducible apply below_drew1)))) (some w.heap.size))) hg2); have X2 := hid hx2; have S2 := hid (HS.out.grown T2.out (by omega)); clear hx2 hg2)
          | (go_at_call 74; refine (HA3.out _ (S2.out.below (by (repeat (first | (with_reducible assumption) | (with_reducible apply below_refl) | (with_reducible apply below_alloc1) | (with_reducible apply below_drewN1) | (with_reducible apply below_drew1))))) (X2.out.below (by (repeat (first | (with_reducible assumption) | (with_reducible apply below_refl) | (with_reducible apply below_alloc1) | (with_reducible apply below_drewN1) | (with_reducible apply below_drew1))))) (by omega)).mono ?_; rintro e w4 ⟨rfl, hx2, hg2⟩; have T3 := hid (grown_trans (grown_trans T2.out (grown_of_below (show Below w3.heap.size w3 _ by (repeat (first | (with_reducible assumption) | (with_reducible apply below_refl) | (with_reducible apply below_alloc1) | (with_reducible apply below_drewN1) | (with_reducible apply below_drew1)))) (some w.heap.size))) hg2); have X3 := hid hx2; have S3 := hid (HS.out.grown T3.out (by omega)); clear hx2 hg2)
          | (go_at_call 75; refine (HM.out _ (S3.out.below (by (repeat (first | (with_reducible assumption) | (with_reducible apply below_refl) | (with_reducible apply below_alloc1) | (with_reducible apply below_drewN1) | (with_reducible apply below_drew1))))) (X3.out.below (by (repeat (first | (with_reducible assumption) | (with_reducible apply below_refl) | (with_reducible apply below_alloc1) | (with_reducible apply below_drewN1) | (with_reducible apply below_drew1))))) (by omega)).mono ?_; rintro e w5 ⟨rfl, hx2, hg2⟩; have T5 := hid (grown_trans (grown_trans T3.out (grown_of_below (show Below w4.heap.size w4 _ by (repeat (first | (with_reducible assumption) | (with_reducible apply below_refl) | (with_reducible apply below_alloc1) | (with_reducible apply below_drewN1) | (with_reducible apply below_drew1)))) (some w.heap.size))) hg2); have X5 := hid hx2; obtain ⟨x0, x1⟩ := hx2; clear hg2))
        go_ret2
        rw [HC.out]
        exact ⟨rfl, below_of_own (grown_trans T5.out (grown_of_below (show Below w5.heap.size w5 _ by (repeat (first | (with_reducible assumption) | (with_reducible apply below_refl) | (with_reducible apply below_alloc1) | (with_reducible apply below_drewN1) | (with_reducible apply below_drew1)))) (some w.heap.size)))⟩
      · rw [if_neg ht] at HC
        have t0 : ((r2 : Int) == 12) = false := by simp; omega
        have t1 : ¬ (r2 : Int) = 12 := by omega
        clear hz ht
        go_enter Try.func61, Try.ntmps61
        go_wp2_with (first
          | (go_at_call 74; (fail_if_success have := T1); refine (HA1.out _ (HS.out.below (by (repeat (first | (with_reducible assumption) | (with_reducible apply below_refl) | (with_reducible apply below_alloc1) | (with_reducible apply below_drewN1) | (with_reducible apply below_drew1))))) (HB0.out.below (by (repeat (first | (with_reducible assumption) | (with_reducible apply below_refl) | (with_reducible apply below_alloc1) | (with_reducible apply below_drewN1) | (with_reducible apply below_drew1))))) (by omega)).mono ?_; rintro e w2 ⟨rfl, hx2, hg2⟩; have T1 := hid (grown_trans (grown_of_below (show Below w.heap.size w _ by (repeat (first | (with_reducible assumption) | (with_reducible apply below_refl) | (with_reducible apply below_alloc1) | (with_reducible apply below_drewN1) | (with_reducible apply below_drew1)))) (some w.heap.size)) hg2); have X1 := hid hx2; have S1 := hid (HS.out.grown T1.out (by omega)); clear hx2 hg2)
          | (go_at_call 74; (fail_if_success have := T2); refine (HA2.out _ (S1.out.below (by (repeat (first | (with_reducible assumption) | (with_reducible apply below_refl) | (with_reducible apply below_alloc1) | (with_reducible apply below_drewN1) | (with_reducible apply below_drew1))))) (X1.out.below (by (repeat (first | (with_reducible assumption) | (with_reducible apply below_refl) | (with_reducible apply below_alloc1) | (with_reducible apply below_drewN1) | (with_reducible apply below_drew1))))) (by omega)).mono ?_; rintro e w3 ⟨rfl, hx2, hg2⟩; have T2 := hid (grown_trans (grown_trans T1.out (grown_of_below (show Below w2.heap.size w2 _ by (repeat (first | (with_reducible assumption) | (with_reducible apply below_refl) | (with_reducible apply below_alloc1) | (with_reducible apply below_drewN1) | (with_reducible apply below_drew1)))) (some w.heap.size))) hg2); have X2 := hid hx2; have S2 := hid (HS.out.grown T2.out (by omega)); clear hx2 hg2)
          | (go_at_call 74; refine (HA3.out _ (S2.out.below (by (repeat (first | (with_reducible assumption) | (with_reducible apply below_refl) | (with_reducible apply below_alloc1) | (with_reducible apply below_drewN1) | (with_reducible apply below_drew1))))) (X2.out.below (by (repeat (first | (with_reducible assumption) | (with_reducible apply below_refl) | (with_reducible apply below_alloc1) | (with_reducible apply below_drewN1) | (with_reducible apply below_drew1))))) (by omega)).mono ?_; rintro e w4 ⟨rfl, hx2, hg2⟩; have T3 := hid (grown_trans (grown_trans T2.out (grown_of_below (show Below w3.heap.size w3 _ by (repeat (first | (with_reducible assumption) | (with_reducible apply below_refl) | (with_reducible apply below_alloc1) | (with_reducible apply below_drewN1) | (with_reducible apply below_drew1)))) (some w.heap.size))) hg2); have X3 := hid hx2; have S3 := hid (HS.out.grown T3.out (by omega)); clear hx2 hg2)
          | (go_at_call 75; refine (HM.out _ (S3.out.below (by (repeat (first | (with_reducible assumption) | (with_reducible apply below_refl) | (with_reducible apply below_alloc1) | (with_reducible apply below_drewN1) | (with_reducible apply below_drew1))))) (X3.out.below (by (repeat (first | (with_reducible assumption) | (with_reducible apply below_refl) | (with_reducible apply below_alloc1) | (with_reducible apply below_drewN1) | (with_reducible apply below_drew1))))) (by omega)).mono ?_; rintro e w5 ⟨rfl, hx2, hg2⟩; have T5 := hid (grown_trans (grown_trans T3.out (grown_of_below (show Below w4.heap.size w4 _ by (repeat (first | (with_reducible assumption) | (with_reducible apply below_refl) | (with_reducible apply below_alloc1) | (with_reducible apply below_drewN1) | (with_reducible apply below_drew1)))) (some w.heap.size))) hg2); have X5 := hid hx2; obtain ⟨x0, x1⟩ := hx2; clear hg2))
        go_ret2
        rw [HC.out]
        exact ⟨rfl, below_of_own (grown_trans T5.out (grown_of_below (show Below w5.heap.size w5 _ by (repeat (first | (with_reducible assumption) | (with_reducible apply below_refl) | (with_reducible apply below_alloc1) | (with_reducible apply below_drewN1) | (with_reducible apply below_drew1)))) (some w.heap.size)))⟩
  · have h50i : ¬ (50 : Int) ≤ (m : Int) := by omega
    have h50j : (m : Int) < 50 := by omega
    have HM := hid (med_any lo g cap n i1 i2 i3 0 w.heap.size d (by omega) (by omega) (by omega) hn (by omega))
    obtain ⟨r, hr⟩ : ∃ r, Sort.median ltN d i1 i2 i3 0 = r := ⟨_, rfl⟩
    obtain ⟨-, g1⟩ := med_vals d i1 i2 i3 0
    rw [hr] at g1 HM
    have HC := hid (show Sort.choosePivot ltN d a b = (r.1, if r.2 = 0 then .increasing else if r.2 = 12 then .decreasing else .unknown) by rw [choose_small (by omega) (by omega), hm, hq, hi1, hi2, hi3, hr])
    clear hr hm hq hi1 hi2 hi3
    obtain ⟨r1, r2⟩ := r
    simp only at HC HM g1
    by_cases hz : r2 = 0
    · rw [if_pos hz] at HC
      have z0 : (r2 : Int) = 0 := by omega
      clear hz
      go_enter Try.func61, Try.ntmps61
      go_wp2_with (first
        | (go_at_call 75; refine (HM.out _ (HS.out.below (by (repeat (first | (with_reducible assumption) | (with_reducible apply below_refl) | (with_reducible apply below_alloc1) | (with_reducible apply below_drewN1) | (with_reducible apply below_drew1))))) (HB0.out.below (by (repeat (first | (with_reducible assumption) | (with_reducible apply below_refl) | (with_reducible apply below_alloc1) | (with_reducible apply below_drewN1) | (with_reducible apply below_drew1))))) (by omega)).mono ?_; rintro e w5 ⟨rfl, hx2, hg2⟩; have T5 := hid (grown_trans (grown_of_below (show Below w.heap.size w _ by (repeat (first | (with_reducible assumption) | (with_reducible apply below_refl) | (with_reducible apply below_alloc1) | (with_reducible apply below_drewN1) | (with_reducible apply below_drew1)))) (some w.heap.size)) hg2); have X5 := hid hx2; obtain ⟨x0, x1⟩ := hx2; clear hg2))
      go_ret2
      rw [HC.out]
      exact ⟨rfl, below_of_own (grown_trans T5.out (grown_of_below (show Below w5.heap.size w5 _ by (repeat (first | (with_reducible assumption) | (with_reducible apply below_refl) | (with_reducible apply below_alloc1) | (with_reducible apply below_drewN1) | (with_reducible apply below_drew1)))) (some w.heap.size)))⟩
    · rw [if_neg hz] at HC
      have z0 : ((r2 : Int) == 0) = false := by simpa using hz
      have z1 : ¬ (r2 : Int) = 0 := by omega
      have ht : ¬ r2 = 12 := by omega
      rw [if_neg ht] at HC
      have t0 : ((r2 : Int) == 12) = false := by simp; omega
      have t1 : ¬ (r2 : Int) = 12 := by omega
      clear hz ht
      go_enter Try.func61, Try.ntmps61
      go_wp2_with (first
        | (go_at_call 75; refine (HM.out _ (HS.out.below (by (repeat (first | (with_reducible assumption) | (with_reducible apply below_refl) | (with_reducible apply below_alloc1) | (with_reducible apply below_drewN1) | (with_reducible apply below_drew1))))) (HB0.out.below (by (repeat (first | (with_reducible assumption) | (with_reducible apply below_refl) | (with_reducible apply below_alloc1) | (with_reducible apply below_drewN1) | (with_reducible apply below_drew1))))) (by omega)).mono ?_; rintro e w5 ⟨rfl, hx2, hg2⟩; have T5 := hid (grown_trans (grown_of_below (show Below w.heap.size w _ by (repeat (first | (with_reducible assumption) | (with_reducible apply below_refl) | (with_reducible apply below_alloc1) | (with_reducible apply below_drewN1) | (with_reducible apply below_drew1)))) (some w.heap.size)) hg2); have X5 := hid hx2; obtain ⟨x0, x1⟩ := hx2; clear hg2))
      go_ret2
      rw [HC.out]
      exact ⟨rfl, below_of_own (grown_trans T5.out (grown_of_below (show Below w5.heap.size w5 _ by (repeat (first | (with_reducible assumption) | (with_reducible apply below_refl) | (with_reducible apply below_alloc1) | (with_reducible apply below_drewN1) | (with_reducible apply below_drew1)))) (some w.heap.size)))⟩
end Go.Proofs.Ytdldlfefbeflcaa
