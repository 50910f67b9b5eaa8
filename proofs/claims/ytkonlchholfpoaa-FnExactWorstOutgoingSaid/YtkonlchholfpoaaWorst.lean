/- Contracts: WorstOutgoing. -/
import Derived.Test.YtkonlchholfpoaaOut
namespace Go.Proofs.Ytkonlchholfpoaa
open Go.RowKit

theorem worst_plan {lot a b n : Int} (h : worstOk lot a b n = true) : isLotB lot a b = true ∧ vldP a b = true ∧ 1 ≤ n ∧ n ≤ 256 := by
  simp only [worstOk, Bool.and_eq_true] at h
  have h1 := h.1
  have h2 := inB_true h.2
  simp only [isLotB, Bool.and_eq_true] at h1
  exact ⟨h.1, h1.1.2, h2.1, h2.2⟩
set_option maxRecDepth 100000 in
set_option maxHeartbeats 2000000 in
theorem implWorst_any (lot a b n : Int) (w : World) :
    Calls Try.prog 28 #[.int .i64 lot, .agg #[.int .i64 a, .int .i64 b], .int .i64 n] w (Num2Ok (worstM lot a b n) w) := by
  cases h1 : isLotB lot a b
  · have HM := hid (worstM_no (lot := lot) (a := a) (b := b) (n := n) (by simp [worstOk, h1]))
    go_enter Try.func28, Try.ntmps28
    go_wp2_with fail
    obtain ⟨w1, hw1⟩ : ∃ w1 : World, w1 = (w.alloc (Obj.cells #[.int .i64 a, .int .i64 b] 27)) := ⟨_, rfl⟩
    have c0 : w1.cell? ⟨w.heap.size, 0, none⟩ = some (.int .i64 a) := by subst hw1; go_simp
    have c1 : w1.cell? ⟨w.heap.size, 1, none⟩ = some (.int .i64 b) := by subst hw1; go_simp
    rw [← hw1]
    have hb1 : Below w.heap.size w w1 := by subst hw1; exact below_alloc _ _
    have s0 : w.heap.size < w1.heap.size := by subst hw1; simp
    clear hw1
    go_wp2_with (first | (go_at_call 47; refine (isLot_any _ _ _ _).mono ?_; rw [h1]; rintro e w' ⟨rfl, hb⟩; have hB : Below w1.heap.size w1 w' := below_trans (by (repeat (first | (with_reducible assumption) | (with_reducible apply below_refl) | (with_reducible apply below_alloc1) | (with_reducible apply below_drewN1) | (with_reducible apply below_drew1)))) hb; have hC := (bcell hB).1; clear hb))
    go_ret3
    exact num2Ok_no HM.out (below_trans hb1 (by assumption))
  cases h2 : inB n 1 256
  · have HM := hid (worstM_no (lot := lot) (a := a) (b := b) (n := n) (by simp [worstOk, h2]))
    go_enter Try.func28, Try.ntmps28
    go_wp2_with fail
    obtain ⟨w1, hw1⟩ : ∃ w1 : World, w1 = (w.alloc (Obj.cells #[.int .i64 a, .int .i64 b] 27)) := ⟨_, rfl⟩
    have c0 : w1.cell? ⟨w.heap.size, 0, none⟩ = some (.int .i64 a) := by subst hw1; go_simp
    have c1 : w1.cell? ⟨w.heap.size, 1, none⟩ = some (.int .i64 b) := by subst hw1; go_simp
    rw [← hw1]
    have hb1 : Below w.heap.size w w1 := by subst hw1; exact below_alloc _ _
    have s0 : w.heap.size < w1.heap.size := by subst hw1; simp
    clear hw1
    go_wp2_with (first | (go_at_call 47; refine (isLot_any _ _ _ _).mono ?_; rw [h1]; rintro e w' ⟨rfl, hb⟩; have hB : Below w1.heap.size w1 w' := below_trans (by (repeat (first | (with_reducible assumption) | (with_reducible apply below_refl) | (with_reducible apply below_alloc1) | (with_reducible apply below_drewN1) | (with_reducible apply below_drew1)))) hb; have hC := (bcell hB).1; clear hb) | (go_at_call 52; refine (within_any _ _ _ _).mono ?_; rw [h2]; rintro e w' ⟨rfl, hb⟩; have hB : Below w1.heap.size w1 w' := below_trans (by (repeat (first | (with_reducible assumption) | (with_reducible apply below_refl) | (with_reducible apply below_alloc1) | (with_reducible apply below_drewN1) | (with_reducible apply below_drew1)))) hb; have hC := (bcell hB).1; clear hb))
    go_ret3
    exact num2Ok_no HM.out (below_trans hb1 (by assumption))
  have hok : worstOk lot a b n = true := by simp [worstOk, h1, h2]
  have HM := hid (worstM_yes hok)
  obtain ⟨_, hv, n1, n2⟩ := worst_plan hok
  have H1 := hid h1; have H2 := hid h2; have HV := hid hv
  clear h1 h2 hv hok
  go_enter Try.func28, Try.ntmps28
  go_wp2_with fail
  obtain ⟨w1, hw1⟩ : ∃ w1 : World, w1 = (w.alloc (Obj.cells #[.int .i64 a, .int .i64 b] 27)) := ⟨_, rfl⟩
  have c0 : w1.cell? ⟨w.heap.size, 0, none⟩ = some (.int .i64 a) := by subst hw1; go_simp
  have c1 : w1.cell? ⟨w.heap.size, 1, none⟩ = some (.int .i64 b) := by subst hw1; go_simp
  rw [← hw1]
  have hb1 : Below w.heap.size w w1 := by subst hw1; exact below_alloc _ _
  have s0 : w.heap.size < w1.heap.size := by subst hw1; simp
  clear hw1
  go_wp2_with (first | (go_at_call 47; refine (isLot_any _ _ _ _).mono ?_; rw [H1.out]; rintro e w' ⟨rfl, hb⟩; have hB : Below w1.heap.size w1 w' := below_trans (by (repeat (first | (with_reducible assumption) | (with_reducible apply below_refl) | (with_reducible apply below_alloc1) | (with_reducible apply below_drewN1) | (with_reducible apply below_drew1)))) hb; have hC := (bcell hB).1; clear hb) | (go_at_call 52; refine (within_any _ _ _ _).mono ?_; rw [H2.out]; rintro e w' ⟨rfl, hb⟩; have hB : Below w1.heap.size w1 w' := below_trans (by (repeat (first | (with_reducible assumption) | (with_reducible apply below_refl) | (with_reducible apply below_alloc1) | (with_reducible apply below_drewN1) | (with_reducible apply below_drew1)))) hb; have hC := (bcell hB).1; clear hb))
  go_loopw [9, 10, 26] (fun x y i wr => ∃ k r q : Nat, (k : Int) ≤ n + 1 ∧ i = .int .i64 k ∧ x = .float .f32 r ∧ y = .float .f32 q ∧ Hid (ab .f32 r = (worstAt lot a b n k).1) ∧ Hid (ab .f32 q = (worstAt lot a b n k).2) ∧ Below w1.heap.size w1 wr) (fun _ _ i _ => (n + 1).toNat - (intOf i).toNat)
  case atStart => exact ⟨0, 0, 0, by omega, rfl, rfl, rfl, hid ab_z32, hid ab_z32, by (repeat (first | (with_reducible assumption) | (with_reducible apply below_refl) | (with_reducible apply below_alloc1) | (with_reducible apply below_drewN1) | (with_reducible apply below_drew1)))⟩
  case round =>
    obtain ⟨k, r0, q0, hk, rfl, rfl, rfl, hx, hy, hw⟩ := hrel
    have hC1 := (bcell hw).1
    by_cases hlt : (k : Int) ≤ n
    · have hlt' : (k : Int) < n + 1 := by omega
      have hsh := shareK_sh n k hlt n1 n2
      have HO := hid (show ∀ r : Nat, ab .f32 r = fop .quo .f32 (ab .f32 (floatOfInt .f32 (k : Int))) (ab .f32 (floatOfInt .f32 n)) → outM lot a b (ab .f32 r) = (outX lot a b (ab .f32 r), true) from fun r hr => outM_yes (by rw [H1.out, hr, ab_ofInt, ab_ofInt, show shareB (fop .quo .f32 (some (floatOfInt .f32 (k : Int))) (some (floatOfInt .f32 n))) = true from hsh.share]; rfl))
      clear hsh
      have hX : shareK n k = fop .quo .f32 (some (floatOfInt .f32 (k : Int))) (some (floatOfInt .f32 n)) := rfl
      by_cases h0 : k = 0
      · have hs := hid (worst_yes (lot := lot) (a := a) (b := b) (n := n) (k := k) (Or.inl h0))
        subst h0
        have HX := hid hX; clear hX
        go_wp2_with (first
          | (refine upon_float rfl ?_; intro r n hr; go_simp)
          | (go_at_call 23; refine (implOut_any _ _ _ _ _).mono ?_; rw [show outM lot a b _ = _ from HO.out _ ‹_›]; rintro e w' ⟨r, rfl, hr, hb⟩; have hB : Below w1.heap.size w1 w' := below_trans (by (repeat (first | (with_reducible assumption) | (with_reducible apply below_refl) | (with_reducible apply below_alloc1) | (with_reducible apply below_drewN1) | (with_reducible apply below_drew1)))) hb; have hC := (bcell hB).1; clear hb))
        go_roundw
        case rel => exact ⟨1, _, _, by omega, by go_num, rfl, rfl, hid (by rw [hs.out, HX.out]; simp only [*, ab_ofInt]; rfl), hid (by rw [hs.out, HX.out]; simp only [*, ab_ofInt]; rfl), by (repeat (first | (with_reducible assumption) | (with_reducible apply below_refl) | (with_reducible apply below_alloc1) | (with_reducible apply below_drewN1) | (with_reducible apply below_drew1)))⟩
        case measure => simp [intOf]; omega
      · by_cases ht0 : ford .f32 (outX lot a b (shareK n k)) (ab .f32 q0) = some .gt
        · have hs := hid (worst_yes (lot := lot) (a := a) (b := b) (n := n) (k := k) (Or.inr (by rw [← hy.out]; exact ht0)))
          have ht : (ford .f32 (outX lot a b (fop .quo .f32 (some (floatOfInt .f32 (k : Int))) (some (floatOfInt .f32 n)))) (ab .f32 q0) == some .gt) = true := by rw [← hX, ht0]; rfl
          have HX := hid hX; clear hX ht0
          go_wp2_with (first
            | (refine upon_float rfl ?_; intro r n hr; go_simp)
            | (go_at_call 23; refine (implOut_any _ _ _ _ _).mono ?_; rw [show outM lot a b _ = _ from HO.out _ ‹_›]; rintro e w' ⟨r, rfl, hr, hb⟩; have hB : Below w1.heap.size w1 w' := below_trans (by (repeat (first | (with_reducible assumption) | (with_reducible apply below_refl) | (with_reducible apply below_alloc1) | (with_reducible apply below_drewN1) | (with_reducible apply below_drew1)))) hb; have hC := (bcell hB).1; clear hb))
          go_roundw
          case rel => exact ⟨k + 1, _, _, by omega, by go_num, rfl, rfl, hid (by rw [hs.out, HX.out]; simp only [*, ab_ofInt]), hid (by rw [hs.out, HX.out]; simp only [*, ab_ofInt]), by (repeat (first | (with_reducible assumption) | (with_reducible apply below_refl) | (with_reducible apply below_alloc1) | (with_reducible apply below_drewN1) | (with_reducible apply below_drew1)))⟩
          case measure => simp [intOf]; omega
        · have hs := hid (worst_no (lot := lot) (a := a) (b := b) (n := n) (k := k) (by rw [← hy.out]; rintro (h | h); exact h0 h; exact ht0 h))
          have ht : (ford .f32 (outX lot a b (fop .quo .f32 (some (floatOfInt .f32 (k : Int))) (some (floatOfInt .f32 n)))) (ab .f32 q0) == some .gt) = false := by rw [← hX]; simpa using ht0
          have HX := hid hX; clear hX ht0
          go_wp2_with (first
            | (refine upon_float rfl ?_; intro r n hr; go_simp)
            | (go_at_call 23; refine (implOut_any _ _ _ _ _).mono ?_; rw [show outM lot a b _ = _ from HO.out _ ‹_›]; rintro e w' ⟨r, rfl, hr, hb⟩; have hB : Below w1.heap.size w1 w' := below_trans (by (repeat (first | (with_reducible assumption) | (with_reducible apply below_refl) | (with_reducible apply below_alloc1) | (with_reducible apply below_drewN1) | (with_reducible apply below_drew1)))) hb; have hC := (bcell hB).1; clear hb))
          go_roundw
          case rel => exact ⟨k + 1, _, _, by omega, by go_num, rfl, rfl, hid (by rw [hs.out]; exact hx.out), hid (by rw [hs.out]; exact hy.out), by (repeat (first | (with_reducible assumption) | (with_reducible apply below_refl) | (with_reducible apply below_alloc1) | (with_reducible apply below_drewN1) | (with_reducible apply below_drew1)))⟩
          case measure => simp [intOf]; omega
    · have hlt' : ¬ (k : Int) < n + 1 := by omega
      have hk' : k = (n + 1).toNat := by omega
      have HK := hid hk'; clear hk'
      go_wp2_with fail
      go_ret3
      exact ⟨_, _, by rw [HM.out]; rfl, by rw [HM.out, ← HK.out]; exact hx.out, by rw [HM.out, ← HK.out]; exact hy.out, below_trans hb1 hw⟩
set_option maxRecDepth 100000 in
set_option maxHeartbeats 2000000 in
theorem specWorst_any (lot a b n : Int) (w : World) :
    Calls Try.prog 27 #[.int .i64 lot, .agg #[.int .i64 a, .int .i64 b], .int .i64 n] w (Num2Ok (worstM lot a b n) w) := by
  cases h1 : isLotB lot a b
  · have HM := hid (worstM_no (lot := lot) (a := a) (b := b) (n := n) (by simp [worstOk, h1]))
    go_enter Try.func27, Try.ntmps27
    go_wp2_with fail
    obtain ⟨w1, hw1⟩ : ∃ w1 : World, w1 = (w.alloc (Obj.cells #[.int .i64 a, .int .i64 b] 27)) := ⟨_, rfl⟩
    have c0 : w1.cell? ⟨w.heap.size, 0, none⟩ = some (.int .i64 a) := by subst hw1; go_simp
    have c1 : w1.cell? ⟨w.heap.size, 1, none⟩ = some (.int .i64 b) := by subst hw1; go_simp
    rw [← hw1]
    have hb1 : Below w.heap.size w w1 := by subst hw1; exact below_alloc _ _
    have s0 : w.heap.size < w1.heap.size := by subst hw1; simp
    clear hw1
    go_wp2_with (first | (go_at_call 44; refine (l06Lot_zero _ _ lot a b _ (by go_simp) (by go_simp)).mono ?_; rw [h1]; rintro e w' ⟨rfl, hb⟩; have hB : Below w1.heap.size w1 w' := below_trans (by (repeat (first | (with_reducible assumption) | (with_reducible apply below_refl) | (with_reducible apply below_alloc1) | (with_reducible apply below_drewN1) | (with_reducible apply below_drew1)))) hb; have hC := (bcell hB).1; clear hb))
    go_ret3
    exact num2Ok_no HM.out (below_trans hb1 (by assumption))
  cases h2 : inB n 1 256
  · have HM := hid (worstM_no (lot := lot) (a := a) (b := b) (n := n) (by simp [worstOk, h2]))
    go_enter Try.func27, Try.ntmps27
    go_wp2_with fail
    obtain ⟨w1, hw1⟩ : ∃ w1 : World, w1 = (w.alloc (Obj.cells #[.int .i64 a, .int .i64 b] 27)) := ⟨_, rfl⟩
    have c0 : w1.cell? ⟨w.heap.size, 0, none⟩ = some (.int .i64 a) := by subst hw1; go_simp
    have c1 : w1.cell? ⟨w.heap.size, 1, none⟩ = some (.int .i64 b) := by subst hw1; go_simp
    rw [← hw1]
    have hb1 : Below w.heap.size w w1 := by subst hw1; exact below_alloc _ _
    have s0 : w.heap.size < w1.heap.size := by subst hw1; simp
    clear hw1
    go_wp2_with (first | (go_at_call 44; refine (l06Lot_zero _ _ lot a b _ (by go_simp) (by go_simp)).mono ?_; rw [h1]; rintro e w' ⟨rfl, hb⟩; have hB : Below w1.heap.size w1 w' := below_trans (by (repeat (first | (with_reducible assumption) | (with_reducible apply below_refl) | (with_reducible apply below_alloc1) | (with_reducible apply below_drewN1) | (with_reducible apply below_drew1)))) hb; have hC := (bcell hB).1; clear hb) | (go_at_call 59; refine (l00In_any _ _ _ _).mono ?_; rw [h2]; rintro e w' ⟨rfl, hb⟩; have hB : Below w1.heap.size w1 w' := below_trans (by (repeat (first | (with_reducible assumption) | (with_reducible apply below_refl) | (with_reducible apply below_alloc1) | (with_reducible apply below_drewN1) | (with_reducible apply below_drew1)))) hb; have hC := (bcell hB).1; clear hb))
    go_ret3
    exact num2Ok_no HM.out (below_trans hb1 (by assumption))
  have hok : worstOk lot a b n = true := by simp [worstOk, h1, h2]
  have HM := hid (worstM_yes hok)
  obtain ⟨_, hv, n1, n2⟩ := worst_plan hok
  have H1 := hid h1; have H2 := hid h2; have HV := hid hv
  clear h1 h2 hv hok
  go_enter Try.func27, Try.ntmps27
  go_wp2_with fail
  obtain ⟨w1, hw1⟩ : ∃ w1 : World, w1 = (w.alloc (Obj.cells #[.int .i64 a, .int .i64 b] 27)) := ⟨_, rfl⟩
  have c0 : w1.cell? ⟨w.heap.size, 0, none⟩ = some (.int .i64 a) := by subst hw1; go_simp
  have c1 : w1.cell? ⟨w.heap.size, 1, none⟩ = some (.int .i64 b) := by subst hw1; go_simp
  rw [← hw1]
  have hb1 : Below w.heap.size w w1 := by subst hw1; exact below_alloc _ _
  have s0 : w.heap.size < w1.heap.size := by subst hw1; simp
  clear hw1
  go_wp2_with (first | (go_at_call 44; refine (l06Lot_zero _ _ lot a b _ (by go_simp) (by go_simp)).mono ?_; rw [H1.out]; rintro e w' ⟨rfl, hb⟩; have hB : Below w1.heap.size w1 w' := below_trans (by (repeat (first | (with_reducible assumption) | (with_reducible apply below_refl) | (with_reducible apply below_alloc1) | (with_reducible apply below_drewN1) | (with_reducible apply below_drew1)))) hb; have hC := (bcell hB).1; clear hb) | (go_at_call 59; refine (l00In_any _ _ _ _).mono ?_; rw [H2.out]; rintro e w' ⟨rfl, hb⟩; have hB : Below w1.heap.size w1 w' := below_trans (by (repeat (first | (with_reducible assumption) | (with_reducible apply below_refl) | (with_reducible apply below_alloc1) | (with_reducible apply below_drewN1) | (with_reducible apply below_drew1)))) hb; have hC := (bcell hB).1; clear hb))
  go_loopw [9, 10, 11] (fun x y i wr => ∃ k r q : Nat, (k : Int) ≤ n + 1 ∧ i = .int .i64 k ∧ x = .float .f32 r ∧ y = .float .f32 q ∧ Hid (ab .f32 r = (worstAt lot a b n k).1) ∧ Hid (ab .f32 q = (worstAt lot a b n k).2) ∧ Below w1.heap.size w1 wr) (fun _ _ i _ => (n + 1).toNat - (intOf i).toNat)
  case atStart => exact ⟨0, 0, 0, by omega, rfl, rfl, rfl, hid ab_z32, hid ab_z32, by (repeat (first | (with_reducible assumption) | (with_reducible apply below_refl) | (with_reducible apply below_alloc1) | (with_reducible apply below_drewN1) | (with_reducible apply below_drew1)))⟩
  case round =>
    obtain ⟨k, r0, q0, hk, rfl, rfl, rfl, hx, hy, hw⟩ := hrel
    have hC1 := (bcell hw).1
    by_cases hlt : (k : Int) ≤ n
    · have hlt' : (k : Int) < n + 1 := by omega
      have hX : shareK n k = fop .quo .f32 (some (floatOfInt .f32 (k : Int))) (some (floatOfInt .f32 n)) := rfl
      by_cases h0 : k = 0
      · have hs := hid (worst_yes (lot := lot) (a := a) (b := b) (n := n) (k := k) (Or.inl h0))
        subst h0
        have HX := hid hX; clear hX
        go_wp2_with (first
          | (refine upon_float rfl ?_; intro r n hr; go_simp)
          | (go_at_call 56; refine (l06Outgoing_any _ _ lot a b _ _ (by go_simp) (by go_simp) HV.out).mono ?_; rintro e w' ⟨r, rfl, hr, hb⟩; have hB : Below w1.heap.size w1 w' := below_trans (by (repeat (first | (with_reducible assumption) | (with_reducible apply below_refl) | (with_reducible apply below_alloc1) | (with_reducible apply below_drewN1) | (with_reducible apply below_drew1)))) hb; have hC := (bcell hB).1; clear hb))
        go_roundw
        case rel => exact ⟨1, _, _, by omega, by go_num, rfl, rfl, hid (by rw [hs.out, HX.out]; simp only [*, ab_ofInt]; rfl), hid (by rw [hs.out, HX.out]; simp only [*, ab_ofInt]; rfl), by (repeat (first | (with_reducible assumption) | (with_reducible apply below_refl) | (with_reducible apply below_alloc1) | (with_reducible apply below_drewN1) | (with_reducible apply below_drew1)))⟩
        case measure => simp [intOf]; omega
      · by_cases ht0 : ford .f32 (outX lot a b (shareK n k)) (ab .f32 q0) = some .gt
        · have hs := hid (worst_yes (lot := lot) (a := a) (b := b) (n := n) (k := k) (Or.inr (by rw [← hy.out]; exact ht0)))
          have ht : (ford .f32 (outX lot a b (fop .quo .f32 (some (floatOfInt .f32 (k : Int))) (some (floatOfInt .f32 n)))) (ab .f32 q0) == some .gt) = true := by rw [← hX, ht0]; rfl
          have HX := hid hX; clear hX ht0
          go_wp2_with (first
            | (refine upon_float rfl ?_; intro r n hr; go_simp)
            | (go_at_call 56; refine (l06Outgoing_any _ _ lot a b _ _ (by go_simp) (by go_simp) HV.out).mono ?_; rintro e w' ⟨r, rfl, hr, hb⟩; have hB : Below w1.heap.size w1 w' := below_trans (by (repeat (first | (with_reducible assumption) | (with_reducible apply below_refl) | (with_reducible apply below_alloc1) | (with_reducible apply below_drewN1) | (with_reducible apply below_drew1)))) hb; have hC := (bcell hB).1; clear hb))
          go_roundw
          case rel => exact ⟨k + 1, _, _, by omega, by go_num, rfl, rfl, hid (by rw [hs.out, HX.out]; simp only [*, ab_ofInt]), hid (by rw [hs.out, HX.out]; simp only [*, ab_ofInt]), by (repeat (first | (with_reducible assumption) | (with_reducible apply below_refl) | (with_reducible apply below_alloc1) | (with_reducible apply below_drewN1) | (with_reducible apply below_drew1)))⟩
          case measure => simp [intOf]; omega
        · have hs := hid (worst_no (lot := lot) (a := a) (b := b) (n := n) (k := k) (by rw [← hy.out]; rintro (h | h); exact h0 h; exact ht0 h))
          have ht : (ford .f32 (outX lot a b (fop .quo .f32 (some (floatOfInt .f32 (k : Int))) (some (floatOfInt .f32 n)))) (ab .f32 q0) == some .gt) = false := by rw [← hX]; simpa using ht0
          have HX := hid hX; clear hX ht0
          go_wp2_with (first
            | (refine upon_float rfl ?_; intro r n hr; go_simp)
            | (go_at_call 56; refine (l06Outgoing_any _ _ lot a b _ _ (by go_simp) (by go_simp) HV.out).mono ?_; rintro e w' ⟨r, rfl, hr, hb⟩; have hB : Below w1.heap.size w1 w' := below_trans (by (repeat (first | (with_reducible assumption) | (with_reducible apply below_refl) | (with_reducible apply below_alloc1) | (with_reducible apply below_drewN1) | (with_reducible apply below_drew1)))) hb; have hC := (bcell hB).1; clear hb))
          go_roundw
          case rel => exact ⟨k + 1, _, _, by omega, by go_num, rfl, rfl, hid (by rw [hs.out]; exact hx.out), hid (by rw [hs.out]; exact hy.out), by (repeat (first | (with_reducible assumption) | (with_reducible apply below_refl) | (with_reducible apply below_alloc1) | (with_reducible apply below_drewN1) | (with_reducible apply below_drew1)))⟩
          case measure => simp [intOf]; omega
    · have hk' : k = (n + 1).toNat := by omega
      have HK := hid hk'; clear hk'
      go_wp2_with fail
      go_ret3
      exact ⟨_, _, by rw [HM.out]; rfl, by rw [HM.out, ← HK.out]; exact hx.out, by rw [HM.out, ← HK.out]; exact hy.out, below_trans hb1 hw⟩
end Go.Proofs.Ytkonlchholfpoaa
