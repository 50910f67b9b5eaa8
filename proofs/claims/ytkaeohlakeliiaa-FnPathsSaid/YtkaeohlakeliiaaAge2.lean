/- Contracts: StepAge, the program's. -/
import Derived.Test.YtkaeohlakeliiaaAge
namespace Go.Proofs.Ytkaeohlakeliiaa
open Go.RowKit

set_option maxRecDepth 100000 in
set_option maxHeartbeats 2000000 in
theorem implAge_any (v u : Value) (xs ys : List Nat) (t : Nat) (w : World) (hv : RowAt w v (xs.map (Value.float .f32))) (hu : RowAt w u (ys.map (Value.float .f32))) :
    Calls Try.prog 28 #[v, u, .float .f32 t] w (NumOk (ageM xs ys (ab .f32 t)) w) := by
  have HV := hid hv
  have HU := hid hu
  obtain ⟨ao, cap, b, off, rfl, hao, hl, hm, hc⟩ := hv
  obtain ⟨ao', cap', b', off', rfl, hao', hl', hm', hc'⟩ := hu
  simp only [List.length_map] at hl HV hl' HU hao hao' ⊢
  unfold maxLen at hm hm'
  have HC := hid hc; have HA := hid hao; have HC' := hid hc'; have HA' := hid hao'
  clear hc hao hc' hao'
  by_cases h1 : 1 ≤ xs.length
  rotate_left
  · have HM := hid (age_no (xs := xs) (ys := ys) (t := ab .f32 t) (by simp [ageOk, h1]))
    have h1' : (xs.length : Int) < 1 := by omega
    go_enter Try.func28, Try.ntmps28
    go_wp2_with fail
    go_ret2
    exact numOk_no HM.out (by (repeat (first | (with_reducible assumption) | (with_reducible apply below_refl) | (with_reducible apply below_alloc1) | (with_reducible apply below_drewN1) | (with_reducible apply below_drew1))))
  have h1' : ¬ (xs.length : Int) < 1 := by omega
  by_cases h2 : xs.length ≤ 16
  rotate_left
  · have HM := hid (age_no (xs := xs) (ys := ys) (t := ab .f32 t) (by simp [ageOk, h2]))
    have h2' : (16 : Int) < (xs.length : Int) := by omega
    go_enter Try.func28, Try.ntmps28
    go_wp2_with fail
    go_ret2
    exact numOk_no HM.out (by (repeat (first | (with_reducible assumption) | (with_reducible apply below_refl) | (with_reducible apply below_alloc1) | (with_reducible apply below_drewN1) | (with_reducible apply below_drew1))))
  have h2' : ¬ (16 : Int) < (xs.length : Int) := by omega
  by_cases h3 : ys.length = xs.length
  rotate_left
  · have HM := hid (age_no (xs := xs) (ys := ys) (t := ab .f32 t) (by simp [ageOk, h3]))
    have h3' : ((ys.length : Int) != (xs.length : Int)) = true := by simp; omega
    have h3'' : ((ys.length : Int) == (xs.length : Int)) = false := by simp; omega
    clear h3
    go_enter Try.func28, Try.ntmps28
    go_wp2_with fail
    go_ret2
    exact numOk_no HM.out (by (repeat (first | (with_reducible assumption) | (with_reducible apply below_refl) | (with_reducible apply below_alloc1) | (with_reducible apply below_drewN1) | (with_reducible apply below_drew1))))
  have HL3 := hid h3
  have h3' : ((ys.length : Int) != (xs.length : Int)) = false := by simp; omega
  have h3'' : ((ys.length : Int) == (xs.length : Int)) = true := by simp; omega
  cases g1 : (xs.all fun b => notLessB (ab .f32 b))
  · have HM := hid (age_no (xs := xs) (ys := ys) (t := ab .f32 t) (by simp only [ageOk, g1, Bool.and_false, Bool.false_and]))
    have G1 := hid g1; clear g1 h3
    go_enter Try.func28, Try.ntmps28
    go_wp2_with (first | (go_at_call 86; (with_reducible refine (areNotLess_any _ xs _ (HV.out.below (by (repeat (first | (with_reducible assumption) | (with_reducible apply below_refl) | (with_reducible apply below_alloc1) | (with_reducible apply below_drewN1) | (with_reducible apply below_drew1)))))).mono ?_); rw [G1.out]; rintro e w' ⟨rfl, hb⟩; have hB : Below w.heap.size w w' := below_trans (by (repeat (first | (with_reducible assumption) | (with_reducible apply below_refl) | (with_reducible apply below_alloc1) | (with_reducible apply below_drewN1) | (with_reducible apply below_drew1)))) hb; have hC := (bcell hB).1; clear hb))
    go_ret2
    exact numOk_no HM.out (by assumption)
  have G1 := hid g1
  cases g2 : (ys.all fun b => finB (ab .f32 b))
  · have HM := hid (age_no (xs := xs) (ys := ys) (t := ab .f32 t) (by simp only [ageOk, g2, Bool.and_false, Bool.false_and]))
    have G2 := hid g2; clear g1 g2 h3
    go_enter Try.func28, Try.ntmps28
    go_wp2_with (first | (go_at_call 86; (with_reducible refine (areNotLess_any _ xs _ (HV.out.below (by (repeat (first | (with_reducible assumption) | (with_reducible apply below_refl) | (with_reducible apply below_alloc1) | (with_reducible apply below_drewN1) | (with_reducible apply below_drew1)))))).mono ?_); rw [G1.out]; rintro e w' ⟨rfl, hb⟩; have hB : Below w.heap.size w w' := below_trans (by (repeat (first | (with_reducible assumption) | (with_reducible apply below_refl) | (with_reducible apply below_alloc1) | (with_reducible apply below_drewN1) | (with_reducible apply below_drew1)))) hb; have hC := (bcell hB).1; clear hb) | (go_at_call 58; (with_reducible refine (areFinite_any _ ys _ (HU.out.below (by (repeat (first | (with_reducible assumption) | (with_reducible apply below_refl) | (with_reducible apply below_alloc1) | (with_reducible apply below_drewN1) | (with_reducible apply below_drew1)))))).mono ?_); rw [G2.out]; rintro e w' ⟨rfl, hb⟩; have hB : Below w.heap.size w w' := below_trans (by (repeat (first | (with_reducible assumption) | (with_reducible apply below_refl) | (with_reducible apply below_alloc1) | (with_reducible apply below_drewN1) | (with_reducible apply below_drew1)))) hb; have hC := (bcell hB).1; clear hb))
    go_ret2
    exact numOk_no HM.out (by assumption)
  have G2 := hid g2
  obtain rfl := HA.out (by omega)
  obtain rfl := HA'.out (by omega)
  have hcell0 := rowc HC'.out (below_refl w) 0 (by omega)
  have hbl0 : b' < w.heap.size := World.block_lt_of_cell? w _ hcell0
  have hg0 := getD_at ys 0 (by omega)
  rw [Nat.add_zero] at hcell0
  have hlY : 0 < ys.length := by omega
  generalize ys[0]'(by omega) = y0 at hcell0 hg0
  have hC0 := (bcell (below_refl w)).1
  by_cases g3 : ford .f32 (ab .f32 y0) (some 0) = some Ordering.eq
  rotate_left
  · have HM := hid (age_no (xs := xs) (ys := ys) (t := ab .f32 t) (by simp only [ageOk, hg0, show (ford .f32 (ab .f32 y0) (some 0) == some Ordering.eq) = false by simpa using g3, Bool.and_false, Bool.false_and]))
    clear g1 g2 h3 hg0
    go_enter Try.func28, Try.ntmps28
    go_wp2_with (first | (go_at_call 86; (with_reducible refine (areNotLess_any _ xs _ (HV.out.below (by (repeat (first | (with_reducible assumption) | (with_reducible apply below_refl) | (with_reducible apply below_alloc1) | (with_reducible apply below_drewN1) | (with_reducible apply below_drew1)))))).mono ?_); rw [G1.out]; rintro e w' ⟨rfl, hb⟩; have hB : Below w.heap.size w w' := below_trans (by (repeat (first | (with_reducible assumption) | (with_reducible apply below_refl) | (with_reducible apply below_alloc1) | (with_reducible apply below_drewN1) | (with_reducible apply below_drew1)))) hb; have hC := (bcell hB).1; clear hb) | (go_at_call 58; (with_reducible refine (areFinite_any _ ys _ (HU.out.below (by (repeat (first | (with_reducible assumption) | (with_reducible apply below_refl) | (with_reducible apply below_alloc1) | (with_reducible apply below_drewN1) | (with_reducible apply below_drew1)))))).mono ?_); rw [G2.out]; rintro e w' ⟨rfl, hb⟩; have hB : Below w.heap.size w w' := below_trans (by (repeat (first | (with_reducible assumption) | (with_reducible apply below_refl) | (with_reducible apply below_alloc1) | (with_reducible apply below_drewN1) | (with_reducible apply below_drew1)))) hb; have hC := (bcell hB).1; clear hb))
    go_ret2
    exact numOk_no HM.out (by assumption)
  cases g4 : riseB ys
  · have HM := hid (age_no (xs := xs) (ys := ys) (t := ab .f32 t) (by simp only [ageOk, g4, Bool.and_false, Bool.false_and]))
    have G4 := hid g4
    clear g1 g2 h3 hg0 g4
    go_enter Try.func28, Try.ntmps28
    go_wp2_with (first | (go_at_call 86; (with_reducible refine (areNotLess_any _ xs _ (HV.out.below (by (repeat (first | (with_reducible assumption) | (with_reducible apply below_refl) | (with_reducible apply below_alloc1) | (with_reducible apply below_drewN1) | (with_reducible apply below_drew1)))))).mono ?_); rw [G1.out]; rintro e w' ⟨rfl, hb⟩; have hB : Below w.heap.size w w' := below_trans (by (repeat (first | (with_reducible assumption) | (with_reducible apply below_refl) | (with_reducible apply below_alloc1) | (with_reducible apply below_drewN1) | (with_reducible apply below_drew1)))) hb; have hC := (bcell hB).1; clear hb) | (go_at_call 58; (with_reducible refine (areFinite_any _ ys _ (HU.out.below (by (repeat (first | (with_reducible assumption) | (with_reducible apply below_refl) | (with_reducible apply below_alloc1) | (with_reducible apply below_drewN1) | (with_reducible apply below_drew1)))))).mono ?_); rw [G2.out]; rintro e w' ⟨rfl, hb⟩; have hB : Below w.heap.size w w' := below_trans (by (repeat (first | (with_reducible assumption) | (with_reducible apply below_refl) | (with_reducible apply below_alloc1) | (with_reducible apply below_drewN1) | (with_reducible apply below_drew1)))) hb; have hC := (bcell hB).1; clear hb) | (go_at_call 80; (with_reducible refine (isRising_any _ ys _ (HU.out.below (by (repeat (first | (with_reducible assumption) | (with_reducible apply below_refl) | (with_reducible apply below_alloc1) | (with_reducible apply below_drewN1) | (with_reducible apply below_drew1)))))).mono ?_); rw [G4.out]; rintro e w' ⟨rfl, hb⟩; have hB : Below w.heap.size w w' := below_trans (by (repeat (first | (with_reducible assumption) | (with_reducible apply below_refl) | (with_reducible apply below_alloc1) | (with_reducible apply below_drewN1) | (with_reducible apply below_drew1)))) hb; have hC := (bcell hB).1; clear hb))
    go_ret2
    exact numOk_no HM.out (by assumption)
  have G4 := hid g4
  cases g5 : notLessB (ab .f32 t)
  · have HM := hid (age_no (xs := xs) (ys := ys) (t := ab .f32 t) (by simp only [ageOk, g5, Bool.and_false]))
    have G5 := hid g5
    clear g1 g2 h3 hg0 g4 g5
    go_enter Try.func28, Try.ntmps28
    go_wp2_with (first | (go_at_call 86; (with_reducible refine (areNotLess_any _ xs _ (HV.out.below (by (repeat (first | (with_reducible assumption) | (with_reducible apply below_refl) | (with_reducible apply below_alloc1) | (with_reducible apply below_drewN1) | (with_reducible apply below_drew1)))))).mono ?_); rw [G1.out]; rintro e w' ⟨rfl, hb⟩; have hB : Below w.heap.size w w' := below_trans (by (repeat (first | (with_reducible assumption) | (with_reducible apply below_refl) | (with_reducible apply below_alloc1) | (with_reducible apply below_drewN1) | (with_reducible apply below_drew1)))) hb; have hC := (bcell hB).1; clear hb) | (go_at_call 58; (with_reducible refine (areFinite_any _ ys _ (HU.out.below (by (repeat (first | (with_reducible assumption) | (with_reducible apply below_refl) | (with_reducible apply below_alloc1) | (with_reducible apply below_drewN1) | (with_reducible apply below_drew1)))))).mono ?_); rw [G2.out]; rintro e w' ⟨rfl, hb⟩; have hB : Below w.heap.size w w' := below_trans (by (repeat (first | (with_reducible assumption) | (with_reducible apply below_refl) | (with_reducible apply below_alloc1) | (with_reducible apply below_drewN1) | (with_reducible apply below_drew1)))) hb; have hC := (bcell hB).1; clear hb) | (go_at_call 80; (with_reducible refine (isRising_any _ ys _ (HU.out.below (by (repeat (first | (with_reducible assumption) | (with_reducible apply below_refl) | (with_reducible apply below_alloc1) | (with_reducible apply below_drewN1) | (with_reducible apply below_drew1)))))).mono ?_); rw [G4.out]; rintro e w' ⟨rfl, hb⟩; have hB : Below w.heap.size w w' := below_trans (by (repeat (first | (with_reducible assumption) | (with_reducible apply below_refl) | (with_reducible apply below_alloc1) | (with_reducible apply below_drewN1) | (with_reducible apply below_drew1)))) hb; have hC := (bcell hB).1; clear hb) | (go_at_call 86; (with_reducible refine (areNotLess_any _ [t] _ (rowAt_alloc _ _ [.float .f32 t] (by simp [maxLen]))).mono ?_); rw [show ([t].all fun x => notLessB (ab .f32 x)) = notLessB (ab .f32 t) by simp, G5.out]; rintro e w' ⟨rfl, hb⟩; have hB : Below w.heap.size w w' := below_trans (by (repeat (first | (with_reducible assumption) | (with_reducible apply below_refl) | (with_reducible apply below_alloc1) | (with_reducible apply below_drewN1) | (with_reducible apply below_drew1)))) hb; have hC := (bcell hB).1; clear hb))
    go_ret2
    exact numOk_no HM.out (by assumption)
  have G5 := hid g5
  have HM := hid (age_yes (xs := xs) (ys := ys) (t := ab .f32 t) (by simp only [ageOk, g1, g2, hg0, g3, g4, g5, h1, h2, h3, decide_true, Bool.and_true, beq_self_eq_true]))
  clear g1 g2 h3 hg0 g4 g5
  go_enter Try.func28, Try.ntmps28
  go_wp2_with (first | (go_at_call 86; (with_reducible refine (areNotLess_any _ xs _ (HV.out.below (by (repeat (first | (with_reducible assumption) | (with_reducible apply below_refl) | (with_reducible apply below_alloc1) | (with_reducible apply below_drewN1) | (with_reducible apply below_drew1)))))).mono ?_); rw [G1.out]; rintro e w' ⟨rfl, hb⟩; have hB : Below w.heap.size w w' := below_trans (by (repeat (first | (with_reducible assumption) | (with_reducible apply below_refl) | (with_reducible apply below_alloc1) | (with_reducible apply below_drewN1) | (with_reducible apply below_drew1)))) hb; have hC := (bcell hB).1; clear hb) | (go_at_call 58; (with_reducible refine (areFinite_any _ ys _ (HU.out.below (by (repeat (first | (with_reducible assumption) | (with_reducible apply below_refl) | (with_reducible apply below_alloc1) | (with_reducible apply below_drewN1) | (with_reducible apply below_drew1)))))).mono ?_); rw [G2.out]; rintro e w' ⟨rfl, hb⟩; have hB : Below w.heap.size w w' := below_trans (by (repeat (first | (with_reducible assumption) | (with_reducible apply below_refl) | (with_reducible apply below_alloc1) | (with_reducible apply below_drewN1) | (with_reducible apply below_drew1)))) hb; have hC := (bcell hB).1; clear hb) | (go_at_call 80; (with_reducible refine (isRising_any _ ys _ (HU.out.below (by (repeat (first | (with_reducible assumption) | (with_reducible apply below_refl) | (with_reducible apply below_alloc1) | (with_reducible apply below_drewN1) | (with_reducible apply below_drew1)))))).mono ?_); rw [G4.out]; rintro e w' ⟨rfl, hb⟩; have hB : Below w.heap.size w w' := below_trans (by (repeat (first | (with_reducible assumption) | (with_reducible apply below_refl) | (with_reducible apply below_alloc1) | (with_reducible apply below_drewN1) | (with_reducible apply below_drew1)))) hb; have hC := (bcell hB).1; clear hb) | (go_at_call 86; (with_reducible refine (areNotLess_any _ [t] _ (rowAt_alloc _ _ [.float .f32 t] (by simp [maxLen]))).mono ?_); rw [show ([t].all fun x => notLessB (ab .f32 x)) = notLessB (ab .f32 t) by simp, G5.out]; rintro e w' ⟨rfl, hb⟩; have hB : Below w.heap.size w w' := below_trans (by (repeat (first | (with_reducible assumption) | (with_reducible apply below_refl) | (with_reducible apply below_alloc1) | (with_reducible apply below_drewN1) | (with_reducible apply below_drew1)))) hb; have hC := (bcell hB).1; clear hb))
  clear hC0 hcell0 hbl0
  go_loopw [8, 57] (fun x i wr => ∃ (k : Nat) (q : Nat), k ≤ xs.length ∧ i = .int .i64 k ∧ x = .float .f32 q ∧ ab .f32 q = ageAt xs ys (ageEnd ys (ab .f32 t)) k ∧ Below w.heap.size w wr) (fun _ i _ => xs.length - (intOf i).toNat)
  case atStart => exact ⟨0, 0, Nat.zero_le _, rfl, rfl, ab_z32, by (repeat (first | (with_reducible assumption) | (with_reducible apply below_refl) | (with_reducible apply below_alloc1) | (with_reducible apply below_drewN1) | (with_reducible apply below_drew1)))⟩
  case round =>
    obtain ⟨k, q, hk, rfl, rfl, hq, hw⟩ := hrel
    by_cases hlt : k < xs.length
    · have l3 := HL3.out
      have hlt2 : k < ys.length := by omega
      have hcell := rowc HC.out hw k hlt
      have hcell2 := rowc HC'.out hw k hlt2
      have hgx := getD_at xs k hlt
      have hltY : (k : Int) < (ys.length : Int) := by omega
      have hk0 : (0 : Int) ≤ (k : Int) := by omega
      have hk1 : (0 : Int) ≤ (k : Int) + 1 := by omega
      have W1 : IntKind.i64.wrap ((k : Int) + 1) = (k : Int) + 1 := by rw [IntKind.wrap_i64]; omega
      have i1 : ((k : Int) + 1).toNat = k + 1 := by omega
      by_cases hin : k + 1 < ys.length
      · have hinI : (k : Int) + 1 < (ys.length : Int) := by omega
        have hcell3 := rowc HC'.out hw (k + 1) hin
        have hL := ageLong_at (E := ageEnd ys (ab .f32 t)) hlt2 (ageEnd_in hin)
        generalize xs[k] = x at hcell hgx
        generalize ys[k] = y at hcell2 hL
        generalize ys[k + 1] = z at hcell3 hL
        cases ht : (ford .f32 (fop .sub .f32 (fmin (ab .f32 t) (ab .f32 z)) (ab .f32 y)) (some 0) == some .gt)
        · have HN := hid ((age_step_no (xs := xs) (by rw [hL, ht])).trans hq.symm)
          clear l3 hgx hL hq
          go_wp2_with (first | (refine upon_min ?_; intro r n hr; go_simp) | (refine upon_float rfl ?_; intro r n hr; go_simp) | go_quiet (fail))
          go_roundw
          case rel => exact ⟨k + 1, _, by omega, by go_num, rfl, HN.out.symm, by (repeat (first | (with_reducible assumption) | (with_reducible apply below_refl) | (with_reducible apply below_alloc1) | (with_reducible apply below_drewN1) | (with_reducible apply below_drew1)))⟩
          case measure => simp [intOf]; omega
        · have HN := hid (age_step_yes (xs := xs) (E := ageEnd ys (ab .f32 t)) (k := k) (by rw [hL, ht]))
          rw [hL, hgx, ← hq] at HN
          clear l3 hgx hL hq
          go_wp2_with (first | (refine upon_min ?_; intro r n hr; go_simp) | (refine upon_float rfl ?_; intro r n hr; go_simp) | go_quiet (fail))
          go_roundw
          case rel => exact ⟨k + 1, _, by omega, by go_num, rfl, by rw [HN.out]; simp only [*], by (repeat (first | (with_reducible assumption) | (with_reducible apply below_refl) | (with_reducible apply below_alloc1) | (with_reducible apply below_drewN1) | (with_reducible apply below_drew1)))⟩
          case measure => simp [intOf]; omega
      · have hinI : ¬ (k : Int) + 1 < (ys.length : Int) := by omega
        have hL := ageLong_at (E := ageEnd ys (ab .f32 t)) hlt2 (ageEnd_out hin)
        generalize xs[k] = x at hcell hgx
        generalize ys[k] = y at hcell2 hL
        cases ht : (ford .f32 (fop .sub .f32 (ab .f32 t) (ab .f32 y)) (some 0) == some .gt)
        · have HN := hid ((age_step_no (xs := xs) (by rw [hL, ht])).trans hq.symm)
          clear l3 hgx hL hq
          go_wp2_with (first | (refine upon_float rfl ?_; intro r n hr; go_simp) | go_quiet (fail))
          go_roundw
          case rel => exact ⟨k + 1, _, by omega, by go_num, rfl, HN.out.symm, by (repeat (first | (with_reducible assumption) | (with_reducible apply below_refl) | (with_reducible apply below_alloc1) | (with_reducible apply below_drewN1) | (with_reducible apply below_drew1)))⟩
          case measure => simp [intOf]; omega
        · have HN := hid (age_step_yes (xs := xs) (E := ageEnd ys (ab .f32 t)) (k := k) (by rw [hL, ht]))
          rw [hL, hgx, ← hq] at HN
          clear l3 hgx hL hq
          go_wp2_with (first | (refine upon_float rfl ?_; intro r n hr; go_simp) | go_quiet (fail))
          go_roundw
          case rel => exact ⟨k + 1, _, by omega, by go_num, rfl, by rw [HN.out]; simp only [*], by (repeat (first | (with_reducible assumption) | (with_reducible apply below_refl) | (with_reducible apply below_alloc1) | (with_reducible apply below_drewN1) | (with_reducible apply below_drew1)))⟩
          case measure => simp [intOf]; omega
    · obtain rfl : k = xs.length := by omega
      rw [← hq] at HM
      clear hq
      go_wp2_with (first | (go_at_call 60; refine (ifFinite_num _ _).mono ?_; rintro e w' ⟨r, rfl, hr, hb⟩))
      go_ret2
      exact ⟨_, by rw [HM.out]; rfl, by rw [HM.out]; exact hr, below_trans hw (by (repeat (first | (with_reducible assumption) | (with_reducible apply below_refl) | (with_reducible apply below_alloc1) | (with_reducible apply below_drewN1) | (with_reducible apply below_drew1))))⟩
end Go.Proofs.Ytkaeohlakeliiaa
