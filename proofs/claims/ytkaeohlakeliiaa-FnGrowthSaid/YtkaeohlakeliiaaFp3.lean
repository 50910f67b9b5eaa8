/- Contracts: FirstPassage itself. -/
import Derived.Test.YtkaeohlakeliiaaFp2
namespace Go.Proofs.Ytkaeohlakeliiaa
open Go.RowKit

theorem fp_more (i : Nat) (hi : i < 12) : ([1082130432, 1056964608, 1056964608, tB i].all fun x => moreB (ab .f32 x)) = true := by
  have h := (fp_facts i hi).2.2.2.2.2.2.2.1
  simp only [List.all_cons, List.all_nil, h, Bool.and_true, Bool.and_eq_true]
  decide
theorem fp_fin (i : Nat) (hi : i < 12) : finite32 (fpV i) = true := (fp_facts i hi).2.2.2.2.2.2.1
theorem ifFinite_yes (x : Nat) (h : finite32 (ab .f32 x) = true) (w : World) : Calls Try.prog 60 #[.float .f32 x] w fun e w' => e = .returned (.tuple #[.float .f32 x, .bool true]) ∧ Below w.heap.size w w' := by
  have h1 := ifFinite_any x w
  rw [h] at h1
  exact h1
theorem l02Number_yes (x : Nat) (h : finite32 (ab .f32 x) = true) (w : World) : Calls Try.prog 75 #[.float .f32 x] w fun e w' => e = .returned (.tuple #[.float .f32 x, .bool true]) ∧ Below w.heap.size w w' := by
  have h1 := l02Number_any x w
  rw [h] at h1
  exact h1
theorem fin_one32 : finite32 (ab .f32 1065353216) = true := by decide
set_option maxRecDepth 100000 in
set_option maxHeartbeats 2000000 in
theorem implFirst (i : Nat) (hi : i < 12) (w : World) : Calls Try.prog 17 #[.float .f32 1082130432, .float .f32 1056964608, .float .f32 1056964608, .float .f32 (tB i)] w (NumOk (fpV i, true) w) := by
  obtain ⟨-, -, -, e1, e2, e3, -, -, h10, -⟩ := fp_facts i hi
  have E1 := hid e1; have E2 := hid e2; have E3 := hid e3; have G1 := hid (fp_more i hi)
  have HI := hid hi
  have HFIN := hid (fp_fin i hi)
  clear e1 e2 e3 hi
  cases hc : (ford .f32 (fpO i) (some 1065353216) == some .gt)
  all_goals
    have HV := hid (show fpV i = if (ford .f32 (fpO i) (some 1065353216) == some .gt) = true then some kone else fpO i from rfl)
    rw [hc] at HV
    have HO := hid (show fpO i = fop .add .f32 (belX (fpZ1 i)) (fop .mul .f32 (nar (exM (wid fpE))) (belX (fpZ2 i))) from rfl)
    rw [HO.out] at hc HV
    try simp only [Bool.false_eq_true, if_false, if_true] at HV
    go_enter Try.func17, Try.ntmps17
    go_wp2_with (first
      | (go_at_call 56; refine (areMore_any _ [1082130432, 1056964608, 1056964608, tB i] _ (rowAt_alloc _ _ [.float .f32 1082130432, .float .f32 1056964608, .float .f32 1056964608, .float .f32 (tB i)] (by simp [maxLen]))).mono ?_; rw [G1.out]; rintro e w' ⟨rfl, hb⟩; have hB : Below w.heap.size w w' := below_trans (by (repeat (first | (with_reducible assumption) | (with_reducible apply below_refl) | (with_reducible apply below_alloc1) | (with_reducible apply below_drewN1) | (with_reducible apply below_drew1)))) hb; have hC := (bcell hB).1; clear hb)
      | (go_at_call 69; (refine (implRoot i HI.out _).mono ?_); rintro e w' ⟨q, rfl, hq, hb⟩; have hB := below_trans (show Below w.heap.size w _ by (repeat (first | (with_reducible assumption) | (with_reducible apply below_refl) | (with_reducible apply below_alloc1) | (with_reducible apply below_drewN1) | (with_reducible apply below_drew1)))) hb; clear hb)
      | (go_at_call 70; (fail_if_success have := hq1); (refine (implBel (Z := fpZ1 i) (by simp only [*, fpZ1, fpZ2, fpR, fpW, fpE, kfour, khalf, ktwo, kone, ab_z32, ab_khalf, ab_kfour, ab_ktwo]) E1.out _).mono ?_); rintro e w' ⟨q1, rfl, hq1, hb⟩; have hB := below_trans (show Below w.heap.size w _ by (repeat (first | (with_reducible assumption) | (with_reducible apply below_refl) | (with_reducible apply below_alloc1) | (with_reducible apply below_drewN1) | (with_reducible apply below_drew1)))) hb; clear hb)
      | (go_at_call 57; (refine (implExp_ok (a := fpE) (by simp only [*, fpZ1, fpZ2, fpR, fpW, fpE, kfour, khalf, ktwo, kone, ab_z32, ab_khalf, ab_kfour, ab_ktwo]) E3.out _).mono ?_); rintro e w' ⟨q2, rfl, hq2, hb⟩; have hB := below_trans (show Below w.heap.size w _ by (repeat (first | (with_reducible assumption) | (with_reducible apply below_refl) | (with_reducible apply below_alloc1) | (with_reducible apply below_drewN1) | (with_reducible apply below_drew1)))) hb; clear hb)
      | (go_at_call 70; (refine (implBel (Z := fpZ2 i) (by simp only [*, fpZ1, fpZ2, fpR, fpW, fpE, kfour, khalf, ktwo, kone, ab_z32, ab_khalf, ab_kfour, ab_ktwo]) E2.out _).mono ?_); rintro e w' ⟨q3, rfl, hq3, hb⟩; have hB := below_trans (show Below w.heap.size w _ by (repeat (first | (with_reducible assumption) | (with_reducible apply below_refl) | (with_reducible apply below_alloc1) | (with_reducible apply below_drewN1) | (with_reducible apply below_drew1)))) hb; clear hb)
      | (go_at_call 60; have hR : ab .f32 r = fop .add .f32 (belX (fpZ1 i)) (fop .mul .f32 (nar (exM (wid fpE))) (belX (fpZ2 i))) := (by simp only [*]); (with_reducible refine (ifFinite_yes r (by rw [hR]; have h1 := HFIN.out; rw [HV.out] at h1; exact h1) _).mono ?_); rintro e w' ⟨rfl, hb⟩; have hB := below_trans (show Below w.heap.size w _ by (repeat (first | (with_reducible assumption) | (with_reducible apply below_refl) | (with_reducible apply below_alloc1) | (with_reducible apply below_drewN1) | (with_reducible apply below_drew1)))) hb; clear hb)
      | (go_at_call 60; (with_reducible refine (ifFinite_yes 1065353216 fin_one32 _).mono ?_); rintro e w' ⟨rfl, hb⟩; have hB := below_trans (show Below w.heap.size w _ by (repeat (first | (with_reducible assumption) | (with_reducible apply below_refl) | (with_reducible apply below_alloc1) | (with_reducible apply below_drewN1) | (with_reducible apply below_drew1)))) hb; clear hb)
      | (refine upon_float rfl ?_; intro r n hr; go_simp))
  · go_ret2
    exact ⟨_, rfl, by rw [HV.out]; exact hR, by assumption⟩
  · go_ret2
    exact ⟨_, rfl, by rw [HV.out]; exact ab_one32, by assumption⟩
set_option maxRecDepth 100000 in
set_option maxHeartbeats 2000000 in
theorem specFirst (i : Nat) (hi : i < 12) (w : World) : Calls Try.prog 18 #[.float .f32 1082130432, .float .f32 1056964608, .float .f32 1056964608, .float .f32 (tB i)] w (NumOk (fpV i, true) w) := by
  obtain ⟨-, -, -, e1, e2, e3, -, -, h10, -⟩ := fp_facts i hi
  have E1 := hid e1; have E2 := hid e2; have E3 := hid e3; have G1 := hid (fp_more i hi)
  have HI := hid hi
  have HFIN := hid (fp_fin i hi)
  have MF := hid (show moreB (ab .f32 1082130432) = true by decide)
  have MH := hid (show moreB (ab .f32 1056964608) = true by decide)
  have MT := hid (show moreB (ab .f32 (tB i)) = true from (fp_facts i hi).2.2.2.2.2.2.2.1)
  clear e1 e2 e3 hi
  cases hc : (ford .f32 (fpO i) (some 1065353216) == some .gt)
  all_goals
    have HV := hid (show fpV i = if (ford .f32 (fpO i) (some 1065353216) == some .gt) = true then some kone else fpO i from rfl)
    rw [hc] at HV
    have HO := hid (show fpO i = fop .add .f32 (belX (fpZ1 i)) (fop .mul .f32 (nar (exM (wid fpE))) (belX (fpZ2 i))) from rfl)
    rw [HO.out] at hc HV
    try simp only [Bool.false_eq_true, if_false, if_true] at HV
    go_enter Try.func18, Try.ntmps18
    go_wp2_with (first
      | (go_at_call 71; (with_reducible refine (l02Above_any _ _).mono ?_); (first | rw [MF.out] | rw [MH.out] | rw [MT.out]); rintro e w' ⟨rfl, hb⟩; have hB : Below w.heap.size w w' := below_trans (by (repeat (first | (with_reducible assumption) | (with_reducible apply below_refl) | (with_reducible apply below_alloc1) | (with_reducible apply below_drewN1) | (with_reducible apply below_drew1)))) hb; have hC := (bcell hB).1; clear hb)
      | (go_at_call 72; (refine (specRoot i HI.out _).mono ?_); rintro e w' ⟨q, rfl, hq, hb⟩; have hB := below_trans (show Below w.heap.size w _ by (repeat (first | (with_reducible assumption) | (with_reducible apply below_refl) | (with_reducible apply below_alloc1) | (with_reducible apply below_drewN1) | (with_reducible apply below_drew1)))) hb; clear hb)
      | (go_at_call 73; (fail_if_success have := hq1); (refine (specBel (Z := fpZ1 i) (by simp only [*, fpZ1, fpZ2, fpR, fpW, fpE, kfour, khalf, ktwo, kone, ab_z32, ab_khalf, ab_kfour, ab_ktwo]) E1.out _).mono ?_); rintro e w' ⟨q1, rfl, hq1, hb⟩; have hB := below_trans (show Below w.heap.size w _ by (repeat (first | (with_reducible assumption) | (with_reducible apply below_refl) | (with_reducible apply below_alloc1) | (with_reducible apply below_drewN1) | (with_reducible apply below_drew1)))) hb; clear hb)
      | (go_at_call 74; (refine (specExp_ok (a := fpE) (by simp only [*, fpZ1, fpZ2, fpR, fpW, fpE, kfour, khalf, ktwo, kone, ab_z32, ab_khalf, ab_kfour, ab_ktwo]) E3.out _).mono ?_); rintro e w' ⟨q2, rfl, hq2, hb⟩; have hB := below_trans (show Below w.heap.size w _ by (repeat (first | (with_reducible assumption) | (with_reducible apply below_refl) | (with_reducible apply below_alloc1) | (with_reducible apply below_drewN1) | (with_reducible apply below_drew1)))) hb; clear hb)
      | (go_at_call 73; (refine (specBel (Z := fpZ2 i) (by simp only [*, fpZ1, fpZ2, fpR, fpW, fpE, kfour, khalf, ktwo, kone, ab_z32, ab_khalf, ab_kfour, ab_ktwo]) E2.out _).mono ?_); rintro e w' ⟨q3, rfl, hq3, hb⟩; have hB := below_trans (show Below w.heap.size w _ by (repeat (first | (with_reducible assumption) | (with_reducible apply below_refl) | (with_reducible apply below_alloc1) | (with_reducible apply below_drewN1) | (with_reducible apply below_drew1)))) hb; clear hb)
      | (go_at_call 75; have hR : ab .f32 r = fop .add .f32 (belX (fpZ1 i)) (fop .mul .f32 (nar (exM (wid fpE))) (belX (fpZ2 i))) := (by simp only [*]); (with_reducible refine (l02Number_yes r (by rw [hR]; have h1 := HFIN.out; rw [HV.out] at h1; exact h1) _).mono ?_); rintro e w' ⟨rfl, hb⟩; have hB := below_trans (show Below w.heap.size w _ by (repeat (first | (with_reducible assumption) | (with_reducible apply below_refl) | (with_reducible apply below_alloc1) | (with_reducible apply below_drewN1) | (with_reducible apply below_drew1)))) hb; clear hb)
      | (go_at_call 75; (with_reducible refine (l02Number_yes 1065353216 fin_one32 _).mono ?_); rintro e w' ⟨rfl, hb⟩; have hB := below_trans (show Below w.heap.size w _ by (repeat (first | (with_reducible assumption) | (with_reducible apply below_refl) | (with_reducible apply below_alloc1) | (with_reducible apply below_drewN1) | (with_reducible apply below_drew1)))) hb; clear hb)
      | (refine upon_float rfl ?_; intro r n hr; go_simp))
  · go_ret2
    exact ⟨_, rfl, by rw [HV.out]; exact hR, by assumption⟩
  · go_ret2
    exact ⟨_, rfl, by rw [HV.out]; exact ab_one32, by assumption⟩
end Go.Proofs.Ytkaeohlakeliiaa
