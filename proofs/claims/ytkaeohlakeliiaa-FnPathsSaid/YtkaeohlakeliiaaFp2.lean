/- Contracts: FirstPassage at the law's numbers, both sides. -/
import Derived.Test.YtkaeohlakeliiaaFp
import Derived.Test.YtkaeohlakeliiaaFL
namespace Go.Proofs.Ytkaeohlakeliiaa
open Go.RowKit

/-! ## Fp2 -/
@[go_sem] theorem ab_k15976 : ab .f32 1070366248 = some 1070366248 := by decide
@[go_sem] theorem ab_k0705 : ab .f32 1032881384 = some 1032881384 := by decide
@[go_sem] theorem ab_khalf : ab .f32 1056964608 = some 1056964608 := by decide
@[go_sem] theorem ab_kfour : ab .f32 1082130432 = some 1082130432 := by decide
@[go_sem] theorem ab_ktwo : ab .f32 1073741824 = some 1073741824 := by decide
theorem fp_facts (i : Nat) (hi : i < 12) : wid (some (tB i)) = some (sqIn i) ∧ Fits (some (sqOut i)) ∧ ab .f64 (sqOut i) = some (sqOut i) ∧ ExpOk (belA (fpZ1 i)) ∧ ExpOk (belA (fpZ2 i)) ∧ ExpOk fpE ∧ finite32 (fpV i) = true ∧ moreB (ab .f32 (tB i)) = true ∧ ab .f32 (tB i) = some (tB i) ∧ rootX (some (tB i)) = nar (some (sqOut i)) := by
  exact ⟨fp_c1 i hi, fits_of (fp_c3 i hi), fp_c4 i hi, exp_of (fp_c5 i hi), exp_of (fp_c6 i hi), exp_of fp_c7, fp_c8 i hi, fp_c9 i hi, fp_c10 i hi, root_of (fp_c1 i hi) (fp_c2 i hi)⟩
theorem implExp_ok {x : Nat} {a : Option Nat} (ha : ab .f32 x = a) (h : ExpOk a) (w : World) : Calls Try.prog 57 #[.float .f32 x] w (FltOk (nar (exM (wid a))) w) := by
  subst ha
  obtain ⟨⟨y, hy, y1, y2⟩, hF⟩ := h
  exact implExp_rv x hy y1 y2 hF w
theorem specExp_ok {x : Nat} {a : Option Nat} (ha : ab .f32 x = a) (h : ExpOk a) (w : World) : Calls Try.prog 74 #[.float .f32 x] w (FltOk (nar (exM (wid a))) w) := by
  subst ha
  obtain ⟨⟨y, hy, y1, y2⟩, hF⟩ := h
  exact specExp_rv x hy y1 y2 hF w
set_option maxRecDepth 100000 in
set_option maxHeartbeats 800000 in
theorem implRoot (i : Nat) (hi : i < 12) (w : World) : Calls Try.prog 69 #[.float .f32 (tB i)] w (FltOk (rootX (some (tB i))) w) := by
  obtain ⟨h1, h2, h3, -, -, -, -, -, h9, h10⟩ := fp_facts i hi
  have H1 := hid h1; have H2 := hid h2; have H3 := hid h3; have H9 := hid h9; have H10 := hid h10
  have HS := hid (sqrt_any i hi)
  obtain ⟨t, ht⟩ : ∃ t, tB i = t := ⟨_, rfl⟩
  rw [ht] at H1 H9 H10 ⊢
  generalize sqOut i = o at H2 H3 H10 HS
  generalize sqIn i = q at H1 HS
  clear h1 h2 h3 h9 h10 ht
  go_enter Try.func69, Try.ntmps69
  go_wp2_with (first
    | (refine upon_widen rfl Try.underlying34 ?_; intro r n hr; go_simp; obtain rfl : q = r := (by rw [H9.out, H1.out] at hr; exact (ab_some hr).1); clear hr)
    | (go_at_call 119; (with_reducible refine (HS.out _).mono ?_); rintro e w' ⟨rfl, hb⟩; have hB := below_trans (show Below w.heap.size w _ by (repeat (first | (with_reducible assumption) | (with_reducible apply below_refl) | (with_reducible apply below_alloc1) | (with_reducible apply below_drewN1) | (with_reducible apply below_drew1)))) hb; clear hb)
    | (refine upon_narrow rfl Try.underlying27 (by rw [H3.out]; exact H2.out) ?_; intro r n hr; go_simp))
  go_ret
  exact ⟨_, rfl, by rw [hr, H3.out, H10.out], by (repeat (first | (with_reducible assumption) | (with_reducible apply below_refl) | (with_reducible apply below_alloc1) | (with_reducible apply below_drewN1) | (with_reducible apply below_drew1)))⟩
set_option maxRecDepth 100000 in
set_option maxHeartbeats 800000 in
theorem specRoot (i : Nat) (hi : i < 12) (w : World) : Calls Try.prog 72 #[.float .f32 (tB i)] w (FltOk (rootX (some (tB i))) w) := by
  obtain ⟨h1, h2, h3, -, -, -, -, -, h9, h10⟩ := fp_facts i hi
  have H1 := hid h1; have H2 := hid h2; have H3 := hid h3; have H9 := hid h9; have H10 := hid h10
  have HS := hid (sqrt_any i hi)
  obtain ⟨t, ht⟩ : ∃ t, tB i = t := ⟨_, rfl⟩
  rw [ht] at H1 H9 H10 ⊢
  generalize sqOut i = o at H2 H3 H10 HS
  generalize sqIn i = q at H1 HS
  clear h1 h2 h3 h9 h10 ht
  go_enter Try.func72, Try.ntmps72
  go_wp2_with (first
    | (refine upon_widen rfl Try.underlying34 ?_; intro r n hr; go_simp; obtain rfl : q = r := (by rw [H9.out, H1.out] at hr; exact (ab_some hr).1); clear hr)
    | (go_at_call 119; (with_reducible refine (HS.out _).mono ?_); rintro e w' ⟨rfl, hb⟩; have hB := below_trans (show Below w.heap.size w _ by (repeat (first | (with_reducible assumption) | (with_reducible apply below_refl) | (with_reducible apply below_alloc1) | (with_reducible apply below_drewN1) | (with_reducible apply below_drew1)))) hb; clear hb)
    | (go_at_call 120; (refine (narrowE_any _ (by rw [H3.out]; exact H2.out) _).mono ?_); rintro e w' ⟨r, rfl, hr, hb⟩; have hB2 := below_trans (show Below w.heap.size w _ by (repeat (first | (with_reducible assumption) | (with_reducible apply below_refl) | (with_reducible apply below_alloc1) | (with_reducible apply below_drewN1) | (with_reducible apply below_drew1)))) hb; clear hb))
  go_ret
  exact ⟨_, rfl, by rw [hr, H3.out, H10.out], by (repeat (first | (with_reducible assumption) | (with_reducible apply below_refl) | (with_reducible apply below_alloc1) | (with_reducible apply below_drewN1) | (with_reducible apply below_drew1)))⟩
set_option maxRecDepth 100000 in
set_option maxHeartbeats 800000 in
theorem implBel {z : Nat} {Z : Option Nat} (hz : ab .f32 z = Z) (h : ExpOk (belA Z)) (w : World) : Calls Try.prog 70 #[.float .f32 z] w (FltOk (belX Z) w) := by
  subst hz
  have HE := hid h; clear h
  go_enter Try.func70, Try.ntmps70
  go_wp2_with (first
    | (go_at_call 57; (refine (implExp_ok (a := belA (ab .f32 z)) (by simp only [*, belA, belZ, c15976, c0705, ab_z32, ab_k15976, ab_k0705]) HE.out _).mono ?_); rintro e w' ⟨q, rfl, hq, hb⟩; have hB := below_trans (show Below w.heap.size w _ by (repeat (first | (with_reducible assumption) | (with_reducible apply below_refl) | (with_reducible apply below_alloc1) | (with_reducible apply below_drewN1) | (with_reducible apply below_drew1)))) hb; clear hb)
    | (refine upon_float rfl ?_; intro r n hr; go_simp))
  go_ret
  exact ⟨_, rfl, by simp only [*, belX, ab_one32], by (repeat (first | (with_reducible assumption) | (with_reducible apply below_refl) | (with_reducible apply below_alloc1) | (with_reducible apply below_drewN1) | (with_reducible apply below_drew1)))⟩
set_option maxRecDepth 100000 in
set_option maxHeartbeats 800000 in
theorem specBel {z : Nat} {Z : Option Nat} (hz : ab .f32 z = Z) (h : ExpOk (belA Z)) (w : World) : Calls Try.prog 73 #[.float .f32 z] w (FltOk (belX Z) w) := by
  subst hz
  have HE := hid h; clear h
  go_enter Try.func73, Try.ntmps73
  go_wp2_with (first
    | (go_at_call 74; (refine (specExp_ok (a := belA (ab .f32 z)) (by simp only [*, belA, belZ, c15976, c0705, ab_z32, ab_k15976, ab_k0705]) HE.out _).mono ?_); rintro e w' ⟨q, rfl, hq, hb⟩; have hB := below_trans (show Below w.heap.size w _ by (repeat (first | (with_reducible assumption) | (with_reducible apply below_refl) | (with_reducible apply below_alloc1) | (with_reducible apply below_drewN1) | (with_reducible apply below_drew1)))) hb; clear hb)
    | (refine upon_float rfl ?_; intro r n hr; go_simp))
  go_ret
  exact ⟨_, rfl, by simp only [*, belX, ab_one32], by (repeat (first | (with_reducible assumption) | (with_reducible apply below_refl) | (with_reducible apply below_alloc1) | (with_reducible apply below_drewN1) | (with_reducible apply below_drew1)))⟩

/-! ## Fp3 -/
theorem fp_more (i : Nat) (hi : i < 12) : ([1082130432, 1056964608, 1056964608, tB i].all fun x => moreB (ab .f32 x)) = true := by
  have h := (fp_facts i hi).2.2.2.2.2.2.2.1
  simp only [List.all_cons, List.all_nil, h, Bool.and_true, Bool.and_eq_true]
  decide
theorem fp_fin (i : Nat) (hi : i < 12) : finite32 (fpV i) = true := (fp_facts i hi).2.2.2.2.2.2.1
theorem ifFinite_yes (x : Nat) (h : finite32 (ab .f32 x) = true) (w : World) : Calls Try.prog 60 #[.float .f32 x] w fun e w' => e = .returned (.tuple #[.float .f32 x, .bool true]) ∧ Below w.heap.size w w' := by
  have h1 := ifFinite_any x w
  rw [h] at h1
  exact h1
theorem l02Number_yes (x : Nat) (h : finite32 (ab .f32 x) = true) (w : World) : Calls Try.prog 75 #[.float .f32 x] w fun e w' => e = .returned (.tuple #[.float .f32 x, .bool true]) ∧ Below w.heap.size w w' := by
  have h1 := l02Number_any x w
  rw [h] at h1
  exact h1
theorem fin_one32 : finite32 (ab .f32 1065353216) = true := by decide
set_option maxRecDepth 100000 in
set_option maxHeartbeats 2000000 in
theorem implFirst (i : Nat) (hi : i < 12) (w : World) : Calls Try.prog 17 #[.float .f32 1082130432, .float .f32 1056964608, .float .f32 1056964608, .float .f32 (tB i)] w (NumOk (fpV i, true) w) := by
  obtain ⟨-, -, -, e1, e2, e3, -, -, h10, -⟩ := fp_facts i hi
  have E1 := hid e1; have E2 := hid e2; have E3 := hid e3; have G1 := hid (fp_more i hi)
  have HI := hid hi
  have HFIN := hid (fp_fin i hi)
  clear e1 e2 e3 hi
  cases hc : (ford .f32 (fpO i) (some 1065353216) == some .gt)
  all_goals
    have HV := hid (show fpV i = if (ford .f32 (fpO i) (some 1065353216) == some .gt) = true then some kone else fpO i from rfl)
    rw [hc] at HV
    have HO := hid (show fpO i = fop .add .f32 (belX (fpZ1 i)) (fop .mul .f32 (nar (exM (wid fpE))) (belX (fpZ2 i))) from rfl)
    rw [HO.out] at hc HV
    try simp only [Bool.false_eq_true, if_false, if_true] at HV
    go_enter Try.func17, Try.ntmps17
    go_wp2_with (first
      | (go_at_call 56; refine (areMore_any _ [1082130432, 1056964608, 1056964608, tB i] _ (rowAt_alloc _ _ [.float .f32 1082130432, .float .f32 1056964608, .float .f32 1056964608, .float .f32 (tB i)] (by simp [maxLen]))).mono ?_; rw [G1.out]; rintro e w' ⟨rfl, hb⟩; have hB : Below w.heap.size w w' := below_trans (by (repeat (first | (with_reducible assumption) | (with_reducible apply below_refl) | (with_reducible apply below_alloc1) | (with_reducible apply below_drewN1) | (with_reducible apply below_drew1)))) hb; have hC := (bcell hB).1; clear hb)
      | (go_at_call 69; (refine (implRoot i HI.out _).mono ?_); rintro e w' ⟨q, rfl, hq, hb⟩; have hB := below_trans (show Below w.heap.size w _ by (repeat (first | (with_reducible assumption) | (with_reducible apply below_refl) | (with_reducible apply below_alloc1) | (with_reducible apply below_drewN1) | (with_reducible apply below_drew1)))) hb; clear hb)
      | (go_at_call 70; (fail_if_success have := hq1); (refine (implBel (Z := fpZ1 i) (by simp only [*, fpZ1, fpZ2, fpR, fpW, fpE, kfour, khalf, ktwo, kone, ab_z32, ab_khalf, ab_kfour, ab_ktwo]) E1.out _).mono ?_); rintro e w' ⟨q1, rfl, hq1, hb⟩; have hB := below_trans (show Below w.heap.size w _ by (repeat (first | (with_reducible assumption) | (with_reducible apply below_refl) | (with_reducible apply below_alloc1) | (with_reducible apply below_drewN1) | (with_reducible apply below_drew1)))) hb; clear hb)
      | (go_at_call 57; (refine (implExp_ok (a := fpE) (by simp only [*, fpZ1, fpZ2, fpR, fpW, fpE, kfour, khalf, ktwo, kone, ab_z32, ab_khalf, ab_kfour, ab_ktwo]) E3.out _).mono ?_); rintro e w' ⟨q2, rfl, hq2, hb⟩; have hB := below_trans (show Below w.heap.size w _ by (repeat (first | (with_reducible assumption) | (with_reducible apply below_refl) | (with_reducible apply below_alloc1) | (with_reducible apply below_drewN1) | (with_reducible apply below_drew1)))) hb; clear hb)
      | (go_at_call 70; (refine (implBel (Z := fpZ2 i) (by simp only [*, fpZ1, fpZ2, fpR, fpW, fpE, kfour, khalf, ktwo, kone, ab_z32, ab_khalf, ab_kfour, ab_ktwo]) E2.out _).mono ?_); rintro e w' ⟨q3, rfl, hq3, hb⟩; have hB := below_trans (show Below w.heap.size w _ by (repeat (first | (with_reducible assumption) | (with_reducible apply below_refl) | (with_reducible apply below_alloc1) | (with_reducible apply below_drewN1) | (with_reducible apply below_drew1)))) hb; clear hb)
      | (go_at_call 60; have hR : ab .f32 r = fop .add .f32 (belX (fpZ1 i)) (fop .mul .f32 (nar (exM (wid fpE))) (belX (fpZ2 i))) := (by simp only [*]); (with_reducible refine (ifFinite_yes r (by rw [hR]; have h1 := HFIN.out; rw [HV.out] at h1; exact h1) _).mono ?_); rintro e w' ⟨rfl, hb⟩; have hB := below_trans (show Below w.heap.size w _ by (repeat (first | (with_reducible assumption) | (with_reducible apply below_refl) | (with_reducible apply below_alloc1) | (with_reducible apply below_drewN1) | (with_reducible apply below_drew1)))) hb; clear hb)
      | (go_at_call 60; (with_reducible refine (ifFinite_yes 1065353216 fin_one32 _).mono ?_); rintro e w' ⟨rfl, hb⟩; have hB := below_trans (show Below w.heap.size w _ by (repeat (first | (with_reducible assumption) | (with_reducible apply below_refl) | (with_reducible apply below_alloc1) | (with_reducible apply below_drewN1) | (with_reducible apply below_drew1)))) hb; clear hb)
      | (refine upon_float rfl ?_; intro r n hr; go_simp))
  · go_ret2
    exact ⟨_, rfl, by rw [HV.out]; exact hR, by assumption⟩
  · go_ret2
    exact ⟨_, rfl, by rw [HV.out]; exact ab_one32, by assumption⟩
set_option maxRecDepth 100000 in
set_option maxHeartbeats 2000000 in
theorem specFirst (i : Nat) (hi : i < 12) (w : World) : Calls Try.prog 18 #[.float .f32 1082130432, .float .f32 1056964608, .float .f32 1056964608, .float .f32 (tB i)] w (NumOk (fpV i, true) w) := by
  obtain ⟨-, -, -, e1, e2, e3, -, -, h10, -⟩ := fp_facts i hi
  have E1 := hid e1; have E2 := hid e2; have E3 := hid e3; have G1 := hid (fp_more i hi)
  have HI := hid hi
  have HFIN := hid (fp_fin i hi)
  have MF := hid (show moreB (ab .f32 1082130432) = true by decide)
  have MH := hid (show moreB (ab .f32 1056964608) = true by decide)
  have MT := hid (show moreB (ab .f32 (tB i)) = true from (fp_facts i hi).2.2.2.2.2.2.2.1)
  clear e1 e2 e3 hi
  cases hc : (ford .f32 (fpO i) (some 1065353216) == some .gt)
  all_goals
    have HV := hid (show fpV i = if (ford .f32 (fpO i) (some 1065353216) == some .gt) = true then some kone else fpO i from rfl)
    rw [hc] at HV
    have HO := hid (show fpO i = fop .add .f32 (belX (fpZ1 i)) (fop .mul .f32 (nar (exM (wid fpE))) (belX (fpZ2 i))) from rfl)
    rw [HO.out] at hc HV
    try simp only [Bool.false_eq_true, if_false, if_true] at HV
    go_enter Try.func18, Try.ntmps18
    go_wp2_with (first
      | (go_at_call 71; (with_reducible refine (l02Above_any _ _).mono ?_); (first | rw [MF.out] | rw [MH.out] | rw [MT.out]); rintro e w' ⟨rfl, hb⟩; have hB : Below w.heap.size w w' := below_trans (by (repeat (first | (with_reducible assumption) | (with_reducible apply below_refl) | (with_reducible apply below_alloc1) | (with_reducible apply below_drewN1) | (with_reducible apply below_drew1)))) hb; have hC := (bcell hB).1; clear hb)
      | (go_at_call 72; (refine (specRoot i HI.out _).mono ?_); rintro e w' ⟨q, rfl, hq, hb⟩; have hB := below_trans (show Below w.heap.size w _ by (repeat (first | (with_reducible assumption) | (with_reducible apply below_refl) | (with_reducible apply below_alloc1) | (with_reducible apply below_drewN1) | (with_reducible apply below_drew1)))) hb; clear hb)
      | (go_at_call 73; (fail_if_success have := hq1); (refine (specBel (Z := fpZ1 i) (by simp only [*, fpZ1, fpZ2, fpR, fpW, fpE, kfour, khalf, ktwo, kone, ab_z32, ab_khalf, ab_kfour, ab_ktwo]) E1.out _).mono ?_); rintro e w' ⟨q1, rfl, hq1, hb⟩; have hB := below_trans (show Below w.heap.size w _ by (repeat (first | (with_reducible assumption) | (with_reducible apply below_refl) | (with_reducible apply below_alloc1) | (with_reducible apply below_drewN1) | (with_reducible apply below_drew1)))) hb; clear hb)
      | (go_at_call 74; (refine (specExp_ok (a := fpE) (by simp only [*, fpZ1, fpZ2, fpR, fpW, fpE, kfour, khalf, ktwo, kone, ab_z32, ab_khalf, ab_kfour, ab_ktwo]) E3.out _).mono ?_); rintro e w' ⟨q2, rfl, hq2, hb⟩; have hB := below_trans (show Below w.heap.size w _ by (repeat (first | (with_reducible assumption) | (with_reducible apply below_refl) | (with_reducible apply below_alloc1) | (with_reducible apply below_drewN1) | (with_reducible apply below_drew1)))) hb; clear hb)
      | (go_at_call 73; (refine (specBel (Z := fpZ2 i) (by simp only [*, fpZ1, fpZ2, fpR, fpW, fpE, kfour, khalf, ktwo, kone, ab_z32, ab_khalf, ab_kfour, ab_ktwo]) E2.out _).mono ?_); rintro e w' ⟨q3, rfl, hq3, hb⟩; have hB := below_trans (show Below w.heap.size w _ by (repeat (first | (with_reducible assumption) | (with_reducible apply below_refl) | (with_reducible apply below_alloc1) | (with_reducible apply below_drewN1) | (with_reducible apply below_drew1)))) hb; clear hb)
      | (go_at_call 75; have hR : ab .f32 r = fop .add .f32 (belX (fpZ1 i)) (fop .mul .f32 (nar (exM (wid fpE))) (belX (fpZ2 i))) := (by simp only [*]); (with_reducible refine (l02Number_yes r (by rw [hR]; have h1 := HFIN.out; rw [HV.out] at h1; exact h1) _).mono ?_); rintro e w' ⟨rfl, hb⟩; have hB := below_trans (show Below w.heap.size w _ by (repeat (first | (with_reducible assumption) | (with_reducible apply below_refl) | (with_reducible apply below_alloc1) | (with_reducible apply below_drewN1) | (with_reducible apply below_drew1)))) hb; clear hb)
      | (go_at_call 75; (with_reducible refine (l02Number_yes 1065353216 fin_one32 _).mono ?_); rintro e w' ⟨rfl, hb⟩; have hB := below_trans (show Below w.heap.size w _ by (repeat (first | (with_reducible assumption) | (with_reducible apply below_refl) | (with_reducible apply below_alloc1) | (with_reducible apply below_drewN1) | (with_reducible apply below_drew1)))) hb; clear hb)
      | (refine upon_float rfl ?_; intro r n hr; go_simp))
  · go_ret2
    exact ⟨_, rfl, by rw [HV.out]; exact hR, by assumption⟩
  · go_ret2
    exact ⟨_, rfl, by rw [HV.out]; exact ab_one32, by assumption⟩
end Go.Proofs.Ytkaeohlakeliiaa
