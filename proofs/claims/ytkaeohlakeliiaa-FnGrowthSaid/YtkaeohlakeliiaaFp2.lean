/- Contracts: FirstPassage at the law's numbers, both sides. -/
import Derived.Test.YtkaeohlakeliiaaFp
import Derived.Test.YtkaeohlakeliiaaFL
namespace Go.Proofs.Ytkaeohlakeliiaa
open Go.RowKit

@[go_sem] theorem ab_k15976 : ab .f32 1070366248 = some 1070366248 := by decide
@[go_sem] theorem ab_k0705 : ab .f32 1032881384 = some 1032881384 := by decide
@[go_sem] theorem ab_khalf : ab .f32 1056964608 = some 1056964608 := by decide
@[go_sem] theorem ab_kfour : ab .f32 1082130432 = some 1082130432 := by decide
@[go_sem] theorem ab_ktwo : ab .f32 1073741824 = some 1073741824 := by decide
theorem fp_facts (i : Nat) (hi : i < 12) : wid (some (tB i)) = some (sqIn i) ∧ Fits (some (sqOut i)) ∧ ab .f64 (sqOut i) = some (sqOut i) ∧ ExpOk (belA (fpZ1 i)) ∧ ExpOk (belA (fpZ2 i)) ∧ ExpOk fpE ∧ finite32 (fpV i) = true ∧ moreB (ab .f32 (tB i)) = true ∧ ab .f32 (tB i) = some (tB i) ∧ rootX (some (tB i)) = nar (some (sqOut i)) := by
  exact ⟨fp_c1 i hi, fits_of (fp_c3 i hi), fp_c4 i hi, exp_of (fp_c5 i hi), exp_of (fp_c6 i hi), exp_of fp_c7, fp_c8 i hi, fp_c9 i hi, fp_c10 i hi, root_of (fp_c1 i hi) (fp_c2 i hi)⟩
theorem implExp_ok {x : Nat} {a : Option Nat} (ha : ab .f32 x = a) (h : ExpOk a) (w : World) : Calls Try.prog 57 #[.float .f32 x] w (FltOk (nar (exM (wid a))) w) := by
  subst ha
  obtain ⟨⟨y, hy, y1, y2⟩, hF⟩ := h
  exact implExp_rv x hy y1 y2 hF w
theorem specExp_ok {x : Nat} {a : Option Nat} (ha : ab .f32 x = a) (h : ExpOk a) (w : World) : Calls Try.prog 74 #[.float .f32 x] w (FltOk (nar (exM (wid a))) w) := by
  subst ha
  obtain ⟨⟨y, hy, y1, y2⟩, hF⟩ := h
  exact specExp_rv x hy y1 y2 hF w
set_option maxRecDepth 100000 in
set_option maxHeartbeats 800000 in
theorem implRoot (i : Nat) (hi : i < 12) (w : World) : Calls Try.prog 69 #[.float .f32 (tB i)] w (FltOk (rootX (some (tB i))) w) := by
  obtain ⟨h1, h2, h3, -, -, -, -, -, h9, h10⟩ := fp_facts i hi
  have H1 := hid h1; have H2 := hid h2; have H3 := hid h3; have H9 := hid h9; have H10 := hid h10
  have HS := hid (sqrt_any i hi)
  obtain ⟨t, ht⟩ : ∃ t, tB i = t := ⟨_, rfl⟩
  rw [ht] at H1 H9 H10 ⊢
  generalize sqOut i = o at H2 H3 H10 HS
  generalize sqIn i = q at H1 HS
  clear h1 h2 h3 h9 h10 ht
  go_enter Try.func69, Try.ntmps69
  go_wp2_with (first
    | (refine upon_widen rfl Try.underlying34 ?_; intro r n hr; go_simp; obtain rfl : q = r := (by rw [H9.out, H1.out] at hr; exact (ab_some hr).1); clear hr)
    | (go_at_call 119; (with_reducible refine (HS.out _).mono ?_); rintro e w' ⟨rfl, hb⟩; have hB := below_trans (show Below w.heap.size w _ by (repeat (first | (with_reducible assumption) | (with_reducible apply below_refl) | (with_reducible apply below_alloc1) | (with_reducible apply below_drewN1) | (with_reducible apply below_drew1)))) hb; clear hb)
    | (refine upon_narrow rfl Try.underlying27 (by rw [H3.out]; exact H2.out) ?_; intro r n hr; go_simp))
  go_ret
  exact ⟨_, rfl, by rw [hr, H3.out, H10.out], by (repeat (first | (with_reducible assumption) | (with_reducible apply below_refl) | (with_reducible apply below_alloc1) | (with_reducible apply below_drewN1) | (with_reducible apply below_drew1)))⟩
set_option maxRecDepth 100000 in
set_option maxHeartbeats 800000 in
theorem specRoot (i : Nat) (hi : i < 12) (w : World) : Calls Try.prog 72 #[.float .f32 (tB i)] w (FltOk (rootX (some (tB i))) w) := by
  obtain ⟨h1, h2, h3, -, -, -, -, -, h9, h10⟩ := fp_facts i hi
  have H1 := hid h1; have H2 := hid h2; have H3 := hid h3; have H9 := hid h9; have H10 := hid h10
  have HS := hid (sqrt_any i hi)
  obtain ⟨t, ht⟩ : ∃ t, tB i = t := ⟨_, rfl⟩
  rw [ht] at H1 H9 H10 ⊢
  generalize sqOut i = o at H2 H3 H10 HS
  generalize sqIn i = q at H1 HS
  clear h1 h2 h3 h9 h10 ht
  go_enter Try.func72, Try.ntmps72
  go_wp2_with (first
    | (refine upon_widen rfl Try.underlying34 ?_; intro r n hr; go_simp; obtain rfl : q = r := (by rw [H9.out, H1.out] at hr; exact (ab_some hr).1); clear hr)
    | (go_at_call 119; (with_reducible refine (HS.out _).mono ?_); rintro e w' ⟨rfl, hb⟩; have hB := below_trans (show Below w.heap.size w _ by (repeat (first | (with_reducible assumption) | (with_reducible apply below_refl) | (with_reducible apply below_alloc1) | (with_reducible apply below_drewN1) | (with_reducible apply below_drew1)))) hb; clear hb)
    | (go_at_call 120; (refine (narrowE_any _ (by rw [H3.out]; exact H2.out) _).mono ?_); rintro e w' ⟨r, rfl, hr, hb⟩; have hB2 := below_trans (show Below w.heap.size w _ by (repeat (first | (with_reducible assumption) | (with_reducible apply below_refl) | (with_reducible apply below_alloc1) | (with_reducible apply below_drewN1) | (with_reducible apply below_drew1)))) hb; clear hb))
  go_ret
  exact ⟨_, rfl, by rw [hr, H3.out, H10.out], by (repeat (first | (with_reducible assumption) | (with_reducible apply below_refl) | (with_reducible apply below_alloc1) | (with_reducible apply below_drewN1) | (with_reducible apply below_drew1)))⟩
set_option maxRecDepth 100000 in
set_option maxHeartbeats 800000 in
theorem implBel {z : Nat} {Z : Option Nat} (hz : ab .f32 z = Z) (h : ExpOk (belA Z)) (w : World) : Calls Try.prog 70 #[.float .f32 z] w (FltOk (belX Z) w) := by
  subst hz
  have HE := hid h; clear h
  go_enter Try.func70, Try.ntmps70
  go_wp2_with (first
    | (go_at_call 57; (refine (implExp_ok (a := belA (ab .f32 z)) (by simp only [*, belA, belZ, c15976, c0705, ab_z32, ab_k15976, ab_k0705]) HE.out _).mono ?_); rintro e w' ⟨q, rfl, hq, hb⟩; have hB := below_trans (show Below w.heap.size w _ by (repeat (first | (with_reducible assumption) | (with_reducible apply below_refl) | (with_reducible apply below_alloc1) | (with_reducible apply below_drewN1) | (with_reducible apply below_drew1)))) hb; clear hb)
    | (refine upon_float rfl ?_; intro r n hr; go_simp))
  go_ret
  exact ⟨_, rfl, by simp only [*, belX, ab_one32], by (repeat (first | (with_reducible assumption) | (with_reducible apply below_refl) | (with_reducible apply below_alloc1) | (with_reducible apply below_drewN1) | (with_reducible apply below_drew1)))⟩
set_option maxRecDepth 100000 in
set_option maxHeartbeats 800000 in
theorem specBel {z : Nat} {Z : Option Nat} (hz : ab .f32 z = Z) (h : ExpOk (belA Z)) (w : World) : Calls Try.prog 73 #[.float .f32 z] w (FltOk (belX Z) w) := by
  subst hz
  have HE := hid h; clear h
  go_enter Try.func73, Try.ntmps73
  go_wp2_with (first
    | (go_at_call 74; (refine (specExp_ok (a := belA (ab .f32 z)) (by simp only [*, belA, belZ, c15976, c0705, ab_z32, ab_k15976, ab_k0705]) HE.out _).mono ?_); rintro e w' ⟨q, rfl, hq, hb⟩; have hB := below_trans (show Below w.heap.size w _ by (repeat (first | (with_reducible assumption) | (with_reducible apply below_refl) | (with_reducible apply below_alloc1) | (with_reducible apply below_drewN1) | (with_reducible apply below_drew1)))) hb; clear hb)
    | (refine upon_float rfl ?_; intro r n hr; go_simp))
  go_ret
  exact ⟨_, rfl, by simp only [*, belX, ab_one32], by (repeat (first | (with_reducible assumption) | (with_reducible apply below_refl) | (with_reducible apply below_alloc1) | (with_reducible apply below_drewN1) | (with_reducible apply below_drew1)))⟩
end Go.Proofs.Ytkaeohlakeliiaa
