/- Contracts: the exponential of any number whose result fits. -/
import Derived.Test.YtkgbbagklkffpaaExp2
import Derived.Test.YtkgbbagklkffpaaRat
namespace Go.Proofs.Ytkgbbagklkffpaa
open Go.RowKit

theorem rv_m200 : RV .f32 (some 3276275712) (-200) := by
  have := rv_ofInt32 (-200) (by decide)
  rwa [show floatOfInt .f32 (-200) = 3276275712 from by decide] at this
theorem rv_200 : RV .f32 (some 1128792064) 200 := by
  have := rv_ofInt32 200 (by decide)
  rwa [show floatOfInt .f32 200 = 1128792064 from by decide] at this
theorem rv_m200d : RV .f64 (some 13864612927836782592) (-200) := by
  have := rv_ofInt64 (-200) (by decide)
  rwa [show floatOfInt .f64 (-200) = 13864612927836782592 from by decide] at this
theorem rv_200d : RV .f64 (some 4641240890982006784) 200 := by
  have := rv_ofInt64 200 (by decide)
  rwa [show floatOfInt .f64 200 = 4641240890982006784 from by decide] at this
theorem rv_not_lt {k : FloatKind} {a b : Option Nat} {A B : Rat} (ha : RV k a A) (hb : RV k b B) (h : B ≤ A) : (ford k a b == some .lt) = false := by
  by_cases e : A = B
  · rw [rv_eq ha hb e]; rfl
  · rw [rv_gt ha hb (by grind)]; rfl
theorem rv_not_gt {k : FloatKind} {a b : Option Nat} {A B : Rat} (ha : RV k a A) (hb : RV k b B) (h : A ≤ B) : (ford k a b == some .gt) = false := by
  by_cases e : A = B
  · rw [rv_eq ha hb e]; rfl
  · rw [rv_lt ha hb (by grind)]; rfl
theorem exp_facts {x : Option Nat} {y : Rat} (hx : RV .f32 x y) (h1 : -200 ≤ y) (h2 : y ≤ 200) : (ford .f32 x (some 1128792064) == some .gt) = false ∧ (ford .f32 x (some 3276275712) == some .lt) = false :=
  ⟨rv_not_gt hx rv_200 h2, rv_not_lt hx rv_m200 h1⟩
theorem exp_facts64 {x : Option Nat} {y : Rat} (hx : RV .f32 x y) (h1 : -200 ≤ y) (h2 : y ≤ 200) : (ford .f64 (wid x) (some 4641240890982006784) == some .gt) = false ∧ (ford .f64 (wid x) (some 13864612927836782592) == some .lt) = false :=
  ⟨rv_not_gt (rv_wid hx) rv_200d h2, rv_not_lt (rv_wid hx) rv_m200d h1⟩
set_option maxRecDepth 100000 in
set_option maxHeartbeats 2000000 in
theorem implExp_rv (x : Nat) {y : Rat} (hx : RV .f32 (ab .f32 x) y) (h1 : -200 ≤ y) (h2 : y ≤ 200) (hF : Fits (exM (wid (ab .f32 x)))) (w : World) : Calls Try.prog 42 #[.float .f32 x] w (FltOk (nar (exM (wid (ab .f32 x)))) w) := by
  obtain ⟨f1, hl⟩ := exp_facts hx h1 h2
  have HF := hid hF
  clear hF hx
  go_enter Try.func42, Try.ntmps42
  go_wp2_with (first | (refine upon_widen rfl Try.underlying34 ?_; intro r n hr; go_simp; have HW := hid hr; clear hr) | (refine upon_float rfl ?_; intro r n hr; go_simp))
  have HT := hid (show ab .f64 r = fop .quo .f64 (wid (ab .f32 x)) (some 4643211215818981376) by rw [hr, HW.out, ab_e256])
  generalize r = t0 at HT ⊢
  clear hr
  go_loopw [4, 5] (fun a b wr => ∃ (j c d : Nat), j ≤ 12 ∧ a = .float .f64 c ∧ b = .float .f64 d ∧ ab .f64 c = exP (ab .f64 t0) j ∧ ab .f64 d = k64 (12 - (j : Int)) ∧ Below w.heap.size w wr) (fun _ b _ => (40 + cntOf b).toNat)
  case atStart => exact ⟨0, _, _, by omega, rfl, rfl, ab_one64, by decide, by (repeat (first | (with_reducible assumption) | (with_reducible apply below_refl) | (with_reducible apply below_alloc1) | (with_reducible apply below_drewN1) | (with_reducible apply below_drew1)))⟩
  case round =>
    obtain ⟨j, c, d, hj, rfl, rfl, hc, hd, hw⟩ := hrel
    have hg := exp_ge j (by omega)
    rw [← hd] at hg
    unfold geB at hg
    have HC := cnt_val hd (by omega)
    have HD := hid hd; have HCC := hid hc
    by_cases hjt : j < 12
    · rw [decide_eq_true hjt] at hg
      clear hc hd
      go_wp2_with (refine upon_float rfl ?_; intro r n hr; go_simp)
      rename_i x1 _ hx1 x2 _ hx2 c2 _ hc2
      generalize r = d2 at hr ⊢
      have hd2 : ab .f64 d2 = k64 (12 - ((j + 1 : Nat) : Int)) := by
        rw [hr, HD.out, ab_one64, cnt_dec _ (by omega) (by omega)]; congr 1; omega
      have HC2 := cnt_val hd2 (by omega)
      go_roundw
      case rel => exact ⟨j + 1, c2, d2, by omega, rfl, rfl, by rw [hc2, hx2, hx1, HCC.out, HD.out, ab_one64, exP_next], hd2, by (repeat (first | (with_reducible assumption) | (with_reducible apply below_refl) | (with_reducible apply below_alloc1) | (with_reducible apply below_drewN1) | (with_reducible apply below_drew1)))⟩
      case measure => rw [HC, HC2]; omega
    · obtain rfl : j = 12 := by omega
      rw [decide_eq_false hjt] at hg
      clear hd
      have HP := hid (show ab .f64 c = exP (fop .quo .f64 (wid (ab .f32 x)) (some 4643211215818981376)) 12 by rw [hc, HT.out])
      clear hc HC HD HCC
      go_wp2_with fail
      go_loopw [4, 27] (fun a b wr => ∃ (j c : Nat), j ≤ 8 ∧ a = .float .f64 c ∧ b = .int .i64 j ∧ ab .f64 c = exS (exP (fop .quo .f64 (wid (ab .f32 x)) (some 4643211215818981376)) 12) j ∧ Below w.heap.size w wr) (fun _ b _ => 8 - (intOf b).toNat)
      case atStart => exact ⟨0, _, by omega, rfl, rfl, HP.out, by (repeat (first | (with_reducible assumption) | (with_reducible apply below_refl) | (with_reducible apply below_alloc1) | (with_reducible apply below_drewN1) | (with_reducible apply below_drew1)))⟩
      case round =>
        obtain ⟨j, c, hj, rfl, rfl, hc, hw2⟩ := hrel
        have HCC := hid hc
        clear hc
        by_cases hjt : j < 8
        · have hjI : (j : Int) < 8 := by omega
          go_wp2_with (refine upon_float rfl ?_; intro r n hr; go_simp)
          go_roundw
          case rel => exact ⟨j + 1, _, by omega, rfl, by go_num, by rw [hr, HCC.out, exS_next], by (repeat (first | (with_reducible assumption) | (with_reducible apply below_refl) | (with_reducible apply below_alloc1) | (with_reducible apply below_drewN1) | (with_reducible apply below_drew1)))⟩
          case measure => simp [intOf]; omega
        · obtain rfl : j = 8 := by omega
          have HQ := hid (show ab .f64 c = exM (wid (ab .f32 x)) from HCC.out)
          go_wp2_with (refine upon_narrow rfl Try.underlying24 (by rw [HQ.out]; exact HF.out) ?_; intro r n hr; go_simp)
          go_ret
          exact ⟨_, rfl, by rw [hr, HQ.out], by (repeat (first | (with_reducible assumption) | (with_reducible apply below_refl) | (with_reducible apply below_alloc1) | (with_reducible apply below_drewN1) | (with_reducible apply below_drew1)))⟩
end Go.Proofs.Ytkgbbagklkffpaa
