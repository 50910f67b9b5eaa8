/- Contracts: the reference's PathCross. -/
import Derived.Test.YtkaeohlakeliiaaCross
namespace Go.Proofs.Ytkaeohlakeliiaa
open Go.RowKit

set_option maxRecDepth 100000 in
set_option maxHeartbeats 2000000 in
theorem specCross_any (v u : Value) (xs ys : List Nat) (l : Nat) (w : World) (hv : RowAt w v (xs.map (Value.float .f32))) (hu : RowAt w u (ys.map (Value.float .f32))) :
    Calls Try.prog 26 #[v, u, .float .f32 l] w (NumOk (crossM xs ys (ab .f32 l)) w) := by
  have HV := hid hv
  have HU := hid hu
  obtain ⟨ao, cap, b, off, rfl, hao, hl, hm, hc⟩ := hv
  obtain ⟨ao', cap', b', off', rfl, hao', hl', hm', hc'⟩ := hu
  simp only [List.length_map] at hl HV hl' HU hao hao' ⊢
  unfold maxLen at hm hm'
  have HC := hid hc; have HA := hid hao; have HC' := hid hc'; have HA' := hid hao'
  clear hc hao hc' hao'
  by_cases h1 : 2 ≤ xs.length
  rotate_left
  · have HM := hid (cross_no (xs := xs) (ys := ys) (L := ab .f32 l) (by simp [crossOk, pathB, h1]))
    have h1' : (xs.length : Int) < 2 := by omega
    go_enter Try.func26, Try.ntmps26
    go_wp2_with fail
    go_ret2
    exact numOk_no HM.out (by (repeat (first | (with_reducible assumption) | (with_reducible apply below_refl) | (with_reducible apply below_alloc1) | (with_reducible apply below_drewN1) | (with_reducible apply below_drew1))))
  have h1' : ¬ (xs.length : Int) < 2 := by omega
  by_cases h2 : xs.length ≤ 48
  rotate_left
  · have HM := hid (cross_no (xs := xs) (ys := ys) (L := ab .f32 l) (by simp [crossOk, pathB, h2]))
    have h2' : (48 : Int) < (xs.length : Int) := by omega
    go_enter Try.func26, Try.ntmps26
    go_wp2_with fail
    go_ret2
    exact numOk_no HM.out (by (repeat (first | (with_reducible assumption) | (with_reducible apply below_refl) | (with_reducible apply below_alloc1) | (with_reducible apply below_drewN1) | (with_reducible apply below_drew1))))
  have h2' : ¬ (48 : Int) < (xs.length : Int) := by omega
  by_cases h3 : ys.length = xs.length
  rotate_left
  · have HM := hid (cross_no (xs := xs) (ys := ys) (L := ab .f32 l) (by simp [crossOk, pathB, h3]))
    have h3' : ((ys.length : Int) != (xs.length : Int)) = true := by simp; omega
    have h3'' : ((ys.length : Int) == (xs.length : Int)) = false := by simp; omega
    clear h3
    go_enter Try.func26, Try.ntmps26
    go_wp2_with fail
    go_ret2
    exact numOk_no HM.out (by (repeat (first | (with_reducible assumption) | (with_reducible apply below_refl) | (with_reducible apply below_alloc1) | (with_reducible apply below_drewN1) | (with_reducible apply below_drew1))))
  have HL3 := hid h3
  have h3' : ((ys.length : Int) != (xs.length : Int)) = false := by simp; omega
  have h3'' : ((ys.length : Int) == (xs.length : Int)) = true := by simp; omega
  cases g1 : (xs.all fun b => finB (ab .f32 b))
  · have HM := hid (cross_no (xs := xs) (ys := ys) (L := ab .f32 l) (by simp only [crossOk, pathB, g1, Bool.and_false, Bool.false_and]))
    have G1 := hid g1; clear g1 h3
    go_enter Try.func26, Try.ntmps26
    go_wp2_with (first | (go_at_call 68; (with_reducible refine (l02Finite_any _ xs _ (HV.out.below (by (repeat (first | (with_reducible assumption) | (with_reducible apply below_refl) | (with_reducible apply below_alloc1) | (with_reducible apply below_drewN1) | (with_reducible apply below_drew1)))))).mono ?_); rw [G1.out]; rintro e w' ⟨rfl, hb⟩; have hB : Below w.heap.size w w' := below_trans (by (repeat (first | (with_reducible assumption) | (with_reducible apply below_refl) | (with_reducible apply below_alloc1) | (with_reducible apply below_drewN1) | (with_reducible apply below_drew1)))) hb; have hC := (bcell hB).1; clear hb))
    go_ret2
    exact numOk_no HM.out (by assumption)
  have G1 := hid g1
  cases g2 : (ys.all fun b => finB (ab .f32 b))
  · have HM := hid (cross_no (xs := xs) (ys := ys) (L := ab .f32 l) (by simp only [crossOk, pathB, g2, Bool.and_false, Bool.false_and]))
    have G2 := hid g2; clear g1 g2 h3
    go_enter Try.func26, Try.ntmps26
    go_wp2_with (first | (go_at_call 68; (with_reducible refine (l02Finite_any _ xs _ (HV.out.below (by (repeat (first | (with_reducible assumption) | (with_reducible apply below_refl) | (with_reducible apply below_alloc1) | (with_reducible apply below_drewN1) | (with_reducible apply below_drew1)))))).mono ?_); rw [G1.out]; rintro e w' ⟨rfl, hb⟩; have hB : Below w.heap.size w w' := below_trans (by (repeat (first | (with_reducible assumption) | (with_reducible apply below_refl) | (with_reducible apply below_alloc1) | (with_reducible apply below_drewN1) | (with_reducible apply below_drew1)))) hb; have hC := (bcell hB).1; clear hb) | (go_at_call 68; (with_reducible refine (l02Finite_any _ ys _ (HU.out.below (by (repeat (first | (with_reducible assumption) | (with_reducible apply below_refl) | (with_reducible apply below_alloc1) | (with_reducible apply below_drewN1) | (with_reducible apply below_drew1)))))).mono ?_); rw [G2.out]; rintro e w' ⟨rfl, hb⟩; have hB : Below w.heap.size w w' := below_trans (by (repeat (first | (with_reducible assumption) | (with_reducible apply below_refl) | (with_reducible apply below_alloc1) | (with_reducible apply below_drewN1) | (with_reducible apply below_drew1)))) hb; have hC := (bcell hB).1; clear hb))
    go_ret2
    exact numOk_no HM.out (by assumption)
  have G2 := hid g2
  cases g3 : finite32 (ab .f32 l)
  · have HM := hid (cross_no (xs := xs) (ys := ys) (L := ab .f32 l) (by simp [crossOk, g3]))
    have G3 := hid g3; clear g1 g2 g3 h3
    go_enter Try.func26, Try.ntmps26
    go_wp2_with (first | (go_at_call 68; (with_reducible refine (l02Finite_any _ xs _ (HV.out.below (by (repeat (first | (with_reducible assumption) | (with_reducible apply below_refl) | (with_reducible apply below_alloc1) | (with_reducible apply below_drewN1) | (with_reducible apply below_drew1)))))).mono ?_); rw [G1.out]; rintro e w' ⟨rfl, hb⟩; have hB : Below w.heap.size w w' := below_trans (by (repeat (first | (with_reducible assumption) | (with_reducible apply below_refl) | (with_reducible apply below_alloc1) | (with_reducible apply below_drewN1) | (with_reducible apply below_drew1)))) hb; have hC := (bcell hB).1; clear hb) | (go_at_call 68; (with_reducible refine (l02Finite_any _ ys _ (HU.out.below (by (repeat (first | (with_reducible assumption) | (with_reducible apply below_refl) | (with_reducible apply below_alloc1) | (with_reducible apply below_drewN1) | (with_reducible apply below_drew1)))))).mono ?_); rw [G2.out]; rintro e w' ⟨rfl, hb⟩; have hB : Below w.heap.size w w' := below_trans (by (repeat (first | (with_reducible assumption) | (with_reducible apply below_refl) | (with_reducible apply below_alloc1) | (with_reducible apply below_drewN1) | (with_reducible apply below_drew1)))) hb; have hC := (bcell hB).1; clear hb) | (go_at_call 64; refine (specFinite_any _ _).mono ?_; rw [G3.out]; rintro e w' ⟨rfl, hb⟩; have hB : Below w.heap.size w w' := below_trans (by (repeat (first | (with_reducible assumption) | (with_reducible apply below_refl) | (with_reducible apply below_alloc1) | (with_reducible apply below_drewN1) | (with_reducible apply below_drew1)))) hb; have hC := (bcell hB).1; clear hb))
    go_ret2
    exact numOk_no HM.out (by assumption)
  have G3 := hid g3
  have HP := hid (show pathB xs ys = true by simp only [pathB, g1, g2, h1, h2, h3, decide_true, Bool.and_true])
  clear g1 g2 g3 h3
  obtain rfl := HA.out (by omega)
  obtain rfl := HA'.out (by have := HL3.out; omega)
  go_enter Try.func26, Try.ntmps26
  go_wp2_with (first | (go_at_call 68; (with_reducible refine (l02Finite_any _ xs _ (HV.out.below (by (repeat (first | (with_reducible assumption) | (with_reducible apply below_refl) | (with_reducible apply below_alloc1) | (with_reducible apply below_drewN1) | (with_reducible apply below_drew1)))))).mono ?_); rw [G1.out]; rintro e w' ⟨rfl, hb⟩; have hB : Below w.heap.size w w' := below_trans (by (repeat (first | (with_reducible assumption) | (with_reducible apply below_refl) | (with_reducible apply below_alloc1) | (with_reducible apply below_drewN1) | (with_reducible apply below_drew1)))) hb; have hC := (bcell hB).1; clear hb) | (go_at_call 68; (with_reducible refine (l02Finite_any _ ys _ (HU.out.below (by (repeat (first | (with_reducible assumption) | (with_reducible apply below_refl) | (with_reducible apply below_alloc1) | (with_reducible apply below_drewN1) | (with_reducible apply below_drew1)))))).mono ?_); rw [G2.out]; rintro e w' ⟨rfl, hb⟩; have hB : Below w.heap.size w w' := below_trans (by (repeat (first | (with_reducible assumption) | (with_reducible apply below_refl) | (with_reducible apply below_alloc1) | (with_reducible apply below_drewN1) | (with_reducible apply below_drew1)))) hb; have hC := (bcell hB).1; clear hb) | (go_at_call 64; refine (specFinite_any _ _).mono ?_; rw [G3.out]; rintro e w' ⟨rfl, hb⟩; have hB : Below w.heap.size w w' := below_trans (by (repeat (first | (with_reducible assumption) | (with_reducible apply below_refl) | (with_reducible apply below_alloc1) | (with_reducible apply below_drewN1) | (with_reducible apply below_drew1)))) hb; have hC := (bcell hB).1; clear hb))
  go_loopw [9] (fun i wr => ∃ k : Nat, k + 1 ≤ xs.length ∧ i = .int .i64 (k + 1 : Nat) ∧ Hid (∀ j, j < k → riseAt xs j = true) ∧ Below w.heap.size w wr) (fun i _ => xs.length + 1 - (intOf i).toNat)
  case atStart => exact ⟨0, by omega, rfl, hid (fun j h => absurd h (Nat.not_lt_zero _)), by (repeat (first | (with_reducible assumption) | (with_reducible apply below_refl) | (with_reducible apply below_alloc1) | (with_reducible apply below_drewN1) | (with_reducible apply below_drew1)))⟩
  case round =>
    obtain ⟨k, hk, rfl, hno, hw⟩ := hrel
    have hcast : ((k + 1 : Nat) : Int) = (k : Int) + 1 := by omega
    by_cases hlt : k + 1 < xs.length
    · have hcell := rowc HC.out hw k (by omega)
      have hcell2 := rowc HC.out hw (k + 1) hlt
      have hr : riseAt xs k = (ford .f32 (ab .f32 xs[k + 1]) (ab .f32 xs[k]) == some .gt) := by unfold riseAt; rw [getD_at xs (k + 1) hlt, getD_at xs k (by omega)]
      generalize xs[k] = x at hcell hr
      generalize xs[k + 1] = y at hcell2 hr
      have i1 : ((k : Int) + 1).toNat = k + 1 := by omega
      have i2 : ((k : Int) + 1 - 1) = (k : Int) := by omega
      have hlt' : (k : Int) + 1 < (xs.length : Int) := by omega
      have hlt0 : (k : Int) < (xs.length : Int) := by omega
      have g0 : (0 : Int) ≤ (k : Int) := by omega
      have g1 : (0 : Int) ≤ (k : Int) + 1 := by omega
      have W1 : IntKind.i64.wrap ((k : Int) + 1 - 1) = (k : Int) := by rw [IntKind.wrap_i64]; omega
      have W2 : IntKind.i64.wrap (k : Int) = (k : Int) := by rw [IntKind.wrap_i64]; omega
      rw [hcast]
      clear hcast
      cases ht : (ford .f32 (ab .f32 y) (ab .f32 x) == some .gt)
      · have HM := hid (cross_no (xs := xs) (ys := ys) (L := ab .f32 l) (by rw [crossOk, riseB_no hlt (hr.trans ht)]; simp))
        clear hr
        go_wp2_with (first | go_quiet (fail))
        go_ret2
        exact numOk_no HM.out (by (repeat (first | (with_reducible assumption) | (with_reducible apply below_refl) | (with_reducible apply below_alloc1) | (with_reducible apply below_drewN1) | (with_reducible apply below_drew1))))
      · have HN := hid (show ∀ j, j < k + 1 → riseAt xs j = true from fun j hj => by
          by_cases e : j = k
          · rw [e]; exact hr.trans ht
          · exact hno.out j (by omega))
        clear hr
        go_wp2_with (first | go_quiet (fail))
        go_roundw
        case rel => exact ⟨k + 1, by omega, by go_num, HN, by (repeat (first | (with_reducible assumption) | (with_reducible apply below_refl) | (with_reducible apply below_alloc1) | (with_reducible apply below_drewN1) | (with_reducible apply below_drew1)))⟩
        case measure => simp [intOf]; omega
    · have hlt' : ¬ (k : Int) + 1 < (xs.length : Int) := by omega
      have HOK := hid (show crossOk xs ys (ab .f32 l) = true by rw [crossOk, HP.out, riseB_yes (xs := xs) (fun j hj => hno.out j (by omega)), G3.out]; rfl)
      rw [hcast]
      clear hcast
      have l3 := HL3.out
      have x0 := rowc HC.out hw 0 (by omega)
      have y0 := rowc HC'.out hw 0 (by omega)
      rw [Nat.add_zero] at x0 y0
      have hg := getD_at xs 0 (by omega)
      have hq : 0 < xs.length := by omega
      have hq' : 0 < ys.length := by omega
      have hy0 : ys[0] = ys[0] := rfl
      have hh : reachB (ab .f32 l) (ys[0]'(by omega)) = (ford .f32 (ab .f32 (ys[0]'(by omega))) (ab .f32 l) == some .gt || ford .f32 (ab .f32 (ys[0]'(by omega))) (ab .f32 l) == some .eq) := rfl
      have hpos := idxF_pos (reachB (ab .f32 l)) ys 0 (by omega) (fun j x h => absurd h (Nat.not_lt_zero _))
      have hneg : reachB (ab .f32 l) (ys[0]'(by omega)) = false → ∀ j x, j < 0 + 1 → ys[j]? = some x → reachB (ab .f32 l) x = false := by
        intro h0 j x hj hx
        obtain rfl : j = 0 := by omega
        rw [List.getElem?_eq_getElem (by omega)] at hx
        cases hx; exact h0
      generalize xs[0]'(by omega) = xa at x0 hg
      generalize ys[0]'(by omega) = ya at y0 hh hpos hneg
      have HG := hid hg; have HNEG := hid hneg; have HPOS := hid hpos
      clear hg hy0 hneg hpos l3
      cases ht : (ford .f32 (ab .f32 ya) (ab .f32 l) == some .gt || ford .f32 (ab .f32 ya) (ab .f32 l) == some .eq)
      rotate_left
      · have HM := hid (cross_zero HOK.out (HPOS.out (hh.trans ht)))
        clear hh
        go_wp2_with (first | go_quiet (fail))
        go_ret2
        exact ⟨xa, by rw [HM.out]; rfl, by rw [HM.out, HG.out], by (repeat (first | (with_reducible assumption) | (with_reducible apply below_refl) | (with_reducible apply below_alloc1) | (with_reducible apply below_drewN1) | (with_reducible apply below_drew1)))⟩
      · have HN0 := hid (HNEG.out (hh.trans ht))
        clear hh
        go_wp2_with fail
        have hC1 := (bcell hw).1
        have hlw := hw.size
        go_loopw [10] (fun i w2 => ∃ j : Nat, j + 1 ≤ xs.length ∧ i = .int .i64 (j + 1 : Nat) ∧ Hid (∀ i x, i < j + 1 → ys[i]? = some x → reachB (ab .f32 l) x = false) ∧ Below w.heap.size w w2) (fun i _ => xs.length + 1 - (intOf i).toNat)
        case atStart => exact ⟨0, by omega, rfl, HN0, hw⟩
        case round =>
          obtain ⟨j, hj, rfl, hnj, hwj⟩ := hrel
          have hcast : ((j + 1 : Nat) : Int) = (j : Int) + 1 := by omega
          by_cases hjt : j + 1 < xs.length
          · have l3 := HL3.out
            have y0 := rowc HC'.out hwj j (by omega)
            have y1 := rowc HC'.out hwj (j + 1) (by omega)
            have x0 := rowc HC.out hwj j (by omega)
            have x1 := rowc HC.out hwj (j + 1) (by omega)
            have hX : crossX xs ys (ab .f32 l) j = fop .add .f32 (ab .f32 (xs[j]'(by omega))) (fop .mul .f32 (fop .quo .f32 (fop .sub .f32 (ab .f32 l) (ab .f32 (ys[j]'(by omega)))) (fop .sub .f32 (ab .f32 (ys[j + 1]'(by omega))) (ab .f32 (ys[j]'(by omega))))) (fop .sub .f32 (ab .f32 (xs[j + 1]'(by omega))) (ab .f32 (xs[j]'(by omega))))) := by
              unfold crossX
              rw [getD_at xs j (by omega), getD_at xs (j + 1) (by omega), getD_at ys j (by omega), getD_at ys (j + 1) (by omega)]
            have hh2 : reachB (ab .f32 l) (ys[j + 1]'(by omega)) = (ford .f32 (ab .f32 (ys[j + 1]'(by omega))) (ab .f32 l) == some .gt || ford .f32 (ab .f32 (ys[j + 1]'(by omega))) (ab .f32 l) == some .eq) := rfl
            have hpos2 := idxF_pos (reachB (ab .f32 l)) ys (j + 1) (by omega) hnj.out
            have hneg2 : reachB (ab .f32 l) (ys[j + 1]'(by omega)) = false → ∀ i x, i < j + 1 + 1 → ys[i]? = some x → reachB (ab .f32 l) x = false := by
              intro h0 i x hi hx
              by_cases e : i = j + 1
              · subst e
                rw [List.getElem?_eq_getElem (by omega)] at hx
                cases hx; exact h0
              · exact hnj.out i x (by omega) hx
            generalize xs[j]'(by omega) = xa at x0 hX
            generalize xs[j + 1]'(by omega) = xb at x1 hX
            generalize ys[j]'(by omega) = yc at y0 hX
            generalize ys[j + 1]'(by omega) = yb at y1 hX hh2 hpos2 hneg2
            have HX := hid hX; have HPOS2 := hid hpos2; have HNEG2 := hid hneg2
            clear hX hpos2 hneg2
            have q0 : (0 : Int) ≤ (j : Int) := by omega
            have q1 : (0 : Int) ≤ (j : Int) + 1 := by omega
            have q2 : (j : Int) < (xs.length : Int) := by omega
            have q3 : (j : Int) + 1 < (xs.length : Int) := by omega
            have q4 : (j : Int) < (ys.length : Int) := by omega
            have q5 : (j : Int) + 1 < (ys.length : Int) := by omega
            have i1 : ((j : Int) + 1).toNat = j + 1 := by omega
            have W1 : IntKind.i64.wrap ((j : Int) + 1 - 1) = (j : Int) := by rw [IntKind.wrap_i64]; omega
            have W2 : IntKind.i64.wrap (j : Int) = (j : Int) := by rw [IntKind.wrap_i64]; omega
            have W3 : (j : Int) + 1 - 1 = (j : Int) := by omega
            rw [hcast]
            clear hcast l3
            cases ht2 : (ford .f32 (ab .f32 yb) (ab .f32 l) == some .gt || ford .f32 (ab .f32 yb) (ab .f32 l) == some .eq)
            · have HN := hid (HNEG2.out (hh2.trans ht2))
              clear hh2
              go_wp2_with fail
              go_roundw
              case rel => exact ⟨j + 1, by omega, by go_num, HN, hwj⟩
              case measure => simp [intOf]; omega
            · have HM := hid (cross_at HOK.out j (HPOS2.out (hh2.trans ht2)))
              clear hh2
              have hbl : b < wr.heap.size := World.block_lt_of_cell? wr _ x0
              have hbl' : b' < wr.heap.size := World.block_lt_of_cell? wr _ y0
              obtain ⟨fe1, fe2, fe3, fe4⟩ := run_fres4 Try.prog
              obtain ⟨fa1, fa2, fa3, fa4⟩ := ab_fres4
              go_wp2_with (first
                | (go_region_held (fun w' => Below wr.heap.size wr w' ∧ ∀ b o, b < wr.heap.size → w'.cell? ⟨b, o, none⟩ = wr.cell? ⟨b, o, none⟩) (first | exact keep_next ‹_› ‹_› | exact keep_start | exact keep_drew ‹_› | exact keep_of (by (repeat (first | (with_reducible assumption) | (with_reducible apply below_refl) | (with_reducible apply below_alloc1) | (with_reducible apply below_drewN1) | (with_reducible apply below_drew1))))) (first | (go_at_call 75; refine (l02Number_num _ _).mono ?_; rintro e w' ⟨r, rfl, hr, hb⟩)) <;> (rename_i hHeld; obtain ⟨hB, hC⟩ := hHeld)))
              all_goals
                go_ret2
                exact ⟨_, by rw [HM.out, HX.out]; rfl, by rw [HM.out, HX.out]; simp only [*], below_trans hwj (by (repeat (first | (with_reducible assumption) | (with_reducible apply below_refl) | (with_reducible apply below_alloc1) | (with_reducible apply below_drewN1) | (with_reducible apply below_drew1))))⟩
          · have hjt' : ¬ (j : Int) + 1 < (xs.length : Int) := by omega
            have HM := hid (cross_none (xs := xs) (idxF_neg (reachB (ab .f32 l)) ys (fun i x h hx => hnj.out i x (by have := HL3.out; omega) hx)))
            rw [hcast]
            clear hcast
            go_wp2_with fail
            go_ret2
            exact numOk_no HM.out (by (repeat (first | (with_reducible assumption) | (with_reducible apply below_refl) | (with_reducible apply below_alloc1) | (with_reducible apply below_drewN1) | (with_reducible apply below_drew1))))
end Go.Proofs.Ytkaeohlakeliiaa
