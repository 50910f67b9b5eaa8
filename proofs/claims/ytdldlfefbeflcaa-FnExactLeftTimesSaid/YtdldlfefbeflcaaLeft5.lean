/- Contracts: LeftTimes, the reference's. -/
import Derived.Test.YtdldlfefbeflcaaLeft3
import Derived.Test.YtdldlfefbeflcaaGrow
namespace Go.Proofs.Ytdldlfefbeflcaa
open Go.RowKit

set_option maxRecDepth 100000 in
set_option maxHeartbeats 2000000 in
theorem specLeft_any (v0 : Value) (xs : List Nat) (d l : Nat) (hd : d < 4294967296) (w : World) (hv : RowAt w v0 (xs.map (Value.float .f32))) :
    Calls Try.prog 5 #[v0, .float .f32 d, .float .f32 l] w (FRowOk 23 (leftXs xs (ab .f32 d) (ab .f32 l)) (leftAll xs (ab .f32 d) (ab .f32 l)) w) := by
  obtain ⟨i0, hi0, hz0, hz1, hz2⟩ := info_parts (P := Try.prog) (e := 23) (z := Value.float .f32 0) (size := 1) (bytes := 4) (by kernel_rfl)
  have HV := hid hv
  obtain ⟨ao, cap, b, off, rfl, hao, hl, hm, hc⟩ := hv
  simp only [List.length_map] at hl HV hao ⊢
  unfold maxLen at hm
  have HC := hid hc; clear hc
  have HA := hid hao; clear hao
  have HD := hid hd; clear hd
  cases g0 : cloudB xs
  · have HE := hid (left_fail (xs := xs) (d := ab .f32 d) (li := ab .f32 l) (by simp [leftOk, g0]))
    have G0 := hid g0; clear g0
    go_enter Try.func5, Try.ntmps5
    go_wp2_with (first | (go_at_call 21; refine (l05Cloud_any _ xs _ (HV.out.below (by (repeat (first | (with_reducible assumption) | (with_reducible apply below_refl) | (with_reducible apply below_alloc1) | (with_reducible apply below_drewN1) | (with_reducible apply below_drew1)))))).mono ?_; rw [G0.out]; rintro e w' ⟨rfl, hb⟩; have hB : Below w.heap.size w w' := below_trans (by (repeat (first | (with_reducible assumption) | (with_reducible apply below_refl) | (with_reducible apply below_alloc1) | (with_reducible apply below_drewN1) | (with_reducible apply below_drew1)))) hb; have hC := (bcell hB).1; clear hb))
    go_ret2
    exact frow_no HE.out.1 HE.out.2 (by assumption)
  have G0 := hid g0
  cases g1 : moreB (ab .f32 d)
  · have HE := hid (left_fail (xs := xs) (d := ab .f32 d) (li := ab .f32 l) (by simp [leftOk, g1]))
    have G1 := hid g1; clear g0 g1
    go_enter Try.func5, Try.ntmps5
    go_wp2_with (first | (go_at_call 21; refine (l05Cloud_any _ xs _ (HV.out.below (by (repeat (first | (with_reducible assumption) | (with_reducible apply below_refl) | (with_reducible apply below_alloc1) | (with_reducible apply below_drewN1) | (with_reducible apply below_drew1)))))).mono ?_; rw [G0.out]; rintro e w' ⟨rfl, hb⟩; have hB : Below w.heap.size w w' := below_trans (by (repeat (first | (with_reducible assumption) | (with_reducible apply below_refl) | (with_reducible apply below_alloc1) | (with_reducible apply below_drewN1) | (with_reducible apply below_drew1)))) hb; have hC := (bcell hB).1; clear hb) | (go_at_call 22; (with_reducible refine (l02Above_any _ _).mono ?_); rw [G1.out]; rintro e w' ⟨rfl, hb⟩; have hB : Below w.heap.size w w' := below_trans (by (repeat (first | (with_reducible assumption) | (with_reducible apply below_refl) | (with_reducible apply below_alloc1) | (with_reducible apply below_drewN1) | (with_reducible apply below_drew1)))) hb; have hC := (bcell hB).1; clear hb))
    go_ret2
    exact frow_no HE.out.1 HE.out.2 (by assumption)
  have G1 := hid g1
  cases g2 : finite32 (ab .f32 l)
  · have HE := hid (left_fail (xs := xs) (d := ab .f32 d) (li := ab .f32 l) (by simp [leftOk, g2]))
    have G2 := hid g2; clear g0 g1 g2
    go_enter Try.func5, Try.ntmps5
    go_wp2_with (first | (go_at_call 21; refine (l05Cloud_any _ xs _ (HV.out.below (by (repeat (first | (with_reducible assumption) | (with_reducible apply below_refl) | (with_reducible apply below_alloc1) | (with_reducible apply below_drewN1) | (with_reducible apply below_drew1)))))).mono ?_; rw [G0.out]; rintro e w' ⟨rfl, hb⟩; have hB : Below w.heap.size w w' := below_trans (by (repeat (first | (with_reducible assumption) | (with_reducible apply below_refl) | (with_reducible apply below_alloc1) | (with_reducible apply below_drewN1) | (with_reducible apply below_drew1)))) hb; have hC := (bcell hB).1; clear hb) | (go_at_call 22; (with_reducible refine (l02Above_any _ _).mono ?_); rw [G1.out]; rintro e w' ⟨rfl, hb⟩; have hB : Below w.heap.size w w' := below_trans (by (repeat (first | (with_reducible assumption) | (with_reducible apply below_refl) | (with_reducible apply below_alloc1) | (with_reducible apply below_drewN1) | (with_reducible apply below_drew1)))) hb; have hC := (bcell hB).1; clear hb) | (go_at_call 23; (with_reducible refine (specFinite_any _ _).mono ?_); rw [G2.out]; rintro e w' ⟨rfl, hb⟩; have hB : Below w.heap.size w w' := below_trans (by (repeat (first | (with_reducible assumption) | (with_reducible apply below_refl) | (with_reducible apply below_alloc1) | (with_reducible apply below_drewN1) | (with_reducible apply below_drew1)))) hb; have hC := (bcell hB).1; clear hb))
    go_ret2
    exact frow_no HE.out.1 HE.out.2 (by assumption)
  have G2 := hid g2
  have HOK := hid (show leftOk xs (ab .f32 d) (ab .f32 l) = true by simp [leftOk, g0, g1, g2])
  obtain ⟨l1, l2⟩ := left_len HOK.out
  have HALL := hid (show leftAll xs (ab .f32 d) (ab .f32 l) = finL (leftL (ab .f32 d) (ab .f32 l) xs xs.length) by simp [leftAll, HOK.out])
  have HFX := hid (show ∀ k (h : k < xs.length), finite32 (ab .f32 xs[k]) = true from (cloudB_true g0).2.2)
  have HFL := hid g2
  clear g0 g1 g2
  obtain rfl := HA.out (by omega)
  go_enter Try.func5, Try.ntmps5
  go_wp2_with (first | (go_at_call 21; refine (l05Cloud_any _ xs _ (HV.out.below (by (repeat (first | (with_reducible assumption) | (with_reducible apply below_refl) | (with_reducible apply below_alloc1) | (with_reducible apply below_drewN1) | (with_reducible apply below_drew1)))))).mono ?_; rw [G0.out]; rintro e w' ⟨rfl, hb⟩; have hB : Below w.heap.size w w' := below_trans (by (repeat (first | (with_reducible assumption) | (with_reducible apply below_refl) | (with_reducible apply below_alloc1) | (with_reducible apply below_drewN1) | (with_reducible apply below_drew1)))) hb; have hC := (bcell hB).1; clear hb) | (go_at_call 22; (with_reducible refine (l02Above_any _ _).mono ?_); rw [G1.out]; rintro e w' ⟨rfl, hb⟩; have hB : Below w.heap.size w w' := below_trans (by (repeat (first | (with_reducible assumption) | (with_reducible apply below_refl) | (with_reducible apply below_alloc1) | (with_reducible apply below_drewN1) | (with_reducible apply below_drew1)))) hb; have hC := (bcell hB).1; clear hb) | (go_at_call 23; (with_reducible refine (specFinite_any _ _).mono ?_); rw [G2.out]; rintro e w' ⟨rfl, hb⟩; have hB : Below w.heap.size w w' := below_trans (by (repeat (first | (with_reducible assumption) | (with_reducible apply below_refl) | (with_reducible apply below_alloc1) | (with_reducible apply below_drewN1) | (with_reducible apply below_drew1)))) hb; have hC := (bcell hB).1; clear hb))
  have hsz := (show Below w.heap.size w _ from by assumption).size
  go_loopw [8, 27] (fun v y wr => ∃ (k : Nat) (zs : List Nat), k ≤ xs.length ∧ y = .int .i64 k ∧ Hid (zs.map (ab .f32) = leftL (ab .f32 d) (ab .f32 l) xs k) ∧ Hid (wr.ownsRow w.heap.size 23 1 v (zs.map (Value.float .f32)).length (zs.map (Value.float .f32))) ∧ Below w.heap.size w wr) (fun _ y _ => xs.length - (intOf y).toNat)
  case atStart => exact ⟨0, [], by omega, rfl, hid rfl, hid (World.ownsRow_made _ #[] 0 hsz (by simp [maxLen]) rfl), by (repeat (first | (with_reducible assumption) | (with_reducible apply below_refl) | (with_reducible apply below_alloc1) | (with_reducible apply below_drewN1) | (with_reducible apply below_drew1)))⟩
  case round =>
    obtain ⟨k, zs, hk, rfl, hx, ho, hw⟩ := hrel
    have hlen : zs.length = k := by have := congrArg List.length hx.out; simpa [leftL_len] using this
    have HLEN := hid hlen; clear hlen
    by_cases hlt : k < xs.length
    · have hcell := rowc HC.out hw k hlt
      have hgd : ab .f32 (xs.getD k 0) = ab .f32 xs[k] := by rw [getD_atM xs k hlt]
      have hC1 := (bcell hw).1
      have hltI : (k : Int) < (xs.length : Int) := by omega
      have hk0 : (0 : Int) ≤ (k : Int) := by omega
      obtain ⟨a1, ha1⟩ := isV_of_fin32 HFL.out
      obtain ⟨a2, ha2⟩ := isV_of_fin32 (HFX.out k hlt)
      obtain ⟨c, hford⟩ := left_cmp ha1 ha2
      clear ha1 ha2
      generalize xs[k] = y at hcell hgd hford
      have HX := hid (leftX_cmp (d := ab .f32 d) hgd hford)
      clear hgd
      cases c
      all_goals
        go_wp2_with (first | (refine upon_float rfl ?_; intro r n hr; go_simp) | (at_builtin; refine wpList_push rfl _ _ 22 rfl Try.underlying22 hi0 hz0 hz1 hz2 rfl w.heap.size _ _ rfl rfl (ownsRow_below ho.out (by (repeat (first | (with_reducible assumption) | (with_reducible apply below_refl) | (with_reducible apply below_alloc1) | (with_reducible apply below_drewN1) | (with_reducible apply below_drew1))))) rfl (by rw [List.length_map, HLEN.out]; omega) (by decide) (Nat.le_trans hw.size (Below.size (show Below wr.heap.size wr _ by (repeat (first | (with_reducible assumption) | (with_reducible apply below_refl) | (with_reducible apply below_alloc1) | (with_reducible apply below_drewN1) | (with_reducible apply below_drew1)))))) ?_; intro v1 w2 hown hb2))
        go_roundw
        case rel =>
          refine ⟨k + 1, zs ++ [r], by omega, by go_num, hid ?_, hid (by rw [fl_vals]; exact hown), (below_trans hw (by (repeat (first | (with_reducible assumption) | (with_reducible apply below_refl) | (with_reducible apply below_alloc1) | (with_reducible apply below_drewN1) | (with_reducible apply below_drew1))))).trans hb2⟩
          rw [leftL_next]
          exact fl_push hx.out (by rw [HX.out, hr]; simp only [*, ab_z32]; rfl)
        case measure => simp [intOf]; omega
    · obtain rfl : k = xs.length := by omega
      obtain ⟨hpos, hbits⟩ := left_bits HD.out HOK.out hx.out
      have HP := hid hpos; have HB := hid hbits
      clear hpos hbits
      cases hfin : finL (leftL (ab .f32 d) (ab .f32 l) xs xs.length)
      · have HE := hid (left_no (xs := xs) (d := ab .f32 d) (li := ab .f32 l) (by rw [HALL.out, hfin]))
        have HE3 := hid (HALL.out.trans hfin)
        have HF := hid (show (zs.all fun b => finB (ab .f32 b)) = false by rw [finL_map, hx.out, hfin])
        clear hfin
        go_wp2_with ((go_at_call 24; (with_reducible refine (l02Finite_any _ zs _ (Own.mk' ho.out).row).mono ?_); rw [HF.out]; rintro e w' ⟨rfl, hb⟩; have hB : Below wr.heap.size wr w' := below_trans (by (repeat (first | (with_reducible assumption) | (with_reducible apply below_refl) | (with_reducible apply below_alloc1) | (with_reducible apply below_drewN1) | (with_reducible apply below_drew1)))) hb; have hC := (bcell hB).1; clear hb))
        go_ret2
        exact frow_no HE.out HE3.out (below_trans hw (by assumption))
      · have HE := hid (left_yes (xs := xs) (d := ab .f32 d) (li := ab .f32 l) (by rw [HALL.out, hfin]))
        have HE3 := hid (HALL.out.trans hfin)
        have HF := hid (show (zs.all fun b => finB (ab .f32 b)) = true by rw [finL_map, hx.out, hfin])
        have HZ := hid (show 1 ≤ zs.length ∧ zs.length ≤ 64 by rw [HLEN.out]; omega)
        clear hfin
        go_wp2_with (first
          | (go_at_call 24; (with_reducible refine (l02Finite_any _ zs _ (Own.mk' ho.out).row).mono ?_); rw [HF.out]; rintro e w' ⟨rfl, hb⟩; have hB : Below wr.heap.size wr w' := below_trans (by (repeat (first | (with_reducible assumption) | (with_reducible apply below_refl) | (with_reducible apply below_alloc1) | (with_reducible apply below_drewN1) | (with_reducible apply below_drew1)))) hb; have hC := (bcell hB).1; clear hb)
          | (go_at_call 25; (with_reducible refine (l05Sorted_any _ zs HZ.out.1 HZ.out.2 HP.out _ ((Own.mk' ho.out).row.below (by (repeat (first | (with_reducible assumption) | (with_reducible apply below_refl) | (with_reducible apply below_alloc1) | (with_reducible apply below_drewN1) | (with_reducible apply below_drew1)))))).mono ?_); rintro e w' ⟨u, rfl, hou, hb⟩; have hlo := Nat.le_trans hw.size (Below.size (show Below wr.heap.size wr _ by (repeat (first | (with_reducible assumption) | (with_reducible apply below_refl) | (with_reducible apply below_alloc1) | (with_reducible apply below_drewN1) | (with_reducible apply below_drew1))))); have hB : Below wr.heap.size wr w' := below_trans (by (repeat (first | (with_reducible assumption) | (with_reducible apply below_refl) | (with_reducible apply below_alloc1) | (with_reducible apply below_drewN1) | (with_reducible apply below_drew1)))) hb; clear hb))
        go_ret2
        exact frow_yes HE3.out (by rw [HE.out, ← HB.out]; exact ownsRow_low hou hlo) (below_trans hw (by assumption))
end Go.Proofs.Ytdldlfefbeflcaa
