/- Contracts: LeftTimes, the program's. -/
import Derived.Test.YtdldlfefbeflcaaSort14
import Derived.Test.YtdldlfefbeflcaaLeft1
import Derived.Test.YtdldlfefbeflcaaDraw
import Derived.Test.YtdldlfefbeflcaaGrow
namespace Go.Proofs.Ytdldlfefbeflcaa
open Go.RowKit

theorem made_row {w1 : World} {a b n : Nat} {E : TypeId} (h : w1.ownsRow a E 1 (.slice (some ⟨b, 0, none⟩) n n) n (madeCells (Value.float .f32 0).cells (n * 1)).toList) : RowAt w1 (.slice (some ⟨b, 0, none⟩) n n) ((List.replicate n 0).map (Value.float .f32)) := by
  simp only [Nat.mul_one] at h
  rw [show (Value.float .f32 0).cells = #[Value.float .f32 0] from rfl, toList_madeCells_one] at h
  rw [show (List.replicate n (Value.float .f32 0)) = (List.replicate n 0).map (Value.float .f32) by simp] at h
  exact (Own.mk' (by simpa using h)).row
set_option maxRecDepth 100000 in
set_option maxHeartbeats 2000000 in
theorem implLeft_any (v0 : Value) (xs : List Nat) (d l : Nat) (hd : d < 4294967296) (w : World) (hv : RowAt w v0 (xs.map (Value.float .f32))) (hn : xs.length ≤ 1048576) :
    Calls Try.prog 7 #[v0, .float .f32 d, .float .f32 l] w (FRowOk 23 (leftXs xs (ab .f32 d) (ab .f32 l)) (leftAll xs (ab .f32 d) (ab .f32 l)) w) := by
  obtain ⟨i0, hi0, hz0, hz1, hz2⟩ := info_parts (P := Try.prog) (e := 23) (z := Value.float .f32 0) (size := 1) (bytes := 4) (by kernel_rfl)
  have HV := hid hv
  obtain ⟨ao, cap, b, off, rfl, hao, hl, hm, hc⟩ := hv
  simp only [List.length_map] at hl HV hao ⊢
  unfold maxLen at hm
  have HC := hid hc; clear hc
  have HA := hid hao; clear hao
  have HD := hid hd; clear hd
  cases g0 : cloudB xs
  · have HE := hid (left_fail (xs := xs) (d := ab .f32 d) (li := ab .f32 l) (by simp [leftOk, g0]))
    have G0 := hid g0; clear g0
    go_enter Try.func7, Try.ntmps7
    go_wp2_with (at_make; refine wpList_make_full _ rfl _ _ 22 rfl w.heap.size 23 i0 (Value.float .f32 0) 1 Try.underlying22 hi0 hz0 hz1 _ _ _ _ xs.length rfl rfl rfl rfl (by rw [hz2]; omega) (by simp only [maxLen]; omega) (Nat.le_refl _) ?_; intro w1 hown hgrow)
    have hb1 : Below w.heap.size w w1 := wrote_below (u := .slice none 0 0) hgrow (by simp [Value.ownBlock]) (Nat.le_refl _)
    have HO := hid (made_row hown)
    clear hown hgrow
    refine (areParticles_any _ _ xs (List.replicate xs.length 0) _ (HV.out.below hb1) HO.out).mono ?_
    rw [partsB_zero, G0.out]
    rintro e w' ⟨rfl, hb⟩
    have hB : Below w1.heap.size w1 w' := below_trans (by (repeat (first | (with_reducible assumption) | (with_reducible apply below_refl) | (with_reducible apply below_alloc1) | (with_reducible apply below_drewN1) | (with_reducible apply below_drew1)))) hb
    have hC := (bcell hB).1
    clear hb
    go_wp2_with fail
    go_ret2
    exact frow_no HE.out.1 HE.out.2 (below_trans hb1 (by assumption))
  have G0 := hid g0
  cases g1 : moreB (ab .f32 d)
  · have HE := hid (left_fail (xs := xs) (d := ab .f32 d) (li := ab .f32 l) (by simp [leftOk, g1]))
    have G1 := hid g1; clear g0 g1
    go_enter Try.func7, Try.ntmps7
    go_wp2_with (at_make; refine wpList_make_full _ rfl _ _ 22 rfl w.heap.size 23 i0 (Value.float .f32 0) 1 Try.underlying22 hi0 hz0 hz1 _ _ _ _ xs.length rfl rfl rfl rfl (by rw [hz2]; omega) (by simp only [maxLen]; omega) (Nat.le_refl _) ?_; intro w1 hown hgrow)
    have hb1 : Below w.heap.size w w1 := wrote_below (u := .slice none 0 0) hgrow (by simp [Value.ownBlock]) (Nat.le_refl _)
    have HO := hid (made_row hown)
    clear hown hgrow
    refine (areParticles_any _ _ xs (List.replicate xs.length 0) _ (HV.out.below hb1) HO.out).mono ?_
    rw [partsB_zero, G0.out]
    rintro e w' ⟨rfl, hb⟩
    have hB : Below w1.heap.size w1 w' := below_trans (by (repeat (first | (with_reducible assumption) | (with_reducible apply below_refl) | (with_reducible apply below_alloc1) | (with_reducible apply below_drewN1) | (with_reducible apply below_drew1)))) hb
    have hC := (bcell hB).1
    clear hb
    go_wp2_with (first | (go_at_call 27; refine (areMore_1 _ d rfl G1.out _ (rowAt_alloc _ _ [.float .f32 d] (by simp [maxLen]))).mono ?_; rintro e w' ⟨rfl, hb⟩; have hB : Below w1.heap.size w1 w' := below_trans (by (repeat (first | (with_reducible assumption) | (with_reducible apply below_refl) | (with_reducible apply below_alloc1) | (with_reducible apply below_drewN1) | (with_reducible apply below_drew1)))) hb; have hC := (bcell hB).1; clear hb))
    go_ret2
    exact frow_no HE.out.1 HE.out.2 (below_trans hb1 (by assumption))
  have G1 := hid g1
  cases g2 : finite32 (ab .f32 l)
  · have HE := hid (left_fail (xs := xs) (d := ab .f32 d) (li := ab .f32 l) (by simp [leftOk, g2]))
    have G2 := hid g2; clear g0 g1 g2
    go_enter Try.func7, Try.ntmps7
    go_wp2_with (at_make; refine wpList_make_full _ rfl _ _ 22 rfl w.heap.size 23 i0 (Value.float .f32 0) 1 Try.underlying22 hi0 hz0 hz1 _ _ _ _ xs.length rfl rfl rfl rfl (by rw [hz2]; omega) (by simp only [maxLen]; omega) (Nat.le_refl _) ?_; intro w1 hown hgrow)
    have hb1 : Below w.heap.size w w1 := wrote_below (u := .slice none 0 0) hgrow (by simp [Value.ownBlock]) (Nat.le_refl _)
    have HO := hid (made_row hown)
    clear hown hgrow
    refine (areParticles_any _ _ xs (List.replicate xs.length 0) _ (HV.out.below hb1) HO.out).mono ?_
    rw [partsB_zero, G0.out]
    rintro e w' ⟨rfl, hb⟩
    have hB : Below w1.heap.size w1 w' := below_trans (by (repeat (first | (with_reducible assumption) | (with_reducible apply below_refl) | (with_reducible apply below_alloc1) | (with_reducible apply below_drewN1) | (with_reducible apply below_drew1)))) hb
    have hC := (bcell hB).1
    clear hb
    go_wp2_with (first | (go_at_call 27; refine (areMore_1 _ d rfl G1.out _ (rowAt_alloc _ _ [.float .f32 d] (by simp [maxLen]))).mono ?_; rintro e w' ⟨rfl, hb⟩; have hB : Below w1.heap.size w1 w' := below_trans (by (repeat (first | (with_reducible assumption) | (with_reducible apply below_refl) | (with_reducible apply below_alloc1) | (with_reducible apply below_drewN1) | (with_reducible apply below_drew1)))) hb; have hC := (bcell hB).1; clear hb) | (go_at_call 28; (with_reducible refine (implFinite_any _ _).mono ?_); rw [G2.out]; rintro e w' ⟨rfl, hb⟩; have hB : Below w1.heap.size w1 w' := below_trans (by (repeat (first | (with_reducible assumption) | (with_reducible apply below_refl) | (with_reducible apply below_alloc1) | (with_reducible apply below_drewN1) | (with_reducible apply below_drew1)))) hb; have hC := (bcell hB).1; clear hb))
    go_ret2
    exact frow_no HE.out.1 HE.out.2 (below_trans hb1 (by assumption))
  have G2 := hid g2
  have HOK := hid (show leftOk xs (ab .f32 d) (ab .f32 l) = true by simp [leftOk, g0, g1, g2])
  obtain ⟨l1, l2⟩ := left_len HOK.out
  have HALL := hid (show leftAll xs (ab .f32 d) (ab .f32 l) = finL (leftL (ab .f32 d) (ab .f32 l) xs xs.length) by simp [leftAll, HOK.out])
  have HFX := hid (show ∀ k (h : k < xs.length), finite32 (ab .f32 xs[k]) = true from (cloudB_true g0).2.2)
  have HFL := hid g2
  clear g0 g1 g2
  obtain rfl := HA.out (by omega)
  go_enter Try.func7, Try.ntmps7
  go_wp2_with (at_make; refine wpList_make_full _ rfl _ _ 22 rfl w.heap.size 23 i0 (Value.float .f32 0) 1 Try.underlying22 hi0 hz0 hz1 _ _ _ _ xs.length rfl rfl rfl rfl (by rw [hz2]; omega) (by simp only [maxLen]; omega) (Nat.le_refl _) ?_; intro w1 hown hgrow)
  have hb1 : Below w.heap.size w w1 := wrote_below (u := .slice none 0 0) hgrow (by simp [Value.ownBlock]) (Nat.le_refl _)
  have HO := hid (made_row hown)
  clear hown hgrow
  refine (areParticles_any _ _ xs (List.replicate xs.length 0) _ (HV.out.below hb1) HO.out).mono ?_
  rw [partsB_zero, G0.out]
  rintro e w' ⟨rfl, hb⟩
  have hB : Below w1.heap.size w1 w' := below_trans (by (repeat (first | (with_reducible assumption) | (with_reducible apply below_refl) | (with_reducible apply below_alloc1) | (with_reducible apply below_drewN1) | (with_reducible apply below_drew1)))) hb
  have hC := (bcell hB).1
  clear hb
  have hlo1 := hb1.size
  go_wp2_with (first | (go_at_call 27; refine (areMore_1 _ d rfl G1.out _ (rowAt_alloc _ _ [.float .f32 d] (by simp [maxLen]))).mono ?_; rintro e w' ⟨rfl, hb⟩; have hB : Below w1.heap.size w1 w' := below_trans (by (repeat (first | (with_reducible assumption) | (with_reducible apply below_refl) | (with_reducible apply below_alloc1) | (with_reducible apply below_drewN1) | (with_reducible apply below_drew1)))) hb; have hC := (bcell hB).1; clear hb) | (go_at_call 28; (with_reducible refine (implFinite_any _ _).mono ?_); rw [G2.out]; rintro e w' ⟨rfl, hb⟩; have hB : Below w1.heap.size w1 w' := below_trans (by (repeat (first | (with_reducible assumption) | (with_reducible apply below_refl) | (with_reducible apply below_alloc1) | (with_reducible apply below_drewN1) | (with_reducible apply below_drew1)))) hb; have hC := (bcell hB).1; clear hb))
  have hsz := (show Below w1.heap.size w1 _ from by assumption).size
  go_loopw [8, 32] (fun v y wr => ∃ (k : Nat) (zs : List Nat), k ≤ xs.length ∧ y = .int .i64 k ∧ Hid (zs.map (ab .f32) = leftL (ab .f32 d) (ab .f32 l) xs k) ∧ Hid (wr.ownsRow w1.heap.size 23 1 v (zs.map (Value.float .f32)).length (zs.map (Value.float .f32))) ∧ Below w1.heap.size w1 wr) (fun _ y _ => xs.length - (intOf y).toNat)
  case atStart => exact ⟨0, [], by omega, rfl, hid rfl, hid (World.ownsRow_made _ #[] 0 hsz (by simp [maxLen]) rfl), by (repeat (first | (with_reducible assumption) | (with_reducible apply below_refl) | (with_reducible apply below_alloc1) | (with_reducible apply below_drewN1) | (with_reducible apply below_drew1)))⟩
  case round =>
    obtain ⟨k, zs, hk, rfl, hx, ho, hv1⟩ := hrel
    have hw := below_trans hb1 hv1
    have hlen : zs.length = k := by have := congrArg List.length hx.out; simpa [leftL_len] using this
    have HLEN := hid hlen; clear hlen
    by_cases hlt : k < xs.length
    · have hcell := rowc HC.out hw k hlt
      have hgd : ab .f32 (xs.getD k 0) = ab .f32 xs[k] := by rw [getD_atM xs k hlt]
      have hC1 := (bcell hw).1
      have hltI : (k : Int) < (xs.length : Int) := by omega
      have hk0 : (0 : Int) ≤ (k : Int) := by omega
      obtain ⟨a1, ha1⟩ := isV_of_fin32 HFL.out
      obtain ⟨a2, ha2⟩ := isV_of_fin32 (HFX.out k hlt)
      obtain ⟨c, hford⟩ := left_cmp ha1 ha2
      clear ha1 ha2
      generalize xs[k] = y at hcell hgd hford
      have HX := hid (leftX_cmp (d := ab .f32 d) hgd hford)
      clear hgd
      cases c
      all_goals
        go_wp2_with (first | (refine upon_float rfl ?_; intro r n hr; go_simp) | (at_builtin; refine wpList_push rfl _ _ 22 rfl Try.underlying22 hi0 hz0 hz1 hz2 rfl w1.heap.size _ _ rfl rfl (ownsRow_below ho.out (by (repeat (first | (with_reducible assumption) | (with_reducible apply below_refl) | (with_reducible apply below_alloc1) | (with_reducible apply below_drewN1) | (with_reducible apply below_drew1))))) rfl (by rw [List.length_map, HLEN.out]; omega) (by decide) (Nat.le_trans hv1.size (Below.size (show Below wr.heap.size wr _ by (repeat (first | (with_reducible assumption) | (with_reducible apply below_refl) | (with_reducible apply below_alloc1) | (with_reducible apply below_drewN1) | (with_reducible apply below_drew1)))))) ?_; intro v1 w2 hown hb2))
        go_roundw
        case rel =>
          refine ⟨k + 1, zs ++ [r], by omega, by go_num, hid ?_, hid (by rw [fl_vals]; exact hown), (below_trans hv1 (by (repeat (first | (with_reducible assumption) | (with_reducible apply below_refl) | (with_reducible apply below_alloc1) | (with_reducible apply below_drewN1) | (with_reducible apply below_drew1))))).trans hb2⟩
          rw [leftL_next]
          exact fl_push hx.out (by rw [HX.out, hr]; simp only [*, ab_z32]; rfl)
        case measure => simp [intOf]; omega
    · obtain rfl : k = xs.length := by omega
      obtain ⟨hpos, hbits⟩ := left_bits HD.out HOK.out hx.out
      have HP := hid hpos; have HB := hid hbits
      have HL1 := hid (show zs.length ≤ 64 by rw [HLEN.out]; omega)
      have hz1 : 1 ≤ zs.length := by rw [HLEN.out]; omega
      clear hpos hbits
      obtain ⟨g, capo, rfl, hg0, hg1⟩ := ho.out.form (show 0 < (zs.map (Value.float .f32)).length by rw [List.length_map]; omega)
      have HS := hid (SRow.of_row (show wr.ownsRow w1.heap.size 23 1 (.slice (some ⟨g, 0, none⟩) zs.length capo) zs.length (zs.map (Value.float .f32)) by have := ho.out; rwa [List.length_map] at this) HP.out)
      have HSO := hid (sort_list zs)
      have hlo := hv1.size
      simp only [List.length_map] at ho ⊢
      have HCA := hid (show ∀ w2 : World, Below wr.heap.size wr w2 → Calls Try.prog 29 #[.slice (some ⟨g, 0, none⟩) zs.length capo] w2 fun e w' => SOk 23 w1.heap.size g capo zs.length (Sort.sort ltN zs.toArray) e w' w2 from fun w2 hb => sort_any w1.heap.size g capo zs.length zs.toArray HL1.out w2 (Nat.le_trans hlo hb.size) (HS.out.below hb))
      obtain ⟨n, hn⟩ : ∃ n, zs.length = n := ⟨_, rfl⟩
      rw [hn] at HCA ⊢
      have HN := hid hn
      clear hn hz1
      cases hfin : finL (leftL (ab .f32 d) (ab .f32 l) xs xs.length)
      · have HE := hid (left_no (xs := xs) (d := ab .f32 d) (li := ab .f32 l) (by rw [HALL.out, hfin]))
        have HE3 := hid (HALL.out.trans hfin)
        have HF := hid (show ((srt zs).all fun b => finB (ab .f32 b)) = false by rw [srt_finL, hx.out, hfin])
        clear hfin
        go_wp2_with (first
          | (go_at_call 29; go_loud (refine (HCA.out _ (by (repeat (first | (with_reducible assumption) | (with_reducible apply below_refl) | (with_reducible apply below_alloc1) | (with_reducible apply below_drewN1) | (with_reducible apply below_drew1))))).mono ?_); rintro e w2 ⟨rfl, hs2, hb2⟩; have hs3 := hid hs2.out; rw [HSO.out] at hs3; clear hs2; have hw2 := hv1.trans hb2)
          | (go_at_call 30; (with_reducible refine (ifAll_no _ (srt zs) HF.out _ (Own.mk' hs3.out).row).mono ?_); rintro e w' ⟨rfl, hb⟩; have hB : Below w2.heap.size w2 w' := below_trans (by (repeat (first | (with_reducible assumption) | (with_reducible apply below_refl) | (with_reducible apply below_alloc1) | (with_reducible apply below_drewN1) | (with_reducible apply below_drew1)))) hb; have hC := (bcell hB).1; clear hb))
        go_ret2
        exact frow_no HE.out HE3.out (below_trans hb1 (below_trans hw2 (by assumption)))
      · have HE := hid (left_yes (xs := xs) (d := ab .f32 d) (li := ab .f32 l) (by rw [HALL.out, hfin]))
        have HE3 := hid (HALL.out.trans hfin)
        have HF := hid (show ((srt zs).all fun b => finB (ab .f32 b)) = true by rw [srt_finL, hx.out, hfin])
        clear hfin
        go_wp2_with (first
          | (go_at_call 29; go_loud (refine (HCA.out _ (by (repeat (first | (with_reducible assumption) | (with_reducible apply below_refl) | (with_reducible apply below_alloc1) | (with_reducible apply below_drewN1) | (with_reducible apply below_drew1))))).mono ?_); rintro e w2 ⟨rfl, hs2, hb2⟩; have hs3 := hid hs2.out; rw [HSO.out] at hs3; clear hs2; have hw2 := hv1.trans hb2)
          | (go_at_call 30; (with_reducible refine (ifAll_yes _ (srt zs) HF.out _ (Own.mk' hs3.out).row).mono ?_); rintro e w' ⟨rfl, hb⟩; have hB : Below w2.heap.size w2 w' := below_trans (by (repeat (first | (with_reducible assumption) | (with_reducible apply below_refl) | (with_reducible apply below_alloc1) | (with_reducible apply below_drewN1) | (with_reducible apply below_drew1)))) hb; have hC := (bcell hB).1; clear hb))
        go_ret2
        exact frow_yes HE3.out (by rw [HE.out, ← HB.out]; exact ownsRow_low (ownsRow_below hs3.out (by assumption)) hlo1) (below_trans hb1 (below_trans hw2 (by assumption)))
end Go.Proofs.Ytdldlfefbeflcaa
