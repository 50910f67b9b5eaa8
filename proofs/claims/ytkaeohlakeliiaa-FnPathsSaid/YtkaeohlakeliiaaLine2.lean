/- Contracts: PathLine, the program's. -/
import Derived.Test.YtkaeohlakeliiaaLine
namespace Go.Proofs.Ytkaeohlakeliiaa
open Go.RowKit

set_option maxRecDepth 100000 in
set_option maxHeartbeats 2000000 in
theorem implLine_any (v u : Value) (xs ys : List Nat) (w : World) (hv : RowAt w v (xs.map (Value.float .f32))) (hu : RowAt w u (ys.map (Value.float .f32))) :
    Calls Try.prog 20 #[v, u] w (Num3Ok (lnM xs ys) w) := by
  have HV := hid hv
  have HU := hid hu
  obtain ⟨ao, cap, b, off, rfl, hao, hl, hm, hc⟩ := hv
  obtain ⟨ao', cap', b', off', rfl, hao', hl', hm', hc'⟩ := hu
  simp only [List.length_map] at hl HV hl' HU hao hao' ⊢
  unfold maxLen at hm hm'
  have HC := hid hc; have HA := hid hao; have HC' := hid hc'; have HA' := hid hao'
  clear hc hao hc' hao'
  cases g1 : pathB xs ys
  · have HM := hid (lnM_no (xs := xs) (ys := ys) (by rw [lnRaw_no (by simp [lnOk, g1])]))
    have G1 := hid g1; clear g1
    go_enter Try.func20, Try.ntmps20
    go_wp2_with (first | (go_at_call 77; (with_reducible refine (arePaths_any _ _ xs ys _ (HV.out.below (by (repeat (first | (with_reducible assumption) | (with_reducible apply below_refl) | (with_reducible apply below_alloc1) | (with_reducible apply below_drewN1) | (with_reducible apply below_drew1))))) (HU.out.below (by (repeat (first | (with_reducible assumption) | (with_reducible apply below_refl) | (with_reducible apply below_alloc1) | (with_reducible apply below_drewN1) | (with_reducible apply below_drew1)))))).mono ?_); rw [G1.out]; rintro e w' ⟨rfl, hb⟩; have hB : Below w.heap.size w w' := below_trans (by (repeat (first | (with_reducible assumption) | (with_reducible apply below_refl) | (with_reducible apply below_alloc1) | (with_reducible apply below_drewN1) | (with_reducible apply below_drew1)))) hb; have hC := (bcell hB).1; clear hb))
    (try simp only [Exit.inBlock, Exit.then]); refine bodyPost_ret (results_four rfl _ _ _) rfl ?_
    exact num3_no HM.out (by assumption)
  obtain ⟨l1, l2, l3, -, -⟩ := pathB_true g1
  have HL3 := hid l3
  obtain rfl := HA.out (by omega)
  obtain rfl := HA'.out (by omega)
  have G1 := hid g1; clear g1 l3
  go_enter Try.func20, Try.ntmps20
  go_wp2_with (first
    | (go_at_call 77; (with_reducible refine (arePaths_any _ _ xs ys _ (HV.out.below (by (repeat (first | (with_reducible assumption) | (with_reducible apply below_refl) | (with_reducible apply below_alloc1) | (with_reducible apply below_drewN1) | (with_reducible apply below_drew1))))) (HU.out.below (by (repeat (first | (with_reducible assumption) | (with_reducible apply below_refl) | (with_reducible apply below_alloc1) | (with_reducible apply below_drewN1) | (with_reducible apply below_drew1)))))).mono ?_); rw [G1.out]; rintro e w' ⟨rfl, hb⟩; have hB : Below w.heap.size w w' := below_trans (by (repeat (first | (with_reducible assumption) | (with_reducible apply below_refl) | (with_reducible apply below_alloc1) | (with_reducible apply below_drewN1) | (with_reducible apply below_drew1)))) hb; have hC := (bcell hB).1; clear hb)
    | (go_at_call 78; (with_reducible refine (addUp_any _ xs _ (HV.out.below (by (repeat (first | (with_reducible assumption) | (with_reducible apply below_refl) | (with_reducible apply below_alloc1) | (with_reducible apply below_drewN1) | (with_reducible apply below_drew1)))))).mono ?_); rintro e w' ⟨r, rfl, hr, hb⟩; (try replace oS := hid (OwnAt.step oS.out (below_trans (by (repeat (first | (with_reducible assumption) | (with_reducible apply below_refl) | (with_reducible apply below_alloc1) | (with_reducible apply below_drewN1) | (with_reducible apply below_drew1)))) hb))); (try replace oX := hid (OwnAt.step oX.out (below_trans (by (repeat (first | (with_reducible assumption) | (with_reducible apply below_refl) | (with_reducible apply below_alloc1) | (with_reducible apply below_drewN1) | (with_reducible apply below_drew1)))) hb))); (try replace oG := hid (OwnAt.step oG.out (below_trans (by (repeat (first | (with_reducible assumption) | (with_reducible apply below_refl) | (with_reducible apply below_alloc1) | (with_reducible apply below_drewN1) | (with_reducible apply below_drew1)))) hb))); (try replace oH := hid (OwnAt.step oH.out (below_trans (by (repeat (first | (with_reducible assumption) | (with_reducible apply below_refl) | (with_reducible apply below_alloc1) | (with_reducible apply below_drewN1) | (with_reducible apply below_drew1)))) hb))); (try replace oY := hid (OwnAt.step oY.out (below_trans (by (repeat (first | (with_reducible assumption) | (with_reducible apply below_refl) | (with_reducible apply below_alloc1) | (with_reducible apply below_drewN1) | (with_reducible apply below_drew1)))) hb))); (try replace oZ := hid (OwnAt.step oZ.out (below_trans (by (repeat (first | (with_reducible assumption) | (with_reducible apply below_refl) | (with_reducible apply below_alloc1) | (with_reducible apply below_drewN1) | (with_reducible apply below_drew1)))) hb))); (try replace oK := hid (OwnAt.step oK.out (below_trans (by (repeat (first | (with_reducible assumption) | (with_reducible apply below_refl) | (with_reducible apply below_alloc1) | (with_reducible apply below_drewN1) | (with_reducible apply below_drew1)))) hb))); (try replace oM := hid (OwnAt.step oM.out (below_trans (by (repeat (first | (with_reducible assumption) | (with_reducible apply below_refl) | (with_reducible apply below_alloc1) | (with_reducible apply below_drewN1) | (with_reducible apply below_drew1)))) hb))); (try replace oT := hid (OwnAt.step oT.out (below_trans (by (repeat (first | (with_reducible assumption) | (with_reducible apply below_refl) | (with_reducible apply below_alloc1) | (with_reducible apply below_drewN1) | (with_reducible apply below_drew1)))) hb))); (try replace oU := hid (OwnAt.step oU.out (below_trans (by (repeat (first | (with_reducible assumption) | (with_reducible apply below_refl) | (with_reducible apply below_alloc1) | (with_reducible apply below_drewN1) | (with_reducible apply below_drew1)))) hb))); (try replace oV := hid (OwnAt.step oV.out (below_trans (by (repeat (first | (with_reducible assumption) | (with_reducible apply below_refl) | (with_reducible apply below_alloc1) | (with_reducible apply below_drewN1) | (with_reducible apply below_drew1)))) hb))); have hB : Below w.heap.size w _ := below_trans (by (repeat (first | (with_reducible assumption) | (with_reducible apply below_refl) | (with_reducible apply below_alloc1) | (with_reducible apply below_drewN1) | (with_reducible apply below_drew1)))) hb; have hC := (bcell hB).1; clear hb)
    | (go_at_call 78; (with_reducible refine (addUp_any _ ys _ (HU.out.below (by (repeat (first | (with_reducible assumption) | (with_reducible apply below_refl) | (with_reducible apply below_alloc1) | (with_reducible apply below_drewN1) | (with_reducible apply below_drew1)))))).mono ?_); rintro e w' ⟨r, rfl, hr, hb⟩; (try replace oS := hid (OwnAt.step oS.out (below_trans (by (repeat (first | (with_reducible assumption) | (with_reducible apply below_refl) | (with_reducible apply below_alloc1) | (with_reducible apply below_drewN1) | (with_reducible apply below_drew1)))) hb))); (try replace oX := hid (OwnAt.step oX.out (below_trans (by (repeat (first | (with_reducible assumption) | (with_reducible apply below_refl) | (with_reducible apply below_alloc1) | (with_reducible apply below_drewN1) | (with_reducible apply below_drew1)))) hb))); (try replace oG := hid (OwnAt.step oG.out (below_trans (by (repeat (first | (with_reducible assumption) | (with_reducible apply below_refl) | (with_reducible apply below_alloc1) | (with_reducible apply below_drewN1) | (with_reducible apply below_drew1)))) hb))); (try replace oH := hid (OwnAt.step oH.out (below_trans (by (repeat (first | (with_reducible assumption) | (with_reducible apply below_refl) | (with_reducible apply below_alloc1) | (with_reducible apply below_drewN1) | (with_reducible apply below_drew1)))) hb))); (try replace oY := hid (OwnAt.step oY.out (below_trans (by (repeat (first | (with_reducible assumption) | (with_reducible apply below_refl) | (with_reducible apply below_alloc1) | (with_reducible apply below_drewN1) | (with_reducible apply below_drew1)))) hb))); (try replace oZ := hid (OwnAt.step oZ.out (below_trans (by (repeat (first | (with_reducible assumption) | (with_reducible apply below_refl) | (with_reducible apply below_alloc1) | (with_reducible apply below_drewN1) | (with_reducible apply below_drew1)))) hb))); (try replace oK := hid (OwnAt.step oK.out (below_trans (by (repeat (first | (with_reducible assumption) | (with_reducible apply below_refl) | (with_reducible apply below_alloc1) | (with_reducible apply below_drewN1) | (with_reducible apply below_drew1)))) hb))); (try replace oM := hid (OwnAt.step oM.out (below_trans (by (repeat (first | (with_reducible assumption) | (with_reducible apply below_refl) | (with_reducible apply below_alloc1) | (with_reducible apply below_drewN1) | (with_reducible apply below_drew1)))) hb))); (try replace oT := hid (OwnAt.step oT.out (below_trans (by (repeat (first | (with_reducible assumption) | (with_reducible apply below_refl) | (with_reducible apply below_alloc1) | (with_reducible apply below_drewN1) | (with_reducible apply below_drew1)))) hb))); (try replace oU := hid (OwnAt.step oU.out (below_trans (by (repeat (first | (with_reducible assumption) | (with_reducible apply below_refl) | (with_reducible apply below_alloc1) | (with_reducible apply below_drewN1) | (with_reducible apply below_drew1)))) hb))); (try replace oV := hid (OwnAt.step oV.out (below_trans (by (repeat (first | (with_reducible assumption) | (with_reducible apply below_refl) | (with_reducible apply below_alloc1) | (with_reducible apply below_drewN1) | (with_reducible apply below_drew1)))) hb))); have hB : Below w.heap.size w _ := below_trans (by (repeat (first | (with_reducible assumption) | (with_reducible apply below_refl) | (with_reducible apply below_alloc1) | (with_reducible apply below_drewN1) | (with_reducible apply below_drew1)))) hb; have hC := (bcell hB).1; clear hb)
    | (refine upon_float rfl ?_; intro r n hr; go_simp))
  rename_i sx hsx _ _ t0 nt ht sy hsy _ _
  generalize r = v0 at hr ⊢
  have HT : Hid (ab .f32 t0 = lnT xs) := hid (by rw [ht, hsx, lnT, lnN, ab_ofInt])
  have HVV : Hid (ab .f32 v0 = lnV xs ys) := hid (by rw [hr, hsy, HL3.out, lnV, lnN, ab_ofInt])
  clear ht hr hsx hsy
  go_loopw [11, 12, 39] (fun x y i wr => ∃ (k : Nat) (p q : Nat), k ≤ xs.length ∧ i = .int .i64 k ∧ x = .float .f32 p ∧ y = .float .f32 q ∧ ab .f32 p = lnUp (ab .f32 t0) (ab .f32 v0) xs ys k ∧ ab .f32 q = lnDn (ab .f32 t0) xs k ∧ Below w.heap.size w wr) (fun _ _ i _ => xs.length - (intOf i).toNat)
  case atStart => exact ⟨0, 0, 0, Nat.zero_le _, rfl, rfl, rfl, ab_z32, ab_z32, by (repeat (first | (with_reducible assumption) | (with_reducible apply below_refl) | (with_reducible apply below_alloc1) | (with_reducible apply below_drewN1) | (with_reducible apply below_drew1)))⟩
  case round =>
    obtain ⟨k, p, q, hk, rfl, rfl, rfl, hp, hq, hw⟩ := hrel
    have hC1 := (bcell hw).1
    by_cases hlt : k < xs.length
    · have hnU := lnUp_next (ab .f32 t0) (ab .f32 v0) xs ys k
      have hnD := lnDn_next (ab .f32 t0) xs k
      have l3 := HL3.out
      have hlt2 : k < ys.length := by omega
      have hcell := rowc HC.out hw k hlt
      have hcell2 := rowc HC'.out hw k hlt2
      rw [atX_get hlt, ← hq] at hnD
      rw [atX_get hlt, atX_get hlt2, ← hp] at hnU
      have hltY : (k : Int) < (ys.length : Int) := by omega
      have HU2 := hid hnU; have HD2 := hid hnD
      clear hnU hnD hp hq l3
      generalize xs[k] = x at hcell HU2 HD2
      generalize ys[k] = y at hcell2 HU2
      go_wp2_with (first
        | (refine upon_float rfl ?_; intro r n hr; go_simp))
      go_roundw
      case rel => exact ⟨k + 1, _, _, by omega, by go_num, rfl, rfl, by rw [HU2.out]; simp only [*], by rw [HD2.out]; simp only [*], by (repeat (first | (with_reducible assumption) | (with_reducible apply below_refl) | (with_reducible apply below_alloc1) | (with_reducible apply below_drewN1) | (with_reducible apply below_drew1)))⟩
      case measure => simp [intOf]; omega
    · obtain rfl : k = xs.length := by omega
      have hD : lnD xs = ab .f32 q := by rw [hq, lnD, ← HT.out]
      have hS : lnS xs ys = fop .quo .f32 (ab .f32 p) (ab .f32 q) := by rw [lnS, hD, hp, ← HT.out, ← HVV.out]
      have HD := hid hD; have HS := hid hS
      clear hD hS hp hq
      cases hz : (ford .f32 (ab .f32 q) (some 0) == some .eq)
      rotate_left
      · have HM := hid (lnM_no (xs := xs) (ys := ys) (by rw [lnRaw_no (by rw [lnOk, HD.out, hz]; simp)]))
        go_wp2_with fail
        (try simp only [Exit.inBlock, Exit.then]); refine bodyPost_ret (results_four rfl _ _ _) rfl ?_
        exact num3_no HM.out (by (repeat (first | (with_reducible assumption) | (with_reducible apply below_refl) | (with_reducible apply below_alloc1) | (with_reducible apply below_drewN1) | (with_reducible apply below_drew1))))
      have HOK := hid (show lnOk xs ys = true by rw [lnOk, HD.out, hz, G1.out]; rfl)
      go_wp2_with (refine upon_float rfl ?_; intro r n hr; go_simp)
      rename_i s0 ns hs p0 np hp0 _ _
      generalize r = b0 at hr ⊢
      have HS2 := hid (HS.out.trans hs.symm)
      have HB2 : Hid (lnB xs ys = ab .f32 b0) := hid (by rw [lnB, HS2.out, ← HT.out, ← HVV.out, hr, hp0])
      clear hs hr hp0
      go_loopw [18, 75] (fun x i wr => ∃ (k : Nat) (p : Nat), k ≤ xs.length ∧ i = .int .i64 k ∧ x = .float .f32 p ∧ ab .f32 p = lnSq (ab .f32 b0) (ab .f32 s0) xs ys k ∧ Below w.heap.size w wr) (fun _ i _ => xs.length - (intOf i).toNat)
      case atStart => exact ⟨0, 0, Nat.zero_le _, rfl, rfl, ab_z32, by (repeat (first | (with_reducible assumption) | (with_reducible apply below_refl) | (with_reducible apply below_alloc1) | (with_reducible apply below_drewN1) | (with_reducible apply below_drew1)))⟩
      case round =>
        obtain ⟨k, z, hk, rfl, rfl, hz2, hw2⟩ := hrel
        have hC2 := (bcell hw2).1
        by_cases hlt : k < xs.length
        · have hnS := lnSq_next (ab .f32 b0) (ab .f32 s0) xs ys k
          have l3 := HL3.out
          have hlt2 : k < ys.length := by omega
          have hcell := rowc HC.out hw2 k hlt
          have hcell2 := rowc HC'.out hw2 k hlt2
          rw [atX_get hlt, atX_get hlt2, ← hz2] at hnS
          have hltY : (k : Int) < (ys.length : Int) := by omega
          have HN := hid hnS
          clear hnS hz2 l3
          generalize xs[k] = x at hcell HN
          generalize ys[k] = y at hcell2 HN
          go_wp2_with (first
            | (refine upon_float rfl ?_; intro r n hr; go_simp))
          go_roundw
          case rel => exact ⟨k + 1, _, by omega, by go_num, rfl, by rw [HN.out]; simp only [*], by (repeat (first | (with_reducible assumption) | (with_reducible apply below_refl) | (with_reducible apply below_alloc1) | (with_reducible apply below_drewN1) | (with_reducible apply below_drew1)))⟩
          case measure => simp [intOf]; omega
        · obtain rfl : k = xs.length := by omega
          have HQ2 : Hid (lnQ xs ys = fop .quo .f32 (ab .f32 z) (some (floatOfInt .f32 (xs.length : Int)))) := hid (by rw [lnQ, HB2.out, HS2.out, ← hz2]; rfl)
          clear hz2
          cases hf : lnFin xs ys
          · have HM := hid (lnM_no (xs := xs) (ys := ys) (by rw [lnRaw_yes HOK.out, hf]))
            have HF := hid hf; clear hf
            go_wp2_with (first
              | (go_at_call 58; refine (areFinite_3 _ _ _ _ HB2.out.symm HS2.out.symm (by rw [HQ2.out]; simp only [*, ab_ofInt]) HF.out _ (rowAt_alloc _ _ [.float .f32 _, .float .f32 _, .float .f32 _] (by simp [maxLen]))).mono ?_; rintro e w' ⟨rfl, hb⟩; have hB : Below w.heap.size w w' := below_trans (by (repeat (first | (with_reducible assumption) | (with_reducible apply below_refl) | (with_reducible apply below_alloc1) | (with_reducible apply below_drewN1) | (with_reducible apply below_drew1)))) hb; have hC := (bcell hB).1; clear hb)
              | (refine upon_float rfl ?_; intro r n hr; go_simp))
            (try simp only [Exit.inBlock, Exit.then]); refine bodyPost_ret (results_four rfl _ _ _) rfl ?_
            exact num3_no HM.out (by (repeat (first | (with_reducible assumption) | (with_reducible apply below_refl) | (with_reducible apply below_alloc1) | (with_reducible apply below_drewN1) | (with_reducible apply below_drew1))))
          · have HM := hid ((lnM_yes (xs := xs) (ys := ys) (by rw [lnRaw_yes HOK.out, hf])).trans (lnRaw_yes HOK.out))
            have HF := hid hf; clear hf
            go_wp2_with (first
              | (go_at_call 58; refine (areFinite_3 _ _ _ _ HB2.out.symm HS2.out.symm (by rw [HQ2.out]; simp only [*, ab_ofInt]) HF.out _ (rowAt_alloc _ _ [.float .f32 _, .float .f32 _, .float .f32 _] (by simp [maxLen]))).mono ?_; rintro e w' ⟨rfl, hb⟩; have hB : Below w.heap.size w w' := below_trans (by (repeat (first | (with_reducible assumption) | (with_reducible apply below_refl) | (with_reducible apply below_alloc1) | (with_reducible apply below_drewN1) | (with_reducible apply below_drew1)))) hb; have hC := (bcell hB).1; clear hb)
              | (refine upon_float rfl ?_; intro r n hr; go_simp))
            (try simp only [Exit.inBlock, Exit.then]); refine bodyPost_ret (results_four rfl _ _ _) rfl ?_
            exact ⟨_, _, _, by rw [HM.out, HF.out]; rfl, by rw [HM.out, HB2.out], by rw [HM.out, HS2.out], by rw [HM.out, HQ2.out]; simp only [*, ab_ofInt], by (repeat (first | (with_reducible assumption) | (with_reducible apply below_refl) | (with_reducible apply below_alloc1) | (with_reducible apply below_drewN1) | (with_reducible apply below_drew1)))⟩
end Go.Proofs.Ytkaeohlakeliiaa
