/- Contracts: StressFit, the program's. -/
import Derived.Test.YtkaeohlakeliiaaStress
namespace Go.Proofs.Ytkaeohlakeliiaa
open Go.RowKit

set_option maxRecDepth 100000 in
set_option maxHeartbeats 400000 in
theorem stressOf_any (kind : Int) (x : Nat) (hk : inB kind 0 2 = true) (hx : moreB (ab .f32 x) = true) (w : World) :
    Calls Try.prog 87 #[.int .i64 kind, .float .f32 x] w fun e w' => ∃ r, e = .returned (.float .f32 r) ∧ ab .f32 r = stK kind (ab .f32 x) ∧ stK kind (ab .f32 x) ≠ none ∧ Below w.heap.size w w' := by
  have hk2 := inB_true hk
  have HX := hid hx
  have HG := hid (more_gt hx)
  clear hx hk
  by_cases k0 : kind = 0
  · subst k0
    go_enter Try.func87, Try.ntmps87
    go_wp2_with (refine upon_float rfl ?_; intro r n hr; go_simp)
    go_ret
    exact ⟨_, rfl, by rw [hr, ab_one32]; rfl, quo_some HX.out, by (repeat (first | (with_reducible assumption) | (with_reducible apply below_refl) | (with_reducible apply below_alloc1) | (with_reducible apply below_drewN1) | (with_reducible apply below_drew1)))⟩
  by_cases k1 : kind = 1
  · subst k1
    go_enter Try.func87, Try.ntmps87
    go_wp2_with (go_at_call 55; refine (implLog_any _ HG.out _).mono ?_; rintro e w' ⟨r, rfl, hr, hb⟩)
    go_ret
    exact ⟨_, rfl, (lgOk_at HX.out hr).1, (lgOk_at HX.out hr).2, by (repeat (first | (with_reducible assumption) | (with_reducible apply below_refl) | (with_reducible apply below_alloc1) | (with_reducible apply below_drewN1) | (with_reducible apply below_drew1)))⟩
  obtain rfl : kind = 2 := by omega
  clear k0 k1 hk2
  go_enter Try.func87, Try.ntmps87
  go_wp2_with fail
  go_ret
  refine ⟨_, rfl, rfl, fun e => ?_, by (repeat (first | (with_reducible assumption) | (with_reducible apply below_refl) | (with_reducible apply below_alloc1) | (with_reducible apply below_drewN1) | (with_reducible apply below_drew1)))⟩
  have h1 := HG.out
  rw [show stK 2 (ab .f32 x) = ab .f32 x from rfl] at e
  rw [e, ford_none_left] at h1
  cases h1
theorem fit_next {α : Type} (xs : List Nat) (f : Nat → α) (k : Nat) (h : k < xs.length) : (xs.take (k + 1)).map f = (xs.take k).map f ++ [f xs[k]] := by
  rw [List.take_succ_eq_append_getElem h, List.map_append]; rfl
theorem some_next {L : List (Option Nat)} {o : Option Nat} (h : someL L) (ho : o ≠ none) : someL (L ++ [o]) := by
  intro p hp
  rcases List.mem_append.1 hp with h1 | h1
  · exact h p h1
  · rw [List.mem_singleton.1 h1]; exact ho
set_option maxRecDepth 100000 in
set_option maxHeartbeats 2000000 in
theorem implFit_any (v u : Value) (kind : Int) (xs ys : List Nat) (w : World) (hv : RowAt w v (xs.map (Value.float .f32))) (hu : RowAt w u (ys.map (Value.float .f32))) (hxl : xs.length ≤ 1048576) (hyl : ys.length ≤ 1048576) :
    Calls Try.prog 29 #[.int .i64 kind, v, u] w (TwoOk (fitM kind xs ys) w) := by
  obtain ⟨i0, hi0, hz0, hz1, hz2⟩ := info_parts (P := Try.prog) (e := 27) (z := Value.float .f32 0) (size := 1) (bytes := 4) (by kernel_rfl)
  have HV := hid hv
  have HU := hid hu
  obtain ⟨ao, cap, b, off, rfl, hao, hl, hm, hc⟩ := hv
  obtain ⟨ao', cap', b', off', rfl, hao', hl', hm', hc'⟩ := hu
  simp only [List.length_map] at hl HV hl' HU hao hao' ⊢
  unfold maxLen at hm hm'
  have HC := hid hc; have HA := hid hao; have HC' := hid hc'; have HA' := hid hao'
  clear hc hao hc' hao'
  cases g1 : inB kind 0 2
  · have HM := hid (fit_no (kind := kind) (xs := xs) (ys := ys) (by simp [fitOk, g1]))
    have G1 := hid g1; clear g1
    go_enter Try.func29, Try.ntmps29
    go_wp2_with (first | (go_at_call 62; (with_reducible refine (within_any _ _ _ _).mono ?_); rw [G1.out]; rintro e w' ⟨rfl, hb⟩; have hB : Below w.heap.size w w' := below_trans (by (repeat (first | (with_reducible assumption) | (with_reducible apply below_refl) | (with_reducible apply below_alloc1) | (with_reducible apply below_drewN1) | (with_reducible apply below_drew1)))) hb; have hC := (bcell hB).1; clear hb))
    go_ret3
    exact twoOk_no HM.out (by assumption)
  have G1 := hid g1
  cases g2 : (xs.all fun b => moreB (ab .f32 b))
  · have HM := hid (fit_no (kind := kind) (xs := xs) (ys := ys) (by simp only [fitOk, g2, Bool.and_false, Bool.false_and]))
    have G2 := hid g2; clear g1 g2
    go_enter Try.func29, Try.ntmps29
    go_wp2_with (first | (go_at_call 62; (with_reducible refine (within_any _ _ _ _).mono ?_); rw [G1.out]; rintro e w' ⟨rfl, hb⟩; have hB : Below w.heap.size w w' := below_trans (by (repeat (first | (with_reducible assumption) | (with_reducible apply below_refl) | (with_reducible apply below_alloc1) | (with_reducible apply below_drewN1) | (with_reducible apply below_drew1)))) hb; have hC := (bcell hB).1; clear hb) | (go_at_call 56; (with_reducible refine (areMore_any _ xs _ (HV.out.below (by (repeat (first | (with_reducible assumption) | (with_reducible apply below_refl) | (with_reducible apply below_alloc1) | (with_reducible apply below_drewN1) | (with_reducible apply below_drew1)))))).mono ?_); rw [G2.out]; rintro e w' ⟨rfl, hb⟩; have hB : Below w.heap.size w w' := below_trans (by (repeat (first | (with_reducible assumption) | (with_reducible apply below_refl) | (with_reducible apply below_alloc1) | (with_reducible apply below_drewN1) | (with_reducible apply below_drew1)))) hb; have hC := (bcell hB).1; clear hb))
    go_ret3
    exact twoOk_no HM.out (by assumption)
  have G2 := hid g2
  cases g3 : (ys.all fun b => moreB (ab .f32 b))
  · have HM := hid (fit_no (kind := kind) (xs := xs) (ys := ys) (by simp only [fitOk, g3, Bool.and_false]))
    have G3 := hid g3; clear g1 g2 g3
    go_enter Try.func29, Try.ntmps29
    go_wp2_with (first | (go_at_call 62; (with_reducible refine (within_any _ _ _ _).mono ?_); rw [G1.out]; rintro e w' ⟨rfl, hb⟩; have hB : Below w.heap.size w w' := below_trans (by (repeat (first | (with_reducible assumption) | (with_reducible apply below_refl) | (with_reducible apply below_alloc1) | (with_reducible apply below_drewN1) | (with_reducible apply below_drew1)))) hb; have hC := (bcell hB).1; clear hb) | (go_at_call 56; (with_reducible refine (areMore_any _ xs _ (HV.out.below (by (repeat (first | (with_reducible assumption) | (with_reducible apply below_refl) | (with_reducible apply below_alloc1) | (with_reducible apply below_drewN1) | (with_reducible apply below_drew1)))))).mono ?_); rw [G2.out]; rintro e w' ⟨rfl, hb⟩; have hB : Below w.heap.size w w' := below_trans (by (repeat (first | (with_reducible assumption) | (with_reducible apply below_refl) | (with_reducible apply below_alloc1) | (with_reducible apply below_drewN1) | (with_reducible apply below_drew1)))) hb; have hC := (bcell hB).1; clear hb) | (go_at_call 56; (with_reducible refine (areMore_any _ ys _ (HU.out.below (by (repeat (first | (with_reducible assumption) | (with_reducible apply below_refl) | (with_reducible apply below_alloc1) | (with_reducible apply below_drewN1) | (with_reducible apply below_drew1)))))).mono ?_); rw [G3.out]; rintro e w' ⟨rfl, hb⟩; have hB : Below w.heap.size w w' := below_trans (by (repeat (first | (with_reducible assumption) | (with_reducible apply below_refl) | (with_reducible apply below_alloc1) | (with_reducible apply below_drewN1) | (with_reducible apply below_drew1)))) hb; have hC := (bcell hB).1; clear hb))
    go_ret3
    exact twoOk_no HM.out (by assumption)
  have G3 := hid g3
  have HM := hid (fit_yes (kind := kind) (xs := xs) (ys := ys) (by simp only [fitOk, g1, g2, g3, Bool.and_true]))
  have HXM := hid (show ∀ k (h : k < xs.length), moreB (ab .f32 xs[k]) = true from fun k hk => by rw [List.all_eq_true] at g2; exact g2 _ (List.getElem_mem hk))
  have HYM := hid (show ∀ k (h : k < ys.length), moreB (ab .f32 ys[k]) = true from fun k hk => by rw [List.all_eq_true] at g3; exact g3 _ (List.getElem_mem hk))
  clear g1 g2 g3
  go_enter Try.func29, Try.ntmps29
  go_wp2_with (first | (go_at_call 62; (with_reducible refine (within_any _ _ _ _).mono ?_); rw [G1.out]; rintro e w' ⟨rfl, hb⟩; have hB : Below w.heap.size w w' := below_trans (by (repeat (first | (with_reducible assumption) | (with_reducible apply below_refl) | (with_reducible apply below_alloc1) | (with_reducible apply below_drewN1) | (with_reducible apply below_drew1)))) hb; have hC := (bcell hB).1; clear hb) | (go_at_call 56; (with_reducible refine (areMore_any _ xs _ (HV.out.below (by (repeat (first | (with_reducible assumption) | (with_reducible apply below_refl) | (with_reducible apply below_alloc1) | (with_reducible apply below_drewN1) | (with_reducible apply below_drew1)))))).mono ?_); rw [G2.out]; rintro e w' ⟨rfl, hb⟩; have hB : Below w.heap.size w w' := below_trans (by (repeat (first | (with_reducible assumption) | (with_reducible apply below_refl) | (with_reducible apply below_alloc1) | (with_reducible apply below_drewN1) | (with_reducible apply below_drew1)))) hb; have hC := (bcell hB).1; clear hb) | (go_at_call 56; (with_reducible refine (areMore_any _ ys _ (HU.out.below (by (repeat (first | (with_reducible assumption) | (with_reducible apply below_refl) | (with_reducible apply below_alloc1) | (with_reducible apply below_drewN1) | (with_reducible apply below_drew1)))))).mono ?_); rw [G3.out]; rintro e w' ⟨rfl, hb⟩; have hB : Below w.heap.size w w' := below_trans (by (repeat (first | (with_reducible assumption) | (with_reducible apply below_refl) | (with_reducible apply below_alloc1) | (with_reducible apply below_drewN1) | (with_reducible apply below_drew1)))) hb; have hC := (bcell hB).1; clear hb))
  have hw0 := (show Below w.heap.size w _ from by assumption)
  have hsz := hw0.size
  have hq1 := World.ownsRow_made (e := 27) (size := 1) _ #[] 0 hsz (by simp [maxLen]) rfl
  have hq2 := World.ownsRow_made (e := 27) (size := 1) _ #[] 0 (Below.size (below_alloc1 (o := Obj.cells #[] 27) hw0)) (by simp [maxLen]) rfl
  simp only [World.size_alloc] at hq2
  have HQ1 := hid (hq1.alloc (.cells #[] 27))
  have HQ2 := hid hq2
  have hbb : Below w.heap.size w ((w'.alloc (Obj.cells #[] 27)).alloc (Obj.cells #[] 27)) := below_alloc1 (below_alloc1 hw0)
  have HTW := hid (twain_made (w'.heap.size + 1) w'.heap.size (Nat.succ_ne_self _) 0 0 0 0)
  clear hq1 hq2
  generalize w'.heap.size + 1 = B2 at HQ2 HTW ⊢
  go_loopw [9, 36] (fun v y wr => ∃ (k : Nat) (zs : List Nat), k ≤ xs.length ∧ y = .int .i64 k ∧ Hid (zs.map (ab .f32) = (xs.take k).map fun b => stK kind (ab .f32 b)) ∧ Hid (someL (zs.map (ab .f32))) ∧ Hid (wr.ownsRow w.heap.size 27 1 v (zs.map (Value.float .f32)).length (zs.map (Value.float .f32))) ∧ Hid (wr.ownsRow w.heap.size 27 1 (.slice (some ⟨B2, 0, none⟩) 0 0) 0 []) ∧ Hid (Twain (.slice (some ⟨B2, 0, none⟩) 0 0) v) ∧ Below w.heap.size w wr) (fun _ y _ => xs.length - (intOf y).toNat)
  case atStart => exact ⟨0, [], by omega, rfl, hid rfl, hid (fun o h => by cases h), HQ1, HQ2, HTW, hbb⟩
  case round =>
    obtain ⟨k, zs, hk, rfl, hx, hsm, ho, ho2, htw, hw⟩ := hrel
    have hlen : zs.length = k := by have := congrArg List.length hx.out; simpa [hk] using this
    have HLEN := hid hlen; clear hlen
    have hC1 := (bcell hw).1
    by_cases hlt : k < xs.length
    · obtain rfl := HA.out (by omega)
      have hcell := rowc HC.out hw k hlt
      have hnx := fit_next xs (fun b => stK kind (ab .f32 b)) k hlt
      have hmo := HXM.out k hlt
      generalize xs[k] = x at hcell hnx hmo
      have HNX := hid hnx; have HMO := hid hmo
      clear hnx hmo
      go_wp2_with (first
        | (go_at_call 87; refine (stressOf_any _ _ G1.out HMO.out _).mono ?_; rintro e w' ⟨r, rfl, hr, hrn, hb⟩; have hB : Below wr.heap.size wr w' := below_trans (by (repeat (first | (with_reducible assumption) | (with_reducible apply below_refl) | (with_reducible apply below_alloc1) | (with_reducible apply below_drewN1) | (with_reducible apply below_drew1)))) hb; have hC := (bcell hB).1; clear hb)
        | (at_builtin; refine wpList_push2 rfl _ _ 25 rfl Try.underlying25 hi0 hz0 hz1 hz2 rfl w.heap.size _ _ rfl rfl (ownsRow_below ho.out (by (repeat (first | (with_reducible assumption) | (with_reducible apply below_refl) | (with_reducible apply below_alloc1) | (with_reducible apply below_drewN1) | (with_reducible apply below_drew1))))) rfl (by rw [List.length_map, HLEN.out]; omega) (by decide) (Nat.le_trans hw.size (Below.size (show Below wr.heap.size wr _ by (repeat (first | (with_reducible assumption) | (with_reducible apply below_refl) | (with_reducible apply below_alloc1) | (with_reducible apply below_drewN1) | (with_reducible apply below_drew1)))))) w.heap.size 27 _ [] (ownsRow_below ho2.out (by (repeat (first | (with_reducible assumption) | (with_reducible apply below_refl) | (with_reducible apply below_alloc1) | (with_reducible apply below_drewN1) | (with_reducible apply below_drew1))))) htw.out ?_; intro v1 w2 hown hown2 htw2 hb2))
      go_roundw
      case rel =>
        refine ⟨k + 1, zs ++ [r], by omega, by go_num, hid ?_, hid ?_, hid (by rw [fl_vals]; exact hown), hid hown2, hid htw2, (below_trans hw (by (repeat (first | (with_reducible assumption) | (with_reducible apply below_refl) | (with_reducible apply below_alloc1) | (with_reducible apply below_drewN1) | (with_reducible apply below_drew1))))).trans hb2⟩
        · rw [HNX.out]; exact fl_push hx.out hr
        · rw [List.map_append]
          exact some_next hsm.out (by rw [hr]; exact hrn)
      case measure => simp [intOf]; omega
    · obtain rfl : k = xs.length := by omega
      have hT : zs = bitsOf (fitT kind xs) := bits_some (L := fitT kind xs) (by rw [hx.out, List.take_length]; rfl) (by have := hsm.out; rw [hx.out, List.take_length] at this; exact this)
      have HT := hid hT
      clear hT
      go_wp2_with fail
      go_loopw [10, 49] (fun v y wr => ∃ (k : Nat) (us : List Nat), k ≤ ys.length ∧ y = .int .i64 k ∧ Hid (us.map (ab .f32) = (ys.take k).map fun b => lg32 (ab .f32 b)) ∧ Hid (someL (us.map (ab .f32))) ∧ Hid (wr.ownsRow w.heap.size 27 1 v (us.map (Value.float .f32)).length (us.map (Value.float .f32))) ∧ Hid (wr.ownsRow w.heap.size 27 1 u9 (zs.map (Value.float .f32)).length (zs.map (Value.float .f32))) ∧ Hid (Twain u9 v) ∧ Below w.heap.size w wr) (fun _ y _ => ys.length - (intOf y).toNat)
      case atStart => exact ⟨0, [], by omega, rfl, hid rfl, hid (fun o h => by cases h), ho2, ho, hid htw.out.symm, hw⟩
      case round =>
        obtain ⟨k, us, hk, rfl, hx2, hsm2, hp, hp2, htw2, hw2⟩ := hrel
        have hlen : us.length = k := by have := congrArg List.length hx2.out; simpa [hk] using this
        have HLEN2 := hid hlen; clear hlen
        have hC1 := (bcell hw2).1
        by_cases hlt : k < ys.length
        · obtain rfl := HA'.out (by omega)
          have hcell := rowc HC'.out hw2 k hlt
          have hnx := fit_next ys (fun b => lg32 (ab .f32 b)) k hlt
          have hmo := HYM.out k hlt
          generalize ys[k] = y at hcell hnx hmo
          have HNX := hid hnx; have HMO := hid hmo
          clear hnx hmo
          go_wp2_with (first
            | (go_at_call 55; refine (implLog_any _ (more_gt HMO.out) _).mono ?_; rintro e w' ⟨r, rfl, hr, hb⟩; have hB : Below wr.heap.size wr w' := below_trans (by (repeat (first | (with_reducible assumption) | (with_reducible apply below_refl) | (with_reducible apply below_alloc1) | (with_reducible apply below_drewN1) | (with_reducible apply below_drew1)))) hb; have hC := (bcell hB).1; clear hb)
            | (at_builtin; refine wpList_push2 rfl _ _ 25 rfl Try.underlying25 hi0 hz0 hz1 hz2 rfl w.heap.size _ _ rfl rfl (ownsRow_below hp.out (by (repeat (first | (with_reducible assumption) | (with_reducible apply below_refl) | (with_reducible apply below_alloc1) | (with_reducible apply below_drewN1) | (with_reducible apply below_drew1))))) rfl (by rw [List.length_map, HLEN2.out]; omega) (by decide) (Nat.le_trans hw2.size (Below.size (show Below wr.heap.size wr _ by (repeat (first | (with_reducible assumption) | (with_reducible apply below_refl) | (with_reducible apply below_alloc1) | (with_reducible apply below_drewN1) | (with_reducible apply below_drew1)))))) w.heap.size 27 _ _ (ownsRow_below hp2.out (by (repeat (first | (with_reducible assumption) | (with_reducible apply below_refl) | (with_reducible apply below_alloc1) | (with_reducible apply below_drewN1) | (with_reducible apply below_drew1))))) htw2.out ?_; intro v1 w2 hown hown2 htw3 hb2))
          go_roundw
          case rel =>
            refine ⟨k + 1, us ++ [r], by omega, by go_num, hid ?_, hid ?_, hid (by rw [fl_vals]; exact hown), hid hown2, hid htw3, (below_trans hw2 (by (repeat (first | (with_reducible assumption) | (with_reducible apply below_refl) | (with_reducible apply below_alloc1) | (with_reducible apply below_drewN1) | (with_reducible apply below_drew1))))).trans hb2⟩
            · rw [HNX.out]; exact fl_push hx2.out (lgOk_at HMO.out hr).1
            · rw [List.map_append]
              exact some_next hsm2.out (by rw [(lgOk_at HMO.out hr).1]; exact (lgOk_at HMO.out hr).2)
          case measure => simp [intOf]; omega
        · obtain rfl : k = ys.length := by omega
          have hV : us = bitsOf (fitV ys) := bits_some (L := fitV ys) (by rw [hx2.out, List.take_length]; rfl) (by have := hsm2.out; rw [hx2.out, List.take_length] at this; exact this)
          have hR1 := hid (Own.mk' hp2.out).row
          have hR2 := hid (Own.mk' hp.out).row
          rw [HT.out] at hR1
          rw [hV] at hR2
          clear hV
          go_wp2_with (first | (go_at_call 20; refine (implLine_any _ _ (bitsOf (fitT kind xs)) (bitsOf (fitV ys)) _ (hR1.out.below (by (repeat (first | (with_reducible assumption) | (with_reducible apply below_refl) | (with_reducible apply below_alloc1) | (with_reducible apply below_drewN1) | (with_reducible apply below_drew1))))) (hR2.out.below (by (repeat (first | (with_reducible assumption) | (with_reducible apply below_refl) | (with_reducible apply below_alloc1) | (with_reducible apply below_drewN1) | (with_reducible apply below_drew1)))))).mono ?_; rintro e w' ⟨x, y, z, rfl, hx, hy, hz, hb⟩))
          go_ret3
          exact ⟨_, _, by rw [HM.out]; rfl, by rw [HM.out]; exact hx, by rw [HM.out]; exact hy, below_trans hw2 (by (repeat (first | (with_reducible assumption) | (with_reducible apply below_refl) | (with_reducible apply below_alloc1) | (with_reducible apply below_drewN1) | (with_reducible apply below_drew1))))⟩
end Go.Proofs.Ytkaeohlakeliiaa
