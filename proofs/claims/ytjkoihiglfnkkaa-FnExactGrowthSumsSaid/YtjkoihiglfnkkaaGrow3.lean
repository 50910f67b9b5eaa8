/- Contracts: GrowthSums, the reference's. -/
import Derived.Test.YtjkoihiglfnkkaaGrow
import Derived.Test.YtjkoihiglfnkkaaQuiet
namespace Go.Proofs.Ytjkoihiglfnkkaa
open Go.RowKit

set_option maxRecDepth 100000 in
set_option maxHeartbeats 800000 in
theorem l05Times_any (v : Value) (xs : List Nat) (t : Nat) (w : World) (hv : RowAt w v (xs.map (Value.float .f32))) :
    Calls Try.prog 83 #[v, .float .f32 t] w fun e w' => e = .returned (.bool (growOk xs (ab .f32 t))) ∧ Below w.heap.size w w' := by
  obtain ⟨ao, cap, b, off, rfl, hao, hl, hm, hc⟩ := hv
  simp only [List.length_map] at hl hao ⊢
  unfold maxLen at hm
  have HC := hid hc; have HA := hid hao
  clear hc hao
  by_cases h1 : 1 ≤ xs.length
  rotate_left
  · have HM := hid (show growOk xs (ab .f32 t) = false by simp [growOk, h1])
    have h1' : (xs.length : Int) < 1 := by omega
    go_enter Try.func83, Try.ntmps83
    go_wp2_with fail
    go_ret
    exact ⟨by rw [HM.out]; rfl, by (repeat (first | (with_reducible assumption) | (with_reducible apply below_refl) | (with_reducible apply below_alloc1) | (with_reducible apply below_drewN1) | (with_reducible apply below_drew1)))⟩
  have h1' : ¬ (xs.length : Int) < 1 := by omega
  by_cases h2 : xs.length ≤ 48
  rotate_left
  · have HM := hid (show growOk xs (ab .f32 t) = false by simp [growOk, h2])
    have h2' : (48 : Int) < (xs.length : Int) := by omega
    go_enter Try.func83, Try.ntmps83
    go_wp2_with fail
    go_ret
    exact ⟨by rw [HM.out]; rfl, by (repeat (first | (with_reducible assumption) | (with_reducible apply below_refl) | (with_reducible apply below_alloc1) | (with_reducible apply below_drewN1) | (with_reducible apply below_drew1)))⟩
  have h2' : ¬ (48 : Int) < (xs.length : Int) := by omega
  cases g3 : finite32 (ab .f32 t)
  · have HM := hid (show growOk xs (ab .f32 t) = false by simp only [growOk, g3, Bool.and_false, Bool.false_and])
    have G3 := hid g3; clear g3
    go_enter Try.func83, Try.ntmps83
    go_wp2_with (first | (go_at_call 48; (with_reducible refine (specFinite_any _ _).mono ?_); rw [G3.out]; rintro e w' ⟨rfl, hb⟩; have hB : Below w.heap.size w w' := below_trans (by (repeat (first | (with_reducible assumption) | (with_reducible apply below_refl) | (with_reducible apply below_alloc1) | (with_reducible apply below_drewN1) | (with_reducible apply below_drew1)))) hb; have hC := (bcell hB).1; clear hb))
    go_ret
    exact ⟨by rw [HM.out]; rfl, by assumption⟩
  have HM := hid (grow_same (xs := xs) rfl h1 h2 g3)
  have G3 := hid g3; clear g3
  obtain rfl := HA.out (by omega)
  go_enter Try.func83, Try.ntmps83
  go_wp2_with (first | (go_at_call 48; (with_reducible refine (specFinite_any _ _).mono ?_); rw [G3.out]; rintro e w' ⟨rfl, hb⟩; have hB : Below w.heap.size w w' := below_trans (by (repeat (first | (with_reducible assumption) | (with_reducible apply below_refl) | (with_reducible apply below_alloc1) | (with_reducible apply below_drewN1) | (with_reducible apply below_drew1)))) hb; have hC := (bcell hB).1; clear hb))
  go_loopw [21] (fun i wr => ∃ (k : Nat), k ≤ xs.length ∧ i = .int .i64 k ∧ Hid (∀ j, j < k → upTo xs (ab .f32 t) j = true) ∧ Below w.heap.size w wr) (fun i _ => xs.length - (intOf i).toNat)
  case atStart => exact ⟨0, Nat.zero_le _, rfl, hid (fun j h => absurd h (Nat.not_lt_zero _)), by (repeat (first | (with_reducible assumption) | (with_reducible apply below_refl) | (with_reducible apply below_alloc1) | (with_reducible apply below_drewN1) | (with_reducible apply below_drew1)))⟩
  case round =>
    obtain ⟨k, hk, rfl, hyes, hw⟩ := hrel
    by_cases hlt : k < xs.length
    · have hcell := rowc HC.out hw k hlt
      have hgx := getD_at xs k hlt
      have hltI : (k : Int) < (xs.length : Int) := by omega
      have hk0 : (0 : Int) ≤ (k : Int) := by omega
      have hbl1 : b < wr.heap.size := World.block_lt_of_cell? wr _ hcell
      have HNO := hid (show upTo xs (ab .f32 t) k = false → growOk xs (ab .f32 t) = false from fun h => by
        rw [HM.out, List.all_eq_false]
        exact ⟨k, List.mem_range.2 hlt, by simp [h]⟩)
      have HYES := hid (show upTo xs (ab .f32 t) k = true → ∀ j, j < k + 1 → upTo xs (ab .f32 t) j = true from fun h j hj => by
        by_cases e : j = k
        · rw [e]; exact h
        · exact hyes.out j (by omega))
      have hD : (¬ (0 : Int) < (k : Int) ∧ Hid (upTo xs (ab .f32 t) k = (moreB (ab .f32 xs[k]) && !(ford .f32 (ab .f32 xs[k]) (ab .f32 t) == some .gt)))) ∨ (∃ (p y' : Nat), (0 : Int) < (k : Int) ∧ IntKind.i64.wrap ((k : Int) - 1) = (p : Int) ∧ (k : Int) - 1 = (p : Int) ∧ (p : Int) < (xs.length : Int) ∧ (0 : Int) ≤ (p : Int) ∧ wr.cell? ⟨b, off + p, none⟩ = some (.float .f32 y') ∧ Hid (upTo xs (ab .f32 t) k = (moreB (ab .f32 xs[k]) && !(ford .f32 (ab .f32 xs[k]) (ab .f32 t) == some .gt) && !(ford .f32 (ab .f32 xs[k]) (ab .f32 y') == some .lt)))) := by
        cases k with
        | zero => exact Or.inl ⟨by omega, hid (by unfold upTo; rw [hgx]; simp)⟩
        | succ p =>
          right
          have hc4 := rowc HC.out hw p (by omega)
          refine ⟨p, xs[p], by omega, by rw [IntKind.wrap_i64]; omega, by omega, by omega, by omega, hc4, hid ?_⟩
          unfold upTo fallAt
          rw [show p + 1 - 1 = p by omega, getD_at xs (p + 1) hlt, getD_at xs p (by omega)]
          simp
      clear hgx
      generalize xs[k] = x at hcell hD
      cases n1 : moreB (ab .f32 x)
      · have HR : Hid (growOk xs (ab .f32 t) = false) := by
          rcases hD with ⟨_, h⟩ | ⟨_, _, _, _, _, _, _, _, h⟩ <;> exact hid (HNO.out (by rw [h.out, n1]; simp))
        have N1 := hid n1
        clear n1 hD
        go_wp2_with (first | go_quiet ((go_at_call 77; exact quiet_at N1.out (l02Above_q _ _))))
        go_ret
        exact ⟨by rw [HR.out]; rfl, by (repeat (first | (with_reducible assumption) | (with_reducible apply below_refl) | (with_reducible apply below_alloc1) | (with_reducible apply below_drewN1) | (with_reducible apply below_drew1)))⟩
      cases n2 : (ford .f32 (ab .f32 x) (ab .f32 t) == some .gt)
      rotate_left
      · have HR : Hid (growOk xs (ab .f32 t) = false) := by
          rcases hD with ⟨_, h⟩ | ⟨_, _, _, _, _, _, _, _, h⟩ <;> exact hid (HNO.out (by rw [h.out, n2]; simp))
        have N1 := hid n1
        clear n1 hD
        go_wp2_with (first | go_quiet ((go_at_call 77; exact quiet_at N1.out (l02Above_q _ _))))
        go_ret
        exact ⟨by rw [HR.out]; rfl, by (repeat (first | (with_reducible assumption) | (with_reducible apply below_refl) | (with_reducible apply below_alloc1) | (with_reducible apply below_drewN1) | (with_reducible apply below_drew1)))⟩
      rcases hD with ⟨d1, h⟩ | ⟨p, y', d1, d2, d3, d4, d5, d6, h⟩
      · have d1n : ¬ 0 < k := by omega
        have HN := hid (HYES.out (by rw [h.out, n1, n2]; rfl))
        have N1 := hid n1
        clear n1 h
        go_wp2_with (first | go_quiet ((go_at_call 77; exact quiet_at N1.out (l02Above_q _ _))))
        go_roundw
        case rel => exact ⟨k + 1, by omega, by go_num, HN, by (repeat (first | (with_reducible assumption) | (with_reducible apply below_refl) | (with_reducible apply below_alloc1) | (with_reducible apply below_drewN1) | (with_reducible apply below_drew1)))⟩
        case measure => simp [intOf]; omega
      · have d1n : 0 < k := by omega
        cases n3 : (ford .f32 (ab .f32 x) (ab .f32 y') == some .lt)
        · have HN := hid (HYES.out (by rw [h.out, n1, n2, n3]; rfl))
          have N1 := hid n1
          clear n1 h
          go_wp2_with (first | go_quiet ((go_at_call 77; exact quiet_at N1.out (l02Above_q _ _))))
          go_roundw
          case rel => exact ⟨k + 1, by omega, by go_num, HN, by (repeat (first | (with_reducible assumption) | (with_reducible apply below_refl) | (with_reducible apply below_alloc1) | (with_reducible apply below_drewN1) | (with_reducible apply below_drew1)))⟩
          case measure => simp [intOf]; omega
        · have HR := hid (HNO.out (by rw [h.out, n3]; simp))
          have N1 := hid n1
          clear n1 h
          go_wp2_with (first | go_quiet ((go_at_call 77; exact quiet_at N1.out (l02Above_q _ _))))
          go_ret
          exact ⟨by rw [HR.out]; rfl, by (repeat (first | (with_reducible assumption) | (with_reducible apply below_refl) | (with_reducible apply below_alloc1) | (with_reducible apply below_drewN1) | (with_reducible apply below_drew1)))⟩
    · obtain rfl : k = xs.length := by omega
      have HR := hid (show growOk xs (ab .f32 t) = true by rw [HM.out, List.all_eq_true]; exact fun j hj => hyes.out j (List.mem_range.1 hj))
      go_wp2_with fail
      go_ret
      exact ⟨by rw [HR.out]; rfl, by (repeat (first | (with_reducible assumption) | (with_reducible apply below_refl) | (with_reducible apply below_alloc1) | (with_reducible apply below_drewN1) | (with_reducible apply below_drew1)))⟩
set_option maxRecDepth 100000 in
set_option maxHeartbeats 2000000 in
theorem specGrow_any (v : Value) (xs : List Nat) (t : Nat) (w : World) (hv : RowAt w v (xs.map (Value.float .f32))) :
    Calls Try.prog 43 #[v, .float .f32 t] w (FRowOk 23 (growXs xs (ab .f32 t)) (growAll xs (ab .f32 t)) w) := by
  obtain ⟨i0, hi0, hz0, hz1, hz2⟩ := info_parts (P := Try.prog) (e := 23) (z := Value.float .f32 0) (size := 1) (bytes := 4) (by kernel_rfl)
  have HV := hid hv
  obtain ⟨ao, cap, b, off, rfl, hao, hl, hm, hc⟩ := hv
  simp only [List.length_map] at hl HV hao ⊢
  unfold maxLen at hm
  have HC := hid hc; have HA := hid hao
  clear hc hao
  cases g1 : growOk xs (ab .f32 t)
  · have HE := hid (grow_fail g1)
    have G1 := hid g1; clear g1
    go_enter Try.func43, Try.ntmps43
    go_wp2_with (first | (go_at_call 83; (with_reducible refine (l05Times_any _ xs _ _ (HV.out.below (by (repeat (first | (with_reducible assumption) | (with_reducible apply below_refl) | (with_reducible apply below_alloc1) | (with_reducible apply below_drewN1) | (with_reducible apply below_drew1)))))).mono ?_); rw [G1.out]; rintro e w' ⟨rfl, hb⟩; have hB : Below w.heap.size w w' := below_trans (by (repeat (first | (with_reducible assumption) | (with_reducible apply below_refl) | (with_reducible apply below_alloc1) | (with_reducible apply below_drewN1) | (with_reducible apply below_drew1)))) hb; have hC := (bcell hB).1; clear hb))
    go_ret2
    exact frow_no HE.out.1 HE.out.2 (by assumption)
  have HALL := hid (show growAll xs (ab .f32 t) = finL (growL xs xs.length) by simp [growAll, g1])
  obtain ⟨l1, l2⟩ := growOk_len g1
  have G1 := hid g1; clear g1
  obtain rfl := HA.out (by omega)
  go_enter Try.func43, Try.ntmps43
  go_wp2_with (first | (go_at_call 83; (with_reducible refine (l05Times_any _ xs _ _ (HV.out.below (by (repeat (first | (with_reducible assumption) | (with_reducible apply below_refl) | (with_reducible apply below_alloc1) | (with_reducible apply below_drewN1) | (with_reducible apply below_drew1)))))).mono ?_); rw [G1.out]; rintro e w' ⟨rfl, hb⟩; have hB : Below w.heap.size w w' := below_trans (by (repeat (first | (with_reducible assumption) | (with_reducible apply below_refl) | (with_reducible apply below_alloc1) | (with_reducible apply below_drewN1) | (with_reducible apply below_drew1)))) hb; have hC := (bcell hB).1; clear hb))
  have hsz := (show Below w.heap.size w _ from by assumption).size
  go_loopw [6, 15] (fun v y wr => ∃ (k : Nat) (zs : List Nat), k ≤ xs.length ∧ y = .int .i64 k ∧ Hid (zs.map (ab .f32) = growL xs k) ∧ Hid (wr.ownsRow w.heap.size 23 1 v (zs.map (Value.float .f32)).length (zs.map (Value.float .f32))) ∧ Below w.heap.size w wr) (fun _ y _ => xs.length - (intOf y).toNat)
  case atStart => exact ⟨0, [], by omega, rfl, hid rfl, hid (World.ownsRow_made _ #[] 0 hsz (by simp [maxLen]) rfl), by (repeat (first | (with_reducible assumption) | (with_reducible apply below_refl) | (with_reducible apply below_alloc1) | (with_reducible apply below_drewN1) | (with_reducible apply below_drew1)))⟩
  case round =>
    obtain ⟨k, zs, hk, rfl, hx, ho, hw⟩ := hrel
    have hlen : zs.length = k := by have := congrArg List.length hx.out; simpa [growL_len] using this
    have HLEN := hid hlen; clear hlen
    by_cases hlt : k < xs.length
    · have hcell := rowc HC.out hw k hlt
      have hcell0 := rowc HC.out (below_refl w) k hlt
      have hblt : b < w.heap.size := World.block_lt_of_cell? w _ hcell0
      have hgd := getD_at xs k hlt
      have hC1 := (bcell hw).1
      have hltI : (k : Int) < (xs.length : Int) := by omega
      have hk0 : (0 : Int) ≤ (k : Int) := by omega
      have W1 : IntKind.i64.wrap ((k : Int) + 1) = (k : Int) + 1 := by rw [IntKind.wrap_i64]; omega
      generalize xs[k] = y at hcell hcell0 hgd
      have HG := hid hgd; clear hgd
      go_wp2_with (first
        | (refine upon_float rfl ?_; intro r n hr; go_simp)
        | (at_builtin; refine wpList_push rfl _ _ 22 rfl Try.underlying22 hi0 hz0 hz1 hz2 rfl w.heap.size _ _ rfl rfl (ownsRow_below ho.out (by (repeat (first | (with_reducible assumption) | (with_reducible apply below_refl) | (with_reducible apply below_alloc1) | (with_reducible apply below_drewN1) | (with_reducible apply below_drew1))))) rfl (by rw [List.length_map, HLEN.out]; omega) (by decide) (Nat.le_trans hw.size (Below.size (show Below wr.heap.size wr _ by (repeat (first | (with_reducible assumption) | (with_reducible apply below_refl) | (with_reducible apply below_alloc1) | (with_reducible apply below_drewN1) | (with_reducible apply below_drew1)))))) ?_; intro v1 w2 hown hb2))
      go_roundw
      case rel =>
        refine ⟨k + 1, zs ++ [r], by omega, by go_num, hid ?_, hid (by rw [fl_vals]; exact hown), (below_trans hw (by (repeat (first | (with_reducible assumption) | (with_reducible apply below_refl) | (with_reducible apply below_alloc1) | (with_reducible apply below_drewN1) | (with_reducible apply below_drew1))))).trans hb2⟩
        rw [growL_next]
        exact fl_push hx.out (by simp only [*, growX, HG.out, ab_ofInt])
      case measure => simp [intOf]; omega
    · obtain rfl : k = xs.length := by omega
      cases hfin : finL (growL xs xs.length)
      · have HE := hid (grow_no (xs := xs) (to := ab .f32 t) (by rw [HALL.out, hfin]))
        have HE3 := hid (HALL.out.trans hfin)
        have HF := hid (show (zs.all fun b => finB (ab .f32 b)) = false by rw [finL_map, hx.out, hfin])
        clear hfin
        go_wp2_with ((go_at_call 47; (with_reducible refine (l02Finite_any _ zs _ (Own.mk' ho.out).row).mono ?_); rw [HF.out]; rintro e w' ⟨rfl, hb⟩; have hB : Below wr.heap.size wr w' := below_trans (by (repeat (first | (with_reducible assumption) | (with_reducible apply below_refl) | (with_reducible apply below_alloc1) | (with_reducible apply below_drewN1) | (with_reducible apply below_drew1)))) hb; have hC := (bcell hB).1; clear hb))
        go_ret2
        exact frow_no HE.out HE3.out (below_trans hw (by assumption))
      · have HE := hid (grow_yes (xs := xs) (to := ab .f32 t) (by rw [HALL.out, hfin]))
        have HE3 := hid (HALL.out.trans hfin)
        have HF := hid (show (zs.all fun b => finB (ab .f32 b)) = true by rw [finL_map, hx.out, hfin])
        have HX := hid (show zs = bitsOf (growL xs xs.length) from ab_bits _ _ hx.out hfin)
        clear hfin
        go_wp2_with ((go_at_call 47; (with_reducible refine (l02Finite_any _ zs _ (Own.mk' ho.out).row).mono ?_); rw [HF.out]; rintro e w' ⟨rfl, hb⟩; have hB : Below wr.heap.size wr w' := below_trans (by (repeat (first | (with_reducible assumption) | (with_reducible apply below_refl) | (with_reducible apply below_alloc1) | (with_reducible apply below_drewN1) | (with_reducible apply below_drew1)))) hb; have hC := (bcell hB).1; clear hb))
        go_ret2
        exact frow_yes HE3.out (by rw [HE.out, ← HX.out]; exact ownsRow_below ho.out (by assumption)) (below_trans hw (by assumption))
end Go.Proofs.Ytjkoihiglfnkkaa
