/- Contracts: GrowthSums, the program's. -/
import Derived.Test.YtkaeohlakeliiaaGrow
namespace Go.Proofs.Ytkaeohlakeliiaa
open Go.RowKit

set_option maxHeartbeats 400000 in
theorem cmpNan_any (x : Nat) (w : World) :
    Calls Try.prog 133 #[.float .f32 x] w fun e w' => e = .returned (.bool !(ford .f32 (ab .f32 x) (ab .f32 x) == some .eq)) ∧ Below w.heap.size w w' := by
  go_enter Try.func133, Try.ntmps133
  go_wp2
  go_ret
  exact ⟨rfl, below_refl _⟩
set_option maxHeartbeats 400000 in
theorem cmpLess_any (x y : Nat) (hx : (ford .f32 (ab .f32 x) (ab .f32 x) == some .eq) = true) (w : World) :
    Calls Try.prog 127 #[.float .f32 x, .float .f32 y] w fun e w' => e = .returned (.bool (ford .f32 (ab .f32 x) (ab .f32 y) == some .lt)) ∧ Below w.heap.size w w' := by
  have HX := hid hx; clear hx
  go_enter Try.func127, Try.ntmps127
  go_wp2_with (go_at_call 133; (with_reducible refine (cmpNan_any _ _).mono ?_); rw [HX.out]; rintro e w' ⟨rfl, hb⟩; have hB : Below w.heap.size w w' := below_trans (by (repeat (first | (with_reducible assumption) | (with_reducible apply below_refl) | (with_reducible apply below_alloc1) | (with_reducible apply below_drewN1) | (with_reducible apply below_drew1)))) hb; have hC := (bcell hB).1; clear hb)
  go_ret
  exact ⟨rfl, by assumption⟩
set_option maxRecDepth 100000 in
set_option maxHeartbeats 800000 in
theorem isSorted_any (v : Value) (xs : List Nat) (h1 : 1 ≤ xs.length) (hf : ∀ k (h : k < xs.length), (ford .f32 (ab .f32 xs[k]) (ab .f32 xs[k]) == some .eq) = true) (w : World) (hv : RowAt w v (xs.map (Value.float .f32))) :
    Calls Try.prog 109 #[v] w fun e w' => e = .returned (.bool (sortB xs)) ∧ Below w.heap.size w w' := by
  have HF := hid hf; clear hf
  obtain ⟨ao, cap, b, off, rfl, hao, hl, hm, hc⟩ := hv
  simp only [List.length_map] at hao hl ⊢
  unfold maxLen at hm
  have HC := hid hc; clear hc
  obtain rfl := hao (by omega)
  clear hao
  go_enter Try.func109, Try.ntmps109
  have W0 : IntKind.i64.wrap ((xs.length : Int) - 1) = ((xs.length - 1 : Nat) : Int) := by rw [IntKind.wrap_i64]; omega
  go_wp2_with fail
  go_loopw [3] (fun i wr => ∃ k : Nat, k + 1 ≤ xs.length ∧ i = .int .i64 k ∧ Hid (∀ j, k ≤ j → j + 1 < xs.length → fallAt xs j = false) ∧ Below w.heap.size w wr) (fun i _ => (intOf i).toNat)
  case atStart => exact ⟨xs.length - 1, by omega, rfl, hid (fun j h1 h2 => by omega), by (repeat (first | (with_reducible assumption) | (with_reducible apply below_refl) | (with_reducible apply below_alloc1) | (with_reducible apply below_drewN1) | (with_reducible apply below_drew1)))⟩
  case round =>
    obtain ⟨k, hk, rfl, hno, hw⟩ := hrel
    cases k with
    | zero =>
      have HS := hid (sortB_yes (xs := xs) (fun j hj => hno.out j (by omega) hj))
      go_wp2_with fail
      go_ret
      exact ⟨by rw [HS.out]; rfl, by (repeat (first | (with_reducible assumption) | (with_reducible apply below_refl) | (with_reducible apply below_alloc1) | (with_reducible apply below_drewN1) | (with_reducible apply below_drew1)))⟩
    | succ p =>
      have hcast : ((p + 1 : Nat) : Int) = (p : Int) + 1 := by omega
      have hcell := rowc HC.out hw p (by omega)
      have hcell2 := rowc HC.out hw (p + 1) (by omega)
      have hr : fallAt xs p = (ford .f32 (ab .f32 xs[p + 1]) (ab .f32 xs[p]) == some .lt) := by unfold fallAt; rw [getD_at xs (p + 1) (by omega), getD_at xs p (by omega)]
      have hn := HF.out (p + 1) (by omega)
      generalize xs[p]'(by omega) = x at hcell hr
      generalize xs[p + 1]'(by omega) = y at hcell2 hr hn
      have i1 : ((p : Int) + 1).toNat = p + 1 := by omega
      have hlt' : (p : Int) + 1 < (xs.length : Int) := by omega
      have hlt0 : (p : Int) < (xs.length : Int) := by omega
      have g0 : (0 : Int) ≤ (p : Int) := by omega
      have g1 : (0 : Int) ≤ (p : Int) + 1 := by omega
      have g2 : (0 : Int) < (p : Int) + 1 := by omega
      have W1 : IntKind.i64.wrap ((p : Int) + 1 - 1) = (p : Int) := by rw [IntKind.wrap_i64]; omega
      have W2 : IntKind.i64.wrap (p : Int) = (p : Int) := by rw [IntKind.wrap_i64]; omega
      have W3 : (p : Int) + 1 - 1 = (p : Int) := by omega
      rw [hcast]
      clear hcast
      have NN := hid hn; clear hn
      have hbl : b < wr.heap.size := World.block_lt_of_cell? wr _ hcell
      have hC1 := (bcell hw).1
      cases ht : (ford .f32 (ab .f32 y) (ab .f32 x) == some .lt)
      · have HN := hid (show ∀ j, p ≤ j → j + 1 < xs.length → fallAt xs j = false from fun j h1 h2 => by
          by_cases e : j = p
          · rw [e]; exact hr.trans ht
          · exact hno.out j (by omega) h2)
        have HT := hid ht
        clear hr ht
        go_wp2_with (first | (go_region_held (fun w' => Below wr.heap.size wr w' ∧ ∀ b o, b < wr.heap.size → w'.cell? ⟨b, o, none⟩ = wr.cell? ⟨b, o, none⟩) (first | exact keep_next ‹_› ‹_› | exact keep_start | exact keep_drew ‹_› | exact keep_of (by (repeat (first | (with_reducible assumption) | (with_reducible apply below_refl) | (with_reducible apply below_alloc1) | (with_reducible apply below_drewN1) | (with_reducible apply below_drew1))))) (first | (go_at_call 127; refine (cmpLess_any _ _ NN.out _).mono ?_; rw [HT.out]; rintro e w' ⟨rfl, hb⟩)) <;> (rename_i hHeld; obtain ⟨hB, hC⟩ := hHeld)))
        go_roundw
        case rel => exact ⟨p, by omega, by go_num, HN, below_trans hw (by (repeat (first | (with_reducible assumption) | (with_reducible apply below_refl) | (with_reducible apply below_alloc1) | (with_reducible apply below_drewN1) | (with_reducible apply below_drew1))))⟩
        case measure => simp [intOf]
      · have HS := hid (sortB_no (by omega) (hr.trans ht))
        have HT := hid ht
        clear hr ht
        go_wp2_with (first | (go_region_held (fun w' => Below wr.heap.size wr w' ∧ ∀ b o, b < wr.heap.size → w'.cell? ⟨b, o, none⟩ = wr.cell? ⟨b, o, none⟩) (first | exact keep_next ‹_› ‹_› | exact keep_start | exact keep_drew ‹_› | exact keep_of (by (repeat (first | (with_reducible assumption) | (with_reducible apply below_refl) | (with_reducible apply below_alloc1) | (with_reducible apply below_drewN1) | (with_reducible apply below_drew1))))) (first | (go_at_call 127; refine (cmpLess_any _ _ NN.out _).mono ?_; rw [HT.out]; rintro e w' ⟨rfl, hb⟩)) <;> (rename_i hHeld; obtain ⟨hB, hC⟩ := hHeld)))
        go_ret
        exact ⟨by rw [HS.out]; rfl, below_trans hw (by (repeat (first | (with_reducible assumption) | (with_reducible apply below_refl) | (with_reducible apply below_alloc1) | (with_reducible apply below_drewN1) | (with_reducible apply below_drew1))))⟩
set_option maxRecDepth 100000 in
set_option maxHeartbeats 800000 in
theorem isGrowth_any (v : Value) (xs : List Nat) (t : Nat) (w : World) (hv : RowAt w v (xs.map (Value.float .f32))) :
    Calls Try.prog 54 #[v, .float .f32 t] w fun e w' => e = .returned (.bool (growOk xs (ab .f32 t))) ∧ Below w.heap.size w w' := by
  have HV := hid hv
  obtain ⟨ao, cap, b, off, rfl, hao, hl, hm, hc⟩ := hv
  simp only [List.length_map] at hl HV hao ⊢
  unfold maxLen at hm
  have HC := hid hc; have HA := hid hao
  clear hc hao
  by_cases h1 : 1 ≤ xs.length
  rotate_left
  · have HM := hid (show growOk xs (ab .f32 t) = false by simp [growOk, h1])
    have h1' : ¬ (1 : Int) ≤ (xs.length : Int) := by omega
    go_enter Try.func54, Try.ntmps54
    go_wp2_with fail
    go_ret
    exact ⟨by rw [HM.out]; rfl, by (repeat (first | (with_reducible assumption) | (with_reducible apply below_refl) | (with_reducible apply below_alloc1) | (with_reducible apply below_drewN1) | (with_reducible apply below_drew1)))⟩
  have h1' : (1 : Int) ≤ (xs.length : Int) := by omega
  by_cases h2 : xs.length ≤ 48
  rotate_left
  · have HM := hid (show growOk xs (ab .f32 t) = false by simp [growOk, h2])
    have h2' : ¬ (xs.length : Int) ≤ 48 := by omega
    go_enter Try.func54, Try.ntmps54
    go_wp2_with fail
    go_ret
    exact ⟨by rw [HM.out]; rfl, by (repeat (first | (with_reducible assumption) | (with_reducible apply below_refl) | (with_reducible apply below_alloc1) | (with_reducible apply below_drewN1) | (with_reducible apply below_drew1)))⟩
  have h2' : (xs.length : Int) ≤ 48 := by omega
  cases g1 : (xs.all fun b => moreB (ab .f32 b))
  · have HM := hid (show growOk xs (ab .f32 t) = false by simp only [growOk, g1, Bool.and_false, Bool.false_and])
    have G1 := hid g1; clear g1
    go_enter Try.func54, Try.ntmps54
    go_wp2_with (first | (go_at_call 56; (with_reducible refine (areMore_any _ xs _ (HV.out.below (by (repeat (first | (with_reducible assumption) | (with_reducible apply below_refl) | (with_reducible apply below_alloc1) | (with_reducible apply below_drewN1) | (with_reducible apply below_drew1)))))).mono ?_); rw [G1.out]; rintro e w' ⟨rfl, hb⟩; have hB : Below w.heap.size w w' := below_trans (by (repeat (first | (with_reducible assumption) | (with_reducible apply below_refl) | (with_reducible apply below_alloc1) | (with_reducible apply below_drewN1) | (with_reducible apply below_drew1)))) hb; have hC := (bcell hB).1; clear hb))
    go_ret
    exact ⟨by rw [HM.out]; rfl, by assumption⟩
  have G1 := hid g1
  have HF := hid (show ∀ k (h : k < xs.length), (ford .f32 (ab .f32 xs[k]) (ab .f32 xs[k]) == some .eq) = true from fun k hk => by
    rw [List.all_eq_true] at g1
    obtain ⟨v, hv, _⟩ := more_isV (g1 _ (List.getElem_mem hk))
    rw [ford_eq hv hv rfl]; rfl)
  cases g2 : sortB xs
  · have HM := hid (show growOk xs (ab .f32 t) = false by simp only [growOk, g2, Bool.and_false, Bool.false_and])
    have G2 := hid g2; clear g1 g2
    go_enter Try.func54, Try.ntmps54
    go_wp2_with (first | (go_at_call 56; (with_reducible refine (areMore_any _ xs _ (HV.out.below (by (repeat (first | (with_reducible assumption) | (with_reducible apply below_refl) | (with_reducible apply below_alloc1) | (with_reducible apply below_drewN1) | (with_reducible apply below_drew1)))))).mono ?_); rw [G1.out]; rintro e w' ⟨rfl, hb⟩; have hB : Below w.heap.size w w' := below_trans (by (repeat (first | (with_reducible assumption) | (with_reducible apply below_refl) | (with_reducible apply below_alloc1) | (with_reducible apply below_drewN1) | (with_reducible apply below_drew1)))) hb; have hC := (bcell hB).1; clear hb) | (go_at_call 109; (with_reducible refine (isSorted_any _ xs h1 HF.out _ (HV.out.below (by (repeat (first | (with_reducible assumption) | (with_reducible apply below_refl) | (with_reducible apply below_alloc1) | (with_reducible apply below_drewN1) | (with_reducible apply below_drew1)))))).mono ?_); rw [G2.out]; rintro e w' ⟨rfl, hb⟩; have hB : Below w.heap.size w w' := below_trans (by (repeat (first | (with_reducible assumption) | (with_reducible apply below_refl) | (with_reducible apply below_alloc1) | (with_reducible apply below_drewN1) | (with_reducible apply below_drew1)))) hb; have hC := (bcell hB).1; clear hb))
    go_ret
    exact ⟨by rw [HM.out]; rfl, by assumption⟩
  have G2 := hid g2
  cases g3 : finite32 (ab .f32 t)
  · have HM := hid (show growOk xs (ab .f32 t) = false by simp only [growOk, g3, Bool.and_false, Bool.false_and])
    have G3 := hid g3; clear g1 g2 g3
    go_enter Try.func54, Try.ntmps54
    go_wp2_with (first | (go_at_call 56; (with_reducible refine (areMore_any _ xs _ (HV.out.below (by (repeat (first | (with_reducible assumption) | (with_reducible apply below_refl) | (with_reducible apply below_alloc1) | (with_reducible apply below_drewN1) | (with_reducible apply below_drew1)))))).mono ?_); rw [G1.out]; rintro e w' ⟨rfl, hb⟩; have hB : Below w.heap.size w w' := below_trans (by (repeat (first | (with_reducible assumption) | (with_reducible apply below_refl) | (with_reducible apply below_alloc1) | (with_reducible apply below_drewN1) | (with_reducible apply below_drew1)))) hb; have hC := (bcell hB).1; clear hb) | (go_at_call 109; (with_reducible refine (isSorted_any _ xs h1 HF.out _ (HV.out.below (by (repeat (first | (with_reducible assumption) | (with_reducible apply below_refl) | (with_reducible apply below_alloc1) | (with_reducible apply below_drewN1) | (with_reducible apply below_drew1)))))).mono ?_); rw [G2.out]; rintro e w' ⟨rfl, hb⟩; have hB : Below w.heap.size w w' := below_trans (by (repeat (first | (with_reducible assumption) | (with_reducible apply below_refl) | (with_reducible apply below_alloc1) | (with_reducible apply below_drewN1) | (with_reducible apply below_drew1)))) hb; have hC := (bcell hB).1; clear hb) | (go_at_call 81; (with_reducible refine (implFinite_any _ _).mono ?_); rw [G3.out]; rintro e w' ⟨rfl, hb⟩; have hB : Below w.heap.size w w' := below_trans (by (repeat (first | (with_reducible assumption) | (with_reducible apply below_refl) | (with_reducible apply below_alloc1) | (with_reducible apply below_drewN1) | (with_reducible apply below_drew1)))) hb; have hC := (bcell hB).1; clear hb))
    go_ret
    exact ⟨by rw [HM.out]; rfl, by assumption⟩
  have G3 := hid g3
  have HM := hid (show growOk xs (ab .f32 t) = leB (ab .f32 (xs.getD (xs.length - 1) 0)) (ab .f32 t) by simp only [growOk, g1, g2, g3, h1, h2, decide_true, Bool.and_true, Bool.true_and])
  clear g1 g2 g3
  obtain rfl := HA.out (by omega)
  have hcell := rowc HC.out (below_refl w) (xs.length - 1) (by omega)
  have hg := getD_at xs (xs.length - 1) (by omega)
  have hbl : b < w.heap.size := World.block_lt_of_cell? w _ hcell
  have W0 : IntKind.i64.wrap ((xs.length : Int) - 1) = ((xs.length - 1 : Nat) : Int) := by rw [IntKind.wrap_i64]; omega
  have q0 : (0 : Int) ≤ ((xs.length - 1 : Nat) : Int) := by omega
  have q1 : ((xs.length - 1 : Nat) : Int) < (xs.length : Int) := by omega
  have hC0 := (bcell (below_refl w)).1
  generalize xs[xs.length - 1]'(by omega) = y at hcell hg
  rw [hg] at HM
  clear hg
  cases g4 : leB (ab .f32 y) (ab .f32 t)
  all_goals
    rw [g4] at HM
    unfold leB at g4
    go_enter Try.func54, Try.ntmps54
    go_wp2_with (first | (go_at_call 56; (with_reducible refine (areMore_any _ xs _ (HV.out.below (by (repeat (first | (with_reducible assumption) | (with_reducible apply below_refl) | (with_reducible apply below_alloc1) | (with_reducible apply below_drewN1) | (with_reducible apply below_drew1)))))).mono ?_); rw [G1.out]; rintro e w' ⟨rfl, hb⟩; have hB : Below w.heap.size w w' := below_trans (by (repeat (first | (with_reducible assumption) | (with_reducible apply below_refl) | (with_reducible apply below_alloc1) | (with_reducible apply below_drewN1) | (with_reducible apply below_drew1)))) hb; have hC := (bcell hB).1; clear hb) | (go_at_call 109; (with_reducible refine (isSorted_any _ xs h1 HF.out _ (HV.out.below (by (repeat (first | (with_reducible assumption) | (with_reducible apply below_refl) | (with_reducible apply below_alloc1) | (with_reducible apply below_drewN1) | (with_reducible apply below_drew1)))))).mono ?_); rw [G2.out]; rintro e w' ⟨rfl, hb⟩; have hB : Below w.heap.size w w' := below_trans (by (repeat (first | (with_reducible assumption) | (with_reducible apply below_refl) | (with_reducible apply below_alloc1) | (with_reducible apply below_drewN1) | (with_reducible apply below_drew1)))) hb; have hC := (bcell hB).1; clear hb) | (go_at_call 81; (with_reducible refine (implFinite_any _ _).mono ?_); rw [G3.out]; rintro e w' ⟨rfl, hb⟩; have hB : Below w.heap.size w w' := below_trans (by (repeat (first | (with_reducible assumption) | (with_reducible apply below_refl) | (with_reducible apply below_alloc1) | (with_reducible apply below_drewN1) | (with_reducible apply below_drew1)))) hb; have hC := (bcell hB).1; clear hb) | go_quiet (fail))
    go_ret
    exact ⟨by rw [HM.out]; rfl, by assumption⟩
set_option maxRecDepth 100000 in
set_option maxHeartbeats 2000000 in
theorem implGrow_any (v : Value) (xs : List Nat) (t : Nat) (w : World) (hv : RowAt w v (xs.map (Value.float .f32))) :
    Calls Try.prog 11 #[v, .float .f32 t] w (FRowOk 27 (growXs xs (ab .f32 t)) (growAll xs (ab .f32 t)) w) := by
  obtain ⟨i0, hi0, hz0, hz1, hz2⟩ := info_parts (P := Try.prog) (e := 27) (z := Value.float .f32 0) (size := 1) (bytes := 4) (by kernel_rfl)
  have HV := hid hv
  obtain ⟨ao, cap, b, off, rfl, hao, hl, hm, hc⟩ := hv
  simp only [List.length_map] at hl HV hao ⊢
  unfold maxLen at hm
  have HC := hid hc; have HA := hid hao
  clear hc hao
  cases g1 : growOk xs (ab .f32 t)
  · have HE := hid (grow_fail g1)
    have G1 := hid g1; clear g1
    go_enter Try.func11, Try.ntmps11
    go_wp2_with (first | (go_at_call 54; (with_reducible refine (isGrowth_any _ xs _ _ (HV.out.below (by (repeat (first | (with_reducible assumption) | (with_reducible apply below_refl) | (with_reducible apply below_alloc1) | (with_reducible apply below_drewN1) | (with_reducible apply below_drew1)))))).mono ?_); rw [G1.out]; rintro e w' ⟨rfl, hb⟩; have hB : Below w.heap.size w w' := below_trans (by (repeat (first | (with_reducible assumption) | (with_reducible apply below_refl) | (with_reducible apply below_alloc1) | (with_reducible apply below_drewN1) | (with_reducible apply below_drew1)))) hb; have hC := (bcell hB).1; clear hb))
    go_ret2
    exact frow_no HE.out.1 HE.out.2 (by assumption)
  have HALL := hid (show growAll xs (ab .f32 t) = finL (growL xs xs.length) by simp [growAll, g1])
  obtain ⟨l1, l2⟩ := growOk_len g1
  have G1 := hid g1; clear g1
  obtain rfl := HA.out (by omega)
  go_enter Try.func11, Try.ntmps11
  go_wp2_with (first | (go_at_call 54; (with_reducible refine (isGrowth_any _ xs _ _ (HV.out.below (by (repeat (first | (with_reducible assumption) | (with_reducible apply below_refl) | (with_reducible apply below_alloc1) | (with_reducible apply below_drewN1) | (with_reducible apply below_drew1)))))).mono ?_); rw [G1.out]; rintro e w' ⟨rfl, hb⟩; have hB : Below w.heap.size w w' := below_trans (by (repeat (first | (with_reducible assumption) | (with_reducible apply below_refl) | (with_reducible apply below_alloc1) | (with_reducible apply below_drewN1) | (with_reducible apply below_drew1)))) hb; have hC := (bcell hB).1; clear hb))
  have hsz := (show Below w.heap.size w _ from by assumption).size
  go_loopw [6, 16] (fun v y wr => ∃ (k : Nat) (zs : List Nat), k ≤ xs.length ∧ y = .int .i64 k ∧ Hid (zs.map (ab .f32) = growL xs k) ∧ Hid (wr.ownsRow w.heap.size 27 1 v (zs.map (Value.float .f32)).length (zs.map (Value.float .f32))) ∧ Below w.heap.size w wr) (fun _ y _ => xs.length - (intOf y).toNat)
  case atStart => exact ⟨0, [], by omega, rfl, hid rfl, hid (World.ownsRow_made _ #[] 0 hsz (by simp [maxLen]) rfl), by (repeat (first | (with_reducible assumption) | (with_reducible apply below_refl) | (with_reducible apply below_alloc1) | (with_reducible apply below_drewN1) | (with_reducible apply below_drew1)))⟩
  case round =>
    obtain ⟨k, zs, hk, rfl, hx, ho, hw⟩ := hrel
    have hlen : zs.length = k := by have := congrArg List.length hx.out; simpa [growL_len] using this
    have HLEN := hid hlen; clear hlen
    by_cases hlt : k < xs.length
    · have hcell := rowc HC.out hw k hlt
      have hgd := getD_at xs k hlt
      have hC1 := (bcell hw).1
      have W1 : IntKind.i64.wrap ((k : Int) + 1) = (k : Int) + 1 := by rw [IntKind.wrap_i64]; omega
      generalize xs[k] = y at hcell hgd
      have HG := hid hgd; clear hgd
      go_wp2_with (first
        | (refine upon_float rfl ?_; intro r n hr; go_simp)
        | (at_builtin; refine wpList_push rfl _ _ 25 rfl Try.underlying25 hi0 hz0 hz1 hz2 rfl w.heap.size _ _ rfl rfl (ownsRow_below ho.out (by (repeat (first | (with_reducible assumption) | (with_reducible apply below_refl) | (with_reducible apply below_alloc1) | (with_reducible apply below_drewN1) | (with_reducible apply below_drew1))))) rfl (by rw [List.length_map, HLEN.out]; omega) (by decide) (Nat.le_trans hw.size (Below.size (show Below wr.heap.size wr _ by (repeat (first | (with_reducible assumption) | (with_reducible apply below_refl) | (with_reducible apply below_alloc1) | (with_reducible apply below_drewN1) | (with_reducible apply below_drew1)))))) ?_; intro v1 w2 hown hb2))
      go_roundw
      case rel =>
        refine ⟨k + 1, zs ++ [r], by omega, by go_num, hid ?_, hid (by rw [fl_vals]; exact hown), (below_trans hw (by (repeat (first | (with_reducible assumption) | (with_reducible apply below_refl) | (with_reducible apply below_alloc1) | (with_reducible apply below_drewN1) | (with_reducible apply below_drew1))))).trans hb2⟩
        rw [growL_next]
        exact fl_push hx.out (by simp only [*, growX, HG.out, ab_ofInt])
      case measure => simp [intOf]; omega
    · obtain rfl : k = xs.length := by omega
      cases hfin : finL (growL xs xs.length)
      · have HE := hid (grow_no (xs := xs) (to := ab .f32 t) (by rw [HALL.out, hfin]))
        have HE3 := hid (HALL.out.trans hfin)
        have HF := hid (show (zs.all fun b => finB (ab .f32 b)) = false by rw [finL_map, hx.out, hfin])
        clear hfin
        go_wp2_with ((go_at_call 59; (with_reducible refine (ifAll_no _ zs HF.out _ (Own.mk' ho.out).row).mono ?_); rintro e w' ⟨rfl, hb⟩; have hB : Below wr.heap.size wr w' := below_trans (by (repeat (first | (with_reducible assumption) | (with_reducible apply below_refl) | (with_reducible apply below_alloc1) | (with_reducible apply below_drewN1) | (with_reducible apply below_drew1)))) hb; have hC := (bcell hB).1; clear hb))
        go_ret2
        exact frow_no HE.out HE3.out (below_trans hw (by assumption))
      · have HE := hid (grow_yes (xs := xs) (to := ab .f32 t) (by rw [HALL.out, hfin]))
        have HE3 := hid (HALL.out.trans hfin)
        have HF := hid (show (zs.all fun b => finB (ab .f32 b)) = true by rw [finL_map, hx.out, hfin])
        have HX := hid (show zs = bitsOf (growL xs xs.length) from ab_bits _ _ hx.out hfin)
        clear hfin
        go_wp2_with ((go_at_call 59; (with_reducible refine (ifAll_yes _ zs HF.out _ (Own.mk' ho.out).row).mono ?_); rintro e w' ⟨rfl, hb⟩; have hB : Below wr.heap.size wr w' := below_trans (by (repeat (first | (with_reducible assumption) | (with_reducible apply below_refl) | (with_reducible apply below_alloc1) | (with_reducible apply below_drewN1) | (with_reducible apply below_drew1)))) hb; have hC := (bcell hB).1; clear hb))
        go_ret2
        exact frow_yes HE3.out (by rw [HE.out, ← HX.out]; exact ownsRow_below ho.out (by assumption)) (below_trans hw (by assumption))
end Go.Proofs.Ytkaeohlakeliiaa
