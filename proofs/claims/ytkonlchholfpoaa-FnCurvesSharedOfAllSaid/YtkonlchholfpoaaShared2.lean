/- Contracts: the reference's CurvesShared. -/
import Derived.Test.YtkonlchholfpoaaShared
namespace Go.Proofs.Ytkonlchholfpoaa
open Go.RowKit

def lotsTo (lots : List Int) (a b : Int) (k : Nat) : Prop := ∀ j (h : j < lots.length), j < k → isLotB lots[j] a b = true
theorem lotsTo_next {lots : List Int} {a b : Int} {k : Nat} (h : lotsTo lots a b k) (hk : k < lots.length) (h1 : isLotB lots[k] a b = true) : lotsTo lots a b (k + 1) := by
  intro j hj hjk
  by_cases e : j = k
  · subst e; exact h1
  · exact h j hj (by omega)
theorem lots_all {lots : List Int} {a b : Int} (h : lotsTo lots a b lots.length) : (lots.all fun l => isLotB l a b) = true := by
  rw [List.all_eq_true]
  intro x hx
  obtain ⟨i, hi, rfl⟩ := List.mem_iff_getElem.mp hx
  exact h i hi hi
theorem lots_not {lots : List Int} {a b : Int} {k : Nat} (hk : k < lots.length) (h : isLotB lots[k] a b = false) : (lots.all fun l => isLotB l a b) = false := by
  rw [List.all_eq_false]
  exact ⟨_, List.getElem_mem hk, by simp [h]⟩

set_option maxRecDepth 100000 in
set_option maxHeartbeats 2000000 in
theorem specShared_any (v : Value) (lots : List Int) (a b wk : Int) (w : World) (hv : RowAt w v (lots.map (Value.int .i64))) :
    Calls Try.prog 41 #[v, .agg #[.int .i64 a, .int .i64 b], .int .i64 wk] w (VRowOk 2 ((sharedXs lots a b wk).map (Value.int .i64)) (sharedB lots a b wk) w) := by
  obtain ⟨i0, hi, hz0, hz1, hz2⟩ := info_parts (P := Try.prog) (e := 2) (z := Value.int .i64 0) (size := 1) (bytes := 8) (by kernel_rfl)
  have HV := hid hv
  obtain ⟨ao, cap, bk, off, rfl, hao, hl, hm, hc⟩ := hv
  simp only [List.length_map] at hl HV hao ⊢
  unfold maxLen at hm
  have HC := hid hc; have HA := hid hao
  clear hc hao
  by_cases h1 : 1 ≤ lots.length
  rotate_left
  · have h1' : (lots.length : Int) < 1 := by omega
    have hB : sharedB lots a b wk = false := by simp [sharedB, h1]
    rw [shared_no hB, hB]; clear hB
    go_enter Try.func41, Try.ntmps41
    go_wp2_with fail
    obtain ⟨w1, hw1⟩ : ∃ w1 : World, w1 = (w.alloc (Obj.cells #[.int .i64 a, .int .i64 b] 27)) := ⟨_, rfl⟩
    have c0 : w1.cell? ⟨w.heap.size, 0, none⟩ = some (.int .i64 a) := by subst hw1; go_simp
    have c1 : w1.cell? ⟨w.heap.size, 1, none⟩ = some (.int .i64 b) := by subst hw1; go_simp
    rw [← hw1]
    have hb1 : Below w.heap.size w w1 := by subst hw1; exact below_alloc _ _
    have s0 : w.heap.size < w1.heap.size := by subst hw1; simp
    clear hw1
    go_wp2_with fail
    go_ret2
    exact ⟨_, rfl, World.ownsRow_nil _ _ _ _, below_trans hb1 (by (repeat (first | (with_reducible assumption) | (with_reducible apply below_refl) | (with_reducible apply below_alloc1) | (with_reducible apply below_drewN1) | (with_reducible apply below_drew1))))⟩
  have h1' : ¬ (lots.length : Int) < 1 := by omega
  by_cases h2 : lots.length ≤ 16
  rotate_left
  · have h2' : (16 : Int) < (lots.length : Int) := by omega
    have hB : sharedB lots a b wk = false := by simp [sharedB, h2]
    rw [shared_no hB, hB]; clear hB
    go_enter Try.func41, Try.ntmps41
    go_wp2_with fail
    obtain ⟨w1, hw1⟩ : ∃ w1 : World, w1 = (w.alloc (Obj.cells #[.int .i64 a, .int .i64 b] 27)) := ⟨_, rfl⟩
    have c0 : w1.cell? ⟨w.heap.size, 0, none⟩ = some (.int .i64 a) := by subst hw1; go_simp
    have c1 : w1.cell? ⟨w.heap.size, 1, none⟩ = some (.int .i64 b) := by subst hw1; go_simp
    rw [← hw1]
    have hb1 : Below w.heap.size w w1 := by subst hw1; exact below_alloc _ _
    have s0 : w.heap.size < w1.heap.size := by subst hw1; simp
    clear hw1
    go_wp2_with fail
    go_ret2
    exact ⟨_, rfl, World.ownsRow_nil _ _ _ _, below_trans hb1 (by (repeat (first | (with_reducible assumption) | (with_reducible apply below_refl) | (with_reducible apply below_alloc1) | (with_reducible apply below_drewN1) | (with_reducible apply below_drew1))))⟩
  have h2' : ¬ (16 : Int) < (lots.length : Int) := by omega
  cases g1 : inB wk 1 8
  · have hB : sharedB lots a b wk = false := by simp [sharedB, g1]
    rw [shared_no hB, hB]; clear hB
    go_enter Try.func41, Try.ntmps41
    go_wp2_with fail
    obtain ⟨w1, hw1⟩ : ∃ w1 : World, w1 = (w.alloc (Obj.cells #[.int .i64 a, .int .i64 b] 27)) := ⟨_, rfl⟩
    have c0 : w1.cell? ⟨w.heap.size, 0, none⟩ = some (.int .i64 a) := by subst hw1; go_simp
    have c1 : w1.cell? ⟨w.heap.size, 1, none⟩ = some (.int .i64 b) := by subst hw1; go_simp
    rw [← hw1]
    have hb1 : Below w.heap.size w w1 := by subst hw1; exact below_alloc _ _
    have s0 : w.heap.size < w1.heap.size := by subst hw1; simp
    clear hw1
    go_wp2_with (first | (go_at_call 59; refine (l00In_any _ _ _ _).mono ?_; rw [g1]; rintro e w' ⟨rfl, hb⟩; have hB : Below w1.heap.size w1 w' := below_trans (by (repeat (first | (with_reducible assumption) | (with_reducible apply below_refl) | (with_reducible apply below_alloc1) | (with_reducible apply below_drewN1) | (with_reducible apply below_drew1)))) hb; have hC := (bcell hB).1; clear hb))
    go_ret2
    exact ⟨_, rfl, World.ownsRow_nil _ _ _ _, below_trans hb1 (by assumption)⟩
  obtain rfl := HA.out (by omega)
  have G1 := hid g1; clear g1
  go_enter Try.func41, Try.ntmps41
  go_wp2_with fail
  obtain ⟨w1, hw1⟩ : ∃ w1 : World, w1 = (w.alloc (Obj.cells #[.int .i64 a, .int .i64 b] 27)) := ⟨_, rfl⟩
  have c0 : w1.cell? ⟨w.heap.size, 0, none⟩ = some (.int .i64 a) := by subst hw1; go_simp
  have c1 : w1.cell? ⟨w.heap.size, 1, none⟩ = some (.int .i64 b) := by subst hw1; go_simp
  rw [← hw1]
  have hb1 : Below w.heap.size w w1 := by subst hw1; exact below_alloc _ _
  have s0 : w.heap.size < w1.heap.size := by subst hw1; simp
  clear hw1
  go_wp2_with (first | (go_at_call 59; refine (l00In_any _ _ _ _).mono ?_; rw [G1.out]; rintro e w' ⟨rfl, hb⟩; have hB : Below w1.heap.size w1 w' := below_trans (by (repeat (first | (with_reducible assumption) | (with_reducible apply below_refl) | (with_reducible apply below_alloc1) | (with_reducible apply below_drewN1) | (with_reducible apply below_drew1)))) hb; have hC := (bcell hB).1; clear hb))
  have hsz := (show Below w1.heap.size w1 _ from by assumption).size
  go_loopw [8, 9] (fun x y wr => ∃ k : Nat, k ≤ lots.length ∧ y = .int .i64 k ∧ Hid (lotsTo lots a b k) ∧ Hid (wr.ownsRow w1.heap.size 2 1 x (sumsAt lots a b k).length (sumsAt lots a b k)) ∧ Below w1.heap.size w1 wr) (fun _ y _ => lots.length - (intOf y).toNat)
  case atStart => exact ⟨0, Nat.zero_le _, rfl, hid (fun j _ h => absurd h (Nat.not_lt_zero _)), hid (World.ownsRow_made _ #[] 0 hsz (by simp [maxLen]) rfl), by (repeat (first | (with_reducible assumption) | (with_reducible apply below_refl) | (with_reducible apply below_alloc1) | (with_reducible apply below_drewN1) | (with_reducible apply below_drew1)))⟩
  case round =>
    obtain ⟨k, hk, rfl, hall, ho, hw⟩ := hrel
    have hC1 := (bcell hw).1
    by_cases hlt : k < lots.length
    · have hcell := rowc HC.out (below_refl w) k hlt
      have hbl : bk < w.heap.size := World.block_lt_of_cell? w _ hcell
      have hcell1 := rowc HC.out (below_trans hb1 hw) k hlt
      have hcell0 := rowc HC.out hb1 k hlt
      have hbl1 : bk < w1.heap.size := Nat.lt_trans hbl s0
      have hltI : (k : Int) < (lots.length : Int) := by omega
      have hk0 : (0 : Int) ≤ (k : Int) := by omega
      have hnx := sums_next lots a b k hlt
      have hln := sumsAt_len lots a b k hk
      cases g : isLotB lots[k] a b
      · have hB : sharedB lots a b wk = false := by simp only [sharedB, lots_not hlt g, Bool.and_false]
        have HBB := hid hB; clear hB hnx hln
        have G := hid g; clear g
        generalize lots[k] = L at hcell hcell0 hcell1 G
        go_wp2_with (first
          | (go_region_held (fun w' => Below w1.heap.size w1 w' ∧ ∀ b o, b < w1.heap.size → w'.cell? ⟨b, o, none⟩ = w1.cell? ⟨b, o, none⟩) (first | exact keep_next ‹_› ‹_› | exact keep_start | exact keep_drew ‹_› | exact keep_of (by (repeat (first | (with_reducible assumption) | (with_reducible apply below_refl) | (with_reducible apply below_alloc1) | (with_reducible apply below_drewN1) | (with_reducible apply below_drew1))))) (first | (go_at_call 14; refine (specCurve_any _ a b _).mono ?_; rw [G.out]; rintro e w' ⟨vc, rfl, hoc, hb⟩)) <;> (rename_i hHeld; obtain ⟨hB, hC⟩ := hHeld)))
        all_goals
          go_ret2
          rw [shared_no HBB.out, HBB.out]
          exact ⟨_, rfl, World.ownsRow_nil _ _ _ _, below_trans hb1 (by assumption)⟩
      · have HALL := hid (lotsTo_next hall.out hlt g)
        have G := hid g; clear g
        have hcl := curveXs_len lots[k] a b
        have hcs := curveXs_small lots[k] a b
        generalize lots[k] = L at hcell hcell0 hcell1 G hnx hcl hcs
        have HN2 := hid hnx; have HCS := hid hcs
        clear hnx hcs
        go_wp2_with (first
          | (go_region_held (fun w' => Below w1.heap.size w1 w' ∧ ∀ b o, b < w1.heap.size → w'.cell? ⟨b, o, none⟩ = w1.cell? ⟨b, o, none⟩) (first | exact keep_next ‹_› ‹_› | exact keep_start | exact keep_drew ‹_› | exact keep_of (by (repeat (first | (with_reducible assumption) | (with_reducible apply below_refl) | (with_reducible apply below_alloc1) | (with_reducible apply below_drewN1) | (with_reducible apply below_drew1))))) (first | (go_at_call 14; refine (specCurve_any _ a b _).mono ?_; rw [G.out]; rintro e wc ⟨vc, rfl, hoc, hb⟩)) <;> (rename_i hHeld; obtain ⟨hB, hC⟩ := hHeld)))
        have hO1 := hid (ownsRow_below ho.out (below_trans (by (repeat (first | (with_reducible assumption) | (with_reducible apply below_refl) | (with_reducible apply below_alloc1) | (with_reducible apply below_drewN1) | (with_reducible apply below_drew1)))) hb))
        obtain ⟨ao2, cap2, b2, off2, rfl, hao2, hl2, hm2, hc2⟩ := OwnAt.row (OwnAt.mk' hoc) (below_refl wc)
        simp only [List.length_map] at hl2 hao2 ⊢
        unfold maxLen at hm2
        have HC2 := hid hc2; have HA2 := hid hao2
        clear hb hoc hc2 hao2
        go_loopw [13, 14] (fun x y wr2 => ∃ j : Nat, j ≤ (curveXs L a b).length ∧ y = .int .i64 j ∧ x = .int .i64 (sumAt (curveXs L a b) j) ∧ Below wc.heap.size wc wr2) (fun _ y _ => (curveXs L a b).length - (intOf y).toNat)
        case atStart => exact ⟨0, Nat.zero_le _, rfl, rfl, by (repeat (first | (with_reducible assumption) | (with_reducible apply below_refl) | (with_reducible apply below_alloc1) | (with_reducible apply below_drewN1) | (with_reducible apply below_drew1)))⟩
        case round =>
          obtain ⟨j, hj, rfl, rfl, hw3⟩ := hrel
          have hs := sumAt_le HCS.out j hj
          have hj41 : j * 1099511627776 ≤ 41 * 1099511627776 := Nat.mul_le_mul_right _ (by omega)
          by_cases hlj : j < (curveXs L a b).length
          · obtain rfl := HA2.out (by omega)
            have hcellj := rowc HC2.out hw3 j hlj
            have hx := HCS.out j hlj
            have hsn := sumAt_next (curveXs L a b) j hlj
            have HSN := hid hsn
            have hljI : (j : Int) < ((curveXs L a b).length : Int) := by omega
            have hj0 : (0 : Int) ≤ (j : Int) := by omega
            clear hsn
            generalize (curveXs L a b)[j] = X at hcellj hx HSN
            go_wp2_with (go_quiet (fail))
            go_roundw
            case rel => exact ⟨j + 1, by omega, by go_num, by rw [HSN.out], by (repeat (first | (with_reducible assumption) | (with_reducible apply below_refl) | (with_reducible apply below_alloc1) | (with_reducible apply below_drewN1) | (with_reducible apply below_drew1)))⟩
            case measure => simp [intOf]; omega
          · obtain rfl : j = (curveXs L a b).length := by omega
            have hO := hid (ownsRow_below hO1.out hw3)
            have hB3 := below_trans hB hw3
            have hz := hB3.size
            go_wp2_with ((at_builtin; refine wpList_push rfl _ _ 24 rfl Try.underlying24 hi hz0 hz1 hz2 rfl w1.heap.size _ _ rfl rfl hO.out rfl (by first | (simp; omega) | omega) (by decide) hz ?_; intro v1 w2 hown hb2))
            go_roundw
            case rel =>
              refine ⟨k + 1, by omega, by go_num, HALL, hid ?_, Below.trans hB3 hb2⟩
              rw [HN2.out]; exact hown
            case measure => simp [intOf]; omega
    · obtain rfl : k = lots.length := by omega
      have hB : sharedB lots a b wk = true := by simp only [sharedB, G1.out, lots_all hall.out, h1, h2, decide_true, Bool.and_true]
      have HBB := hid hB; clear hB
      go_wp2_with fail
      go_ret2
      rw [shared_yes HBB.out, HBB.out]
      refine ⟨_, rfl, ?_, below_trans hb1 (by assumption)⟩
      have h := ownsRow_low ho.out hb1.size
      simpa [sumsAt, Function.comp_def] using h
end Go.Proofs.Ytkonlchholfpoaa
