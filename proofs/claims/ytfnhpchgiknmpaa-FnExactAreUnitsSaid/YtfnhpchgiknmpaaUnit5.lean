/- Rows of units: validity, both sides. -/
import Derived.Test.YtfnhpchgiknmpaaUnit4
namespace Go.Proofs.Ytfnhpchgiknmpaa
open Go.RowKit

def covN (us : List Un) : Nat := match us with | [] => 0 | u :: _ => u.cs.length
theorem covN_at {us : List Un} (h : 0 < us.length) : covN us = (us[0]).cs.length := by
  cases us with
  | nil => simp at h
  | cons a t => rfl
def unitsB (us : List Un) : Bool := decide (1 ≤ us.length) && decide (us.length ≤ 48) && decide (1 ≤ covN us) && decide (covN us ≤ 4) && us.all (unitB (covN us))
theorem units_no {us : List Un} (h : ¬ (1 ≤ us.length) ∨ ¬ us.length ≤ 48 ∨ ¬ 1 ≤ covN us ∨ ¬ covN us ≤ 4) : unitsB us = false := by
  unfold unitsB
  rcases h with h | h | h | h <;> simp only [h, decide_false, Bool.and_false, Bool.false_and]
theorem units_yes {us : List Un} (h1 : 1 ≤ us.length) (h2 : us.length ≤ 48) (h3 : 1 ≤ covN us) (h4 : covN us ≤ 4) : unitsB us = us.all (unitB (covN us)) := by
  unfold unitsB
  simp only [h1, h2, h3, h4, decide_true, Bool.true_and]
theorem all_of_any {α : Type} (p : α → Bool) (us : List α) : (!us.any fun u => !p u) = us.all p := by
  rw [List.all_eq_not_any_not]

set_option maxRecDepth 100000 in
set_option maxHeartbeats 800000 in
theorem implUnits_any (v : Value) (us : List Un) (w : World) (hv : UnitsAt w v us) :
    Calls Try.prog 11 #[v] w fun e w' => e = .returned (.bool (unitsB us)) ∧ Below w.heap.size w w' := by
  have HV := hid hv
  obtain ⟨ao, cap, b, off, rfl, hao, hl, hm, hc⟩ := hv
  unfold maxLen at hm
  have HA := hid hao; have HC := hid hc
  clear hao hc
  by_cases h1 : 1 ≤ us.length
  rotate_left
  · have HM := hid (units_no (us := us) (Or.inl h1))
    have h1' : (us.length : Int) < 1 := by omega
    go_enter Try.func11, Try.ntmps11
    go_wp2_with fail
    go_ret
    exact ⟨by rw [HM.out]; rfl, by (repeat (first | (with_reducible assumption) | (with_reducible apply below_refl) | (with_reducible apply below_alloc1) | (with_reducible apply below_drewN1) | (with_reducible apply below_drew1)))⟩
  have h1' : ¬ (us.length : Int) < 1 := by omega
  by_cases h2 : us.length ≤ 48
  rotate_left
  · have HM := hid (units_no (us := us) (Or.inr (Or.inl h2)))
    have h2' : (48 : Int) < (us.length : Int) := by omega
    go_enter Try.func11, Try.ntmps11
    go_wp2_with fail
    go_ret
    exact ⟨by rw [HM.out]; rfl, by (repeat (first | (with_reducible assumption) | (with_reducible apply below_refl) | (with_reducible apply below_alloc1) | (with_reducible apply below_drewN1) | (with_reducible apply below_drew1)))⟩
  have h2' : ¬ (48 : Int) < (us.length : Int) := by omega
  obtain rfl := HA.out (by omega)
  obtain ⟨sa, sc, c0, c1, c2, hrow⟩ := HC.out 0 (by omega)
  have hcap := row_caps hrow
  unfold maxLen at hcap
  have hlt : (0 : Int) < (us.length : Int) := by omega
  have hcn := covN_at (us := us) (by omega)
  rw [Nat.zero_mul, Nat.add_zero] at c0 c1 c2
  rw [← hcn] at c2 hcap
  have HM1 := hid (units_no (us := us))
  have HM2 := hid (units_yes (us := us) h1 h2)
  generalize hn : covN us = n at c2 hcap HM1 HM2
  clear hcn hrow c0 c1
  have HN := hid hn; clear hn
  have hbl := World.block_lt_of_cell? w _ c2
  by_cases h3 : 1 ≤ n
  rotate_left
  · have h3' : ¬ (1 : Int) ≤ (n : Int) := by omega
    go_enter Try.func11, Try.ntmps11
    go_wp2_with fail
    go_ret
    exact ⟨by rw [HM1.out (Or.inr (Or.inr (Or.inl h3)))]; rfl, by (repeat (first | (with_reducible assumption) | (with_reducible apply below_refl) | (with_reducible apply below_alloc1) | (with_reducible apply below_drewN1) | (with_reducible apply below_drew1)))⟩
  have h3' : (1 : Int) ≤ (n : Int) := by omega
  by_cases h4 : n ≤ 4
  rotate_left
  · have h4' : ¬ (n : Int) ≤ 4 := by omega
    go_enter Try.func11, Try.ntmps11
    go_wp2_with fail
    go_ret
    exact ⟨by rw [HM1.out (Or.inr (Or.inr (Or.inr h4)))]; rfl, by (repeat (first | (with_reducible assumption) | (with_reducible apply below_refl) | (with_reducible apply below_alloc1) | (with_reducible apply below_drewN1) | (with_reducible apply below_drew1)))⟩
  have h4' : (n : Int) ≤ 4 := by omega
  have hcn0 : (w.alloc (.cells #[.int .i64 n] 3)).cell? ⟨w.heap.size, 0, none⟩ = some (.int .i64 n) := by
    simp
  have HCON := hid (containsFuncU 36 #[.pointer (some ⟨w.heap.size, 0, none⟩)] (fun u => !unitB n u) (fun _ _ => by kernel_rfl) _ us (w.alloc (.cells #[.int .i64 n] 3)) (fun x sa sc w1 hr hb1 => by
    have hc1 : w1.cell? ⟨w.heap.size, 0, none⟩ = some (.int .i64 n) := by rw [hb1.cell (p := ⟨w.heap.size, 0, none⟩) (by simp)]; exact hcn0
    simpa using areUnits_pred x sa sc n w.heap.size w1 (by unfold maxLen; omega) (hr.below hb1) hc1) (HV.out.below (by (repeat (first | (with_reducible assumption) | (with_reducible apply below_refl) | (with_reducible apply below_alloc1) | (with_reducible apply below_drewN1) | (with_reducible apply below_drew1))))))
  clear hcn0
  go_enter Try.func11, Try.ntmps11
  go_wp2_with (first
    | (go_at_call 35; refine (HCON.out).mono ?_; rintro e w' ⟨rfl, hb⟩; have hB : Below w.heap.size w w' := below_trans (by (repeat (first | (with_reducible assumption) | (with_reducible apply below_refl) | (with_reducible apply below_alloc1) | (with_reducible apply below_drewN1) | (with_reducible apply below_drew1)))) hb; clear hb))
  go_ret
  refine ⟨?_, by assumption⟩
  rw [HM2.out h3 h4, ← all_of_any]
  rfl
set_option maxRecDepth 100000 in
set_option maxHeartbeats 1600000 in
theorem specUnits_any (v : Value) (us : List Un) (w : World) (hv : UnitsAt w v us) :
    Calls Try.prog 33 #[v] w fun e w' => e = .returned (.bool (unitsB us)) ∧ Below w.heap.size w w' := by
  have HV := hid hv
  obtain ⟨ao, cap, b, off, rfl, hao, hl, hm, hc⟩ := hv
  unfold maxLen at hm
  have HA := hid hao; have HC := hid hc
  clear hao hc
  by_cases h1 : 1 ≤ us.length
  rotate_left
  · have HM := hid (units_no (us := us) (Or.inl h1))
    have h1' : (us.length : Int) < 1 := by omega
    go_enter Try.func33, Try.ntmps33
    go_wp2_with fail
    go_ret
    exact ⟨by rw [HM.out]; rfl, by (repeat (first | (with_reducible assumption) | (with_reducible apply below_refl) | (with_reducible apply below_alloc1) | (with_reducible apply below_drewN1) | (with_reducible apply below_drew1)))⟩
  have h1' : ¬ (us.length : Int) < 1 := by omega
  by_cases h2 : us.length ≤ 48
  rotate_left
  · have HM := hid (units_no (us := us) (Or.inr (Or.inl h2)))
    have h2' : (48 : Int) < (us.length : Int) := by omega
    go_enter Try.func33, Try.ntmps33
    go_wp2_with fail
    go_ret
    exact ⟨by rw [HM.out]; rfl, by (repeat (first | (with_reducible assumption) | (with_reducible apply below_refl) | (with_reducible apply below_alloc1) | (with_reducible apply below_drewN1) | (with_reducible apply below_drew1)))⟩
  have h2' : ¬ (48 : Int) < (us.length : Int) := by omega
  obtain rfl := HA.out (by omega)
  obtain ⟨sa, sc, c0, c1, c2, hrow⟩ := HC.out 0 (by omega)
  have hcap := row_caps hrow
  unfold maxLen at hcap
  have hlt : (0 : Int) < (us.length : Int) := by omega
  have hcn := covN_at (us := us) (by omega)
  rw [Nat.zero_mul, Nat.add_zero] at c0 c1 c2
  rw [← hcn] at c2 hcap
  have HM1 := hid (show (¬ 1 ≤ covN us ∨ ¬ covN us ≤ 4) → unitsB us = false from fun h => units_no (us := us) (Or.inr (Or.inr h)))
  have HM2 := hid (show unitsB us = (decide (1 ≤ covN us) && decide (covN us ≤ 4) && us.all (unitB (covN us))) by simp [unitsB, h1, h2])
  generalize hn : covN us = n at c2 hcap hcn HM1 HM2
  clear hcn hrow c0 c1
  have HN := hid hn; clear hn
  go_enter Try.func33, Try.ntmps33
  go_wp2_with fail
  go_loopw [20] (fun i wr => ∃ k : Nat, k ≤ us.length ∧ i = .int .i64 k ∧ Hid (∀ j x, j < k → us[j]? = some x → unitB n x = true) ∧ Below w.heap.size w wr) (fun i _ => us.length - (intOf i).toNat)
  case atStart => exact ⟨0, Nat.zero_le _, rfl, hid fun j x h => absurd h (Nat.not_lt_zero _), by (repeat (first | (with_reducible assumption) | (with_reducible apply below_refl) | (with_reducible apply below_alloc1) | (with_reducible apply below_drewN1) | (with_reducible apply below_drew1)))⟩
  case round =>
    obtain ⟨k, hk, rfl, HNO, hb⟩ := hrel
    by_cases hlt : k < us.length
    · obtain ⟨sa, sc, c0, c1, c2, hrow⟩ := HC.out k hlt
      have hbl0 : b < w.heap.size := World.block_lt_of_cell? w _ c0
      have c0' : wr.cell? ⟨b, off + k * 3, none⟩ = some (.float .f32 us[k].t) := by rw [hb.cell (p := ⟨b, _, none⟩) hbl0]; exact c0
      have c2' : wr.cell? ⟨b, off + k * 3 + 2, none⟩ = some (.slice sa us[k].cs.length sc) := by rw [hb.cell (p := ⟨b, _, none⟩) hbl0]; exact c2
      have HR := hid hrow
      have hcu := row_caps hrow
      have hgt := List.getElem?_eq_getElem hlt
      generalize us[k] = u at c0' c2' HR hgt hcu
      have HG := hid hgt
      have C0 := hid c0'; have C2 := hid c2'
      clear hrow c0 c1 c2 hgt
      have hbl : b < wr.heap.size := World.block_lt_of_cell? wr _ c0'
      have hk0 : (0 : Int) ≤ (k : Int) := by omega
      have hltI : (k : Int) < (us.length : Int) := by omega
      have HBAD := hid (show unitB n u = false → us.all (unitB n) = false from fun h => by
        rw [List.all_eq_false]
        exact ⟨u, List.mem_of_getElem? HG.out, by simp [h]⟩)
      cases g1 : moreB (ab .f32 u.t)
      · have HM := hid (show unitB n u = false by simp [unitB, g1])
        have G1 := hid g1; clear g1
        go_wp2_with (first
          | (go_at_call 59; refine (l02Above_any _ _).mono ?_; rw [G1.out]; rintro e w' ⟨rfl, hb2⟩; have hB : Below w.heap.size w w' := below_trans hb (below_trans (by (repeat (first | (with_reducible assumption) | (with_reducible apply below_refl) | (with_reducible apply below_alloc1) | (with_reducible apply below_drewN1) | (with_reducible apply below_drew1)))) hb2); have hB2 : Below wr.heap.size wr w' := below_trans (by (repeat (first | (with_reducible assumption) | (with_reducible apply below_refl) | (with_reducible apply below_alloc1) | (with_reducible apply below_drewN1) | (with_reducible apply below_drew1)))) hb2; have c0w : w'.cell? ⟨b, off + k * 3, none⟩ = some (.float .f32 u.t) := (by rw [hB2.cell (p := ⟨b, _, none⟩) hbl]; exact C0.out); have c2w : w'.cell? ⟨b, off + k * 3 + 2, none⟩ = some (.slice sa u.cs.length sc) := (by rw [hB2.cell (p := ⟨b, _, none⟩) hbl]; exact C2.out); clear hb2))
        go_ret
        exact ⟨by rw [HM2.out, HBAD.out HM.out, Bool.and_false]; rfl, by assumption⟩
      have G1 := hid g1
      by_cases g2 : u.cs.length = n
      rotate_left
      · have HM := hid (show unitB n u = false by simp [unitB, g1, g2])
        have g2' : ((u.cs.length : Int) != (n : Int)) = true := by simp; omega
        have g2'' : ((u.cs.length : Int) == (n : Int)) = false := by simp; omega
        clear g1 g2
        go_wp2_with (first
          | (go_at_call 59; refine (l02Above_any _ _).mono ?_; rw [G1.out]; rintro e w' ⟨rfl, hb2⟩; have hB : Below w.heap.size w w' := below_trans hb (below_trans (by (repeat (first | (with_reducible assumption) | (with_reducible apply below_refl) | (with_reducible apply below_alloc1) | (with_reducible apply below_drewN1) | (with_reducible apply below_drew1)))) hb2); have hB2 : Below wr.heap.size wr w' := below_trans (by (repeat (first | (with_reducible assumption) | (with_reducible apply below_refl) | (with_reducible apply below_alloc1) | (with_reducible apply below_drewN1) | (with_reducible apply below_drew1)))) hb2; have c0w : w'.cell? ⟨b, off + k * 3, none⟩ = some (.float .f32 u.t) := (by rw [hB2.cell (p := ⟨b, _, none⟩) hbl]; exact C0.out); have c2w : w'.cell? ⟨b, off + k * 3 + 2, none⟩ = some (.slice sa u.cs.length sc) := (by rw [hB2.cell (p := ⟨b, _, none⟩) hbl]; exact C2.out); clear hb2))
        go_ret
        exact ⟨by rw [HM2.out, HBAD.out HM.out, Bool.and_false]; rfl, by assumption⟩
      have g2' : ((u.cs.length : Int) != (n : Int)) = false := by simp; omega
      have g2'' : ((u.cs.length : Int) == (n : Int)) = true := by simp; omega
      cases g3 : u.cs.all fun b => finB (ab .f32 b)
      all_goals
        have HM := hid (show unitB n u = _ by simp only [unitB, g1, g2, g3]; rfl)
        have G3 := hid g3
        clear g1 g2 g3
        go_wp2_with (first
          | (go_at_call 59; refine (l02Above_any _ _).mono ?_; rw [G1.out]; rintro e w' ⟨rfl, hb2⟩; have hB : Below w.heap.size w w' := below_trans hb (below_trans (by (repeat (first | (with_reducible assumption) | (with_reducible apply below_refl) | (with_reducible apply below_alloc1) | (with_reducible apply below_drewN1) | (with_reducible apply below_drew1)))) hb2); have hB2 : Below wr.heap.size wr w' := below_trans (by (repeat (first | (with_reducible assumption) | (with_reducible apply below_refl) | (with_reducible apply below_alloc1) | (with_reducible apply below_drewN1) | (with_reducible apply below_drew1)))) hb2; have c0w : w'.cell? ⟨b, off + k * 3, none⟩ = some (.float .f32 u.t) := (by rw [hB2.cell (p := ⟨b, _, none⟩) hbl]; exact C0.out); have c2w : w'.cell? ⟨b, off + k * 3 + 2, none⟩ = some (.slice sa u.cs.length sc) := (by rw [hB2.cell (p := ⟨b, _, none⟩) hbl]; exact C2.out); clear hb2)
          | (go_at_call 66; (with_reducible refine (l02Finite_any _ u.cs _ (HR.out.below (by (repeat (first | (with_reducible assumption) | (with_reducible apply below_refl) | (with_reducible apply below_alloc1) | (with_reducible apply below_drewN1) | (with_reducible apply below_drew1)))))).mono ?_); rw [G3.out]; rintro e w' ⟨rfl, hb⟩; have hB : Below w.heap.size w w' := below_trans (by (repeat (first | (with_reducible assumption) | (with_reducible apply below_refl) | (with_reducible apply below_alloc1) | (with_reducible apply below_drewN1) | (with_reducible apply below_drew1)))) hb; have hC := (bcell hB).1; clear hb))
      · go_ret
        exact ⟨by rw [HM2.out, HBAD.out HM.out, Bool.and_false]; rfl, by assumption⟩
      · go_roundw
        case rel =>
          refine ⟨k + 1, by omega, by go_num, hid fun j x hj hx => ?_, by assumption⟩
          by_cases hjk : j = k
          · subst hjk
            rw [HG.out] at hx
            cases hx; exact HM.out
          · exact HNO.out j x (by omega) hx
        case measure => simp [intOf]; omega
    · obtain rfl : k = us.length := by omega
      have HALL := hid (all_take (unitB n) us (fun j x hj hx => HNO.out j x hj hx))
      by_cases h3 : 1 ≤ n
      rotate_left
      · have h3' : ¬ (1 : Int) ≤ (n : Int) := by omega
        go_wp2_with fail
        go_ret
        exact ⟨by rw [HM1.out (Or.inl h3)]; rfl, by assumption⟩
      have h3' : (1 : Int) ≤ (n : Int) := by omega
      by_cases h4 : n ≤ 4
      rotate_left
      · have h4' : ¬ (n : Int) ≤ 4 := by omega
        go_wp2_with fail
        go_ret
        exact ⟨by rw [HM1.out (Or.inr h4)]; rfl, by assumption⟩
      have h4' : (n : Int) ≤ 4 := by omega
      go_wp2_with fail
      go_ret
      exact ⟨by rw [HM2.out, HALL.out]; simp [h3, h4], by assumption⟩
end Go.Proofs.Ytfnhpchgiknmpaa
