/- Contracts: CurvesShared. -/
import Derived.Test.YtkonlchholfpoaaCurve
import Derived.Test.YtkonlchholfpoaaSum
import Derived.Test.YtkonlchholfpoaaSeq
import Derived.Test.YtkonlchholfpoaaFL
namespace Go.Proofs.Ytkonlchholfpoaa
open Go.RowKit

def curveSum (lot a b : Int) : Int := sumL (curveXs lot a b)
theorem curveXs_small (lot a b : Int) : smallL 1099511627776 (curveXs lot a b) := by
  intro k hk
  cases h : isLotB lot a b
  · have hk' := hk
    rw [(curve_no h).1] at hk'
    simp at hk'
  · have q := isLotB_true h
    have e : (curveXs lot a b)[k] = curveAt lot a b k := by simp [(curve_yes h).1, curveL]
    have hk2 : k < (curveL lot a b).length := by rw [← (curve_yes h).1]; exact hk
    simp [curveL] at hk2
    rw [e]
    have := accS_le40 k (lot.toNat - k) a (b + 1).toNat (by omega)
    unfold curveAt
    omega
theorem curveSum_bd (lot a b : Int) : 0 ≤ curveSum lot a b ∧ curveSum lot a b ≤ 45079976738816 := by
  have h1 := sumL_le (curveXs_small lot a b)
  have h2 : (curveXs lot a b).length * 1099511627776 ≤ 41 * 1099511627776 := Nat.mul_le_mul_right _ (curveXs_len lot a b)
  unfold curveSum
  omega
def sharedB (lots : List Int) (a b wk : Int) : Bool := decide (1 ≤ lots.length) && decide (lots.length ≤ 16) && inB wk 1 8 && lots.all fun l => isLotB l a b
def sharedXs (lots : List Int) (a b wk : Int) : List Int := if sharedB lots a b wk then lots.map fun l => curveSum l a b else []
theorem shared_no {lots : List Int} {a b wk : Int} (h : sharedB lots a b wk = false) : sharedXs lots a b wk = [] := by simp [sharedXs, h]
theorem shared_yes {lots : List Int} {a b wk : Int} (h : sharedB lots a b wk = true) : sharedXs lots a b wk = lots.map fun l => curveSum l a b := by simp [sharedXs, h]
def sumsAt (lots : List Int) (a b : Int) (k : Nat) : List Value := (lots.take k).map fun l => Value.int .i64 (curveSum l a b)
theorem sums_next (lots : List Int) (a b : Int) (k : Nat) (h : k < lots.length) : sumsAt lots a b (k + 1) = sumsAt lots a b k ++ [Value.int .i64 (curveSum lots[k] a b)] := by
  unfold sumsAt; rw [List.take_succ_eq_append_getElem h, List.map_append]; rfl
theorem sumsAt_len (lots : List Int) (a b : Int) (k : Nat) (h : k ≤ lots.length) : (sumsAt lots a b k).length = k := by simp [sumsAt]; omega

set_option maxHeartbeats 400000 in
theorem areWorkers_any (n : Int) (w : World) :
    Calls Try.prog 75 #[.int .i64 n] w fun e w' => e = .returned (.bool (inB n 1 8)) ∧ Below w.heap.size w w' := by
  go_enter Try.func75, Try.ntmps75
  go_wp2_with (go_at_call 52; refine (within_any _ _ _ _).mono ?_; rintro e w' ⟨rfl, hb⟩; have hB : Below w.heap.size w w' := below_trans (by (repeat (first | (with_reducible assumption) | (with_reducible apply below_refl) | (with_reducible apply below_alloc1) | (with_reducible apply below_drewN1) | (with_reducible apply below_drew1)))) hb; have hC := (bcell hB).1; clear hb)
  go_ret
  exact ⟨rfl, by assumption⟩
set_option maxHeartbeats 400000 in
theorem sharedLot_pred (lot a b : Int) (pb : Nat) (w : World) (c0 : w.cell? ⟨pb, 0, none⟩ = some (.int .i64 a)) (c1 : w.cell? ⟨pb, 1, none⟩ = some (.int .i64 b)) :
    Calls Try.prog 77 #[.int .i64 lot, .pointer (some ⟨pb, 0, none⟩)] w fun e w' => e = .returned (.bool (!isLotB lot a b)) ∧ Below w.heap.size w w' := by
  go_enter Try.func77, Try.ntmps77
  go_wp2_with (first | (go_at_call 47; refine (isLot_any _ _ _ _).mono ?_; rintro e w' ⟨rfl, hb⟩; have hB : Below w.heap.size w w' := below_trans (by (repeat (first | (with_reducible assumption) | (with_reducible apply below_refl) | (with_reducible apply below_alloc1) | (with_reducible apply below_drewN1) | (with_reducible apply below_drew1)))) hb; have hC := (bcell hB).1; clear hb) | go_quiet (fail))
  go_ret
  exact ⟨rfl, by assumption⟩

set_option maxRecDepth 100000 in
set_option maxHeartbeats 2000000 in
theorem implShared_any (v : Value) (lots : List Int) (a b wk : Int) (w : World) (hv : RowAt w v (lots.map (Value.int .i64))) :
    Calls Try.prog 42 #[v, .agg #[.int .i64 a, .int .i64 b], .int .i64 wk] w (VRowOk 2 ((sharedXs lots a b wk).map (Value.int .i64)) (sharedB lots a b wk) w) := by
  obtain ⟨i0, hi, hz0, hz1, hz2⟩ := info_parts (P := Try.prog) (e := 2) (z := Value.int .i64 0) (size := 1) (bytes := 8) (by kernel_rfl)
  have HV := hid hv
  obtain ⟨ao, cap, bk, off, rfl, hao, hl, hm, hc⟩ := hv
  simp only [List.length_map] at hl HV hao ⊢
  unfold maxLen at hm
  have HC := hid hc; have HA := hid hao
  clear hc hao
  by_cases h1 : 1 ≤ lots.length
  rotate_left
  · have h1' : (lots.length : Int) < 1 := by omega
    have hB : sharedB lots a b wk = false := by simp [sharedB, h1]
    rw [shared_no hB, hB]; clear hB
    go_enter Try.func42, Try.ntmps42
    go_wp2_with fail
    obtain ⟨w1, hw1⟩ : ∃ w1 : World, w1 = (w.alloc (Obj.cells #[.int .i64 a, .int .i64 b] 27)) := ⟨_, rfl⟩
    have c0 : w1.cell? ⟨w.heap.size, 0, none⟩ = some (.int .i64 a) := by subst hw1; go_simp
    have c1 : w1.cell? ⟨w.heap.size, 1, none⟩ = some (.int .i64 b) := by subst hw1; go_simp
    rw [← hw1]
    have hb1 : Below w.heap.size w w1 := by subst hw1; exact below_alloc _ _
    have s0 : w.heap.size < w1.heap.size := by subst hw1; simp
    clear hw1
    go_wp2_with fail
    go_ret2
    exact ⟨_, rfl, World.ownsRow_nil _ _ _ _, below_trans hb1 (by (repeat (first | (with_reducible assumption) | (with_reducible apply below_refl) | (with_reducible apply below_alloc1) | (with_reducible apply below_drewN1) | (with_reducible apply below_drew1))))⟩
  have h1' : ¬ (lots.length : Int) < 1 := by omega
  by_cases h2 : lots.length ≤ 16
  rotate_left
  · have h2' : (16 : Int) < (lots.length : Int) := by omega
    have hB : sharedB lots a b wk = false := by simp [sharedB, h2]
    rw [shared_no hB, hB]; clear hB
    go_enter Try.func42, Try.ntmps42
    go_wp2_with fail
    obtain ⟨w1, hw1⟩ : ∃ w1 : World, w1 = (w.alloc (Obj.cells #[.int .i64 a, .int .i64 b] 27)) := ⟨_, rfl⟩
    have c0 : w1.cell? ⟨w.heap.size, 0, none⟩ = some (.int .i64 a) := by subst hw1; go_simp
    have c1 : w1.cell? ⟨w.heap.size, 1, none⟩ = some (.int .i64 b) := by subst hw1; go_simp
    rw [← hw1]
    have hb1 : Below w.heap.size w w1 := by subst hw1; exact below_alloc _ _
    have s0 : w.heap.size < w1.heap.size := by subst hw1; simp
    clear hw1
    go_wp2_with fail
    go_ret2
    exact ⟨_, rfl, World.ownsRow_nil _ _ _ _, below_trans hb1 (by (repeat (first | (with_reducible assumption) | (with_reducible apply below_refl) | (with_reducible apply below_alloc1) | (with_reducible apply below_drewN1) | (with_reducible apply below_drew1))))⟩
  have h2' : ¬ (16 : Int) < (lots.length : Int) := by omega
  cases g1 : inB wk 1 8
  · have hB : sharedB lots a b wk = false := by simp [sharedB, g1]
    rw [shared_no hB, hB]; clear hB
    go_enter Try.func42, Try.ntmps42
    go_wp2_with fail
    obtain ⟨w1, hw1⟩ : ∃ w1 : World, w1 = (w.alloc (Obj.cells #[.int .i64 a, .int .i64 b] 27)) := ⟨_, rfl⟩
    have c0 : w1.cell? ⟨w.heap.size, 0, none⟩ = some (.int .i64 a) := by subst hw1; go_simp
    have c1 : w1.cell? ⟨w.heap.size, 1, none⟩ = some (.int .i64 b) := by subst hw1; go_simp
    rw [← hw1]
    have hb1 : Below w.heap.size w w1 := by subst hw1; exact below_alloc _ _
    have s0 : w.heap.size < w1.heap.size := by subst hw1; simp
    clear hw1
    go_wp2_with (first | (go_at_call 75; refine (areWorkers_any _ _).mono ?_; rw [g1]; rintro e w' ⟨rfl, hb⟩; have hB : Below w1.heap.size w1 w' := below_trans (by (repeat (first | (with_reducible assumption) | (with_reducible apply below_refl) | (with_reducible apply below_alloc1) | (with_reducible apply below_drewN1) | (with_reducible apply below_drew1)))) hb; have hC := (bcell hB).1; clear hb))
    go_ret2
    exact ⟨_, rfl, World.ownsRow_nil _ _ _ _, below_trans hb1 (by assumption)⟩
  obtain rfl := HA.out (by omega)
  have hany : (lots.any fun l => !isLotB l a b) = !(lots.all fun l => isLotB l a b) := by
    rw [List.any_eq_not_all_not]; simp
  cases g2 : (lots.all fun l => isLotB l a b)
  · have hB : sharedB lots a b wk = false := by simp only [sharedB, g2, Bool.and_false]
    rw [shared_no hB, hB]; clear hB
    have HN := hid (show (lots.any fun l => !isLotB l a b) = true from hany.trans (by rw [g2]; rfl)); clear hany g2
    go_enter Try.func42, Try.ntmps42
    go_wp2_with fail
    obtain ⟨w1, hw1⟩ : ∃ w1 : World, w1 = (w.alloc (Obj.cells #[.int .i64 a, .int .i64 b] 27)) := ⟨_, rfl⟩
    have c0 : w1.cell? ⟨w.heap.size, 0, none⟩ = some (.int .i64 a) := by subst hw1; go_simp
    have c1 : w1.cell? ⟨w.heap.size, 1, none⟩ = some (.int .i64 b) := by subst hw1; go_simp
    rw [← hw1]
    have hb1 : Below w.heap.size w w1 := by subst hw1; exact below_alloc _ _
    have s0 : w.heap.size < w1.heap.size := by subst hw1; simp
    clear hw1
    have HC0 := hid (show ∀ w2, Below w1.heap.size w1 w2 → w2.cell? ⟨w.heap.size, 0, none⟩ = some (.int .i64 a) from fun w2 h => by rw [h.cell (p := ⟨w.heap.size, 0, none⟩) s0]; exact c0)
    have HC1 := hid (show ∀ w2, Below w1.heap.size w1 w2 → w2.cell? ⟨w.heap.size, 1, none⟩ = some (.int .i64 b) from fun w2 h => by rw [h.cell (p := ⟨w.heap.size, 1, none⟩) s0]; exact c1)
    go_wp2_with (first
      | (go_at_call 75; refine (areWorkers_any _ _).mono ?_; rw [g1]; rintro e w' ⟨rfl, hb⟩; have hB : Below w1.heap.size w1 w' := below_trans (by (repeat (first | (with_reducible assumption) | (with_reducible apply below_refl) | (with_reducible apply below_alloc1) | (with_reducible apply below_drewN1) | (with_reducible apply below_drew1)))) hb; have hC := (bcell hB).1; clear hb)
      | (go_at_call 76; refine (containsFuncI 77 #[.pointer (some ⟨w.heap.size, 0, none⟩)] (fun l => !isLotB l a b) (fun _ _ => by kernel_rfl) _ lots _ (fun x w2 _ hb2 => sharedLot_pred x a b _ w2 (HC0.out w2 (below_trans (by (repeat (first | (with_reducible assumption) | (with_reducible apply below_refl) | (with_reducible apply below_alloc1) | (with_reducible apply below_drewN1) | (with_reducible apply below_drew1)))) hb2)) (HC1.out w2 (below_trans (by (repeat (first | (with_reducible assumption) | (with_reducible apply below_refl) | (with_reducible apply below_alloc1) | (with_reducible apply below_drewN1) | (with_reducible apply below_drew1)))) hb2))) (HV.out.below (below_trans hb1 (by (repeat (first | (with_reducible assumption) | (with_reducible apply below_refl) | (with_reducible apply below_alloc1) | (with_reducible apply below_drewN1) | (with_reducible apply below_drew1))))))).mono ?_; rw [HN.out]; rintro e w' ⟨rfl, hb⟩; have hB : Below w1.heap.size w1 w' := below_trans (by (repeat (first | (with_reducible assumption) | (with_reducible apply below_refl) | (with_reducible apply below_alloc1) | (with_reducible apply below_drewN1) | (with_reducible apply below_drew1)))) hb; have hC := (bcell hB).1; clear hb))
    go_ret2
    exact ⟨_, rfl, World.ownsRow_nil _ _ _ _, below_trans hb1 (by assumption)⟩
  have hB : sharedB lots a b wk = true := by simp only [sharedB, g1, g2, h1, h2, decide_true, Bool.and_true]
  rw [shared_yes hB, hB]; clear hB
  have HN := hid (show (lots.any fun l => !isLotB l a b) = false from hany.trans (by rw [g2]; rfl)); clear hany
  have HALL := hid g2; clear g2
  go_enter Try.func42, Try.ntmps42
  go_wp2_with fail
  obtain ⟨w1, hw1⟩ : ∃ w1 : World, w1 = (w.alloc (Obj.cells #[.int .i64 a, .int .i64 b] 27)) := ⟨_, rfl⟩
  have c0 : w1.cell? ⟨w.heap.size, 0, none⟩ = some (.int .i64 a) := by subst hw1; go_simp
  have c1 : w1.cell? ⟨w.heap.size, 1, none⟩ = some (.int .i64 b) := by subst hw1; go_simp
  rw [← hw1]
  have hb1 : Below w.heap.size w w1 := by subst hw1; exact below_alloc _ _
  have s0 : w.heap.size < w1.heap.size := by subst hw1; simp
  clear hw1
  have HC0 := hid (show ∀ w2, Below w1.heap.size w1 w2 → w2.cell? ⟨w.heap.size, 0, none⟩ = some (.int .i64 a) from fun w2 h => by rw [h.cell (p := ⟨w.heap.size, 0, none⟩) s0]; exact c0)
  have HC1 := hid (show ∀ w2, Below w1.heap.size w1 w2 → w2.cell? ⟨w.heap.size, 1, none⟩ = some (.int .i64 b) from fun w2 h => by rw [h.cell (p := ⟨w.heap.size, 1, none⟩) s0]; exact c1)
  go_wp2_with (first
      | (go_at_call 75; refine (areWorkers_any _ _).mono ?_; rw [g1]; rintro e w' ⟨rfl, hb⟩; have hB : Below w1.heap.size w1 w' := below_trans (by (repeat (first | (with_reducible assumption) | (with_reducible apply below_refl) | (with_reducible apply below_alloc1) | (with_reducible apply below_drewN1) | (with_reducible apply below_drew1)))) hb; have hC := (bcell hB).1; clear hb)
      | (go_at_call 76; refine (containsFuncI 77 #[.pointer (some ⟨w.heap.size, 0, none⟩)] (fun l => !isLotB l a b) (fun _ _ => by kernel_rfl) _ lots _ (fun x w2 _ hb2 => sharedLot_pred x a b _ w2 (HC0.out w2 (below_trans (by (repeat (first | (with_reducible assumption) | (with_reducible apply below_refl) | (with_reducible apply below_alloc1) | (with_reducible apply below_drewN1) | (with_reducible apply below_drew1)))) hb2)) (HC1.out w2 (below_trans (by (repeat (first | (with_reducible assumption) | (with_reducible apply below_refl) | (with_reducible apply below_alloc1) | (with_reducible apply below_drewN1) | (with_reducible apply below_drew1)))) hb2))) (HV.out.below (below_trans hb1 (by (repeat (first | (with_reducible assumption) | (with_reducible apply below_refl) | (with_reducible apply below_alloc1) | (with_reducible apply below_drewN1) | (with_reducible apply below_drew1))))))).mono ?_; rw [HN.out]; rintro e w' ⟨rfl, hb⟩; have hB : Below w1.heap.size w1 w' := below_trans (by (repeat (first | (with_reducible assumption) | (with_reducible apply below_refl) | (with_reducible apply below_alloc1) | (with_reducible apply below_drewN1) | (with_reducible apply below_drew1)))) hb; have hC := (bcell hB).1; clear hb))
  have hsz := (show Below w1.heap.size w1 _ from by assumption).size
  go_loopw [8, 35] (fun x y wr => ∃ k : Nat, k ≤ lots.length ∧ y = .int .i64 k ∧ Hid (wr.ownsRow w1.heap.size 2 1 x (sumsAt lots a b k).length (sumsAt lots a b k)) ∧ Below w1.heap.size w1 wr) (fun _ y _ => lots.length - (intOf y).toNat)
  case atStart => exact ⟨0, Nat.zero_le _, rfl, hid (World.ownsRow_made _ #[] 0 hsz (by simp [maxLen]) rfl), by (repeat (first | (with_reducible assumption) | (with_reducible apply below_refl) | (with_reducible apply below_alloc1) | (with_reducible apply below_drewN1) | (with_reducible apply below_drew1)))⟩
  case round =>
    obtain ⟨k, hk, rfl, ho, hw⟩ := hrel
    have hC1 := (bcell hw).1
    by_cases hlt : k < lots.length
    · have hcell := rowc HC.out (below_refl w) k hlt
      have hbl : bk < w.heap.size := World.block_lt_of_cell? w _ hcell
      have hcell1 := rowc HC.out (below_trans hb1 hw) k hlt
      have hnx := sums_next lots a b k hlt
      have hln := sumsAt_len lots a b k hk
      generalize lots[k] = L at hcell hcell1 hnx
      have HN2 := hid hnx
      clear hnx
      go_wp2_with (first
        | (go_at_call 16; refine (implCurve_any _ a b _).mono ?_; rintro e w' ⟨vc, rfl, hoc, hb⟩; have hB : Below w1.heap.size w1 w' := below_trans (by (repeat (first | (with_reducible assumption) | (with_reducible apply below_refl) | (with_reducible apply below_alloc1) | (with_reducible apply below_drewN1) | (with_reducible apply below_drew1)))) hb; have hC := (bcell hB).1; have hO1 := hid (ownsRow_below ho.out hb); have HCV := hid (OwnAt.mk' hoc); clear hb hoc)
        | (go_at_call 74; refine (sumOf_any _ (curveXs L a b) 1099511627776 (curveXs_small _ _ _) (by have := curveXs_len L a b; omega) _ (OwnAt.row HCV.out (by (repeat (first | (with_reducible assumption) | (with_reducible apply below_refl) | (with_reducible apply below_alloc1) | (with_reducible apply below_drewN1) | (with_reducible apply below_drew1)))))).mono ?_; rintro e w' ⟨rfl, hb⟩; have hB : Below w1.heap.size w1 w' := below_trans (by (repeat (first | (with_reducible assumption) | (with_reducible apply below_refl) | (with_reducible apply below_alloc1) | (with_reducible apply below_drewN1) | (with_reducible apply below_drew1)))) hb; have hC := (bcell hB).1; have hO := hid (ownsRow_below hO1.out hb); have hz := hB.size; clear hb)
        | (at_builtin; refine wpList_push rfl _ _ 24 rfl Try.underlying24 hi hz0 hz1 hz2 rfl w1.heap.size _ _ rfl rfl hO.out rfl (by first | (simp; omega) | omega) (by decide) hz ?_; intro v1 w2 hown hb2))
      go_roundw
      case rel =>
        refine ⟨k + 1, by omega, by go_num, hid ?_, Below.trans (by assumption) hb2⟩
        rw [HN2.out]; exact hown
      case measure => simp [intOf]; omega
    · obtain rfl : k = lots.length := by omega
      go_wp2_with fail
      go_ret2
      refine ⟨_, rfl, ?_, below_trans hb1 (by assumption)⟩
      have h := ownsRow_low ho.out hb1.size
      simpa [sumsAt, Function.comp_def] using h
end Go.Proofs.Ytkonlchholfpoaa
