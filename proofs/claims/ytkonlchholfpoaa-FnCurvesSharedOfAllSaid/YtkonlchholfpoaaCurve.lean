/- Contracts: AcceptCurve. -/
import Derived.Test.YtkonlchholfpoaaPlan
import Derived.Test.YtkonlchholfpoaaEq
namespace Go.Proofs.Ytkonlchholfpoaa
open Go.RowKit

/-- What a curve holds at so many bad parts. -/
def curveAt (lot a b : Int) (k : Nat) : Int := (accS k (lot.toNat - k) a (b + 1).toNat : Nat)
def curveL (lot a b : Int) : List Int := (List.range (lot + 1).toNat).map (curveAt lot a b)
/-- Results: a row, a number, a sign. -/
def RowNumOk (E : TypeId) (xs : List Value) (d : Int) (ok : Bool) (w : World) (e : Ending) (w' : World) : Prop :=
  ∃ v, e = .returned (.tuple #[v, .int .i64 d, .bool ok]) ∧ w'.ownsRow w.heap.size E 1 v xs.length xs ∧ Below w.heap.size w w'
def curveXs (lot a b : Int) : List Int := if isLotB lot a b then curveL lot a b else []
def curveD (lot a b : Int) : Int := if isLotB lot a b then (binI lot.toNat a : Nat) else 0
theorem curve_no {lot a b : Int} (h : isLotB lot a b = false) : curveXs lot a b = [] ∧ curveD lot a b = 0 := by simp [curveXs, curveD, h]
theorem curve_yes {lot a b : Int} (h : isLotB lot a b = true) : curveXs lot a b = curveL lot a b ∧ curveD lot a b = (binI lot.toNat a : Nat) := by simp [curveXs, curveD, h]
theorem curveXs_len (lot a b : Int) : (curveXs lot a b).length ≤ 41 := by
  cases h : isLotB lot a b
  · rw [(curve_no h).1]; simp
  · rw [(curve_yes h).1]; have := isLotB_true h; simp [curveL]; omega
theorem range_push (f : Nat → Value) (k : Nat) : (List.range (k + 1)).map f = (List.range k).map f ++ [f k] := by rw [List.range_succ, List.map_append]; rfl

set_option maxRecDepth 100000 in
set_option maxHeartbeats 2000000 in
theorem implCurve_any (lot a b : Int) (w : World) :
    Calls Try.prog 16 #[.int .i64 lot, .agg #[.int .i64 a, .int .i64 b]] w (RowNumOk 2 ((curveXs lot a b).map (Value.int .i64)) (curveD lot a b) (isLotB lot a b) w) := by
  obtain ⟨i0, hi, hz0, hz1, hz2⟩ := info_parts (P := Try.prog) (e := 2) (z := Value.int .i64 0) (size := 1) (bytes := 8) (by kernel_rfl)
  cases h1 : isLotB lot a b
  · obtain ⟨e1, e2⟩ := curve_no h1
    rw [e1, e2]
    clear e1 e2
    go_enter Try.func16, Try.ntmps16
    go_wp2_with fail
    obtain ⟨w1, hw1⟩ : ∃ w1 : World, w1 = (w.alloc (Obj.cells #[.int .i64 a, .int .i64 b] 27)) := ⟨_, rfl⟩
    have c0 : w1.cell? ⟨w.heap.size, 0, none⟩ = some (.int .i64 a) := by subst hw1; go_simp
    have c1 : w1.cell? ⟨w.heap.size, 1, none⟩ = some (.int .i64 b) := by subst hw1; go_simp
    rw [← hw1]
    have hb1 : Below w.heap.size w w1 := by subst hw1; exact below_alloc _ _
    have s0 : w.heap.size < w1.heap.size := by subst hw1; simp
    clear hw1
    go_wp2_with (first | (go_at_call 47; refine (isLot_any _ _ _ _).mono ?_; rintro e w' ⟨rfl, hb⟩; have hB : Below w1.heap.size w1 w' := below_trans (by (repeat (first | (with_reducible assumption) | (with_reducible apply below_refl) | (with_reducible apply below_alloc1) | (with_reducible apply below_drewN1) | (with_reducible apply below_drew1)))) hb; have hC := (bcell hB).1; clear hb))
    go_ret3
    exact ⟨_, rfl, World.ownsRow_nil _ _ _ _, below_trans hb1 (by assumption)⟩
  · obtain ⟨e1, e2⟩ := curve_yes h1
    rw [e1, e2]
    clear e1 e2
    obtain ⟨q1, q2, q3, q4, q5, q6⟩ := isLotB_true h1
    go_enter Try.func16, Try.ntmps16
    go_wp2_with fail
    obtain ⟨w1, hw1⟩ : ∃ w1 : World, w1 = (w.alloc (Obj.cells #[.int .i64 a, .int .i64 b] 27)) := ⟨_, rfl⟩
    have c0 : w1.cell? ⟨w.heap.size, 0, none⟩ = some (.int .i64 a) := by subst hw1; go_simp
    have c1 : w1.cell? ⟨w.heap.size, 1, none⟩ = some (.int .i64 b) := by subst hw1; go_simp
    rw [← hw1]
    have hb1 : Below w.heap.size w w1 := by subst hw1; exact below_alloc _ _
    have s0 : w.heap.size < w1.heap.size := by subst hw1; simp
    clear hw1
    go_wp2_with (first | (go_at_call 47; refine (isLot_any _ _ _ _).mono ?_; rintro e w' ⟨rfl, hb⟩; have hB : Below w1.heap.size w1 w' := below_trans (by (repeat (first | (with_reducible assumption) | (with_reducible apply below_refl) | (with_reducible apply below_alloc1) | (with_reducible apply below_drewN1) | (with_reducible apply below_drew1)))) hb; have hC := (bcell hB).1; clear hb))
    have hsz := (show Below w1.heap.size w1 _ from by assumption).size
    go_loopw [7, 16] (fun x y wr => ∃ k : Nat, (k : Int) ≤ lot + 1 ∧ y = .int .i64 k ∧ Hid (wr.ownsRow w1.heap.size 2 1 x ((List.range k).map fun j => Value.int .i64 (curveAt lot a b j)).length ((List.range k).map fun j => Value.int .i64 (curveAt lot a b j))) ∧ Below w1.heap.size w1 wr) (fun _ y _ => (lot + 1).toNat - (intOf y).toNat)
    case atStart => exact ⟨0, by omega, rfl, hid (World.ownsRow_made _ #[] 0 hsz (by simp [maxLen]) rfl), by (repeat (first | (with_reducible assumption) | (with_reducible apply below_refl) | (with_reducible apply below_alloc1) | (with_reducible apply below_drewN1) | (with_reducible apply below_drew1)))⟩
    case round =>
      obtain ⟨k, hk, rfl, ho, hw⟩ := hrel
      have hC1 := (bcell hw).1
      by_cases hlt : (k : Int) < lot + 1
      · have hle : (k : Int) ≤ lot := by omega
        go_wp2_with (first
          | (go_at_call 48; refine (accepts_any lot k a b ⟨by omega, by omega, by omega⟩ ⟨by omega, by omega⟩ ⟨by omega, by omega⟩ _).mono ?_; rintro e w' ⟨rfl, hb⟩; have hB : Below w1.heap.size w1 w' := below_trans (by (repeat (first | (with_reducible assumption) | (with_reducible apply below_refl) | (with_reducible apply below_alloc1) | (with_reducible apply below_drewN1) | (with_reducible apply below_drew1)))) hb; have hC := (bcell hB).1; have hO := hid (ownsRow_below ho.out hb); have hz := hB.size; clear hb)
          | (at_builtin; refine wpList_push rfl _ _ 24 rfl Try.underlying24 hi hz0 hz1 hz2 rfl w1.heap.size _ _ rfl rfl hO.out rfl (by first | (simp; omega) | omega) (by decide) hz ?_; intro v1 w2 hown hb2))
        go_roundw
        case rel =>
          refine ⟨k + 1, by omega, by go_num, hid ?_, Below.trans (by assumption) hb2⟩
          rw [range_push]; exact hown
        case measure => simp [intOf]; omega
      · have hle : ¬ (k : Int) ≤ lot := by omega
        have hk' : k = (lot + 1).toNat := by omega
        have HK := hid hk'; clear hk'
        go_wp2_with (go_at_call 49; refine (choose_i lot a ⟨by omega, by omega⟩ ⟨by omega, by omega⟩ _).mono ?_; rintro e w' ⟨rfl, hb⟩; have hB : Below w1.heap.size w1 w' := below_trans (by (repeat (first | (with_reducible assumption) | (with_reducible apply below_refl) | (with_reducible apply below_alloc1) | (with_reducible apply below_drewN1) | (with_reducible apply below_drew1)))) hb; have hC := (bcell hB).1; have hO := hid (ownsRow_below ho.out hb); clear hb)
        go_ret3
        refine ⟨_, rfl, ?_, below_trans hb1 (by assumption)⟩
        have h := ownsRow_low hO.out hb1.size
        rw [HK.out] at h
        simpa [curveL, Function.comp_def] using h
set_option maxRecDepth 100000 in
set_option maxHeartbeats 2000000 in
theorem specCurve_any (lot a b : Int) (w : World) :
    Calls Try.prog 14 #[.int .i64 lot, .agg #[.int .i64 a, .int .i64 b]] w (RowNumOk 2 ((curveXs lot a b).map (Value.int .i64)) (curveD lot a b) (isLotB lot a b) w) := by
  obtain ⟨i0, hi, hz0, hz1, hz2⟩ := info_parts (P := Try.prog) (e := 2) (z := Value.int .i64 0) (size := 1) (bytes := 8) (by kernel_rfl)
  cases h1 : isLotB lot a b
  · obtain ⟨e1, e2⟩ := curve_no h1
    rw [e1, e2]
    clear e1 e2
    go_enter Try.func14, Try.ntmps14
    go_wp2_with fail
    obtain ⟨w1, hw1⟩ : ∃ w1 : World, w1 = (w.alloc (Obj.cells #[.int .i64 a, .int .i64 b] 27)) := ⟨_, rfl⟩
    have c0 : w1.cell? ⟨w.heap.size, 0, none⟩ = some (.int .i64 a) := by subst hw1; go_simp
    have c1 : w1.cell? ⟨w.heap.size, 1, none⟩ = some (.int .i64 b) := by subst hw1; go_simp
    rw [← hw1]
    have hb1 : Below w.heap.size w w1 := by subst hw1; exact below_alloc _ _
    have s0 : w.heap.size < w1.heap.size := by subst hw1; simp
    clear hw1
    go_wp2_with (first | (go_at_call 44; refine (l06Lot_zero _ _ lot a b _ (by go_simp) (by go_simp)).mono ?_; rintro e w' ⟨rfl, hb⟩; have hB : Below w1.heap.size w1 w' := below_trans (by (repeat (first | (with_reducible assumption) | (with_reducible apply below_refl) | (with_reducible apply below_alloc1) | (with_reducible apply below_drewN1) | (with_reducible apply below_drew1)))) hb; have hC := (bcell hB).1; clear hb))
    go_ret3
    exact ⟨_, rfl, World.ownsRow_nil _ _ _ _, below_trans hb1 (by assumption)⟩
  · obtain ⟨e1, e2⟩ := curve_yes h1
    rw [e1, e2]
    clear e1 e2
    obtain ⟨q1, q2, q3, q4, q5, q6⟩ := isLotB_true h1
    go_enter Try.func14, Try.ntmps14
    go_wp2_with fail
    obtain ⟨w1, hw1⟩ : ∃ w1 : World, w1 = (w.alloc (Obj.cells #[.int .i64 a, .int .i64 b] 27)) := ⟨_, rfl⟩
    have c0 : w1.cell? ⟨w.heap.size, 0, none⟩ = some (.int .i64 a) := by subst hw1; go_simp
    have c1 : w1.cell? ⟨w.heap.size, 1, none⟩ = some (.int .i64 b) := by subst hw1; go_simp
    rw [← hw1]
    have hb1 : Below w.heap.size w w1 := by subst hw1; exact below_alloc _ _
    have s0 : w.heap.size < w1.heap.size := by subst hw1; simp
    clear hw1
    go_wp2_with (first | (go_at_call 44; refine (l06Lot_zero _ _ lot a b _ (by go_simp) (by go_simp)).mono ?_; rintro e w' ⟨rfl, hb⟩; have hB : Below w1.heap.size w1 w' := below_trans (by (repeat (first | (with_reducible assumption) | (with_reducible apply below_refl) | (with_reducible apply below_alloc1) | (with_reducible apply below_drewN1) | (with_reducible apply below_drew1)))) hb; have hC := (bcell hB).1; clear hb))
    have hsz := (show Below w1.heap.size w1 _ from by assumption).size
    go_loopw [7, 8] (fun x y wr => ∃ k : Nat, (k : Int) ≤ lot + 1 ∧ y = .int .i64 k ∧ Hid (wr.ownsRow w1.heap.size 2 1 x ((List.range k).map fun j => Value.int .i64 (curveAt lot a b j)).length ((List.range k).map fun j => Value.int .i64 (curveAt lot a b j))) ∧ Below w1.heap.size w1 wr) (fun _ y _ => (lot + 1).toNat - (intOf y).toNat)
    case atStart => exact ⟨0, by omega, rfl, hid (World.ownsRow_made _ #[] 0 hsz (by simp [maxLen]) rfl), by (repeat (first | (with_reducible assumption) | (with_reducible apply below_refl) | (with_reducible apply below_alloc1) | (with_reducible apply below_drewN1) | (with_reducible apply below_drew1)))⟩
    case round =>
      obtain ⟨k, hk, rfl, ho, hw⟩ := hrel
      have hC1 := (bcell hw).1
      by_cases hlt : (k : Int) < lot + 1
      · have hle : (k : Int) ≤ lot := by omega
        go_wp2_with (first
          | (go_at_call 45; refine (l06Sets_any lot k a b ⟨by omega, by omega, by omega⟩ ⟨by omega, by omega⟩ ⟨by omega, by omega⟩ _).mono ?_; rintro e w' ⟨rfl, hb⟩; have hB : Below w1.heap.size w1 w' := below_trans (by (repeat (first | (with_reducible assumption) | (with_reducible apply below_refl) | (with_reducible apply below_alloc1) | (with_reducible apply below_drewN1) | (with_reducible apply below_drew1)))) hb; have hC := (bcell hB).1; have hO := hid (ownsRow_below ho.out hb); have hz := hB.size; clear hb)
          | (at_builtin; refine wpList_push rfl _ _ 24 rfl Try.underlying24 hi hz0 hz1 hz2 rfl w1.heap.size _ _ rfl rfl hO.out rfl (by first | (simp; omega) | omega) (by decide) hz ?_; intro v1 w2 hown hb2))
        go_roundw
        case rel =>
          refine ⟨k + 1, by omega, by go_num, hid ?_, Below.trans (by assumption) hb2⟩
          rw [range_push]; exact hown
        case measure => simp [intOf]; omega
      · have hle : ¬ (k : Int) ≤ lot := by omega
        have hk' : k = (lot + 1).toNat := by omega
        have HK := hid hk'; clear hk'
        go_wp2_with (go_at_call 46; refine (l06Choose_i lot a ⟨by omega, by omega⟩ ⟨by omega, by omega⟩ _).mono ?_; rintro e w' ⟨rfl, hb⟩; have hB : Below w1.heap.size w1 w' := below_trans (by (repeat (first | (with_reducible assumption) | (with_reducible apply below_refl) | (with_reducible apply below_alloc1) | (with_reducible apply below_drewN1) | (with_reducible apply below_drew1)))) hb; have hC := (bcell hB).1; have hO := hid (ownsRow_below ho.out hb); clear hb)
        go_ret3
        refine ⟨_, rfl, ?_, below_trans hb1 (by assumption)⟩
        have h := ownsRow_low hO.out hb1.size
        rw [HK.out] at h
        simpa [curveL, Function.comp_def] using h

end Go.Proofs.Ytkonlchholfpoaa
