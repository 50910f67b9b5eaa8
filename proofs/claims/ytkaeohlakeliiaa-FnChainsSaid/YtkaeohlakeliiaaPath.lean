/- Contracts: paths, rising times, PathCross. -/
import Derived.Test.YtkaeohlakeliiaaFL
import Derived.Test.YtkaeohlakeliiaaInt
import Derived.Test.YtkaeohlakeliiaaMag3
namespace Go.Proofs.Ytkaeohlakeliiaa
open Go.RowKit

def pathB (xs ys : List Nat) : Bool := decide (2 ≤ xs.length) && decide (xs.length ≤ 48) && decide (ys.length = xs.length) && (xs.all fun b => finB (ab .f32 b)) && (ys.all fun b => finB (ab .f32 b))
theorem pathB_true {xs ys : List Nat} (h : pathB xs ys = true) : 2 ≤ xs.length ∧ xs.length ≤ 48 ∧ ys.length = xs.length ∧ (∀ k (h : k < xs.length), finite32 (ab .f32 xs[k]) = true) ∧ (∀ k (h : k < ys.length), finite32 (ab .f32 ys[k]) = true) := by
  simp only [pathB, Bool.and_eq_true, List.all_eq_true, decide_eq_true_eq] at h
  exact ⟨h.1.1.1.1, h.1.1.1.2, h.1.1.2, fun k hk => h.1.2 _ (List.getElem_mem hk), fun k hk => h.2 _ (List.getElem_mem hk)⟩
def riseAt (xs : List Nat) (k : Nat) : Bool := ford .f32 (ab .f32 (xs.getD (k + 1) 0)) (ab .f32 (xs.getD k 0)) == some .gt
/-- Strictly ascending. -/
def riseB (xs : List Nat) : Bool := (List.range (xs.length - 1)).all (riseAt xs)
theorem riseB_yes {xs : List Nat} (h : ∀ j, j + 1 < xs.length → riseAt xs j = true) : riseB xs = true := by
  unfold riseB
  rw [List.all_eq_true]
  intro j hj
  exact h j (by have := List.mem_range.1 hj; omega)
theorem riseB_no {xs : List Nat} {k : Nat} (hk : k + 1 < xs.length) (h : riseAt xs k = false) : riseB xs = false := by
  unfold riseB
  rw [List.all_eq_false]
  exact ⟨k, List.mem_range.2 (by omega), by simp [h]⟩
theorem getD_at (xs : List Nat) (k : Nat) (h : k < xs.length) : xs.getD k 0 = xs[k] := by simp [h]

set_option maxRecDepth 100000 in
set_option maxHeartbeats 800000 in
theorem arePaths_any (v u : Value) (xs ys : List Nat) (w : World) (hv : RowAt w v (xs.map (Value.float .f32))) (hu : RowAt w u (ys.map (Value.float .f32))) :
    Calls Try.prog 77 #[v, u] w fun e w' => e = .returned (.bool (pathB xs ys)) ∧ Below w.heap.size w w' := by
  have HV := hid hv
  have HU := hid hu
  obtain ⟨ao, cap, b, off, rfl, hao, hl, hm, hc⟩ := hv
  obtain ⟨ao', cap', b', off', rfl, hao', hl', hm', hc'⟩ := hu
  simp only [List.length_map] at hl HV hl' HU ⊢
  unfold maxLen at hm hm'
  clear hc hao hc' hao'
  by_cases h1 : 2 ≤ xs.length
  · have h1' : (2 : Int) ≤ (xs.length : Int) := by omega
    by_cases h2 : xs.length ≤ 48
    · have h2' : (xs.length : Int) ≤ 48 := by omega
      by_cases h3 : ys.length = xs.length
      · have hr : pathB xs ys = ((xs.all fun b => finB (ab .f32 b)) && (ys.all fun b => finB (ab .f32 b))) := by simp [pathB, h1, h2, h3]
        rw [hr]; clear hr
        rw [h3] at hl' HU ⊢
        cases g1 : (xs.all fun b => finB (ab .f32 b))
        · have G1 := hid g1; clear g1
          go_enter Try.func77, Try.ntmps77
          go_wp2_with (go_at_call 58; refine (areFinite_any _ xs _ (HV.out.below (by (repeat (first | (with_reducible assumption) | (with_reducible apply below_refl) | (with_reducible apply below_alloc1) | (with_reducible apply below_drewN1) | (with_reducible apply below_drew1)))))).mono ?_; rw [G1.out]; rintro e w' ⟨rfl, hb⟩; have hB : Below w.heap.size w w' := below_trans (by (repeat (first | (with_reducible assumption) | (with_reducible apply below_refl) | (with_reducible apply below_alloc1) | (with_reducible apply below_drewN1) | (with_reducible apply below_drew1)))) hb; have hC := (bcell hB).1; clear hb)
          go_ret
          exact ⟨rfl, by assumption⟩
        · have G1 := hid g1; clear g1
          go_enter Try.func77, Try.ntmps77
          go_wp2_with (first | (go_at_call 58; (with_reducible refine (areFinite_any _ xs _ (HV.out.below (by (repeat (first | (with_reducible assumption) | (with_reducible apply below_refl) | (with_reducible apply below_alloc1) | (with_reducible apply below_drewN1) | (with_reducible apply below_drew1)))))).mono ?_); rw [G1.out]; rintro e w' ⟨rfl, hb⟩; have hB : Below w.heap.size w w' := below_trans (by (repeat (first | (with_reducible assumption) | (with_reducible apply below_refl) | (with_reducible apply below_alloc1) | (with_reducible apply below_drewN1) | (with_reducible apply below_drew1)))) hb; have hC := (bcell hB).1; clear hb) | (go_at_call 58; (with_reducible refine (areFinite_any _ ys _ (HU.out.below (by (repeat (first | (with_reducible assumption) | (with_reducible apply below_refl) | (with_reducible apply below_alloc1) | (with_reducible apply below_drewN1) | (with_reducible apply below_drew1)))))).mono ?_); rintro e w' ⟨rfl, hb⟩; have hB : Below w.heap.size w w' := below_trans (by (repeat (first | (with_reducible assumption) | (with_reducible apply below_refl) | (with_reducible apply below_alloc1) | (with_reducible apply below_drewN1) | (with_reducible apply below_drew1)))) hb; have hC := (bcell hB).1; clear hb))
          go_ret
          exact ⟨by simp, by assumption⟩
      · have h3' : ((ys.length : Int) == (xs.length : Int)) = false := by simp; omega
        have hr : pathB xs ys = false := by simp [pathB, h3]
        rw [hr]; clear hr
        go_enter Try.func77, Try.ntmps77
        go_wp2_with fail
        go_ret
        exact ⟨rfl, by (repeat (first | (with_reducible assumption) | (with_reducible apply below_refl) | (with_reducible apply below_alloc1) | (with_reducible apply below_drewN1) | (with_reducible apply below_drew1)))⟩
    · have h2' : ¬ (xs.length : Int) ≤ 48 := by omega
      have hr : pathB xs ys = false := by simp [pathB, h2]
      rw [hr]; clear hr
      go_enter Try.func77, Try.ntmps77
      go_wp2_with fail
      go_ret
      exact ⟨rfl, by (repeat (first | (with_reducible assumption) | (with_reducible apply below_refl) | (with_reducible apply below_alloc1) | (with_reducible apply below_drewN1) | (with_reducible apply below_drew1)))⟩
  · have h1' : ¬ (2 : Int) ≤ (xs.length : Int) := by omega
    have hr : pathB xs ys = false := by simp [pathB, h1]
    rw [hr]; clear hr
    go_enter Try.func77, Try.ntmps77
    go_wp2_with fail
    go_ret
    exact ⟨rfl, by (repeat (first | (with_reducible assumption) | (with_reducible apply below_refl) | (with_reducible apply below_alloc1) | (with_reducible apply below_drewN1) | (with_reducible apply below_drew1)))⟩
set_option maxRecDepth 100000 in
set_option maxHeartbeats 800000 in
theorem isRising_any (v : Value) (xs : List Nat) (w : World) (hv : RowAt w v (xs.map (Value.float .f32))) :
    Calls Try.prog 80 #[v] w fun e w' => e = .returned (.bool (riseB xs)) ∧ Below w.heap.size w w' := by
  obtain ⟨ao, cap, b, off, rfl, hao, hl, hm, hc⟩ := hv
  simp only [List.length_map] at hao hl ⊢
  unfold maxLen at hm
  have HC := hid hc; clear hc
  have HA := hid hao; clear hao
  go_enter Try.func80, Try.ntmps80
  go_wp2_with fail
  go_loopw [3] (fun i wr => ∃ k : Nat, (k + 1 ≤ xs.length ∨ k = 0) ∧ i = .int .i64 (k + 1 : Nat) ∧ Hid (∀ j, j < k → riseAt xs j = true) ∧ Below w.heap.size w wr) (fun i _ => xs.length + 1 - (intOf i).toNat)
  case atStart => exact ⟨0, Or.inr rfl, rfl, hid (fun j h => absurd h (Nat.not_lt_zero _)), below_refl _⟩
  case round =>
    obtain ⟨k, hk, rfl, hno, hw⟩ := hrel
    have hcast : ((k + 1 : Nat) : Int) = (k : Int) + 1 := by omega
    by_cases hlt : k + 1 < xs.length
    · obtain rfl := HA.out (by omega)
      have hcell := rowc HC.out hw k (by omega)
      have hcell2 := rowc HC.out hw (k + 1) hlt
      have hr : riseAt xs k = (ford .f32 (ab .f32 xs[k + 1]) (ab .f32 xs[k]) == some .gt) := by unfold riseAt; rw [getD_at xs (k + 1) hlt, getD_at xs k (by omega)]
      generalize xs[k] = x at hcell hr
      generalize xs[k + 1] = y at hcell2 hr
      have i1 : ((k : Int) + 1).toNat = k + 1 := by omega
      have i2 : ((k : Int) + 1 - 1) = (k : Int) := by omega
      have hlt' : (k : Int) + 1 < (xs.length : Int) := by omega
      have hlt0 : (k : Int) < (xs.length : Int) := by omega
      have g0 : (0 : Int) ≤ (k : Int) := by omega
      have g1 : (0 : Int) ≤ (k : Int) + 1 := by omega
      have W1 : IntKind.i64.wrap ((k : Int) + 1 - 1) = (k : Int) := by rw [IntKind.wrap_i64]; omega
      have W2 : IntKind.i64.wrap (k : Int) = (k : Int) := by rw [IntKind.wrap_i64]; omega
      rw [hcast]
      clear hcast
      cases ht : (ford .f32 (ab .f32 y) (ab .f32 x) == some .gt)
      · have HR := hid (riseB_no hlt (hr.trans ht))
        clear hr
        go_wp2_with (first | go_quiet (fail))
        go_ret
        exact ⟨by rw [HR.out]; rfl, by (repeat (first | (with_reducible assumption) | (with_reducible apply below_refl) | (with_reducible apply below_alloc1) | (with_reducible apply below_drewN1) | (with_reducible apply below_drew1)))⟩
      · have HN := hid (show ∀ j, j < k + 1 → riseAt xs j = true from fun j hj => by
          by_cases e : j = k
          · rw [e]; exact hr.trans ht
          · exact hno.out j (by omega))
        clear hr
        go_wp2_with (first | go_quiet (fail))
        go_roundw
        case rel => exact ⟨k + 1, Or.inl (by omega), by go_num, HN, by (repeat (first | (with_reducible assumption) | (with_reducible apply below_refl) | (with_reducible apply below_alloc1) | (with_reducible apply below_drewN1) | (with_reducible apply below_drew1)))⟩
        case measure => simp [intOf]; omega
    · have hlt' : ¬ (k : Int) + 1 < (xs.length : Int) := by omega
      have HR := hid (riseB_yes (xs := xs) (fun j hj => hno.out j (by omega)))
      rw [hcast]
      clear hcast
      go_wp2_with fail
      go_ret
      exact ⟨by rw [HR.out]; rfl, hw⟩
end Go.Proofs.Ytkaeohlakeliiaa
