/- Contracts: the sum of a row of whole numbers. -/
import Derived.Test.YtkonlchholfpoaaInt
import Derived.Test.YtkonlchholfpoaaRow
import Derived.Test.YtkonlchholfpoaaMany
namespace Go.Proofs.Ytkonlchholfpoaa
open Go.RowKit

def sumAt (xs : List Int) (k : Nat) : Int := (xs.take k).foldl (fun s x => s + x) 0
def sumL (xs : List Int) : Int := sumAt xs xs.length
theorem sumAt_next (xs : List Int) (k : Nat) (h : k < xs.length) : sumAt xs (k + 1) = sumAt xs k + xs[k] := foldl_next _ _ xs k h
def smallL (D : Nat) (xs : List Int) : Prop := ∀ k (h : k < xs.length), 0 ≤ xs[k] ∧ xs[k] ≤ (D : Int)
theorem sumAt_le {D : Nat} {xs : List Int} (hD : smallL D xs) (k : Nat) (hk : k ≤ xs.length) : 0 ≤ sumAt xs k ∧ sumAt xs k ≤ ((k * D : Nat) : Int) := by
  induction k with
  | zero => simp [sumAt]
  | succ k ih =>
    have h1 := ih (by omega)
    have h2 := hD k (by omega)
    rw [sumAt_next xs k (by omega), Nat.add_mul]
    push_cast at h1 ⊢
    omega
theorem sumL_le {D : Nat} {xs : List Int} (hD : smallL D xs) : 0 ≤ sumL xs ∧ sumL xs ≤ ((xs.length * D : Nat) : Int) := sumAt_le hD xs.length (Nat.le_refl _)

set_option maxRecDepth 100000 in
set_option maxHeartbeats 800000 in
theorem sumOf_any (v : Value) (xs : List Int) (D : Nat) (hD : smallL D xs) (hB : xs.length * D ≤ 9000000000000000000) (w : World) (hv : RowAt w v (xs.map (Value.int .i64))) :
    Calls Try.prog 74 #[v] w fun e w' => e = .returned (.int .i64 (sumL xs)) ∧ Below w.heap.size w w' := by
  have HV := hid hv
  obtain ⟨ao, cap, b, off, rfl, hao, hl, hm, hc⟩ := hv
  simp only [List.length_map] at hl HV hao ⊢
  unfold maxLen at hm
  have HC := hid hc; clear hc
  have HA := hid hao; clear hao
  have HD := hid hD; have HB := hid hB; clear hD
  go_enter Try.func74, Try.ntmps74
  go_wp2_with fail
  go_loopw [3, 8] (fun x i wr => ∃ k : Nat, k ≤ xs.length ∧ i = .int .i64 k ∧ x = .int .i64 (sumAt xs k) ∧ Below w.heap.size w wr) (fun _ i _ => xs.length - (intOf i).toNat)
  case atStart => exact ⟨0, Nat.zero_le _, rfl, rfl, by (repeat (first | (with_reducible assumption) | (with_reducible apply below_refl) | (with_reducible apply below_alloc1) | (with_reducible apply below_drewN1) | (with_reducible apply below_drew1)))⟩
  case round =>
    obtain ⟨k, hk, rfl, rfl, hw⟩ := hrel
    have hC1 := (bcell hw).1
    have hs := sumAt_le HD.out k hk
    by_cases hlt : k < xs.length
    · obtain rfl := HA.out (by omega)
      have hcell := row_cell (B := 0) HC.out hw k hlt
      have hx := HD.out k hlt
      have hnx := sumAt_next xs k hlt
      have hs2 := sumAt_le HD.out (k + 1) (by omega)
      have hmul : (k + 1) * D ≤ xs.length * D := Nat.mul_le_mul_right _ (by omega)
      have HN := hid hnx
      rw [hnx] at hs2
      clear hnx
      have hBB := HB.out
      generalize xs[k] = y at hcell hx HN hs2
      go_wp2_with fail
      go_roundw
      case rel => exact ⟨k + 1, by omega, by go_num, by rw [HN.out], by (repeat (first | (with_reducible assumption) | (with_reducible apply below_refl) | (with_reducible apply below_alloc1) | (with_reducible apply below_drewN1) | (with_reducible apply below_drew1)))⟩
      case measure => simp [intOf]; omega
    · obtain rfl : k = xs.length := by omega
      go_wp2_with fail
      go_ret
      exact ⟨rfl, by (repeat (first | (with_reducible assumption) | (with_reducible apply below_refl) | (with_reducible apply below_alloc1) | (with_reducible apply below_drewN1) | (with_reducible apply below_drew1)))⟩
end Go.Proofs.Ytkonlchholfpoaa
