/- Contracts: paths, rising times, PathCross. -/
import Derived.Test.YtdldlfefbeflcaaFL
import Derived.Test.YtdldlfefbeflcaaInt
import Derived.Test.YtdldlfefbeflcaaMag3
namespace Go.Proofs.Ytdldlfefbeflcaa
open Go.RowKit

def pathB (xs ys : List Nat) : Bool := decide (2 ≤ xs.length) && decide (xs.length ≤ 48) && decide (ys.length = xs.length) && (xs.all fun b => finB (ab .f32 b)) && (ys.all fun b => finB (ab .f32 b))
theorem pathB_true {xs ys : List Nat} (h : pathB xs ys = true) : 2 ≤ xs.length ∧ xs.length ≤ 48 ∧ ys.length = xs.length ∧ (∀ k (h : k < xs.length), finite32 (ab .f32 xs[k]) = true) ∧ (∀ k (h : k < ys.length), finite32 (ab .f32 ys[k]) = true) := by
  simp only [pathB, Bool.and_eq_true, List.all_eq_true, decide_eq_true_eq] at h
  exact ⟨h.1.1.1.1, h.1.1.1.2, h.1.1.2, fun k hk => h.1.2 _ (List.getElem_mem hk), fun k hk => h.2 _ (List.getElem_mem hk)⟩
def riseAt (xs : List Nat) (k : Nat) : Bool := ford .f32 (ab .f32 (xs.getD (k + 1) 0)) (ab .f32 (xs.getD k 0)) == some .gt
/-- Strictly ascending. -/
def riseB (xs : List Nat) : Bool := (List.range (xs.length - 1)).all (riseAt xs)
theorem riseB_yes {xs : List Nat} (h : ∀ j, j + 1 < xs.length → riseAt xs j = true) : riseB xs = true := by
  unfold riseB
  rw [List.all_eq_true]
  intro j hj
  exact h j (by have := List.mem_range.1 hj; omega)
theorem riseB_no {xs : List Nat} {k : Nat} (hk : k + 1 < xs.length) (h : riseAt xs k = false) : riseB xs = false := by
  unfold riseB
  rw [List.all_eq_false]
  exact ⟨k, List.mem_range.2 (by omega), by simp [h]⟩
theorem getD_at (xs : List Nat) (k : Nat) (h : k < xs.length) : xs.getD k 0 = xs[k] := by simp [h]

end Go.Proofs.Ytdldlfefbeflcaa
