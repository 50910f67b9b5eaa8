/- Shares that stay: the plain model. No program in sight. -/
import Derived.Test.YtkaeohlakeliiaaOutOf
import Derived.Test.YtkaeohlakeliiaaLine
namespace Go.Proofs.Ytkaeohlakeliiaa
open Go.RowKit

abbrev Mat := Nat → Nat → Option Nat
def gtX (A : Mat) (i j k : Nat) : Bool := ford .f32 (absM (A i k)) (absM (A j k)) == some .gt
def bst (A : Mat) (k : Nat) : Nat → Nat
  | 0 => k
  | m + 1 => if gtX A (k + m) (bst A k m) k then k + m else bst A k m
theorem bst_one (A : Mat) (k : Nat) : bst A k 1 = k := by
  unfold bst
  split
  · rfl
  · rfl
theorem bst_lt (A : Mat) (k m : Nat) : k ≤ bst A k m ∧ (bst A k m = k ∨ bst A k m < k + m) := by
  induction m with
  | zero => exact ⟨Nat.le_refl _, Or.inl rfl⟩
  | succ m ih =>
    unfold bst
    split
    · exact ⟨by omega, Or.inr (by omega)⟩
    · exact ⟨ih.1, by
        rcases ih.2 with h | h
        · exact Or.inl h
        · exact Or.inr (by omega)⟩
def swp (A : Mat) (k b : Nat) : Mat := fun i j => if i = b then A k j else if i = k then A b j else A i j
def elim (A : Mat) (k i j : Nat) : Mat := fun r c =>
  if k < r ∧ k < c ∧ (r < i ∨ (r = i ∧ c < j)) then fop .sub .f32 (A r c) (fop .mul .f32 (fop .quo .f32 (A r k) (A k k)) (A k c)) else A r c
theorem elim_start (A : Mat) (k r c : Nat) : elim A k (k + 1) (k + 1) r c = A r c := by
  unfold elim
  rw [if_neg (by omega)]
theorem elim_row (A : Mat) (k i n r c : Nat) (hc : c < n + 1) : elim A k (i + 1) (k + 1) r c = elim A k i (n + 1) r c := by
  unfold elim
  by_cases h : k < r ∧ k < c ∧ (r < i ∨ (r = i ∧ c < n + 1))
  · rw [if_pos h, if_pos (by omega)]
  · rw [if_neg h, if_neg (by omega)]
theorem elim_next (A : Mat) (k i j r c : Nat) (hi : k < i) (hj : k < j) : elim A k i (j + 1) r c = if r = i ∧ c = j then fop .sub .f32 (A i j) (fop .mul .f32 (fop .quo .f32 (A i k) (A k k)) (A k j)) else elim A k i j r c := by
  unfold elim
  by_cases h : r = i ∧ c = j
  · obtain ⟨rfl, rfl⟩ := h
    rw [if_pos (by omega), if_pos ⟨rfl, rfl⟩]
  · rw [if_neg h]
    by_cases h2 : k < r ∧ k < c ∧ (r < i ∨ (r = i ∧ c < j))
    · rw [if_pos h2, if_pos (by omega)]
    · rw [if_neg h2, if_neg (by omega)]
theorem elim_here (A : Mat) (k i j : Nat) : elim A k i j i j = A i j := by
  unfold elim
  rw [if_neg (by omega)]
theorem elim_left (A : Mat) (k i j r : Nat) : elim A k i j r k = A r k := by
  unfold elim
  rw [if_neg (by omega)]
theorem elim_top (A : Mat) (k i j c : Nat) : elim A k i j k c = A k c := by
  unfold elim
  rw [if_neg (by omega)]
def stepM (n : Nat) (A : Mat) (k : Nat) : Option Mat :=
  if ford .f32 (swp A k (bst A k (n - k)) k k) (some 0) == some .eq then none else some (elim (swp A k (bst A k (n - k))) k n (k + 1))
def runM (n : Nat) (A : Mat) : Nat → Option Mat
  | 0 => some A
  | k + 1 => (runM n A k).bind fun B => stepM n B k
def backS (B : Mat) (o : Nat → Option Nat) (n k : Nat) : Nat → Option Nat
  | 0 => B k n
  | m + 1 => fop .sub .f32 (backS B o n k m) (fop .mul .f32 (B k (k + 1 + m)) (o (k + 1 + m)))
def backO (B : Mat) (n : Nat) : Nat → Nat → Option Nat
  | 0 => fun _ => some 0
  | m + 1 => fun i => if i = n - 1 - m then fop .quo .f32 (backS B (backO B n m) n (n - 1 - m) m) (B (n - 1 - m) (n - 1 - m)) else backO B n m i
def outL (B : Mat) (n : Nat) : List (Option Nat) := (List.range n).map (backO B n n)
def leaveS (rs : List Nat) (n k : Nat) : Nat → Option Nat
  | 0 => some 0
  | m + 1 => fop .add .f32 (leaveS rs n k m) (atX rs (k * n + m))
def mat0 (rs : List Nat) (n : Nat) : Mat := fun i j =>
  if i + 1 < n then (if j < n then (if j = i then fop .sub .f32 (some 0) (leaveS rs n i n) else atX rs (j * n + i)) else some 0) else some 1065353216
def balRaw (rs : List Nat) (n : Nat) : Option (List (Option Nat)) := (runM n (mat0 rs n) n).map fun B => outL B n
def diagB (rs : List Nat) (n : Nat) : Bool := (List.range n).all fun i => ford .f32 (atX rs (i * n + i)) (some 0) == some .eq
def chainB (rs : List Nat) (s : Int) : Bool := decide (1 ≤ s) && decide (s ≤ 8) && decide ((rs.length : Int) = s * s) && (rs.all fun b => notLessB (ab .f32 b)) && diagB rs s.toNat
theorem leave_sum (rs : List Nat) (n k m : Nat) (h : k * n + n ≤ rs.length) (hm : m ≤ n) : sumX ((rs.drop (k * n)).take n) m = leaveS rs n k m := by
  induction m with
  | zero => rfl
  | succ m ih =>
    rw [sumX_next, ih (by omega)]
    show _ = fop .add .f32 (leaveS rs n k m) (atX rs (k * n + m))
    congr 1
    unfold atX
    congr 1
    simp only [List.getD_eq_getElem?_getD, List.getElem?_take, List.getElem?_drop]
    rw [if_pos (by omega)]
end Go.Proofs.Ytkaeohlakeliiaa
