/- Contracts of the functions on whole numbers: within, greatest common factors, binomials, their sums. -/
import Derived.Test.YtkgbbagklkffpaaRows
import Derived.Test.YtkgbbagklkffpaaLib
import Derived.Test.YtkgbbagklkffpaaBin
namespace Go.Proofs.Ytkgbbagklkffpaa
open Go.RowKit

/-- n lies from low to high. -/
def inB (n low high : Int) : Bool := decide (low ≤ n) && decide (n ≤ high)
theorem inB_true {n low high : Int} (h : inB n low high = true) : low ≤ n ∧ n ≤ high := by simpa [inB] using h
theorem inB_mk {n low high : Int} (h1 : low ≤ n) (h2 : n ≤ high) : inB n low high = true := by simp [inB, h1, h2]

set_option maxHeartbeats 400000 in
theorem within_same (n low high : Int) (w : World) :
    Calls Try.prog 37 #[.int .i64 n, .int .i64 low, .int .i64 high] w fun e w' => e = .returned (.bool (inB n low high)) ∧ w' = w := by
  go_enter Try.func37, Try.ntmps37
  go_wp2
  all_goals (go_ret; exact ⟨by simp_all [inB]; try omega, rfl⟩)
theorem within_val (n low high : Int) (v : Bool) (h : inB n low high = v) (w : World) :
    Calls Try.prog 37 #[.int .i64 n, .int .i64 low, .int .i64 high] w fun e w' => e = .returned (.bool v) ∧ w' = w := h ▸ within_same n low high w
theorem within_any (n low high : Int) (w : World) :
    Calls Try.prog 37 #[.int .i64 n, .int .i64 low, .int .i64 high] w fun e w' => e = .returned (.bool (inB n low high)) ∧ Below w.heap.size w w' :=
  (within_same n low high w).mono fun e w' ⟨h1, h2⟩ => ⟨h1, by rw [h2]; exact below_refl _⟩
/-- The greatest common factor of two whole numbers of at least 0. -/
def gcdI (a b : Int) : Int := (Nat.gcd a.toNat b.toNat : Int)

theorem gcdI_pos (a b : Int) (h : 0 < b) : 0 < gcdI a b := by
  unfold gcdI
  have : 0 < Nat.gcd a.toNat b.toNat := Nat.gcd_pos_of_pos_right _ (by omega)
  omega
theorem gcdI_le (a b : Int) (h : 0 < b) : gcdI a b ≤ b := by
  unfold gcdI
  have : Nat.gcd a.toNat b.toNat ≤ b.toNat := Nat.gcd_le_right _ (by omega)
  omega
theorem div_bd (a g : Int) (h0 : 0 ≤ a) (h1 : a ≤ 9223372036854775807) (hg : 0 < g) : 0 ≤ a / g ∧ a / g ≤ 9223372036854775807 := by
  refine ⟨Int.ediv_nonneg h0 (by omega), ?_⟩
  exact Int.le_trans (Int.ediv_le_self _ h0) h1
theorem accS_le40 (b c : Nat) (s : Int) (m : Nat) (h : b + c ≤ 40) : accS b c s m ≤ 1099511627776 := Nat.le_trans (accS_le b c s m) (binI_le40 _ _ h)
theorem term_le40 (b c : Nat) (s : Int) (k : Nat) (h : b + c ≤ 40) : bin b k * binI c (s - k) ≤ 1099511627776 := Nat.le_trans (accS_term b c s (k + 1) k (by omega)) (accS_le40 b c s (k + 1) h)
end Go.Proofs.Ytkgbbagklkffpaa
