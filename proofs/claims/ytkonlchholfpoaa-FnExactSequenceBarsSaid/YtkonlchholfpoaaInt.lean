/- Contracts of the functions on whole numbers: within, greatest common factors, binomials, their sums. -/
import Derived.Test.YtkonlchholfpoaaRows
import Derived.Test.YtkonlchholfpoaaLib
import Derived.Test.YtkonlchholfpoaaBin
namespace Go.Proofs.Ytkonlchholfpoaa
open Go.RowKit

/-- n lies from low to high. -/
def inB (n low high : Int) : Bool := decide (low ≤ n) && decide (n ≤ high)
theorem inB_true {n low high : Int} (h : inB n low high = true) : low ≤ n ∧ n ≤ high := by simpa [inB] using h
theorem inB_mk {n low high : Int} (h1 : low ≤ n) (h2 : n ≤ high) : inB n low high = true := by simp [inB, h1, h2]

set_option maxHeartbeats 400000 in
theorem within_same (n low high : Int) (w : World) :
    Calls Try.prog 52 #[.int .i64 n, .int .i64 low, .int .i64 high] w fun e w' => e = .returned (.bool (inB n low high)) ∧ w' = w := by
  go_enter Try.func52, Try.ntmps52
  go_wp2
  all_goals (go_ret; exact ⟨by simp_all [inB]; try omega, rfl⟩)
theorem within_val (n low high : Int) (v : Bool) (h : inB n low high = v) (w : World) :
    Calls Try.prog 52 #[.int .i64 n, .int .i64 low, .int .i64 high] w fun e w' => e = .returned (.bool v) ∧ w' = w := h ▸ within_same n low high w
theorem within_any (n low high : Int) (w : World) :
    Calls Try.prog 52 #[.int .i64 n, .int .i64 low, .int .i64 high] w fun e w' => e = .returned (.bool (inB n low high)) ∧ Below w.heap.size w w' :=
  (within_same n low high w).mono fun e w' ⟨h1, h2⟩ => ⟨h1, by rw [h2]; exact below_refl _⟩
set_option maxHeartbeats 400000 in
theorem l00In_same (n low high : Int) (w : World) :
    Calls Try.prog 59 #[.int .i64 n, .int .i64 low, .int .i64 high] w fun e w' => e = .returned (.bool (inB n low high)) ∧ w' = w := by
  go_enter Try.func59, Try.ntmps59
  go_wp2
  all_goals (go_ret; exact ⟨by simp_all [inB]; try omega, rfl⟩)
theorem l00In_val (n low high : Int) (v : Bool) (h : inB n low high = v) (w : World) :
    Calls Try.prog 59 #[.int .i64 n, .int .i64 low, .int .i64 high] w fun e w' => e = .returned (.bool v) ∧ w' = w := h ▸ l00In_same n low high w
theorem l00In_any (n low high : Int) (w : World) :
    Calls Try.prog 59 #[.int .i64 n, .int .i64 low, .int .i64 high] w fun e w' => e = .returned (.bool (inB n low high)) ∧ Below w.heap.size w w' :=
  (l00In_same n low high w).mono fun e w' ⟨h1, h2⟩ => ⟨h1, by rw [h2]; exact below_refl _⟩
set_option maxHeartbeats 400000 in
theorem common_any (a b : Nat) (ha : a ≤ 9223372036854775807) (hb : b ≤ 9223372036854775807) (w : World) :
    Calls Try.prog 80 #[.int .i64 a, .int .i64 b] w fun e w' => e = .returned (.int .i64 (Nat.gcd a b : Nat)) ∧ Below w.heap.size w w' := by
  generalize hg : Nat.gcd a b = g
  have HG := hid hg; clear hg
  go_enter Try.func80, Try.ntmps80
  go_wp2
  go_loopw [0, 1] (fun x y wr => ∃ a b : Nat, a ≤ 9223372036854775807 ∧ b ≤ 9223372036854775807 ∧ x = .int .i64 a ∧ y = .int .i64 b ∧ Hid (Nat.gcd a b = g) ∧ Below w.heap.size w wr) (fun _ y _ => (intOf y).toNat)
  case atStart => exact ⟨a, b, ha, hb, rfl, rfl, HG, below_refl _⟩
  case round =>
    obtain ⟨a, b, ha, hb, rfl, rfl, hg, hw⟩ := hrel
    by_cases h0 : b = 0
    · subst h0
      go_wp2
      go_ret
      exact ⟨by have h := hg.out; rw [Nat.gcd_zero_right] at h; subst h; rfl, hw⟩
    · have hne : ((b : Int) == 0) = false := by simpa using h0
      have hne' : ((b : Int) != 0) = true := by simpa using h0
      have hlt : a % b < b := Nat.mod_lt _ (by omega)
      go_wp2_with (first | go_quiet (fail))
      go_roundw
      case rel => exact ⟨b, a % b, hb, by omega, rfl, by rw [Int.natCast_emod], hid (by rw [← hg.out, Nat.gcd_comm a b, Nat.gcd_rec b a, Nat.gcd_comm]), hw.trans (below_drewN _ _ |>.mono hw.size)⟩
      case measure => simp [intOf]; omega
set_option maxHeartbeats 400000 in
theorem l06Gcd_any (a b : Nat) (ha : a ≤ 9223372036854775807) (hb : b ≤ 9223372036854775807) (w : World) :
    Calls Try.prog 51 #[.int .i64 a, .int .i64 b] w fun e w' => e = .returned (.int .i64 (Nat.gcd a b : Nat)) ∧ Below w.heap.size w w' := by
  generalize hg : Nat.gcd a b = g
  have HG := hid hg; clear hg
  go_enter Try.func51, Try.ntmps51
  go_wp2
  go_loopw [0, 1] (fun x y wr => ∃ a b : Nat, a ≤ 9223372036854775807 ∧ b ≤ 9223372036854775807 ∧ x = .int .i64 a ∧ y = .int .i64 b ∧ Hid (Nat.gcd a b = g) ∧ Below w.heap.size w wr) (fun _ y _ => (intOf y).toNat)
  case atStart => exact ⟨a, b, ha, hb, rfl, rfl, HG, below_refl _⟩
  case round =>
    obtain ⟨a, b, ha, hb, rfl, rfl, hg, hw⟩ := hrel
    by_cases h0 : b = 0
    · subst h0
      go_wp2
      go_ret
      exact ⟨by have h := hg.out; rw [Nat.gcd_zero_right] at h; subst h; rfl, hw⟩
    · have hne : ((b : Int) == 0) = false := by simpa using h0
      have hne' : ((b : Int) != 0) = true := by simpa using h0
      have hlt : a % b < b := Nat.mod_lt _ (by omega)
      go_wp2
      go_roundw
      case rel => exact ⟨b, a % b, hb, by omega, rfl, by rw [Int.natCast_emod], hid (by rw [← hg.out, Nat.gcd_comm a b, Nat.gcd_rec b a, Nat.gcd_comm]), hw⟩
      case measure => simp [intOf]; omega
/-- The greatest common factor of two whole numbers of at least 0. -/
def gcdI (a b : Int) : Int := (Nat.gcd a.toNat b.toNat : Int)

theorem common_i (a b : Int) (ha : 0 ≤ a ∧ a ≤ 9223372036854775807) (hb : 0 ≤ b ∧ b ≤ 9223372036854775807) (w : World) :
    Calls Try.prog 80 #[.int .i64 a, .int .i64 b] w fun e w' => e = .returned (.int .i64 (gcdI a b)) ∧ Below w.heap.size w w' := by
  obtain ⟨a, rfl⟩ := Int.eq_ofNat_of_zero_le ha.1
  obtain ⟨b, rfl⟩ := Int.eq_ofNat_of_zero_le hb.1
  exact common_any a b (by omega) (by omega) w
theorem gcdI_pos (a b : Int) (h : 0 < b) : 0 < gcdI a b := by
  unfold gcdI
  have : 0 < Nat.gcd a.toNat b.toNat := Nat.gcd_pos_of_pos_right _ (by omega)
  omega
theorem gcdI_le (a b : Int) (h : 0 < b) : gcdI a b ≤ b := by
  unfold gcdI
  have : Nat.gcd a.toNat b.toNat ≤ b.toNat := Nat.gcd_le_right _ (by omega)
  omega
theorem div_bd (a g : Int) (h0 : 0 ≤ a) (h1 : a ≤ 9223372036854775807) (hg : 0 < g) : 0 ≤ a / g ∧ a / g ≤ 9223372036854775807 := by
  refine ⟨Int.ediv_nonneg h0 (by omega), ?_⟩
  exact Int.le_trans (Int.ediv_le_self _ h0) h1
set_option maxHeartbeats 400000 in
theorem reduced_any (a b : Nat) (ha : a ≤ 9223372036854775807) (hb : b ≤ 9223372036854775807) (h0 : 0 < b) (w : World) :
    Calls Try.prog 53 #[.int .i64 a, .int .i64 b] w fun e w' => e = .returned (.tuple #[.int .i64 (a / Nat.gcd a b : Nat), .int .i64 (b / Nat.gcd a b : Nat)]) ∧ Below w.heap.size w w' := by
  have hgp : 0 < Nat.gcd a b := Nat.gcd_pos_of_pos_right _ h0
  have hgl : Nat.gcd a b ≤ b := Nat.gcd_le_right _ h0
  go_enter Try.func53, Try.ntmps53
  go_wp2_with fail
  refine (common_any a b ha hb _).mono ?_
  rintro e w1 ⟨rfl, hb1⟩
  obtain ⟨g, hg⟩ : ∃ g, g = Nat.gcd a b := ⟨_, rfl⟩
  rw [← hg] at hgp hgl ⊢
  have HG := hid hg; clear hg
  have hg1 : ((g : Int) == 0) = false := by simp; omega
  have q1 : (0 : Int) ≤ (a : Int) / (g : Int) := by rw [← Int.natCast_ediv]; exact Int.natCast_nonneg _
  have q2 : (a : Int) / (g : Int) ≤ 9223372036854775807 := by rw [← Int.natCast_ediv]; exact Int.ofNat_le.2 (Nat.le_trans (Nat.div_le_self a g) ha)
  have q3 : (0 : Int) ≤ (b : Int) / (g : Int) := by rw [← Int.natCast_ediv]; exact Int.natCast_nonneg _
  have q4 : (b : Int) / (g : Int) ≤ 9223372036854775807 := by rw [← Int.natCast_ediv]; exact Int.ofNat_le.2 (Nat.le_trans (Nat.div_le_self b g) hb)
  go_wp2_with (first | go_quiet (fail))
  go_ret2
  exact ⟨by rw [← HG.out]; simp, below_trans hb1 (below_drewN _ _)⟩
set_option maxHeartbeats 400000 in
theorem l06Least_any (a b : Nat) (ha : a ≤ 9223372036854775807) (hb : b ≤ 9223372036854775807) (h0 : 0 < b) (w : World) :
    Calls Try.prog 50 #[.int .i64 a, .int .i64 b] w fun e w' => e = .returned (.tuple #[.int .i64 (a / Nat.gcd a b : Nat), .int .i64 (b / Nat.gcd a b : Nat)]) ∧ Below w.heap.size w w' := by
  have hgp : 0 < Nat.gcd a b := Nat.gcd_pos_of_pos_right _ h0
  have hgl : Nat.gcd a b ≤ b := Nat.gcd_le_right _ h0
  go_enter Try.func50, Try.ntmps50
  go_wp2_with fail
  refine (l06Gcd_any a b ha hb _).mono ?_
  rintro e w1 ⟨rfl, hb1⟩
  obtain ⟨g, hg⟩ : ∃ g, g = Nat.gcd a b := ⟨_, rfl⟩
  rw [← hg] at hgp hgl ⊢
  have HG := hid hg; clear hg
  have hg1 : ((g : Int) == 0) = false := by simp; omega
  have q1 : (0 : Int) ≤ (a : Int) / (g : Int) := by rw [← Int.natCast_ediv]; exact Int.natCast_nonneg _
  have q2 : (a : Int) / (g : Int) ≤ 9223372036854775807 := by rw [← Int.natCast_ediv]; exact Int.ofNat_le.2 (Nat.le_trans (Nat.div_le_self a g) ha)
  have q3 : (0 : Int) ≤ (b : Int) / (g : Int) := by rw [← Int.natCast_ediv]; exact Int.natCast_nonneg _
  have q4 : (b : Int) / (g : Int) ≤ 9223372036854775807 := by rw [← Int.natCast_ediv]; exact Int.ofNat_le.2 (Nat.le_trans (Nat.div_le_self b g) hb)
  go_wp2_with (first | go_quiet (fail))
  go_ret2
  exact ⟨by rw [← HG.out]; simp, below_trans hb1 (below_drewN _ _)⟩
set_option maxHeartbeats 800000 in
theorem choose_any (n : Nat) (k : Int) (hn : n ≤ 40) (hk : -9223372036854775808 ≤ k ∧ k ≤ 9223372036854775807) (w : World) :
    Calls Try.prog 49 #[.int .i64 n, .int .i64 k] w fun e w' => e = .returned (.int .i64 (binI n k : Nat)) ∧ Below w.heap.size w w' := by
  by_cases h1 : k < 0
  · rw [binI_neg _ _ h1]
    go_enter Try.func49, Try.ntmps49
    go_wp2
    go_ret
    exact ⟨rfl, below_refl _⟩
  · obtain ⟨k, rfl⟩ := Int.eq_ofNat_of_zero_le (show 0 ≤ k by omega)
    rw [binI_nat]
    by_cases h2 : n < k
    · rw [bin_gt n k h2]
      have h2' : (n : Int) < (k : Int) := by omega
      go_enter Try.func49, Try.ntmps49
      go_wp2
      go_ret
      exact ⟨rfl, below_refl _⟩
    · have h2' : ¬ (n : Int) < (k : Int) := by omega
      go_enter Try.func49, Try.ntmps49
      go_wp2
      go_loopw [5, 15] (fun x y wr => ∃ i : Nat, i ≤ k ∧ x = .int .i64 (bin n i : Nat) ∧ y = .int .i64 i ∧ Below w.heap.size w wr) (fun _ y _ => k - (intOf y).toNat)
      case atStart => exact ⟨0, Nat.zero_le _, by rw [bin_zero]; rfl, rfl, below_refl _⟩
      case round =>
        obtain ⟨i, hi, rfl, rfl, hw⟩ := hrel
        by_cases hlt : i < k
        · have hs := bin_step n i (by omega)
          have hm : bin n i * (n - i) ≤ 1099511627776 * 40 := Nat.mul_le_mul (bin_le40 n i hn) (by omega)
          have hq : bin n i * (n - i) / (i + 1) = bin n (i + 1) := by rw [hs]; exact Nat.mul_div_cancel _ (by omega)
          have e1 : ((bin n i : Nat) : Int) * ((n : Int) - (i : Int)) = ((bin n i * (n - i) : Nat) : Int) := by rw [Int.natCast_mul, Int.ofNat_sub (by omega)]
          have p1 : 0 ≤ ((bin n i : Nat) : Int) * ((n : Int) - (i : Int)) := by rw [e1]; omega
          have p2 : ((bin n i : Nat) : Int) * ((n : Int) - (i : Int)) ≤ 9223372036854775807 := by rw [e1]; omega
          have HE := hid (show ((bin n i : Nat) : Int) * ((n : Int) - (i : Int)) / ((i : Int) + 1) = ((bin n (i + 1) : Nat) : Int) by
            rw [e1, ← hq]; simp)
          have hne : ((i : Int) + 1 == 0) = false := by simp; omega
          clear hs hm hq e1
          go_wp2
          go_roundw
          case rel => exact ⟨i + 1, by omega, by rw [← HE.out], by go_num, hw⟩
          case measure => simp [intOf]; omega
        · obtain rfl : i = k := by omega
          go_wp2
          go_ret
          exact ⟨rfl, hw⟩
set_option maxHeartbeats 800000 in
theorem l06Choose_any (n : Nat) (k : Int) (hn : n ≤ 40) (hk : -9223372036854775808 ≤ k ∧ k ≤ 9223372036854775807) (w : World) :
    Calls Try.prog 46 #[.int .i64 n, .int .i64 k] w fun e w' => e = .returned (.int .i64 (binI n k : Nat)) ∧ Below w.heap.size w w' := by
  by_cases h1 : k < 0
  · rw [binI_neg _ _ h1]
    go_enter Try.func46, Try.ntmps46
    go_wp2
    go_ret
    exact ⟨rfl, below_refl _⟩
  · obtain ⟨k, rfl⟩ := Int.eq_ofNat_of_zero_le (show 0 ≤ k by omega)
    rw [binI_nat]
    by_cases h2 : n < k
    · rw [bin_gt n k h2]
      have h2' : (n : Int) < (k : Int) := by omega
      go_enter Try.func46, Try.ntmps46
      go_wp2
      go_ret
      exact ⟨rfl, below_refl _⟩
    · have h2' : ¬ (n : Int) < (k : Int) := by omega
      go_enter Try.func46, Try.ntmps46
      go_wp2
      go_loopw [5, 6] (fun x y wr => ∃ i : Nat, i ≤ k ∧ x = .int .i64 (bin (n - k + i) i : Nat) ∧ y = .int .i64 (i + 1 : Nat) ∧ Below w.heap.size w wr) (fun _ y _ => k + 1 - (intOf y).toNat)
      case atStart => exact ⟨0, Nat.zero_le _, by rw [bin_zero]; rfl, rfl, below_refl _⟩
      case round =>
        obtain ⟨i, hi, rfl, rfl, hw⟩ := hrel
        by_cases hlt : i < k
        · have hs := bin_absorb (n - k + i) i
          have hm : bin (n - k + i) i * (n - k + (i + 1)) ≤ 1099511627776 * 40 := Nat.mul_le_mul (bin_le40 _ i (by omega)) (by omega)
          have hq : bin (n - k + i) i * (n - k + (i + 1)) / (i + 1) = bin (n - k + (i + 1)) (i + 1) := by
            rw [Nat.mul_comm, show n - k + (i + 1) = n - k + i + 1 by omega, ← hs, Nat.mul_comm]; exact Nat.mul_div_cancel _ (by omega)
          have e1 : ((bin (n - k + i) i : Nat) : Int) * ((n : Int) - (k : Int) + ((i : Int) + 1)) = ((bin (n - k + i) i * (n - k + (i + 1)) : Nat) : Int) := by rw [Int.natCast_mul, Int.natCast_add, Int.ofNat_sub (by omega)]; simp
          have p1 : 0 ≤ ((bin (n - k + i) i : Nat) : Int) * ((n : Int) - (k : Int) + ((i : Int) + 1)) := by rw [e1]; omega
          have p2 : ((bin (n - k + i) i : Nat) : Int) * ((n : Int) - (k : Int) + ((i : Int) + 1)) ≤ 9223372036854775807 := by rw [e1]; omega
          have HE := hid (show ((bin (n - k + i) i : Nat) : Int) * ((n : Int) - (k : Int) + ((i : Int) + 1)) / ((i : Int) + 1) = ((bin (n - k + (i + 1)) (i + 1) : Nat) : Int) by
            rw [e1, ← hq]; simp)
          have hne : ((i : Int) + 1 == 0) = false := by simp; omega
          have hc : ((i + 1 : Nat) : Int) = (i : Int) + 1 := by omega
          rw [hc]
          clear hs hm hq e1 hc
          go_wp2
          go_roundw
          case rel => exact ⟨i + 1, by omega, by rw [← HE.out], by go_num, hw⟩
          case measure => simp [intOf]; omega
        · obtain rfl : i = k := by omega
          have hc : ((i + 1 : Nat) : Int) = (i : Int) + 1 := by omega
          rw [hc]; clear hc
          go_wp2
          go_ret
          exact ⟨by rw [show n - i + i = n by omega]; rfl, hw⟩
theorem choose_i (n k : Int) (hn : 0 ≤ n ∧ n ≤ 40) (hk : -9223372036854775808 ≤ k ∧ k ≤ 9223372036854775807) (w : World) :
    Calls Try.prog 49 #[.int .i64 n, .int .i64 k] w fun e w' => e = .returned (.int .i64 (binI n.toNat k : Nat)) ∧ Below w.heap.size w w' := by
  obtain ⟨n, rfl⟩ := Int.eq_ofNat_of_zero_le hn.1
  exact choose_any n k (by omega) hk w
theorem l06Choose_i (n k : Int) (hn : 0 ≤ n ∧ n ≤ 40) (hk : -9223372036854775808 ≤ k ∧ k ≤ 9223372036854775807) (w : World) :
    Calls Try.prog 46 #[.int .i64 n, .int .i64 k] w fun e w' => e = .returned (.int .i64 (binI n.toNat k : Nat)) ∧ Below w.heap.size w w' := by
  obtain ⟨n, rfl⟩ := Int.eq_ofNat_of_zero_le hn.1
  exact l06Choose_any n k (by omega) hk w
theorem accS_le40 (b c : Nat) (s : Int) (m : Nat) (h : b + c ≤ 40) : accS b c s m ≤ 1099511627776 := Nat.le_trans (accS_le b c s m) (binI_le40 _ _ h)
theorem term_le40 (b c : Nat) (s : Int) (k : Nat) (h : b + c ≤ 40) : bin b k * binI c (s - k) ≤ 1099511627776 := Nat.le_trans (accS_term b c s (k + 1) k (by omega)) (accS_le40 b c s (k + 1) h)
set_option maxHeartbeats 800000 in
theorem accepts_any (lot bad size acc : Int) (h1 : 0 ≤ bad ∧ bad ≤ lot ∧ lot ≤ 40) (h2 : -100 ≤ size ∧ size ≤ 100) (h3 : -100 ≤ acc ∧ acc ≤ 100) (w : World) :
    Calls Try.prog 48 #[.int .i64 lot, .int .i64 bad, .int .i64 size, .int .i64 acc] w fun e w' => e = .returned (.int .i64 (accS bad.toNat (lot - bad).toNat size (acc + 1).toNat : Nat)) ∧ Below w.heap.size w w' := by
  go_enter Try.func48, Try.ntmps48
  go_wp2_with fail
  go_loopw [9, 10] (fun x y wr => ∃ k : Nat, (k : Int) ≤ max 0 (acc + 1) ∧ x = .int .i64 (accS bad.toNat (lot - bad).toNat size k : Nat) ∧ y = .int .i64 k ∧ Below w.heap.size w wr) (fun _ y _ => (acc + 1).toNat - (intOf y).toNat)
  case atStart => exact ⟨0, by omega, rfl, rfl, below_refl _⟩
  case round =>
    obtain ⟨k, hk, rfl, rfl, hw⟩ := hrel
    obtain ⟨l1, l2, l3⟩ := h1
    by_cases hlt : (k : Int) ≤ acc
    · have q1 := accS_le40 bad.toNat (lot - bad).toNat size k (by omega)
      have q2 := term_le40 bad.toNat (lot - bad).toNat size k (by omega)
      have e1 : ((binI bad.toNat (k : Int) : Nat) : Int) * ((binI (lot - bad).toNat (size - (k : Int)) : Nat) : Int) = ((bin bad.toNat k * binI (lot - bad).toNat (size - (k : Int)) : Nat) : Int) := by rw [binI_nat, Int.natCast_mul]
      have p1 : 0 ≤ ((binI bad.toNat (k : Int) : Nat) : Int) * ((binI (lot - bad).toNat (size - (k : Int)) : Nat) : Int) := by rw [e1]; omega
      have p2 : ((binI bad.toNat (k : Int) : Nat) : Int) * ((binI (lot - bad).toNat (size - (k : Int)) : Nat) : Int) ≤ 1099511627776 := by rw [e1]; omega
      have p3 : (0 : Int) ≤ ((accS bad.toNat (lot - bad).toNat size k : Nat) : Int) := by omega
      have p4 : ((accS bad.toNat (lot - bad).toNat size k : Nat) : Int) ≤ 1099511627776 := by omega
      have HE := hid e1; clear e1 q1 q2
      go_wp2_with (go_at_call 49; refine (choose_i _ _ ⟨by omega, by omega⟩ ⟨by omega, by omega⟩ _).mono ?_; rintro e w' ⟨rfl, hb⟩; have hB : Below w.heap.size w w' := below_trans (by (repeat (first | (with_reducible assumption) | (with_reducible apply below_refl) | (with_reducible apply below_alloc1) | (with_reducible apply below_drewN1) | (with_reducible apply below_drew1)))) hb; have hC := (bcell hB).1; clear hb)
      go_roundw
      case rel => exact ⟨k + 1, by omega, by rw [HE.out, accS]; simp, by go_num, by assumption⟩
      case measure => simp [intOf]; omega
    · have hk' : k = (acc + 1).toNat := by omega
      have HK := hid hk'; clear hk'
      go_wp2_with fail
      go_ret
      exact ⟨by rw [← HK.out]; rfl, hw⟩
set_option maxHeartbeats 800000 in
theorem l06Sets_any (lot bad size acc : Int) (h1 : 0 ≤ bad ∧ bad ≤ lot ∧ lot ≤ 40) (h2 : -100 ≤ size ∧ size ≤ 100) (h3 : -100 ≤ acc ∧ acc ≤ 100) (w : World) :
    Calls Try.prog 45 #[.int .i64 lot, .int .i64 bad, .int .i64 size, .int .i64 acc] w fun e w' => e = .returned (.int .i64 (accS bad.toNat (lot - bad).toNat size (acc + 1).toNat : Nat)) ∧ Below w.heap.size w w' := by
  go_enter Try.func45, Try.ntmps45
  go_wp2_with fail
  go_loopw [9, 10] (fun x y wr => ∃ k : Nat, (k : Int) ≤ max 0 (acc + 1) ∧ x = .int .i64 (accS bad.toNat (lot - bad).toNat size k : Nat) ∧ y = .int .i64 k ∧ Below w.heap.size w wr) (fun _ y _ => (acc + 1).toNat - (intOf y).toNat)
  case atStart => exact ⟨0, by omega, rfl, rfl, below_refl _⟩
  case round =>
    obtain ⟨k, hk, rfl, rfl, hw⟩ := hrel
    obtain ⟨l1, l2, l3⟩ := h1
    by_cases hlt : (k : Int) ≤ acc
    · have q1 := accS_le40 bad.toNat (lot - bad).toNat size k (by omega)
      have q2 := term_le40 bad.toNat (lot - bad).toNat size k (by omega)
      have e1 : ((binI bad.toNat (k : Int) : Nat) : Int) * ((binI (lot - bad).toNat (size - (k : Int)) : Nat) : Int) = ((bin bad.toNat k * binI (lot - bad).toNat (size - (k : Int)) : Nat) : Int) := by rw [binI_nat, Int.natCast_mul]
      have p1 : 0 ≤ ((binI bad.toNat (k : Int) : Nat) : Int) * ((binI (lot - bad).toNat (size - (k : Int)) : Nat) : Int) := by rw [e1]; omega
      have p2 : ((binI bad.toNat (k : Int) : Nat) : Int) * ((binI (lot - bad).toNat (size - (k : Int)) : Nat) : Int) ≤ 1099511627776 := by rw [e1]; omega
      have p3 : (0 : Int) ≤ ((accS bad.toNat (lot - bad).toNat size k : Nat) : Int) := by omega
      have p4 : ((accS bad.toNat (lot - bad).toNat size k : Nat) : Int) ≤ 1099511627776 := by omega
      have HE := hid e1; clear e1 q1 q2
      go_wp2_with (go_at_call 46; refine (l06Choose_i _ _ ⟨by omega, by omega⟩ ⟨by omega, by omega⟩ _).mono ?_; rintro e w' ⟨rfl, hb⟩; have hB : Below w.heap.size w w' := below_trans (by (repeat (first | (with_reducible assumption) | (with_reducible apply below_refl) | (with_reducible apply below_alloc1) | (with_reducible apply below_drewN1) | (with_reducible apply below_drew1)))) hb; have hC := (bcell hB).1; clear hb)
      go_roundw
      case rel => exact ⟨k + 1, by omega, by rw [HE.out, accS]; simp, by go_num, by assumption⟩
      case measure => simp [intOf]; omega
    · have hk' : k = (acc + 1).toNat := by omega
      have HK := hid hk'; clear hk'
      go_wp2_with fail
      go_ret
      exact ⟨by rw [← HK.out]; rfl, hw⟩
end Go.Proofs.Ytkonlchholfpoaa
