/- Contracts: DoubleShare. -/
import Derived.Test.YtkonlchholfpoaaBin2
import Derived.Test.YtkonlchholfpoaaPlan
namespace Go.Proofs.Ytkonlchholfpoaa
open Go.RowKit

theorem choose_val (n k : Int) (V : Nat) (h : binI n.toNat k = V) (hn : 0 ≤ n ∧ n ≤ 40) (hk : -9223372036854775808 ≤ k ∧ k ≤ 9223372036854775807) (w : World) :
    Calls Try.prog 49 #[.int .i64 n, .int .i64 k] w fun e w' => e = .returned (.int .i64 (V : Nat)) ∧ Below w.heap.size w w' := h ▸ choose_i n k hn hk w
theorem l06Choose_val (n k : Int) (V : Nat) (h : binI n.toNat k = V) (hn : 0 ≤ n ∧ n ≤ 40) (hk : -9223372036854775808 ≤ k ∧ k ≤ 9223372036854775807) (w : World) :
    Calls Try.prog 46 #[.int .i64 n, .int .i64 k] w fun e w' => e = .returned (.int .i64 (V : Nat)) ∧ Below w.heap.size w w' := h ▸ l06Choose_i n k hn hk w
theorem accepts_val (lot bad size acc : Int) (V : Nat) (h : accS bad.toNat (lot - bad).toNat size (acc + 1).toNat = V) (h1 : 0 ≤ bad ∧ bad ≤ lot ∧ lot ≤ 40) (h2 : -100 ≤ size ∧ size ≤ 100) (h3 : -100 ≤ acc ∧ acc ≤ 100) (w : World) :
    Calls Try.prog 48 #[.int .i64 lot, .int .i64 bad, .int .i64 size, .int .i64 acc] w fun e w' => e = .returned (.int .i64 (V : Nat)) ∧ Below w.heap.size w w' := h ▸ accepts_any lot bad size acc h1 h2 h3 w
theorem l06Sets_val (lot bad size acc : Int) (V : Nat) (h : accS bad.toNat (lot - bad).toNat size (acc + 1).toNat = V) (h1 : 0 ≤ bad ∧ bad ≤ lot ∧ lot ≤ 40) (h2 : -100 ≤ size ∧ size ≤ 100) (h3 : -100 ≤ acc ∧ acc ≤ 100) (w : World) :
    Calls Try.prog 45 #[.int .i64 lot, .int .i64 bad, .int .i64 size, .int .i64 acc] w fun e w' => e = .returned (.int .i64 (V : Nat)) ∧ Below w.heap.size w w' := h ▸ l06Sets_any lot bad size acc h1 h2 h3 w

def dblC (lot a1 b1 : Int) : Nat := binI (lot - a1).toNat b1
def dblW (lot bad a1 : Int) (k : Nat) : Nat := bin bad.toNat k * binI (lot - bad).toNat (a1 - k)
def dblA (lot bad a1 b1 b2 : Int) (k : Nat) : Nat := accS (bad - k).toNat (lot - a1 - (bad - k)).toNat b1 (b2 - k + 1).toNat
def dblT (lot bad a1 a2 b1 b2 rj : Int) (k : Nat) : Nat :=
  if dblW lot bad a1 k = 0 then 0 else if (k : Int) ≤ a2 then dblW lot bad a1 k * dblC lot a1 b1 else if (k : Int) < rj then dblW lot bad a1 k * dblA lot bad a1 b1 b2 k else 0
def dblS (lot bad a1 a2 b1 b2 rj : Int) : Nat → Nat
  | 0 => 0
  | k + 1 => dblS lot bad a1 a2 b1 b2 rj k + dblT lot bad a1 a2 b1 b2 rj k
def dblD (lot a1 b1 : Int) : Nat := binI lot.toNat a1 * dblC lot a1 b1
def dblOk (lot bad a1 a2 b1 b2 rj : Int) : Bool := isLotB lot a1 a2 && isLotB lot b1 b2 && inB bad 0 lot && inB rj (a2 + 1) (a1 + 1) && decide (a1 + b1 ≤ lot) && decide (a1 + b1 ≤ 24)
def dblM (lot bad a1 a2 b1 b2 rj : Int) : Value :=
  if dblOk lot bad a1 a2 b1 b2 rj then
    .tuple #[.int .i64 (dblS lot bad a1 a2 b1 b2 rj rj.toNat / Nat.gcd (dblS lot bad a1 a2 b1 b2 rj rj.toNat) (dblD lot a1 b1) : Nat), .int .i64 (dblD lot a1 b1 / Nat.gcd (dblS lot bad a1 a2 b1 b2 rj rj.toNat) (dblD lot a1 b1) : Nat), .bool true]
  else .tuple #[.int .i64 0, .int .i64 0, .bool false]
theorem dblM_no {lot bad a1 a2 b1 b2 rj : Int} (h : dblOk lot bad a1 a2 b1 b2 rj = false) : dblM lot bad a1 a2 b1 b2 rj = .tuple #[.int .i64 0, .int .i64 0, .bool false] := by simp only [dblM, h]; rfl
theorem dblM_yes {lot bad a1 a2 b1 b2 rj : Int} (h : dblOk lot bad a1 a2 b1 b2 rj = true) : dblM lot bad a1 a2 b1 b2 rj = .tuple #[.int .i64 (dblS lot bad a1 a2 b1 b2 rj rj.toNat / Nat.gcd (dblS lot bad a1 a2 b1 b2 rj rj.toNat) (dblD lot a1 b1) : Nat), .int .i64 (dblD lot a1 b1 / Nat.gcd (dblS lot bad a1 a2 b1 b2 rj rj.toNat) (dblD lot a1 b1) : Nat), .bool true] := by simp only [dblM, h]; rfl
theorem dblM_form (lot bad a1 a2 b1 b2 rj : Int) : ∃ x y z, dblM lot bad a1 a2 b1 b2 rj = .tuple #[.int .i64 x, .int .i64 y, .bool z] := by
  cases h : dblOk lot bad a1 a2 b1 b2 rj
  · exact ⟨_, _, _, dblM_no h⟩
  · exact ⟨_, _, _, dblM_yes h⟩
theorem dblT_le (lot bad a1 a2 b1 b2 rj : Int) (k : Nat) (hb : 0 ≤ bad ∧ bad ≤ lot) (ha : 0 ≤ a1 ∧ a1 ≤ lot) : dblT lot bad a1 a2 b1 b2 rj k ≤ dblW lot bad a1 k * dblC lot a1 b1 := by
  unfold dblT
  split
  · omega
  · rename_i hW
    split
    · exact Nat.le_refl _
    · split
      · refine Nat.mul_le_mul_left _ ?_
        have h1 : k ≤ bad.toNat := by
          apply Classical.byContradiction; intro h; apply hW; unfold dblW; rw [bin_gt _ _ (by omega)]; simp
        have h2 : a1 - (k : Int) ≤ lot - bad := by
          apply Classical.byContradiction; intro h; apply hW; unfold dblW
          obtain ⟨j, hj⟩ := Int.eq_ofNat_of_zero_le (show 0 ≤ a1 - (k : Int) by omega)
          rw [hj, binI_nat, bin_gt (lot - bad).toNat j (by omega)]; simp
        have h3 := accS_le (bad - k).toNat (lot - a1 - (bad - k)).toNat b1 (b2 - k + 1).toNat
        rw [show (bad - (k : Int)).toNat + (lot - a1 - (bad - (k : Int))).toNat = (lot - a1).toNat by omega] at h3
        exact h3
      · omega
theorem dblS_le (lot bad a1 a2 b1 b2 rj : Int) (k : Nat) (hb : 0 ≤ bad ∧ bad ≤ lot) (ha : 0 ≤ a1 ∧ a1 ≤ lot) : dblS lot bad a1 a2 b1 b2 rj k ≤ accS bad.toNat (lot - bad).toNat a1 k * dblC lot a1 b1 := by
  induction k with
  | zero => simp [dblS]
  | succ k ih =>
    rw [dblS, accS, Nat.add_mul]
    exact Nat.add_le_add ih (dblT_le _ _ _ _ _ _ _ _ hb ha)
theorem dblD_bd (lot a1 b1 : Int) (h : 0 ≤ a1 ∧ 0 ≤ b1 ∧ a1 + b1 ≤ lot ∧ a1 + b1 ≤ 24 ∧ lot ≤ 40) : dblD lot a1 b1 ≤ 5044031582654955520 ∧ 0 < dblD lot a1 b1 := by
  obtain ⟨a, rfl⟩ := Int.eq_ofNat_of_zero_le h.1
  obtain ⟨b, rfl⟩ := Int.eq_ofNat_of_zero_le h.2.1
  obtain ⟨n, rfl⟩ := Int.eq_ofNat_of_zero_le (show 0 ≤ lot by omega)
  unfold dblD dblC
  rw [binI_nat, binI_nat, show ((n : Int) - (a : Int)).toNat = n - a by omega, Int.toNat_natCast]
  exact ⟨bin_two n a b (by omega) (by omega) (by omega), Nat.mul_pos (bin_pos _ _ (by omega)) (bin_pos _ _ (by omega))⟩
theorem dblS_bd (lot bad a1 a2 b1 b2 rj : Int) (k : Nat) (hb : 0 ≤ bad ∧ bad ≤ lot) (h : 0 ≤ a1 ∧ 0 ≤ b1 ∧ a1 + b1 ≤ lot ∧ a1 + b1 ≤ 24 ∧ lot ≤ 40) : dblS lot bad a1 a2 b1 b2 rj k ≤ 5044031582654955520 := by
  refine Nat.le_trans (dblS_le _ _ _ _ _ _ _ _ hb ⟨by omega, by omega⟩) (Nat.le_trans ?_ (dblD_bd lot a1 b1 h).1)
  unfold dblD
  refine Nat.mul_le_mul_right _ ?_
  have := accS_le bad.toNat (lot - bad).toNat a1 k
  rwa [show bad.toNat + (lot - bad).toNat = lot.toNat by omega] at this
theorem dblS_end (lot bad a1 a2 b1 b2 rj : Int) (h : a2 < rj) (h0 : 0 ≤ rj) (n : Nat) (hn : rj.toNat ≤ n) : dblS lot bad a1 a2 b1 b2 rj n = dblS lot bad a1 a2 b1 b2 rj rj.toNat := by
  induction n with
  | zero => rw [show rj.toNat = 0 by omega]
  | succ n ih =>
    by_cases he : rj.toNat = n + 1
    · rw [he]
    · rw [dblS, ih (by omega)]
      have : dblT lot bad a1 a2 b1 b2 rj n = 0 := by
        unfold dblT; split
        · rfl
        · rw [if_neg (by omega), if_neg (by omega)]
      omega
theorem dblOk_true {lot bad a1 a2 b1 b2 rj : Int} (h : dblOk lot bad a1 a2 b1 b2 rj = true) : isLotB lot a1 a2 = true ∧ isLotB lot b1 b2 = true ∧ inB bad 0 lot = true ∧ inB rj (a2 + 1) (a1 + 1) = true ∧ a1 + b1 ≤ lot ∧ a1 + b1 ≤ 24 := by
  simp only [dblOk, Bool.and_eq_true, decide_eq_true_eq] at h
  exact ⟨h.1.1.1.1.1, h.1.1.1.1.2, h.1.1.1.2, h.1.1.2, h.1.2, h.2⟩

theorem dblT_step (lot bad a1 a2 b1 b2 rj : Int) (k C1 C2 C3 C4 : Nat) (e1 : bin bad.toNat k = C1) (e2 : binI (lot - bad).toNat (a1 - k) = C2) (e3 : dblC lot a1 b1 = C3) (e4 : dblA lot bad a1 b1 b2 k = C4) :
    dblT lot bad a1 a2 b1 b2 rj k = if C1 * C2 = 0 then 0 else if (k : Int) ≤ a2 then C1 * C2 * C3 else if (k : Int) < rj then C1 * C2 * C4 else 0 := by
  subst e1 e2 e3 e4; rfl
theorem dblW_ne (lot bad a1 : Int) (k C1 C2 : Nat) (e1 : bin bad.toNat k = C1) (e2 : binI (lot - bad).toNat (a1 - k) = C2) (h : C1 * C2 ≠ 0) (hb : 0 ≤ bad ∧ bad ≤ lot) : (k : Int) ≤ bad ∧ a1 - (k : Int) ≤ lot - bad := by
  subst e1 e2
  constructor
  · apply Classical.byContradiction; intro hh; apply h; rw [bin_gt bad.toNat k (by omega)]; simp
  · apply Classical.byContradiction; intro hh; apply h
    obtain ⟨j, hj⟩ := Int.eq_ofNat_of_zero_le (show 0 ≤ a1 - (k : Int) by omega)
    rw [hj, binI_nat, bin_gt (lot - bad).toNat j (by omega)]; simp

theorem dblS_zero (lot bad a1 a2 b1 b2 rj : Int) : dblS lot bad a1 a2 b1 b2 rj 0 = 0 := rfl
theorem dblS_succ (lot bad a1 a2 b1 b2 rj : Int) (k : Nat) : dblS lot bad a1 a2 b1 b2 rj (k + 1) = dblS lot bad a1 a2 b1 b2 rj k + dblT lot bad a1 a2 b1 b2 rj k := rfl
theorem dblD_eq (lot a1 b1 : Int) : dblD lot a1 b1 = binI lot.toNat a1 * dblC lot a1 b1 := rfl
attribute [local irreducible] binI accS bin dblS dblD dblT
set_option maxRecDepth 100000 in
set_option maxHeartbeats 20000000 in
theorem implDouble_any (lot bad a1 a2 b1 b2 rj : Int) (w : World) :
    Calls Try.prog 26 #[.int .i64 lot, .int .i64 bad, .agg #[.int .i64 a1, .int .i64 a2], .agg #[.int .i64 b1, .int .i64 b2], .int .i64 rj] w fun e w' => e = .returned (dblM lot bad a1 a2 b1 b2 rj) ∧ Below w.heap.size w w' := by
  cases g1 : isLotB lot a1 a2
  · rw [dblM_no (by simp [dblOk, g1])]
    go_enter Try.func26, Try.ntmps26
    go_wp2_with fail
    obtain ⟨w1, hw1⟩ : ∃ w1 : World, w1 = ((w.alloc (Obj.cells #[.int .i64 a1, .int .i64 a2] 27)).alloc (Obj.cells #[.int .i64 b1, .int .i64 b2] 27)) := ⟨_, rfl⟩
    have c0 : w1.cell? ⟨w.heap.size, 0, none⟩ = some (.int .i64 a1) := by subst hw1; go_simp
    have c1 : w1.cell? ⟨w.heap.size, 1, none⟩ = some (.int .i64 a2) := by subst hw1; go_simp
    have c2 : w1.cell? ⟨w.heap.size + 1, 0, none⟩ = some (.int .i64 b1) := by subst hw1; go_simp
    have c3 : w1.cell? ⟨w.heap.size + 1, 1, none⟩ = some (.int .i64 b2) := by subst hw1; go_simp
    rw [← hw1]
    have hb1 : Below w.heap.size w w1 := by subst hw1; exact below_trans (below_alloc _ _) (below_alloc _ _)
    have s0 : w.heap.size < w1.heap.size := by subst hw1; simp; omega
    have s1 : w.heap.size + 1 < w1.heap.size := by subst hw1; simp
    clear hw1
    go_wp2_with (first | (go_at_call 47; refine (isLot_any _ _ _ _).mono ?_; rw [g1]; rintro e w' ⟨rfl, hb⟩; have hB : Below w1.heap.size w1 w' := below_trans (by (repeat (first | (with_reducible assumption) | (with_reducible apply below_refl) | (with_reducible apply below_alloc1) | (with_reducible apply below_drewN1) | (with_reducible apply below_drew1)))) hb; have hC := (bcell hB).1; clear hb))
    go_ret3
    exact ⟨rfl, below_trans hb1 (by (repeat (first | (with_reducible assumption) | (with_reducible apply below_refl) | (with_reducible apply below_alloc1) | (with_reducible apply below_drewN1) | (with_reducible apply below_drew1))))⟩
  cases g2 : isLotB lot b1 b2
  · rw [dblM_no (by simp [dblOk, g2])]
    go_enter Try.func26, Try.ntmps26
    go_wp2_with fail
    obtain ⟨w1, hw1⟩ : ∃ w1 : World, w1 = ((w.alloc (Obj.cells #[.int .i64 a1, .int .i64 a2] 27)).alloc (Obj.cells #[.int .i64 b1, .int .i64 b2] 27)) := ⟨_, rfl⟩
    have c0 : w1.cell? ⟨w.heap.size, 0, none⟩ = some (.int .i64 a1) := by subst hw1; go_simp
    have c1 : w1.cell? ⟨w.heap.size, 1, none⟩ = some (.int .i64 a2) := by subst hw1; go_simp
    have c2 : w1.cell? ⟨w.heap.size + 1, 0, none⟩ = some (.int .i64 b1) := by subst hw1; go_simp
    have c3 : w1.cell? ⟨w.heap.size + 1, 1, none⟩ = some (.int .i64 b2) := by subst hw1; go_simp
    rw [← hw1]
    have hb1 : Below w.heap.size w w1 := by subst hw1; exact below_trans (below_alloc _ _) (below_alloc _ _)
    have s0 : w.heap.size < w1.heap.size := by subst hw1; simp; omega
    have s1 : w.heap.size + 1 < w1.heap.size := by subst hw1; simp
    clear hw1
    go_wp2_with (first | (go_at_call 47; refine (isLot_any _ _ _ _).mono ?_; (first | rw [g1] | rw [g2]); rintro e w' ⟨rfl, hb⟩; have hB : Below w1.heap.size w1 w' := below_trans (by (repeat (first | (with_reducible assumption) | (with_reducible apply below_refl) | (with_reducible apply below_alloc1) | (with_reducible apply below_drewN1) | (with_reducible apply below_drew1)))) hb; have hC := (bcell hB).1; clear hb))
    go_ret3
    exact ⟨rfl, below_trans hb1 (by (repeat (first | (with_reducible assumption) | (with_reducible apply below_refl) | (with_reducible apply below_alloc1) | (with_reducible apply below_drewN1) | (with_reducible apply below_drew1))))⟩
  cases g3 : inB bad 0 lot
  · rw [dblM_no (by simp [dblOk, g3])]
    go_enter Try.func26, Try.ntmps26
    go_wp2_with fail
    obtain ⟨w1, hw1⟩ : ∃ w1 : World, w1 = ((w.alloc (Obj.cells #[.int .i64 a1, .int .i64 a2] 27)).alloc (Obj.cells #[.int .i64 b1, .int .i64 b2] 27)) := ⟨_, rfl⟩
    have c0 : w1.cell? ⟨w.heap.size, 0, none⟩ = some (.int .i64 a1) := by subst hw1; go_simp
    have c1 : w1.cell? ⟨w.heap.size, 1, none⟩ = some (.int .i64 a2) := by subst hw1; go_simp
    have c2 : w1.cell? ⟨w.heap.size + 1, 0, none⟩ = some (.int .i64 b1) := by subst hw1; go_simp
    have c3 : w1.cell? ⟨w.heap.size + 1, 1, none⟩ = some (.int .i64 b2) := by subst hw1; go_simp
    rw [← hw1]
    have hb1 : Below w.heap.size w w1 := by subst hw1; exact below_trans (below_alloc _ _) (below_alloc _ _)
    have s0 : w.heap.size < w1.heap.size := by subst hw1; simp; omega
    have s1 : w.heap.size + 1 < w1.heap.size := by subst hw1; simp
    clear hw1
    go_wp2_with (first | (go_at_call 47; refine (isLot_any _ _ _ _).mono ?_; (first | rw [g1] | rw [g2]); rintro e w' ⟨rfl, hb⟩; have hB : Below w1.heap.size w1 w' := below_trans (by (repeat (first | (with_reducible assumption) | (with_reducible apply below_refl) | (with_reducible apply below_alloc1) | (with_reducible apply below_drewN1) | (with_reducible apply below_drew1)))) hb; have hC := (bcell hB).1; clear hb) | (go_at_call 52; refine (within_any _ _ _ _).mono ?_; rw [g3]; rintro e w' ⟨rfl, hb⟩; have hB : Below w1.heap.size w1 w' := below_trans (by (repeat (first | (with_reducible assumption) | (with_reducible apply below_refl) | (with_reducible apply below_alloc1) | (with_reducible apply below_drewN1) | (with_reducible apply below_drew1)))) hb; have hC := (bcell hB).1; clear hb))
    go_ret3
    exact ⟨rfl, below_trans hb1 (by (repeat (first | (with_reducible assumption) | (with_reducible apply below_refl) | (with_reducible apply below_alloc1) | (with_reducible apply below_drewN1) | (with_reducible apply below_drew1))))⟩
  obtain ⟨q1, q2, q3, q4, q5, q6⟩ := isLotB_true g1
  obtain ⟨r1, r2, r3, r4, r5, r6⟩ := isLotB_true g2
  obtain ⟨q7, q8⟩ := inB_true g3
  cases g4 : inB rj (a2 + 1) (a1 + 1)
  · rw [dblM_no (by simp [dblOk, g4])]
    go_enter Try.func26, Try.ntmps26
    go_wp2_with fail
    obtain ⟨w1, hw1⟩ : ∃ w1 : World, w1 = ((w.alloc (Obj.cells #[.int .i64 a1, .int .i64 a2] 27)).alloc (Obj.cells #[.int .i64 b1, .int .i64 b2] 27)) := ⟨_, rfl⟩
    have c0 : w1.cell? ⟨w.heap.size, 0, none⟩ = some (.int .i64 a1) := by subst hw1; go_simp
    have c1 : w1.cell? ⟨w.heap.size, 1, none⟩ = some (.int .i64 a2) := by subst hw1; go_simp
    have c2 : w1.cell? ⟨w.heap.size + 1, 0, none⟩ = some (.int .i64 b1) := by subst hw1; go_simp
    have c3 : w1.cell? ⟨w.heap.size + 1, 1, none⟩ = some (.int .i64 b2) := by subst hw1; go_simp
    rw [← hw1]
    have hb1 : Below w.heap.size w w1 := by subst hw1; exact below_trans (below_alloc _ _) (below_alloc _ _)
    have s0 : w.heap.size < w1.heap.size := by subst hw1; simp; omega
    have s1 : w.heap.size + 1 < w1.heap.size := by subst hw1; simp
    clear hw1
    go_wp2_with (first | (go_at_call 47; refine (isLot_any _ _ _ _).mono ?_; (first | rw [g1] | rw [g2]); rintro e w' ⟨rfl, hb⟩; have hB : Below w1.heap.size w1 w' := below_trans (by (repeat (first | (with_reducible assumption) | (with_reducible apply below_refl) | (with_reducible apply below_alloc1) | (with_reducible apply below_drewN1) | (with_reducible apply below_drew1)))) hb; have hC := (bcell hB).1; clear hb) | (go_at_call 52; refine (within_any _ _ _ _).mono ?_; (first | rw [g3] | rw [g4]); rintro e w' ⟨rfl, hb⟩; have hB : Below w1.heap.size w1 w' := below_trans (by (repeat (first | (with_reducible assumption) | (with_reducible apply below_refl) | (with_reducible apply below_alloc1) | (with_reducible apply below_drewN1) | (with_reducible apply below_drew1)))) hb; have hC := (bcell hB).1; clear hb))
    go_ret3
    exact ⟨rfl, below_trans hb1 (by (repeat (first | (with_reducible assumption) | (with_reducible apply below_refl) | (with_reducible apply below_alloc1) | (with_reducible apply below_drewN1) | (with_reducible apply below_drew1))))⟩
  by_cases g5 : a1 + b1 ≤ lot ∧ a1 + b1 ≤ 24
  · obtain ⟨m1, m2⟩ := g5
    have hok : dblOk lot bad a1 a2 b1 b2 rj = true := by simp [dblOk, g1, g2, g3, g4, m1, m2]
    rw [dblM_yes hok]
    clear hok
    obtain ⟨q9, q10⟩ := inB_true g4
    have hlow := (Int.lt_or_le 24 lot).imp (fun h => (⟨by omega, h⟩ : ¬ (24 < a1 + b1) ∧ 24 < lot)) (fun h => (⟨by omega, by omega⟩ : ¬ (lot < a1 + b1) ∧ ¬ 24 < lot))
    obtain ⟨dd1, dd2⟩ := dblD_bd lot a1 b1 ⟨by omega, by omega, m1, m2, q2⟩
    have hsb := fun k => dblS_bd lot bad a1 a2 b1 b2 rj k ⟨q7, q8⟩ ⟨by omega, by omega, m1, m2, q2⟩
    have hse := dblS_end lot bad a1 a2 b1 b2 rj (by omega) (by omega) (a1 + 1).toNat (by omega)
    have HSB := hid hsb
    have HSE := hid hse
    clear hsb hse
    rcases hlow with ⟨t1, t2⟩ | ⟨t1, t2⟩
    all_goals
      go_enter Try.func26, Try.ntmps26
      go_wp2_with fail
      obtain ⟨w1, hw1⟩ : ∃ w1 : World, w1 = ((w.alloc (Obj.cells #[.int .i64 a1, .int .i64 a2] 27)).alloc (Obj.cells #[.int .i64 b1, .int .i64 b2] 27)) := ⟨_, rfl⟩
      have c0 : w1.cell? ⟨w.heap.size, 0, none⟩ = some (.int .i64 a1) := by subst hw1; go_simp
      have c1 : w1.cell? ⟨w.heap.size, 1, none⟩ = some (.int .i64 a2) := by subst hw1; go_simp
      have c2 : w1.cell? ⟨w.heap.size + 1, 0, none⟩ = some (.int .i64 b1) := by subst hw1; go_simp
      have c3 : w1.cell? ⟨w.heap.size + 1, 1, none⟩ = some (.int .i64 b2) := by subst hw1; go_simp
      rw [← hw1]
      have hb1 : Below w.heap.size w w1 := by subst hw1; exact below_trans (below_alloc _ _) (below_alloc _ _)
      have s0 : w.heap.size < w1.heap.size := by subst hw1; simp; omega
      have s1 : w.heap.size + 1 < w1.heap.size := by subst hw1; simp
      clear hw1
      go_wp2_with (first | (go_at_call 47; refine (isLot_any _ _ _ _).mono ?_; (first | rw [g1] | rw [g2]); rintro e w' ⟨rfl, hb⟩; have hB : Below w1.heap.size w1 w' := below_trans (by (repeat (first | (with_reducible assumption) | (with_reducible apply below_refl) | (with_reducible apply below_alloc1) | (with_reducible apply below_drewN1) | (with_reducible apply below_drew1)))) hb; have hC := (bcell hB).1; clear hb) | (go_at_call 52; refine (within_any _ _ _ _).mono ?_; (first | rw [g3] | rw [g4]); rintro e w' ⟨rfl, hb⟩; have hB : Below w1.heap.size w1 w' := below_trans (by (repeat (first | (with_reducible assumption) | (with_reducible apply below_refl) | (with_reducible apply below_alloc1) | (with_reducible apply below_drewN1) | (with_reducible apply below_drew1)))) hb; have hC := (bcell hB).1; clear hb))
      go_loopw [14, 63] (fun x y wr => ∃ k : Nat, (k : Int) ≤ a1 + 1 ∧ x = .int .i64 (dblS lot bad a1 a2 b1 b2 rj k : Nat) ∧ y = .int .i64 k ∧ Below w1.heap.size w1 wr) (fun _ y _ => (a1 + 1).toNat - (intOf y).toNat)
      case atStart => exact ⟨0, by omega, by rw [dblS_zero]; rfl, rfl, by (repeat (first | (with_reducible assumption) | (with_reducible apply below_refl) | (with_reducible apply below_alloc1) | (with_reducible apply below_drewN1) | (with_reducible apply below_drew1)))⟩
      case round =>
        obtain ⟨k, hk, rfl, rfl, hw⟩ := hrel
        have hC1 := (bcell hw).1
        by_cases hlt : (k : Int) < a1 + 1
        · have hk1 : (k : Int) ≤ a1 := by omega
          obtain ⟨C1, e1⟩ : ∃ C, bin bad.toNat k = C := ⟨_, rfl⟩
          obtain ⟨C2, e2⟩ : ∃ C, binI (lot - bad).toNat (a1 - k) = C := ⟨_, rfl⟩
          obtain ⟨C3, e3⟩ : ∃ C, dblC lot a1 b1 = C := ⟨_, rfl⟩
          obtain ⟨C4, e4⟩ : ∃ C, dblA lot bad a1 b1 b2 k = C := ⟨_, rfl⟩
          have eT := dblT_step lot bad a1 a2 b1 b2 rj k C1 C2 C3 C4 e1 e2 e3 e4
          have eS : dblS lot bad a1 a2 b1 b2 rj (k + 1) = dblS lot bad a1 a2 b1 b2 rj k + dblT lot bad a1 a2 b1 b2 rj k := dblS_succ _ _ _ _ _ _ _ _
          have x1 := HSB.out (k + 1)
          have x2 := HSB.out k
          have x3 := term_le40 bad.toNat (lot - bad).toNat a1 k (by omega)
          rw [e1, e2] at x3
          have x4 : binI bad.toNat (k : Int) = C1 := by rw [binI_nat, e1]
          unfold dblC at e3
          unfold dblA at e4
          generalize dblS lot bad a1 a2 b1 b2 rj k = S at x2 eS ⊢
          generalize hS' : dblS lot bad a1 a2 b1 b2 rj (k + 1) = S' at x1 eS
          generalize dblT lot bad a1 a2 b1 b2 rj k = T at eT eS
          have y1 : (0 : Int) ≤ (C1 : Int) * (C2 : Int) := by rw [← Int.natCast_mul]; omega
          have y2 : (C1 : Int) * (C2 : Int) ≤ 1099511627776 := by rw [← Int.natCast_mul]; omega
          have HS := hid hS'; clear hS'
          have E1 := hid x4; have E2 := hid e2; have E3 := hid e3; have E4 := hid e4
          clear x4 e1 e2 e3 e4 x3
          have W1 : IntKind.i64.wrap (lot - bad) = lot - bad := by rw [IntKind.wrap_i64]; omega
          have W2 : IntKind.i64.wrap (a1 - (k : Int)) = a1 - (k : Int) := by rw [IntKind.wrap_i64]; omega
          have W3 : IntKind.i64.wrap ((C1 : Int) * (C2 : Int)) = (C1 : Int) * (C2 : Int) := by rw [IntKind.wrap_i64]; omega
          by_cases h0 : C1 * C2 = 0
          · rw [if_pos h0] at eT
            have z : (C1 : Int) * (C2 : Int) = 0 := by rw [← Int.natCast_mul]; omega
            have ES := hid (show S' = S by omega)
            clear h0 eT eS x1
            go_wp2_with (first | (go_region_held3 (fun w' => Below w1.heap.size w1 w' ∧ ∀ b o, b < w1.heap.size → w'.cell? ⟨b, o, none⟩ = w1.cell? ⟨b, o, none⟩) (first | exact keep_next ‹_› ‹_› | exact keep_start | exact keep_drew ‹_› | exact keep_of (by (repeat (first | (with_reducible assumption) | (with_reducible apply below_refl) | (with_reducible apply below_alloc1) | (with_reducible apply below_drewN1) | (with_reducible apply below_drew1))))) (first | (go_at_call 49; refine (choose_i _ _ ⟨by omega, by omega⟩ ⟨by omega, by omega⟩ _).mono ?_; (first | rw [E1.out] | rw [E2.out]); rintro e w' ⟨rfl, hb⟩)); rename_i hHeld; obtain ⟨hB, hC⟩ := hHeld))
            go_roundw
            case rel => exact ⟨k + 1, by omega, by rw [HS.out, ES.out], by go_num, by (repeat (first | (with_reducible assumption) | (with_reducible apply below_refl) | (with_reducible apply below_alloc1) | (with_reducible apply below_drewN1) | (with_reducible apply below_drew1)))⟩
            case measure => simp [intOf]; omega
          · rw [if_neg h0] at eT
            have z : ¬ (C1 : Int) * (C2 : Int) = 0 := by rw [← Int.natCast_mul]; omega
            by_cases k2 : (k : Int) ≤ a2
            · rw [if_pos k2] at eT
              subst eT
              have y3 : (0 : Int) ≤ (C1 : Int) * (C2 : Int) * (C3 : Int) := by rw [← Int.natCast_mul, ← Int.natCast_mul]; omega
              have y4 : (C1 : Int) * (C2 : Int) * (C3 : Int) ≤ 5044031582654955520 := by rw [← Int.natCast_mul, ← Int.natCast_mul]; omega
              have y5 : (S : Int) + (C1 : Int) * (C2 : Int) * (C3 : Int) ≤ 5044031582654955520 := by rw [← Int.natCast_mul, ← Int.natCast_mul]; omega
              have ES := hid (show (S' : Int) = (S : Int) + (C1 : Int) * (C2 : Int) * (C3 : Int) by rw [eS]; simp)
              clear eS x1 h0
              go_wp2_with (first | (go_region_held3 (fun w' => Below w1.heap.size w1 w' ∧ ∀ b o, b < w1.heap.size → w'.cell? ⟨b, o, none⟩ = w1.cell? ⟨b, o, none⟩) (first | exact keep_next ‹_› ‹_› | exact keep_start | exact keep_drew ‹_› | exact keep_of (by (repeat (first | (with_reducible assumption) | (with_reducible apply below_refl) | (with_reducible apply below_alloc1) | (with_reducible apply below_drewN1) | (with_reducible apply below_drew1))))) (first | (go_at_call 49; refine (choose_i _ _ ⟨by omega, by omega⟩ ⟨by omega, by omega⟩ _).mono ?_; (first | rw [E1.out] | rw [E2.out]); rintro e w' ⟨rfl, hb⟩)); rename_i hHeld; obtain ⟨hB, hC⟩ := hHeld) | (go_at_call 49; refine (choose_val (lot - a1) b1 C3 E3.out ⟨by omega, by omega⟩ ⟨by omega, by omega⟩ _).mono ?_; rintro e w' ⟨rfl, hb⟩; have hB : Below w1.heap.size w1 w' := below_trans (by (repeat (first | (with_reducible assumption) | (with_reducible apply below_refl) | (with_reducible apply below_alloc1) | (with_reducible apply below_drewN1) | (with_reducible apply below_drew1)))) hb; have hC := (bcell hB).1; clear hb))
              go_roundw
              case rel => exact ⟨k + 1, by omega, by rw [HS.out, ES.out], by go_num, by (repeat (first | (with_reducible assumption) | (with_reducible apply below_refl) | (with_reducible apply below_alloc1) | (with_reducible apply below_drewN1) | (with_reducible apply below_drew1)))⟩
              case measure => simp [intOf]; omega
            · rw [if_neg k2] at eT
              by_cases k3 : (k : Int) < rj
              · rw [if_pos k3] at eT
                subst eT
                have k4 : (k : Int) ≤ bad ∧ a1 - (k : Int) ≤ lot - bad := dblW_ne lot bad a1 k C1 C2 (by rw [← binI_nat, E1.out]) E2.out h0 ⟨q7, q8⟩
                obtain ⟨k5, k6⟩ := k4
                have y3 : (0 : Int) ≤ (C1 : Int) * (C2 : Int) * (C4 : Int) := by rw [← Int.natCast_mul, ← Int.natCast_mul]; omega
                have y4 : (C1 : Int) * (C2 : Int) * (C4 : Int) ≤ 5044031582654955520 := by rw [← Int.natCast_mul, ← Int.natCast_mul]; omega
                have y5 : (S : Int) + (C1 : Int) * (C2 : Int) * (C4 : Int) ≤ 5044031582654955520 := by rw [← Int.natCast_mul, ← Int.natCast_mul]; omega
                have ES := hid (show (S' : Int) = (S : Int) + (C1 : Int) * (C2 : Int) * (C4 : Int) by rw [eS]; simp)
                clear eS x1 h0
                go_wp2_with (first | (go_region_held3 (fun w' => Below w1.heap.size w1 w' ∧ ∀ b o, b < w1.heap.size → w'.cell? ⟨b, o, none⟩ = w1.cell? ⟨b, o, none⟩) (first | exact keep_next ‹_› ‹_› | exact keep_start | exact keep_drew ‹_› | exact keep_of (by (repeat (first | (with_reducible assumption) | (with_reducible apply below_refl) | (with_reducible apply below_alloc1) | (with_reducible apply below_drewN1) | (with_reducible apply below_drew1))))) (first | (go_at_call 49; refine (choose_i _ _ ⟨by omega, by omega⟩ ⟨by omega, by omega⟩ _).mono ?_; (first | rw [E1.out] | rw [E2.out]); rintro e w' ⟨rfl, hb⟩)); rename_i hHeld; obtain ⟨hB, hC⟩ := hHeld) | (go_at_call 48; refine (accepts_val (lot - a1) (bad - k) b1 (b2 - k) C4 E4.out ⟨by omega, by omega, by omega⟩ ⟨by omega, by omega⟩ ⟨by omega, by omega⟩ _).mono ?_; rintro e w' ⟨rfl, hb⟩; have hB : Below w1.heap.size w1 w' := below_trans (by (repeat (first | (with_reducible assumption) | (with_reducible apply below_refl) | (with_reducible apply below_alloc1) | (with_reducible apply below_drewN1) | (with_reducible apply below_drew1)))) hb; have hC := (bcell hB).1; clear hb))
                go_roundw
                case rel => exact ⟨k + 1, by omega, by rw [HS.out, ES.out], by go_num, by (repeat (first | (with_reducible assumption) | (with_reducible apply below_refl) | (with_reducible apply below_alloc1) | (with_reducible apply below_drewN1) | (with_reducible apply below_drew1)))⟩
                case measure => simp [intOf]; omega
              · rw [if_neg k3] at eT
                have ES := hid (show S' = S by omega)
                clear h0 eT eS x1
                go_wp2_with (first | (go_region_held3 (fun w' => Below w1.heap.size w1 w' ∧ ∀ b o, b < w1.heap.size → w'.cell? ⟨b, o, none⟩ = w1.cell? ⟨b, o, none⟩) (first | exact keep_next ‹_› ‹_› | exact keep_start | exact keep_drew ‹_› | exact keep_of (by (repeat (first | (with_reducible assumption) | (with_reducible apply below_refl) | (with_reducible apply below_alloc1) | (with_reducible apply below_drewN1) | (with_reducible apply below_drew1))))) (first | (go_at_call 49; refine (choose_i _ _ ⟨by omega, by omega⟩ ⟨by omega, by omega⟩ _).mono ?_; (first | rw [E1.out] | rw [E2.out]); rintro e w' ⟨rfl, hb⟩)); rename_i hHeld; obtain ⟨hB, hC⟩ := hHeld))
                go_roundw
                case rel => exact ⟨k + 1, by omega, by rw [HS.out, ES.out], by go_num, by (repeat (first | (with_reducible assumption) | (with_reducible apply below_refl) | (with_reducible apply below_alloc1) | (with_reducible apply below_drewN1) | (with_reducible apply below_drew1)))⟩
                case measure => simp [intOf]; omega
        · have hk' : k = (a1 + 1).toNat := by omega
          have hk2 : ¬ (k : Int) ≤ a1 := by omega
          rw [hk', HSE.out]
          have x1 := HSB.out rj.toNat
          obtain ⟨S, hS0⟩ : ∃ S, dblS lot bad a1 a2 b1 b2 rj rj.toNat = S := ⟨_, rfl⟩
          rw [hS0] at x1 ⊢
          obtain ⟨C1, e1⟩ : ∃ C, binI lot.toNat a1 = C := ⟨_, rfl⟩
          obtain ⟨C3, e3⟩ : ∃ C, dblC lot a1 b1 = C := ⟨_, rfl⟩
          have eD := dblD_eq lot a1 b1
          rw [e1, e3] at eD
          rw [eD] at dd1 dd2
          have hC1 := (bcell hw).1
          have y1 : (0 : Int) ≤ (C1 : Int) * (C3 : Int) := by rw [← Int.natCast_mul]; omega
          have y2 : (C1 : Int) * (C3 : Int) ≤ 5044031582654955520 := by rw [← Int.natCast_mul]; omega
          unfold dblC at e3
          have R := reduced_any S (C1 * C3) (by omega) (by omega) dd2
          obtain ⟨X, hX⟩ : ∃ X, S / Nat.gcd S (C1 * C3) = X := ⟨_, rfl⟩
          obtain ⟨Y, hY⟩ : ∃ X, (C1 * C3) / Nat.gcd S (C1 * C3) = X := ⟨_, rfl⟩
          rw [hX, hY] at R
          rw [Int.natCast_mul] at R
          replace R := hid R
          have HX := hid hX; have HY := hid hY; have HS0 := hid hS0; have ED := hid eD; clear hX hY hS0 eD
          have E1 := hid e1; have E3 := hid e3; clear e1 e3
          have W3 : IntKind.i64.wrap ((C1 : Int) * (C3 : Int)) = (C1 : Int) * (C3 : Int) := by rw [IntKind.wrap_i64]; omega
          go_wp2_with (go_region_held3 (fun w' => Below w1.heap.size w1 w' ∧ ∀ b o, b < w1.heap.size → w'.cell? ⟨b, o, none⟩ = w1.cell? ⟨b, o, none⟩) (first | exact keep_next ‹_› ‹_› | exact keep_start | exact keep_drew ‹_› | exact keep_of (by (repeat (first | (with_reducible assumption) | (with_reducible apply below_refl) | (with_reducible apply below_alloc1) | (with_reducible apply below_drewN1) | (with_reducible apply below_drew1))))) (first | (go_at_call 49; refine (choose_i _ _ ⟨by omega, by omega⟩ ⟨by omega, by omega⟩ _).mono ?_; (first | rw [E1.out] | rw [E3.out]); rintro e w' ⟨rfl, hb⟩) | (go_at_call 53; refine (R.out _).mono ?_; rintro e w' ⟨rfl, hb⟩)); rename_i hHeld; obtain ⟨hB, hC⟩ := hHeld)
          go_ret3
          exact ⟨by rw [HS0.out, ED.out, HX.out, HY.out]; first | done | rfl, below_trans hb1 (by (repeat (first | (with_reducible assumption) | (with_reducible apply below_refl) | (with_reducible apply below_alloc1) | (with_reducible apply below_drewN1) | (with_reducible apply below_drew1))))⟩
  · rw [dblM_no (by simp only [dblOk, Bool.and_eq_false_iff, decide_eq_false_iff_not]; omega)]
    have hlow := (Int.lt_or_le 24 lot).imp (fun h => (⟨by omega, h⟩ : 24 < a1 + b1 ∧ 24 < lot)) (fun h => (⟨by omega, by omega⟩ : lot < a1 + b1 ∧ ¬ 24 < lot))
    rcases hlow with ⟨t1, t2⟩ | ⟨t1, t2⟩
    all_goals
      go_enter Try.func26, Try.ntmps26
      go_wp2_with fail
      obtain ⟨w1, hw1⟩ : ∃ w1 : World, w1 = ((w.alloc (Obj.cells #[.int .i64 a1, .int .i64 a2] 27)).alloc (Obj.cells #[.int .i64 b1, .int .i64 b2] 27)) := ⟨_, rfl⟩
      have c0 : w1.cell? ⟨w.heap.size, 0, none⟩ = some (.int .i64 a1) := by subst hw1; go_simp
      have c1 : w1.cell? ⟨w.heap.size, 1, none⟩ = some (.int .i64 a2) := by subst hw1; go_simp
      have c2 : w1.cell? ⟨w.heap.size + 1, 0, none⟩ = some (.int .i64 b1) := by subst hw1; go_simp
      have c3 : w1.cell? ⟨w.heap.size + 1, 1, none⟩ = some (.int .i64 b2) := by subst hw1; go_simp
      rw [← hw1]
      have hb1 : Below w.heap.size w w1 := by subst hw1; exact below_trans (below_alloc _ _) (below_alloc _ _)
      have s0 : w.heap.size < w1.heap.size := by subst hw1; simp; omega
      have s1 : w.heap.size + 1 < w1.heap.size := by subst hw1; simp
      clear hw1
      go_wp2_with (first | (go_at_call 47; refine (isLot_any _ _ _ _).mono ?_; (first | rw [g1] | rw [g2]); rintro e w' ⟨rfl, hb⟩; have hB : Below w1.heap.size w1 w' := below_trans (by (repeat (first | (with_reducible assumption) | (with_reducible apply below_refl) | (with_reducible apply below_alloc1) | (with_reducible apply below_drewN1) | (with_reducible apply below_drew1)))) hb; have hC := (bcell hB).1; clear hb) | (go_at_call 52; refine (within_any _ _ _ _).mono ?_; (first | rw [g3] | rw [g4]); rintro e w' ⟨rfl, hb⟩; have hB : Below w1.heap.size w1 w' := below_trans (by (repeat (first | (with_reducible assumption) | (with_reducible apply below_refl) | (with_reducible apply below_alloc1) | (with_reducible apply below_drewN1) | (with_reducible apply below_drew1)))) hb; have hC := (bcell hB).1; clear hb))
      all_goals (go_ret3; exact ⟨rfl, below_trans hb1 (by (repeat (first | (with_reducible assumption) | (with_reducible apply below_refl) | (with_reducible apply below_alloc1) | (with_reducible apply below_drewN1) | (with_reducible apply below_drew1))))⟩)
set_option maxRecDepth 100000 in
set_option maxHeartbeats 20000000 in
theorem specDouble_any (lot bad a1 a2 b1 b2 rj : Int) (w : World) :
    Calls Try.prog 25 #[.int .i64 lot, .int .i64 bad, .agg #[.int .i64 a1, .int .i64 a2], .agg #[.int .i64 b1, .int .i64 b2], .int .i64 rj] w fun e w' => e = .returned (dblM lot bad a1 a2 b1 b2 rj) ∧ Below w.heap.size w w' := by
  cases g1 : lotB lot bad a1 a2
  · rw [dblM_no (by rw [lotB_eq] at g1; cases h1 : isLotB lot a1 a2 <;> simp_all [dblOk])]
    go_enter Try.func25, Try.ntmps25
    go_wp2_with fail
    obtain ⟨w1, hw1⟩ : ∃ w1 : World, w1 = ((w.alloc (Obj.cells #[.int .i64 a1, .int .i64 a2] 27)).alloc (Obj.cells #[.int .i64 b1, .int .i64 b2] 27)) := ⟨_, rfl⟩
    have c0 : w1.cell? ⟨w.heap.size, 0, none⟩ = some (.int .i64 a1) := by subst hw1; go_simp
    have c1 : w1.cell? ⟨w.heap.size, 1, none⟩ = some (.int .i64 a2) := by subst hw1; go_simp
    have c2 : w1.cell? ⟨w.heap.size + 1, 0, none⟩ = some (.int .i64 b1) := by subst hw1; go_simp
    have c3 : w1.cell? ⟨w.heap.size + 1, 1, none⟩ = some (.int .i64 b2) := by subst hw1; go_simp
    rw [← hw1]
    have hb1 : Below w.heap.size w w1 := by subst hw1; exact below_trans (below_alloc _ _) (below_alloc _ _)
    have s0 : w.heap.size < w1.heap.size := by subst hw1; simp; omega
    have s1 : w.heap.size + 1 < w1.heap.size := by subst hw1; simp
    clear hw1
    go_wp2_with (first | (go_at_call 44; refine (l06Lot_any _ _ lot bad a1 a2 _ (by go_simp) (by go_simp)).mono ?_; rw [g1]; rintro e w' ⟨rfl, hb⟩; have hB : Below w1.heap.size w1 w' := below_trans (by (repeat (first | (with_reducible assumption) | (with_reducible apply below_refl) | (with_reducible apply below_alloc1) | (with_reducible apply below_drewN1) | (with_reducible apply below_drew1)))) hb; have hC := (bcell hB).1; clear hb))
    go_ret3
    exact ⟨rfl, below_trans hb1 (by (repeat (first | (with_reducible assumption) | (with_reducible apply below_refl) | (with_reducible apply below_alloc1) | (with_reducible apply below_drewN1) | (with_reducible apply below_drew1))))⟩
  cases g2 : lotB lot bad b1 b2
  · rw [dblM_no (by rw [lotB_eq] at g2; cases h1 : isLotB lot b1 b2 <;> simp_all [dblOk])]
    go_enter Try.func25, Try.ntmps25
    go_wp2_with fail
    obtain ⟨w1, hw1⟩ : ∃ w1 : World, w1 = ((w.alloc (Obj.cells #[.int .i64 a1, .int .i64 a2] 27)).alloc (Obj.cells #[.int .i64 b1, .int .i64 b2] 27)) := ⟨_, rfl⟩
    have c0 : w1.cell? ⟨w.heap.size, 0, none⟩ = some (.int .i64 a1) := by subst hw1; go_simp
    have c1 : w1.cell? ⟨w.heap.size, 1, none⟩ = some (.int .i64 a2) := by subst hw1; go_simp
    have c2 : w1.cell? ⟨w.heap.size + 1, 0, none⟩ = some (.int .i64 b1) := by subst hw1; go_simp
    have c3 : w1.cell? ⟨w.heap.size + 1, 1, none⟩ = some (.int .i64 b2) := by subst hw1; go_simp
    rw [← hw1]
    have hb1 : Below w.heap.size w w1 := by subst hw1; exact below_trans (below_alloc _ _) (below_alloc _ _)
    have s0 : w.heap.size < w1.heap.size := by subst hw1; simp; omega
    have s1 : w.heap.size + 1 < w1.heap.size := by subst hw1; simp
    clear hw1
    go_wp2_with (first | (go_at_call 44; refine (l06Lot_any _ _ lot bad _ _ _ (by first | exact c0 | exact c2 | exact (hC _ _ s0).trans c0 | exact (hC _ _ s1).trans c2) (by first | exact c1 | exact c3 | exact (hC _ _ s0).trans c1 | exact (hC _ _ s1).trans c3)).mono ?_; (first | rw [g1] | rw [g2]); rintro e w' ⟨rfl, hb⟩; have hB : Below w1.heap.size w1 w' := below_trans (by (repeat (first | (with_reducible assumption) | (with_reducible apply below_refl) | (with_reducible apply below_alloc1) | (with_reducible apply below_drewN1) | (with_reducible apply below_drew1)))) hb; have hC := (bcell hB).1; clear hb))
    go_ret3
    exact ⟨rfl, below_trans hb1 (by (repeat (first | (with_reducible assumption) | (with_reducible apply below_refl) | (with_reducible apply below_alloc1) | (with_reducible apply below_drewN1) | (with_reducible apply below_drew1))))⟩
  have f1 := g1
  have f2 := g2
  rw [lotB_eq, Bool.and_eq_true] at f1 f2
  obtain ⟨f1, f3⟩ := f1
  have f4 := f2.1
  clear f2
  obtain ⟨q1, q2, q3, q4, q5, q6⟩ := isLotB_true f1
  obtain ⟨r1, r2, r3, r4, r5, r6⟩ := isLotB_true f4
  obtain ⟨q7, q8⟩ := inB_true f3
  by_cases m1 : a1 + b1 ≤ lot
  case neg =>
    rw [dblM_no (by simp [dblOk, m1])]
    go_enter Try.func25, Try.ntmps25
    go_wp2_with fail
    obtain ⟨w1, hw1⟩ : ∃ w1 : World, w1 = ((w.alloc (Obj.cells #[.int .i64 a1, .int .i64 a2] 27)).alloc (Obj.cells #[.int .i64 b1, .int .i64 b2] 27)) := ⟨_, rfl⟩
    have c0 : w1.cell? ⟨w.heap.size, 0, none⟩ = some (.int .i64 a1) := by subst hw1; go_simp
    have c1 : w1.cell? ⟨w.heap.size, 1, none⟩ = some (.int .i64 a2) := by subst hw1; go_simp
    have c2 : w1.cell? ⟨w.heap.size + 1, 0, none⟩ = some (.int .i64 b1) := by subst hw1; go_simp
    have c3 : w1.cell? ⟨w.heap.size + 1, 1, none⟩ = some (.int .i64 b2) := by subst hw1; go_simp
    rw [← hw1]
    have hb1 : Below w.heap.size w w1 := by subst hw1; exact below_trans (below_alloc _ _) (below_alloc _ _)
    have s0 : w.heap.size < w1.heap.size := by subst hw1; simp; omega
    have s1 : w.heap.size + 1 < w1.heap.size := by subst hw1; simp
    clear hw1
    go_wp2_with (first | (go_at_call 44; refine (l06Lot_any _ _ lot bad _ _ _ (by first | exact c0 | exact c2 | exact (hC _ _ s0).trans c0 | exact (hC _ _ s1).trans c2) (by first | exact c1 | exact c3 | exact (hC _ _ s0).trans c1 | exact (hC _ _ s1).trans c3)).mono ?_; (first | rw [g1] | rw [g2]); rintro e w' ⟨rfl, hb⟩; have hB : Below w1.heap.size w1 w' := below_trans (by (repeat (first | (with_reducible assumption) | (with_reducible apply below_refl) | (with_reducible apply below_alloc1) | (with_reducible apply below_drewN1) | (with_reducible apply below_drew1)))) hb; have hC := (bcell hB).1; clear hb))
    go_ret3
    exact ⟨rfl, below_trans hb1 (by (repeat (first | (with_reducible assumption) | (with_reducible apply below_refl) | (with_reducible apply below_alloc1) | (with_reducible apply below_drewN1) | (with_reducible apply below_drew1))))⟩
  by_cases m2 : a1 + b1 ≤ 24
  case neg =>
    rw [dblM_no (by simp [dblOk, m2])]
    go_enter Try.func25, Try.ntmps25
    go_wp2_with fail
    obtain ⟨w1, hw1⟩ : ∃ w1 : World, w1 = ((w.alloc (Obj.cells #[.int .i64 a1, .int .i64 a2] 27)).alloc (Obj.cells #[.int .i64 b1, .int .i64 b2] 27)) := ⟨_, rfl⟩
    have c0 : w1.cell? ⟨w.heap.size, 0, none⟩ = some (.int .i64 a1) := by subst hw1; go_simp
    have c1 : w1.cell? ⟨w.heap.size, 1, none⟩ = some (.int .i64 a2) := by subst hw1; go_simp
    have c2 : w1.cell? ⟨w.heap.size + 1, 0, none⟩ = some (.int .i64 b1) := by subst hw1; go_simp
    have c3 : w1.cell? ⟨w.heap.size + 1, 1, none⟩ = some (.int .i64 b2) := by subst hw1; go_simp
    rw [← hw1]
    have hb1 : Below w.heap.size w w1 := by subst hw1; exact below_trans (below_alloc _ _) (below_alloc _ _)
    have s0 : w.heap.size < w1.heap.size := by subst hw1; simp; omega
    have s1 : w.heap.size + 1 < w1.heap.size := by subst hw1; simp
    clear hw1
    go_wp2_with (first | (go_at_call 44; refine (l06Lot_any _ _ lot bad _ _ _ (by first | exact c0 | exact c2 | exact (hC _ _ s0).trans c0 | exact (hC _ _ s1).trans c2) (by first | exact c1 | exact c3 | exact (hC _ _ s0).trans c1 | exact (hC _ _ s1).trans c3)).mono ?_; (first | rw [g1] | rw [g2]); rintro e w' ⟨rfl, hb⟩; have hB : Below w1.heap.size w1 w' := below_trans (by (repeat (first | (with_reducible assumption) | (with_reducible apply below_refl) | (with_reducible apply below_alloc1) | (with_reducible apply below_drewN1) | (with_reducible apply below_drew1)))) hb; have hC := (bcell hB).1; clear hb))
    go_ret3
    exact ⟨rfl, below_trans hb1 (by (repeat (first | (with_reducible assumption) | (with_reducible apply below_refl) | (with_reducible apply below_alloc1) | (with_reducible apply below_drewN1) | (with_reducible apply below_drew1))))⟩
  cases g4 : inB rj (a2 + 1) (a1 + 1)
  · rw [dblM_no (by simp [dblOk, g4])]
    go_enter Try.func25, Try.ntmps25
    go_wp2_with fail
    obtain ⟨w1, hw1⟩ : ∃ w1 : World, w1 = ((w.alloc (Obj.cells #[.int .i64 a1, .int .i64 a2] 27)).alloc (Obj.cells #[.int .i64 b1, .int .i64 b2] 27)) := ⟨_, rfl⟩
    have c0 : w1.cell? ⟨w.heap.size, 0, none⟩ = some (.int .i64 a1) := by subst hw1; go_simp
    have c1 : w1.cell? ⟨w.heap.size, 1, none⟩ = some (.int .i64 a2) := by subst hw1; go_simp
    have c2 : w1.cell? ⟨w.heap.size + 1, 0, none⟩ = some (.int .i64 b1) := by subst hw1; go_simp
    have c3 : w1.cell? ⟨w.heap.size + 1, 1, none⟩ = some (.int .i64 b2) := by subst hw1; go_simp
    rw [← hw1]
    have hb1 : Below w.heap.size w w1 := by subst hw1; exact below_trans (below_alloc _ _) (below_alloc _ _)
    have s0 : w.heap.size < w1.heap.size := by subst hw1; simp; omega
    have s1 : w.heap.size + 1 < w1.heap.size := by subst hw1; simp
    clear hw1
    go_wp2_with (first | (go_at_call 44; refine (l06Lot_any _ _ lot bad _ _ _ (by first | exact c0 | exact c2 | exact (hC _ _ s0).trans c0 | exact (hC _ _ s1).trans c2) (by first | exact c1 | exact c3 | exact (hC _ _ s0).trans c1 | exact (hC _ _ s1).trans c3)).mono ?_; (first | rw [g1] | rw [g2]); rintro e w' ⟨rfl, hb⟩; have hB : Below w1.heap.size w1 w' := below_trans (by (repeat (first | (with_reducible assumption) | (with_reducible apply below_refl) | (with_reducible apply below_alloc1) | (with_reducible apply below_drewN1) | (with_reducible apply below_drew1)))) hb; have hC := (bcell hB).1; clear hb) | (go_at_call 59; refine (l00In_any _ _ _ _).mono ?_; rw [g4]; rintro e w' ⟨rfl, hb⟩; have hB : Below w1.heap.size w1 w' := below_trans (by (repeat (first | (with_reducible assumption) | (with_reducible apply below_refl) | (with_reducible apply below_alloc1) | (with_reducible apply below_drewN1) | (with_reducible apply below_drew1)))) hb; have hC := (bcell hB).1; clear hb))
    go_ret3
    exact ⟨rfl, below_trans hb1 (by (repeat (first | (with_reducible assumption) | (with_reducible apply below_refl) | (with_reducible apply below_alloc1) | (with_reducible apply below_drewN1) | (with_reducible apply below_drew1))))⟩
  have hok : dblOk lot bad a1 a2 b1 b2 rj = true := by simp [dblOk, f1, f4, f3, g4, m1, m2]
  rw [dblM_yes hok]
  clear hok
  obtain ⟨q9, q10⟩ := inB_true g4
  obtain ⟨dd1, dd2⟩ := dblD_bd lot a1 b1 ⟨by omega, by omega, m1, m2, q2⟩
  have hsb := fun k => dblS_bd lot bad a1 a2 b1 b2 rj k ⟨q7, q8⟩ ⟨by omega, by omega, m1, m2, q2⟩
  have HSB := hid hsb
  clear hsb
  go_enter Try.func25, Try.ntmps25
  go_wp2_with fail
  obtain ⟨w1, hw1⟩ : ∃ w1 : World, w1 = ((w.alloc (Obj.cells #[.int .i64 a1, .int .i64 a2] 27)).alloc (Obj.cells #[.int .i64 b1, .int .i64 b2] 27)) := ⟨_, rfl⟩
  have c0 : w1.cell? ⟨w.heap.size, 0, none⟩ = some (.int .i64 a1) := by subst hw1; go_simp
  have c1 : w1.cell? ⟨w.heap.size, 1, none⟩ = some (.int .i64 a2) := by subst hw1; go_simp
  have c2 : w1.cell? ⟨w.heap.size + 1, 0, none⟩ = some (.int .i64 b1) := by subst hw1; go_simp
  have c3 : w1.cell? ⟨w.heap.size + 1, 1, none⟩ = some (.int .i64 b2) := by subst hw1; go_simp
  rw [← hw1]
  have hb1 : Below w.heap.size w w1 := by subst hw1; exact below_trans (below_alloc _ _) (below_alloc _ _)
  have s0 : w.heap.size < w1.heap.size := by subst hw1; simp; omega
  have s1 : w.heap.size + 1 < w1.heap.size := by subst hw1; simp
  clear hw1
  go_wp2_with (first | (go_at_call 44; refine (l06Lot_any _ _ lot bad _ _ _ (by first | exact c0 | exact c2 | exact (hC _ _ s0).trans c0 | exact (hC _ _ s1).trans c2) (by first | exact c1 | exact c3 | exact (hC _ _ s0).trans c1 | exact (hC _ _ s1).trans c3)).mono ?_; (first | rw [g1] | rw [g2]); rintro e w' ⟨rfl, hb⟩; have hB : Below w1.heap.size w1 w' := below_trans (by (repeat (first | (with_reducible assumption) | (with_reducible apply below_refl) | (with_reducible apply below_alloc1) | (with_reducible apply below_drewN1) | (with_reducible apply below_drew1)))) hb; have hC := (bcell hB).1; clear hb) | (go_at_call 59; refine (l00In_any _ _ _ _).mono ?_; rw [g4]; rintro e w' ⟨rfl, hb⟩; have hB : Below w1.heap.size w1 w' := below_trans (by (repeat (first | (with_reducible assumption) | (with_reducible apply below_refl) | (with_reducible apply below_alloc1) | (with_reducible apply below_drewN1) | (with_reducible apply below_drew1)))) hb; have hC := (bcell hB).1; clear hb))
  go_loopw [13, 14] (fun x y wr => ∃ k : Nat, (k : Int) ≤ rj ∧ x = .int .i64 (dblS lot bad a1 a2 b1 b2 rj k : Nat) ∧ y = .int .i64 k ∧ Below w1.heap.size w1 wr) (fun _ y _ => rj.toNat - (intOf y).toNat)
  case atStart => exact ⟨0, by omega, by rw [dblS_zero]; rfl, rfl, by (repeat (first | (with_reducible assumption) | (with_reducible apply below_refl) | (with_reducible apply below_alloc1) | (with_reducible apply below_drewN1) | (with_reducible apply below_drew1)))⟩
  case round =>
    obtain ⟨k, hk, rfl, rfl, hw⟩ := hrel
    have hC1 := (bcell hw).1
    by_cases k3 : (k : Int) < rj
    · have hk1 : (k : Int) ≤ a1 := by omega
      obtain ⟨C1, e1⟩ : ∃ C, bin bad.toNat k = C := ⟨_, rfl⟩
      obtain ⟨C2, e2⟩ : ∃ C, binI (lot - bad).toNat (a1 - k) = C := ⟨_, rfl⟩
      obtain ⟨C3, e3⟩ : ∃ C, dblC lot a1 b1 = C := ⟨_, rfl⟩
      obtain ⟨C4, e4⟩ : ∃ C, dblA lot bad a1 b1 b2 k = C := ⟨_, rfl⟩
      have eT := dblT_step lot bad a1 a2 b1 b2 rj k C1 C2 C3 C4 e1 e2 e3 e4
      have eS : dblS lot bad a1 a2 b1 b2 rj (k + 1) = dblS lot bad a1 a2 b1 b2 rj k + dblT lot bad a1 a2 b1 b2 rj k := dblS_succ _ _ _ _ _ _ _ _
      have x1 := HSB.out (k + 1)
      have x2 := HSB.out k
      have x3 := term_le40 bad.toNat (lot - bad).toNat a1 k (by omega)
      rw [e1, e2] at x3
      have x4 : binI bad.toNat (k : Int) = C1 := by rw [binI_nat, e1]
      unfold dblC at e3
      unfold dblA at e4
      generalize dblS lot bad a1 a2 b1 b2 rj k = S at x2 eS ⊢
      generalize hS' : dblS lot bad a1 a2 b1 b2 rj (k + 1) = S' at x1 eS
      generalize dblT lot bad a1 a2 b1 b2 rj k = T at eT eS
      have y1 : (0 : Int) ≤ (C1 : Int) * (C2 : Int) := by rw [← Int.natCast_mul]; omega
      have y2 : (C1 : Int) * (C2 : Int) ≤ 1099511627776 := by rw [← Int.natCast_mul]; omega
      have HS := hid hS'; clear hS'
      have E1 := hid x4; have E2 := hid e2; have E3 := hid e3; have E4 := hid e4
      clear x4 e1 e2 e3 e4 x3
      have W1 : IntKind.i64.wrap (lot - bad) = lot - bad := by rw [IntKind.wrap_i64]; omega
      have W2 : IntKind.i64.wrap (a1 - (k : Int)) = a1 - (k : Int) := by rw [IntKind.wrap_i64]; omega
      have W3 : IntKind.i64.wrap ((C1 : Int) * (C2 : Int)) = (C1 : Int) * (C2 : Int) := by rw [IntKind.wrap_i64]; omega
      by_cases h0 : C1 * C2 = 0
      · rw [if_pos h0] at eT
        have z : (C1 : Int) * (C2 : Int) = 0 := by rw [← Int.natCast_mul]; omega
        have ES := hid (show S' = S by omega)
        clear h0 eT eS x1
        go_wp2_with (first | (go_region_held3 (fun w' => Below w1.heap.size w1 w' ∧ ∀ b o, b < w1.heap.size → w'.cell? ⟨b, o, none⟩ = w1.cell? ⟨b, o, none⟩) (first | exact keep_next ‹_› ‹_› | exact keep_start | exact keep_drew ‹_› | exact keep_of (by (repeat (first | (with_reducible assumption) | (with_reducible apply below_refl) | (with_reducible apply below_alloc1) | (with_reducible apply below_drewN1) | (with_reducible apply below_drew1))))) (first | (go_at_call 46; refine (l06Choose_i _ _ ⟨by omega, by omega⟩ ⟨by omega, by omega⟩ _).mono ?_; (first | rw [E1.out] | rw [E2.out]); rintro e w' ⟨rfl, hb⟩)); rename_i hHeld; obtain ⟨hB, hC⟩ := hHeld))
        go_roundw
        case rel => exact ⟨k + 1, by omega, by rw [HS.out, ES.out], by go_num, by (repeat (first | (with_reducible assumption) | (with_reducible apply below_refl) | (with_reducible apply below_alloc1) | (with_reducible apply below_drewN1) | (with_reducible apply below_drew1)))⟩
        case measure => simp [intOf]; omega
      · rw [if_neg h0] at eT
        have z : ¬ (C1 : Int) * (C2 : Int) = 0 := by rw [← Int.natCast_mul]; omega
        by_cases k2 : (k : Int) ≤ a2
        · rw [if_pos k2] at eT
          subst eT
          have y3 : (0 : Int) ≤ (C1 : Int) * (C2 : Int) * (C3 : Int) := by rw [← Int.natCast_mul, ← Int.natCast_mul]; omega
          have y4 : (C1 : Int) * (C2 : Int) * (C3 : Int) ≤ 5044031582654955520 := by rw [← Int.natCast_mul, ← Int.natCast_mul]; omega
          have y5 : (S : Int) + (C1 : Int) * (C2 : Int) * (C3 : Int) ≤ 5044031582654955520 := by rw [← Int.natCast_mul, ← Int.natCast_mul]; omega
          have ES := hid (show (S' : Int) = (S : Int) + (C1 : Int) * (C2 : Int) * (C3 : Int) by rw [eS]; simp)
          clear eS x1 h0
          go_wp2_with (first | (go_region_held3 (fun w' => Below w1.heap.size w1 w' ∧ ∀ b o, b < w1.heap.size → w'.cell? ⟨b, o, none⟩ = w1.cell? ⟨b, o, none⟩) (first | exact keep_next ‹_› ‹_› | exact keep_start | exact keep_drew ‹_› | exact keep_of (by (repeat (first | (with_reducible assumption) | (with_reducible apply below_refl) | (with_reducible apply below_alloc1) | (with_reducible apply below_drewN1) | (with_reducible apply below_drew1))))) (first | (go_at_call 46; refine (l06Choose_i _ _ ⟨by omega, by omega⟩ ⟨by omega, by omega⟩ _).mono ?_; (first | rw [E1.out] | rw [E2.out]); rintro e w' ⟨rfl, hb⟩)); rename_i hHeld; obtain ⟨hB, hC⟩ := hHeld) | (go_at_call 46; refine (l06Choose_val (lot - a1) b1 C3 E3.out ⟨by omega, by omega⟩ ⟨by omega, by omega⟩ _).mono ?_; rintro e w' ⟨rfl, hb⟩; have hB : Below w1.heap.size w1 w' := below_trans (by (repeat (first | (with_reducible assumption) | (with_reducible apply below_refl) | (with_reducible apply below_alloc1) | (with_reducible apply below_drewN1) | (with_reducible apply below_drew1)))) hb; have hC := (bcell hB).1; clear hb))
          go_roundw
          case rel => exact ⟨k + 1, by omega, by rw [HS.out, ES.out], by go_num, by (repeat (first | (with_reducible assumption) | (with_reducible apply below_refl) | (with_reducible apply below_alloc1) | (with_reducible apply below_drewN1) | (with_reducible apply below_drew1)))⟩
          case measure => simp [intOf]; omega
        · rw [if_neg k2] at eT
          rw [if_pos k3] at eT
          subst eT
          have k4 : (k : Int) ≤ bad ∧ a1 - (k : Int) ≤ lot - bad := dblW_ne lot bad a1 k C1 C2 (by rw [← binI_nat, E1.out]) E2.out h0 ⟨q7, q8⟩
          obtain ⟨k5, k6⟩ := k4
          have y3 : (0 : Int) ≤ (C1 : Int) * (C2 : Int) * (C4 : Int) := by rw [← Int.natCast_mul, ← Int.natCast_mul]; omega
          have y4 : (C1 : Int) * (C2 : Int) * (C4 : Int) ≤ 5044031582654955520 := by rw [← Int.natCast_mul, ← Int.natCast_mul]; omega
          have y5 : (S : Int) + (C1 : Int) * (C2 : Int) * (C4 : Int) ≤ 5044031582654955520 := by rw [← Int.natCast_mul, ← Int.natCast_mul]; omega
          have ES := hid (show (S' : Int) = (S : Int) + (C1 : Int) * (C2 : Int) * (C4 : Int) by rw [eS]; simp)
          clear eS x1 h0
          go_wp2_with (first | (go_region_held3 (fun w' => Below w1.heap.size w1 w' ∧ ∀ b o, b < w1.heap.size → w'.cell? ⟨b, o, none⟩ = w1.cell? ⟨b, o, none⟩) (first | exact keep_next ‹_› ‹_› | exact keep_start | exact keep_drew ‹_› | exact keep_of (by (repeat (first | (with_reducible assumption) | (with_reducible apply below_refl) | (with_reducible apply below_alloc1) | (with_reducible apply below_drewN1) | (with_reducible apply below_drew1))))) (first | (go_at_call 46; refine (l06Choose_i _ _ ⟨by omega, by omega⟩ ⟨by omega, by omega⟩ _).mono ?_; (first | rw [E1.out] | rw [E2.out]); rintro e w' ⟨rfl, hb⟩)); rename_i hHeld; obtain ⟨hB, hC⟩ := hHeld) | (go_at_call 45; refine (l06Sets_val (lot - a1) (bad - k) b1 (b2 - k) C4 E4.out ⟨by omega, by omega, by omega⟩ ⟨by omega, by omega⟩ ⟨by omega, by omega⟩ _).mono ?_; rintro e w' ⟨rfl, hb⟩; have hB : Below w1.heap.size w1 w' := below_trans (by (repeat (first | (with_reducible assumption) | (with_reducible apply below_refl) | (with_reducible apply below_alloc1) | (with_reducible apply below_drewN1) | (with_reducible apply below_drew1)))) hb; have hC := (bcell hB).1; clear hb))
          go_roundw
          case rel => exact ⟨k + 1, by omega, by rw [HS.out, ES.out], by go_num, by (repeat (first | (with_reducible assumption) | (with_reducible apply below_refl) | (with_reducible apply below_alloc1) | (with_reducible apply below_drewN1) | (with_reducible apply below_drew1)))⟩
          case measure => simp [intOf]; omega
    · have hk' : k = rj.toNat := by omega
      rw [hk']
      by_cases hk2 : (rj.toNat : Int) ≤ a1
      · have k4 : ¬ (rj.toNat : Int) < rj := by omega
        obtain ⟨S, hS0⟩ : ∃ S, dblS lot bad a1 a2 b1 b2 rj rj.toNat = S := ⟨_, rfl⟩
        have x1 := HSB.out rj.toNat
        rw [hS0] at x1 ⊢
        obtain ⟨C1, e1⟩ : ∃ C, binI lot.toNat a1 = C := ⟨_, rfl⟩
        obtain ⟨C3, e3⟩ : ∃ C, dblC lot a1 b1 = C := ⟨_, rfl⟩
        have eD := dblD_eq lot a1 b1
        rw [e1, e3] at eD
        rw [eD] at dd1 dd2
        have hC1 := (bcell hw).1
        have y1 : (0 : Int) ≤ (C1 : Int) * (C3 : Int) := by rw [← Int.natCast_mul]; omega
        have y2 : (C1 : Int) * (C3 : Int) ≤ 5044031582654955520 := by rw [← Int.natCast_mul]; omega
        unfold dblC at e3
        have R := l06Least_any S (C1 * C3) (by omega) (by omega) dd2
        obtain ⟨X, hX⟩ : ∃ X, S / Nat.gcd S (C1 * C3) = X := ⟨_, rfl⟩
        obtain ⟨Y, hY⟩ : ∃ X, (C1 * C3) / Nat.gcd S (C1 * C3) = X := ⟨_, rfl⟩
        rw [hX, hY] at R
        rw [Int.natCast_mul] at R
        replace R := hid R
        have HX := hid hX; have HY := hid hY; have HS0 := hid hS0; have ED := hid eD; clear hX hY hS0 eD
        have E1 := hid e1; have E3 := hid e3; clear e1 e3
        have W4 : IntKind.i64.wrap (lot - a1) = lot - a1 := by rw [IntKind.wrap_i64]; omega
        have W3 : IntKind.i64.wrap ((C1 : Int) * (C3 : Int)) = (C1 : Int) * (C3 : Int) := by rw [IntKind.wrap_i64]; omega
        go_wp2_with (go_region_held3 (fun w' => Below w1.heap.size w1 w' ∧ ∀ b o, b < w1.heap.size → w'.cell? ⟨b, o, none⟩ = w1.cell? ⟨b, o, none⟩) (first | exact keep_next ‹_› ‹_› | exact keep_start | exact keep_drew ‹_› | exact keep_of (by (repeat (first | (with_reducible assumption) | (with_reducible apply below_refl) | (with_reducible apply below_alloc1) | (with_reducible apply below_drewN1) | (with_reducible apply below_drew1))))) (first | (go_at_call 46; refine (l06Choose_i _ _ ⟨by omega, by omega⟩ ⟨by omega, by omega⟩ _).mono ?_; (first | rw [E1.out] | rw [E3.out]); rintro e w' ⟨rfl, hb⟩) | (go_at_call 50; refine (R.out _).mono ?_; rintro e w' ⟨rfl, hb⟩)); rename_i hHeld; obtain ⟨hB, hC⟩ := hHeld)
        go_ret3
        exact ⟨by rw [HS0.out, ED.out, HX.out, HY.out]; first | done | rfl, below_trans hb1 (by (repeat (first | (with_reducible assumption) | (with_reducible apply below_refl) | (with_reducible apply below_alloc1) | (with_reducible apply below_drewN1) | (with_reducible apply below_drew1))))⟩
      · 
        obtain ⟨S, hS0⟩ : ∃ S, dblS lot bad a1 a2 b1 b2 rj rj.toNat = S := ⟨_, rfl⟩
        have x1 := HSB.out rj.toNat
        rw [hS0] at x1 ⊢
        obtain ⟨C1, e1⟩ : ∃ C, binI lot.toNat a1 = C := ⟨_, rfl⟩
        obtain ⟨C3, e3⟩ : ∃ C, dblC lot a1 b1 = C := ⟨_, rfl⟩
        have eD := dblD_eq lot a1 b1
        rw [e1, e3] at eD
        rw [eD] at dd1 dd2
        have hC1 := (bcell hw).1
        have y1 : (0 : Int) ≤ (C1 : Int) * (C3 : Int) := by rw [← Int.natCast_mul]; omega
        have y2 : (C1 : Int) * (C3 : Int) ≤ 5044031582654955520 := by rw [← Int.natCast_mul]; omega
        unfold dblC at e3
        have R := l06Least_any S (C1 * C3) (by omega) (by omega) dd2
        obtain ⟨X, hX⟩ : ∃ X, S / Nat.gcd S (C1 * C3) = X := ⟨_, rfl⟩
        obtain ⟨Y, hY⟩ : ∃ X, (C1 * C3) / Nat.gcd S (C1 * C3) = X := ⟨_, rfl⟩
        rw [hX, hY] at R
        rw [Int.natCast_mul] at R
        replace R := hid R
        have HX := hid hX; have HY := hid hY; have HS0 := hid hS0; have ED := hid eD; clear hX hY hS0 eD
        have E1 := hid e1; have E3 := hid e3; clear e1 e3
        have W4 : IntKind.i64.wrap (lot - a1) = lot - a1 := by rw [IntKind.wrap_i64]; omega
        have W3 : IntKind.i64.wrap ((C1 : Int) * (C3 : Int)) = (C1 : Int) * (C3 : Int) := by rw [IntKind.wrap_i64]; omega
        go_wp2_with (go_region_held3 (fun w' => Below w1.heap.size w1 w' ∧ ∀ b o, b < w1.heap.size → w'.cell? ⟨b, o, none⟩ = w1.cell? ⟨b, o, none⟩) (first | exact keep_next ‹_› ‹_› | exact keep_start | exact keep_drew ‹_› | exact keep_of (by (repeat (first | (with_reducible assumption) | (with_reducible apply below_refl) | (with_reducible apply below_alloc1) | (with_reducible apply below_drewN1) | (with_reducible apply below_drew1))))) (first | (go_at_call 46; refine (l06Choose_i _ _ ⟨by omega, by omega⟩ ⟨by omega, by omega⟩ _).mono ?_; (first | rw [E1.out] | rw [E3.out]); rintro e w' ⟨rfl, hb⟩) | (go_at_call 50; refine (R.out _).mono ?_; rintro e w' ⟨rfl, hb⟩)); rename_i hHeld; obtain ⟨hB, hC⟩ := hHeld)
        go_ret3
        exact ⟨by rw [HS0.out, ED.out, HX.out, HY.out]; first | done | rfl, below_trans hb1 (by (repeat (first | (with_reducible assumption) | (with_reducible apply below_refl) | (with_reducible apply below_alloc1) | (with_reducible apply below_drewN1) | (with_reducible apply below_drew1))))⟩
end Go.Proofs.Ytkonlchholfpoaa
