/- Contracts: BestPlan. -/
import Derived.Test.YtdjpbgdhjkbcmaaMany
import Derived.Test.YtdjpbgdhjkbcmaaPlan
namespace Go.Proofs.Ytdjpbgdhjkbcmaa
open Go.RowKit

/-- Does a plan of size n that lets a bad parts by do? -/
def bestT (lot good bad risk chance n a : Int) : Bool :=
  decide ((1000 - risk) * (binI lot.toNat n : Nat) ≤ (accS good.toNat (lot - good).toNat n (a + 1).toNat : Nat) * 1000) && decide ((accS bad.toNat (lot - bad).toNat n (a + 1).toNat : Nat) * 1000 ≤ chance * (binI lot.toNat n : Nat))
def bestBefore (p q : Int × Int) : Prop := p.1 < q.1 ∨ (p.1 = q.1 ∧ p.2 < q.2)
def bestIn (lot : Int) (p : Int × Int) : Prop := 1 ≤ p.1 ∧ p.1 ≤ lot ∧ 0 ≤ p.2 ∧ p.2 ≤ p.1
def bestHit (lot good bad risk chance : Int) (p : Int × Int) : Prop :=
  bestIn lot p ∧ bestT lot good bad risk chance p.1 p.2 = true ∧ ∀ q, bestIn lot q → bestBefore q p → bestT lot good bad risk chance q.1 q.2 = false
theorem bestHit_one {lot good bad risk chance : Int} {p q : Int × Int} (h : bestHit lot good bad risk chance p) (k : bestHit lot good bad risk chance q) : p = q := by
  obtain ⟨h1, h2, h3⟩ := h
  obtain ⟨k1, k2, k3⟩ := k
  by_cases a : bestBefore p q
  · rw [k3 p h1 a] at h2; cases h2
  · by_cases b : bestBefore q p
    · rw [h3 q k1 b] at k2; cases k2
    · unfold bestBefore at a b
      cases p; cases q
      simp only [Prod.mk.injEq] at *
      omega
open Classical in
noncomputable def bestP (lot good bad risk chance : Int) : Option (Int × Int) := if h : ∃ p, bestHit lot good bad risk chance p then some h.choose else none
theorem bestP_some {lot good bad risk chance : Int} {p : Int × Int} (h : bestHit lot good bad risk chance p) : bestP lot good bad risk chance = some p := by
  have he : ∃ p, bestHit lot good bad risk chance p := ⟨p, h⟩
  unfold bestP
  rw [dif_pos he]
  exact congrArg some (bestHit_one he.choose_spec h)
theorem bestP_none {lot good bad risk chance : Int} (h : ∀ p, bestIn lot p → bestT lot good bad risk chance p.1 p.2 = false) : bestP lot good bad risk chance = none := by
  unfold bestP
  rw [dif_neg]
  rintro ⟨p, h1, h2, _⟩
  rw [h p h1] at h2
  cases h2
def bestOk (lot good bad risk chance : Int) : Bool := inB lot 1 40 && inB good 0 lot && inB bad (good + 1) lot && inB risk 0 1000 && inB chance 0 1000
noncomputable def bestM (lot good bad risk chance : Int) : Value :=
  if bestOk lot good bad risk chance then
    match bestP lot good bad risk chance with
    | some (n, a) => .tuple #[.agg #[.int .i64 n, .int .i64 a], .bool true]
    | none => .tuple #[.agg #[.int .i64 0, .int .i64 0], .bool false]
  else .tuple #[.agg #[.int .i64 0, .int .i64 0], .bool false]
theorem bestM_no {lot good bad risk chance : Int} (h : bestOk lot good bad risk chance = false) : bestM lot good bad risk chance = .tuple #[.agg #[.int .i64 0, .int .i64 0], .bool false] := by simp [bestM, h]
theorem bestM_hit {lot good bad risk chance n a : Int} (h : bestOk lot good bad risk chance = true) (k : bestHit lot good bad risk chance (n, a)) : bestM lot good bad risk chance = .tuple #[.agg #[.int .i64 n, .int .i64 a], .bool true] := by
  simp only [bestM, h, bestP_some k, if_true]
theorem bestM_none {lot good bad risk chance : Int} (h : bestOk lot good bad risk chance = true) (k : ∀ p, bestIn lot p → bestT lot good bad risk chance p.1 p.2 = false) : bestM lot good bad risk chance = .tuple #[.agg #[.int .i64 0, .int .i64 0], .bool false] := by
  simp only [bestM, h, bestP_none k, if_true]
theorem bestM_form (lot good bad risk chance : Int) : ∃ n a z, bestM lot good bad risk chance = .tuple #[.agg #[.int .i64 n, .int .i64 a], .bool z] := by
  unfold bestM
  split
  · split
    · exact ⟨_, _, _, rfl⟩
    · exact ⟨_, _, _, rfl⟩
  · exact ⟨_, _, _, rfl⟩
/-- No plan before (n, a) does. -/
def bestLow (lot good bad risk chance n a : Int) : Prop := ∀ q, bestIn lot q → bestBefore q (n, a) → bestT lot good bad risk chance q.1 q.2 = false
theorem bestLow_start (lot good bad risk chance : Int) : bestLow lot good bad risk chance 1 0 := by
  intro q h k
  unfold bestIn at h; unfold bestBefore at k
  cases q; simp only at *; omega
theorem bestLow_next {lot good bad risk chance n a : Int} (h : bestLow lot good bad risk chance n a) (k : bestT lot good bad risk chance n a = false) : bestLow lot good bad risk chance n (a + 1) := by
  intro q h1 h2
  by_cases e : q = (n, a)
  · rw [e]; exact k
  · refine h q h1 ?_
    unfold bestBefore at h2 ⊢
    cases q; simp only [Prod.mk.injEq] at *; omega
theorem bestLow_row {lot good bad risk chance n : Int} (h : bestLow lot good bad risk chance n (n + 1)) : bestLow lot good bad risk chance (n + 1) 0 := by
  intro q h1 h2
  refine h q h1 ?_
  unfold bestBefore at h2 ⊢; unfold bestIn at h1
  cases q; simp only at *; omega
theorem bestLow_hit {lot good bad risk chance n a : Int} (h : bestLow lot good bad risk chance n a) (hi : 1 ≤ n ∧ n ≤ lot ∧ 0 ≤ a ∧ a ≤ n) (k : bestT lot good bad risk chance n a = true) : bestHit lot good bad risk chance (n, a) := ⟨hi, k, h⟩
theorem bestLow_all {lot good bad risk chance : Int} (h : bestLow lot good bad risk chance (lot + 1) 0) : ∀ p, bestIn lot p → bestT lot good bad risk chance p.1 p.2 = false := by
  intro p hp
  refine h p hp ?_
  unfold bestIn at hp; unfold bestBefore
  cases p; simp only at *; omega

theorem bestOk_true {lot good bad risk chance : Int} (h : bestOk lot good bad risk chance = true) : 1 ≤ lot ∧ lot ≤ 40 ∧ 0 ≤ good ∧ good + 1 ≤ bad ∧ bad ≤ lot ∧ 0 ≤ risk ∧ risk ≤ 1000 ∧ 0 ≤ chance ∧ chance ≤ 1000 := by
  simp only [bestOk, inB, Bool.and_eq_true, decide_eq_true_eq] at h
  omega
set_option maxRecDepth 100000 in
set_option maxHeartbeats 2000000 in
theorem implBest_any (lot good bad risk chance : Int) (w : World) (hg : -9223372036854775808 ≤ good ∧ good ≤ 9223372036854775807) (hb : -9223372036854775808 ≤ bad ∧ bad ≤ 9223372036854775807) :
    Calls Try.prog 29 #[.int .i64 lot, .int .i64 good, .int .i64 bad, .int .i64 risk, .int .i64 chance] w fun e w' => e = .returned (bestM lot good bad risk chance) ∧ Below w.heap.size w w' := by
  cases g1 : inB lot 1 40
  · rw [bestM_no (by simp [bestOk, g1])]
    go_enter Try.func29, Try.ntmps29
    go_wp2_with fail
    obtain ⟨w1, hw1⟩ : ∃ w1 : World, w1 = (w.alloc (Obj.cells #[.int .i64 0, .int .i64 0] 25)) := ⟨_, rfl⟩
    have c0 : w1.cell? ⟨w.heap.size, 0, none⟩ = some (.int .i64 0) := by subst hw1; go_simp
    have c1 : w1.cell? ⟨w.heap.size, 1, none⟩ = some (.int .i64 0) := by subst hw1; go_simp
    have f0 : w1.frozen? ⟨w.heap.size, 0, none⟩ = false := by subst hw1; go_simp
    have f1 : w1.frozen? ⟨w.heap.size, 1, none⟩ = false := by subst hw1; go_simp
    rw [← hw1]
    have hb1 : Below w.heap.size w w1 := by subst hw1; exact below_alloc _ _
    have s0 : w.heap.size < w1.heap.size := by subst hw1; simp
    clear hw1
    go_wp2_with (first | (go_at_call 39; refine (within_any _ _ _ _).mono ?_; (first | rw [g1]); rintro e w' ⟨rfl, hb⟩; have hB : Below w1.heap.size w1 w' := below_trans (by (repeat (first | (with_reducible assumption) | (with_reducible apply below_refl) | (with_reducible apply below_alloc1) | (with_reducible apply below_drewN1) | (with_reducible apply below_drew1)))) hb; have hC := (bcell hB).1; have hF := (bcell hB).2; clear hb) | (go_at_call 52; refine (areWithin_any _ [risk, chance] _ _ _ (rowAt_alloc _ _ _ (by simp [maxLen]))).mono ?_; (first | rw [gm]); rintro e w' ⟨rfl, hb⟩; have hB : Below w1.heap.size w1 w' := below_trans (by (repeat (first | (with_reducible assumption) | (with_reducible apply below_refl) | (with_reducible apply below_alloc1) | (with_reducible apply below_drewN1) | (with_reducible apply below_drew1)))) hb; have hC := (bcell hB).1; have hF := (bcell hB).2; clear hb))
    exact bodyPost_ret (v := .tuple #[.agg #[.int .i64 0, .int .i64 0], .bool false]) (by simp [results, Try.results29, go_sem, hC _ _ s0, c0, c1]) rfl ⟨rfl, below_setCell1 (below_setCell1 (below_trans hb1 (by (repeat (first | (with_reducible assumption) | (with_reducible apply below_refl) | (with_reducible apply below_alloc1) | (with_reducible apply below_drewN1) | (with_reducible apply below_drew1))))) (Nat.le_refl _)) (Nat.le_refl _)⟩
  cases g2 : inB good 0 lot
  · rw [bestM_no (by simp [bestOk, g2])]
    go_enter Try.func29, Try.ntmps29
    go_wp2_with fail
    obtain ⟨w1, hw1⟩ : ∃ w1 : World, w1 = (w.alloc (Obj.cells #[.int .i64 0, .int .i64 0] 25)) := ⟨_, rfl⟩
    have c0 : w1.cell? ⟨w.heap.size, 0, none⟩ = some (.int .i64 0) := by subst hw1; go_simp
    have c1 : w1.cell? ⟨w.heap.size, 1, none⟩ = some (.int .i64 0) := by subst hw1; go_simp
    have f0 : w1.frozen? ⟨w.heap.size, 0, none⟩ = false := by subst hw1; go_simp
    have f1 : w1.frozen? ⟨w.heap.size, 1, none⟩ = false := by subst hw1; go_simp
    rw [← hw1]
    have hb1 : Below w.heap.size w w1 := by subst hw1; exact below_alloc _ _
    have s0 : w.heap.size < w1.heap.size := by subst hw1; simp
    clear hw1
    go_wp2_with (first | (go_at_call 39; refine (within_any _ _ _ _).mono ?_; (first | rw [g1] | rw [g2]); rintro e w' ⟨rfl, hb⟩; have hB : Below w1.heap.size w1 w' := below_trans (by (repeat (first | (with_reducible assumption) | (with_reducible apply below_refl) | (with_reducible apply below_alloc1) | (with_reducible apply below_drewN1) | (with_reducible apply below_drew1)))) hb; have hC := (bcell hB).1; have hF := (bcell hB).2; clear hb) | (go_at_call 52; refine (areWithin_any _ [risk, chance] _ _ _ (rowAt_alloc _ _ _ (by simp [maxLen]))).mono ?_; (first | rw [gm]); rintro e w' ⟨rfl, hb⟩; have hB : Below w1.heap.size w1 w' := below_trans (by (repeat (first | (with_reducible assumption) | (with_reducible apply below_refl) | (with_reducible apply below_alloc1) | (with_reducible apply below_drewN1) | (with_reducible apply below_drew1)))) hb; have hC := (bcell hB).1; have hF := (bcell hB).2; clear hb))
    exact bodyPost_ret (v := .tuple #[.agg #[.int .i64 0, .int .i64 0], .bool false]) (by simp [results, Try.results29, go_sem, hC _ _ s0, c0, c1]) rfl ⟨rfl, below_setCell1 (below_setCell1 (below_trans hb1 (by (repeat (first | (with_reducible assumption) | (with_reducible apply below_refl) | (with_reducible apply below_alloc1) | (with_reducible apply below_drewN1) | (with_reducible apply below_drew1))))) (Nat.le_refl _)) (Nat.le_refl _)⟩
  have g1' := inB_true g1
  have g2' := inB_true g2
  cases g3 : inB bad (good + 1) lot
  · rw [bestM_no (by simp [bestOk, g3])]
    go_enter Try.func29, Try.ntmps29
    go_wp2_with fail
    obtain ⟨w1, hw1⟩ : ∃ w1 : World, w1 = (w.alloc (Obj.cells #[.int .i64 0, .int .i64 0] 25)) := ⟨_, rfl⟩
    have c0 : w1.cell? ⟨w.heap.size, 0, none⟩ = some (.int .i64 0) := by subst hw1; go_simp
    have c1 : w1.cell? ⟨w.heap.size, 1, none⟩ = some (.int .i64 0) := by subst hw1; go_simp
    have f0 : w1.frozen? ⟨w.heap.size, 0, none⟩ = false := by subst hw1; go_simp
    have f1 : w1.frozen? ⟨w.heap.size, 1, none⟩ = false := by subst hw1; go_simp
    rw [← hw1]
    have hb1 : Below w.heap.size w w1 := by subst hw1; exact below_alloc _ _
    have s0 : w.heap.size < w1.heap.size := by subst hw1; simp
    clear hw1
    go_wp2_with (first | (go_at_call 39; refine (within_any _ _ _ _).mono ?_; (first | rw [g1] | rw [g2] | rw [g3]); rintro e w' ⟨rfl, hb⟩; have hB : Below w1.heap.size w1 w' := below_trans (by (repeat (first | (with_reducible assumption) | (with_reducible apply below_refl) | (with_reducible apply below_alloc1) | (with_reducible apply below_drewN1) | (with_reducible apply below_drew1)))) hb; have hC := (bcell hB).1; have hF := (bcell hB).2; clear hb) | (go_at_call 52; refine (areWithin_any _ [risk, chance] _ _ _ (rowAt_alloc _ _ _ (by simp [maxLen]))).mono ?_; (first | rw [gm]); rintro e w' ⟨rfl, hb⟩; have hB : Below w1.heap.size w1 w' := below_trans (by (repeat (first | (with_reducible assumption) | (with_reducible apply below_refl) | (with_reducible apply below_alloc1) | (with_reducible apply below_drewN1) | (with_reducible apply below_drew1)))) hb; have hC := (bcell hB).1; have hF := (bcell hB).2; clear hb))
    exact bodyPost_ret (v := .tuple #[.agg #[.int .i64 0, .int .i64 0], .bool false]) (by simp [results, Try.results29, go_sem, hC _ _ s0, c0, c1]) rfl ⟨rfl, below_setCell1 (below_setCell1 (below_trans hb1 (by (repeat (first | (with_reducible assumption) | (with_reducible apply below_refl) | (with_reducible apply below_alloc1) | (with_reducible apply below_drewN1) | (with_reducible apply below_drew1))))) (Nat.le_refl _)) (Nat.le_refl _)⟩
  cases gm : allIn [risk, chance] 0 1000
  · rw [bestM_no (by simp only [allIn, List.all_cons, List.all_nil, Bool.and_true] at gm; simp only [bestOk, Bool.and_assoc, gm, Bool.and_false])]
    go_enter Try.func29, Try.ntmps29
    go_wp2_with fail
    obtain ⟨w1, hw1⟩ : ∃ w1 : World, w1 = (w.alloc (Obj.cells #[.int .i64 0, .int .i64 0] 25)) := ⟨_, rfl⟩
    have c0 : w1.cell? ⟨w.heap.size, 0, none⟩ = some (.int .i64 0) := by subst hw1; go_simp
    have c1 : w1.cell? ⟨w.heap.size, 1, none⟩ = some (.int .i64 0) := by subst hw1; go_simp
    have f0 : w1.frozen? ⟨w.heap.size, 0, none⟩ = false := by subst hw1; go_simp
    have f1 : w1.frozen? ⟨w.heap.size, 1, none⟩ = false := by subst hw1; go_simp
    rw [← hw1]
    have hb1 : Below w.heap.size w w1 := by subst hw1; exact below_alloc _ _
    have s0 : w.heap.size < w1.heap.size := by subst hw1; simp
    clear hw1
    go_wp2_with (first | (go_at_call 39; refine (within_any _ _ _ _).mono ?_; (first | rw [g1] | rw [g2] | rw [g3]); rintro e w' ⟨rfl, hb⟩; have hB : Below w1.heap.size w1 w' := below_trans (by (repeat (first | (with_reducible assumption) | (with_reducible apply below_refl) | (with_reducible apply below_alloc1) | (with_reducible apply below_drewN1) | (with_reducible apply below_drew1)))) hb; have hC := (bcell hB).1; have hF := (bcell hB).2; clear hb) | (go_at_call 52; refine (areWithin_any _ [risk, chance] _ _ _ (rowAt_alloc _ _ _ (by simp [maxLen]))).mono ?_; (first | rw [gm]); rintro e w' ⟨rfl, hb⟩; have hB : Below w1.heap.size w1 w' := below_trans (by (repeat (first | (with_reducible assumption) | (with_reducible apply below_refl) | (with_reducible apply below_alloc1) | (with_reducible apply below_drewN1) | (with_reducible apply below_drew1)))) hb; have hC := (bcell hB).1; have hF := (bcell hB).2; clear hb))
    exact bodyPost_ret (v := .tuple #[.agg #[.int .i64 0, .int .i64 0], .bool false]) (by simp [results, Try.results29, go_sem, hC _ _ s0, c0, c1]) rfl ⟨rfl, below_setCell1 (below_setCell1 (below_trans hb1 (by (repeat (first | (with_reducible assumption) | (with_reducible apply below_refl) | (with_reducible apply below_alloc1) | (with_reducible apply below_drewN1) | (with_reducible apply below_drew1))))) (Nat.le_refl _)) (Nat.le_refl _)⟩
  have hok : bestOk lot good bad risk chance = true := by simp only [allIn, List.all_cons, List.all_nil, Bool.and_true] at gm; simp only [bestOk, Bool.and_assoc, gm, g1, g2, g3, Bool.and_true]
  clear g1' g2'
  obtain ⟨q1, q2, q3, q4, q5, q6, q7, q8, q9⟩ := bestOk_true hok
  have HOK := hid hok; clear hok
  go_enter Try.func29, Try.ntmps29
  go_wp2_with fail
  obtain ⟨w1, hw1⟩ : ∃ w1 : World, w1 = (w.alloc (Obj.cells #[.int .i64 0, .int .i64 0] 25)) := ⟨_, rfl⟩
  have c0 : w1.cell? ⟨w.heap.size, 0, none⟩ = some (.int .i64 0) := by subst hw1; go_simp
  have c1 : w1.cell? ⟨w.heap.size, 1, none⟩ = some (.int .i64 0) := by subst hw1; go_simp
  have f0 : w1.frozen? ⟨w.heap.size, 0, none⟩ = false := by subst hw1; go_simp
  have f1 : w1.frozen? ⟨w.heap.size, 1, none⟩ = false := by subst hw1; go_simp
  rw [← hw1]
  have hb1 : Below w.heap.size w w1 := by subst hw1; exact below_alloc _ _
  have s0 : w.heap.size < w1.heap.size := by subst hw1; simp
  clear hw1
  go_wp2_with (first | (go_at_call 39; refine (within_any _ _ _ _).mono ?_; (first | rw [g1] | rw [g2] | rw [g3]); rintro e w' ⟨rfl, hb⟩; have hB : Below w1.heap.size w1 w' := below_trans (by (repeat (first | (with_reducible assumption) | (with_reducible apply below_refl) | (with_reducible apply below_alloc1) | (with_reducible apply below_drewN1) | (with_reducible apply below_drew1)))) hb; have hC := (bcell hB).1; have hF := (bcell hB).2; clear hb) | (go_at_call 52; refine (areWithin_any _ [risk, chance] _ _ _ (rowAt_alloc _ _ _ (by simp [maxLen]))).mono ?_; (first | rw [gm]); rintro e w' ⟨rfl, hb⟩; have hB : Below w1.heap.size w1 w' := below_trans (by (repeat (first | (with_reducible assumption) | (with_reducible apply below_refl) | (with_reducible apply below_alloc1) | (with_reducible apply below_drewN1) | (with_reducible apply below_drew1)))) hb; have hC := (bcell hB).1; have hF := (bcell hB).2; clear hb))
  go_loopw [12] (fun x wr => ∃ n : Int, x = .int .i64 n ∧ 1 ≤ n ∧ n ≤ lot + 1 ∧ Hid (bestLow lot good bad risk chance n 0) ∧ Below w1.heap.size w1 wr) (fun x _ => (lot + 1).toNat - (intOf x).toNat)
  case atStart => exact ⟨1, rfl, by omega, by omega, hid (bestLow_start _ _ _ _ _), by (repeat (first | (with_reducible assumption) | (with_reducible apply below_refl) | (with_reducible apply below_alloc1) | (with_reducible apply below_drewN1) | (with_reducible apply below_drew1)))⟩
  case round =>
    obtain ⟨n, rfl, n1, n2, hlow, hw⟩ := hrel
    have hC1 := (bcell hw).1
    have hF1 := (bcell hw).2
    by_cases hle : n ≤ lot
    · obtain ⟨C, e0⟩ : ∃ C, binI lot.toNat n = C := ⟨_, rfl⟩
      have eb := binI_le40 lot.toNat n (by omega)
      rw [e0] at eb
      have E0 := hid e0; clear e0
      go_wp2_with (first | (go_at_call 53; refine (choose_i lot n ⟨by omega, by omega⟩ ⟨by omega, by omega⟩ _).mono ?_; rw [E0.out]; rintro e w' ⟨rfl, hb⟩; have hB : Below w1.heap.size w1 w' := below_trans (by (repeat (first | (with_reducible assumption) | (with_reducible apply below_refl) | (with_reducible apply below_alloc1) | (with_reducible apply below_drewN1) | (with_reducible apply below_drew1)))) hb; have hC := (bcell hB).1; have hF := (bcell hB).2; clear hb))
      have p1 : 0 ≤ (1000 - risk) * (C : Int) := Int.mul_nonneg (by omega) (by omega)
      have p2 : (1000 - risk) * (C : Int) ≤ 1000 * 1099511627776 := Int.mul_le_mul (by omega) (by omega) (by omega) (by omega)
      have p3 : 0 ≤ chance * (C : Int) := Int.mul_nonneg (by omega) (by omega)
      have p4 : chance * (C : Int) ≤ 1000 * 1099511627776 := Int.mul_le_mul (by omega) (by omega) (by omega) (by omega)
      go_loopw [50] (fun y wr2 => ∃ a : Int, y = .int .i64 a ∧ 0 ≤ a ∧ a ≤ n + 1 ∧ Hid (bestLow lot good bad risk chance n a) ∧ Below w1.heap.size w1 wr2) (fun y _ => (n + 1).toNat - (intOf y).toNat)
      case atStart => exact ⟨0, rfl, by omega, by omega, hlow, by (repeat (first | (with_reducible assumption) | (with_reducible apply below_refl) | (with_reducible apply below_alloc1) | (with_reducible apply below_drewN1) | (with_reducible apply below_drew1)))⟩
      case round =>
        obtain ⟨a, rfl, a1, a2, hl2, hw2⟩ := hrel
        have hC2 := (bcell hw2).1
        have hF2 := (bcell hw2).2
        by_cases hla : a ≤ n
        · have hla2 : a < n + 1 := by omega
          obtain ⟨A1, e1⟩ : ∃ A, accS good.toNat (lot - good).toNat n (a + 1).toNat = A := ⟨_, rfl⟩
          obtain ⟨A2, e2⟩ : ∃ A, accS bad.toNat (lot - bad).toNat n (a + 1).toNat = A := ⟨_, rfl⟩
          have b1 := accS_le40 good.toNat (lot - good).toNat n (a + 1).toNat (by omega)
          have b2 := accS_le40 bad.toNat (lot - bad).toNat n (a + 1).toNat (by omega)
          rw [e1] at b1
          rw [e2] at b2
          have eT : bestT lot good bad risk chance n a = (decide ((1000 - risk) * (C : Int) ≤ (A1 : Int) * 1000) && decide ((A2 : Int) * 1000 ≤ chance * (C : Int))) := by unfold bestT; rw [e1, e2, E0.out]
          have E1 := hid e1; have E2 := hid e2; clear e1 e2
          by_cases t1 : (1000 - risk) * (C : Int) ≤ (A1 : Int) * 1000
          · by_cases t2 : (A2 : Int) * 1000 ≤ chance * (C : Int)
            · have hT : bestT lot good bad risk chance n a = true := by rw [eT]; simp [t1, t2]
              have HM := hid (bestM_hit HOK.out (bestLow_hit hl2.out ⟨n1, hle, a1, hla⟩ hT))
              clear eT hT
              go_wp2_with (go_at_call 54; refine (accepts_any _ _ _ _ ⟨by omega, by omega, by omega⟩ ⟨by omega, by omega⟩ ⟨by omega, by omega⟩ _).mono ?_; (first | rw [E1.out] | rw [E2.out]); rintro e w' ⟨rfl, hb⟩; have hB : Below w1.heap.size w1 w' := below_trans (by (repeat (first | (with_reducible assumption) | (with_reducible apply below_refl) | (with_reducible apply below_alloc1) | (with_reducible apply below_drewN1) | (with_reducible apply below_drew1)))) hb; have hC := (bcell hB).1; have hF := (bcell hB).2; clear hb)
              exact bodyPost_ret (v := .tuple #[.agg #[.int .i64 n, .int .i64 a], .bool true]) (by simp [results, Try.results29, go_sem, hC _ _ s0, c0, c1]) rfl ⟨by rw [HM.out], below_setCell1 (below_setCell1 (below_trans hb1 (by (repeat (first | (with_reducible assumption) | (with_reducible apply below_refl) | (with_reducible apply below_alloc1) | (with_reducible apply below_drewN1) | (with_reducible apply below_drew1))))) (Nat.le_refl _)) (Nat.le_refl _)⟩
            · have hT : bestT lot good bad risk chance n a = false := by rw [eT]; simp [t1, t2]
              have HN := hid (bestLow_next hl2.out hT)
              clear eT hT
              go_wp2_with (go_at_call 54; refine (accepts_any _ _ _ _ ⟨by omega, by omega, by omega⟩ ⟨by omega, by omega⟩ ⟨by omega, by omega⟩ _).mono ?_; (first | rw [E1.out] | rw [E2.out]); rintro e w' ⟨rfl, hb⟩; have hB : Below w1.heap.size w1 w' := below_trans (by (repeat (first | (with_reducible assumption) | (with_reducible apply below_refl) | (with_reducible apply below_alloc1) | (with_reducible apply below_drewN1) | (with_reducible apply below_drew1)))) hb; have hC := (bcell hB).1; have hF := (bcell hB).2; clear hb)
              go_roundw
              case rel => exact ⟨a + 1, by go_num, by omega, by omega, HN, by (repeat (first | (with_reducible assumption) | (with_reducible apply below_refl) | (with_reducible apply below_alloc1) | (with_reducible apply below_drewN1) | (with_reducible apply below_drew1)))⟩
              case measure => simp [intOf]; omega
          · have hT : bestT lot good bad risk chance n a = false := by rw [eT]; simp [t1]
            have HN := hid (bestLow_next hl2.out hT)
            clear eT hT
            go_wp2_with (go_at_call 54; refine (accepts_any _ _ _ _ ⟨by omega, by omega, by omega⟩ ⟨by omega, by omega⟩ ⟨by omega, by omega⟩ _).mono ?_; (first | rw [E1.out] | rw [E2.out]); rintro e w' ⟨rfl, hb⟩; have hB : Below w1.heap.size w1 w' := below_trans (by (repeat (first | (with_reducible assumption) | (with_reducible apply below_refl) | (with_reducible apply below_alloc1) | (with_reducible apply below_drewN1) | (with_reducible apply below_drew1)))) hb; have hC := (bcell hB).1; have hF := (bcell hB).2; clear hb)
            go_roundw
            case rel => exact ⟨a + 1, by go_num, by omega, by omega, HN, by (repeat (first | (with_reducible assumption) | (with_reducible apply below_refl) | (with_reducible apply below_alloc1) | (with_reducible apply below_drewN1) | (with_reducible apply below_drew1)))⟩
            case measure => simp [intOf]; omega
        · have ha : a = n + 1 := by omega
          subst ha
          have hla2 : ¬ n + 1 < n + 1 := by omega
          have HR := hid (bestLow_row hl2.out)
          go_wp2_with fail
          go_roundw
          case rel => exact ⟨n + 1, by go_num, by omega, by omega, HR, by (repeat (first | (with_reducible assumption) | (with_reducible apply below_refl) | (with_reducible apply below_alloc1) | (with_reducible apply below_drewN1) | (with_reducible apply below_drew1)))⟩
          case measure => simp [intOf]; omega
    · have hn : n = lot + 1 := by omega
      subst hn
      have HM := hid (bestM_none HOK.out (bestLow_all hlow.out))
      go_wp2_with fail
      exact bodyPost_ret (v := .tuple #[.agg #[.int .i64 0, .int .i64 0], .bool false]) (by simp [results, Try.results29, go_sem, hC1 _ _ s0, c0, c1]) rfl ⟨by rw [HM.out], below_setCell1 (below_setCell1 (below_trans hb1 (by (repeat (first | (with_reducible assumption) | (with_reducible apply below_refl) | (with_reducible apply below_alloc1) | (with_reducible apply below_drewN1) | (with_reducible apply below_drew1))))) (Nat.le_refl _)) (Nat.le_refl _)⟩
theorem bestOk_spec (lot good bad risk chance : Int) : bestOk lot good bad risk chance = (inB lot 1 40 && inB bad 0 lot && inB good 0 (bad - 1) && inB risk 0 1000 && inB chance 0 1000) := by
  rw [Bool.eq_iff_iff]
  simp only [bestOk, inB, Bool.and_eq_true, decide_eq_true_eq]
  omega
set_option maxRecDepth 100000 in
set_option maxHeartbeats 2000000 in
theorem specBest_any (lot good bad risk chance : Int) (w : World) (hg : -9223372036854775808 ≤ good ∧ good ≤ 9223372036854775807) (hb : -9223372036854775808 ≤ bad ∧ bad ≤ 9223372036854775807) :
    Calls Try.prog 28 #[.int .i64 lot, .int .i64 good, .int .i64 bad, .int .i64 risk, .int .i64 chance] w fun e w' => e = .returned (bestM lot good bad risk chance) ∧ Below w.heap.size w w' := by
  cases g1 : inB lot 1 40
  · rw [bestM_no (by rw [bestOk_spec]; simp [g1])]
    go_enter Try.func28, Try.ntmps28
    go_wp2_with fail
    obtain ⟨w1, hw1⟩ : ∃ w1 : World, w1 = (w.alloc (Obj.cells #[.int .i64 0, .int .i64 0] 25)) := ⟨_, rfl⟩
    have c0 : w1.cell? ⟨w.heap.size, 0, none⟩ = some (.int .i64 0) := by subst hw1; go_simp
    have c1 : w1.cell? ⟨w.heap.size, 1, none⟩ = some (.int .i64 0) := by subst hw1; go_simp
    have f0 : w1.frozen? ⟨w.heap.size, 0, none⟩ = false := by subst hw1; go_simp
    have f1 : w1.frozen? ⟨w.heap.size, 1, none⟩ = false := by subst hw1; go_simp
    rw [← hw1]
    have hb1 : Below w.heap.size w w1 := by subst hw1; exact below_alloc _ _
    have s0 : w.heap.size < w1.heap.size := by subst hw1; simp
    clear hw1
    go_wp2_with (go_at_call 40; refine (l00In_any _ _ _ _).mono ?_; (first | rw [g1]); rintro e w' ⟨rfl, hb⟩; have hB : Below w1.heap.size w1 w' := below_trans (by (repeat (first | (with_reducible assumption) | (with_reducible apply below_refl) | (with_reducible apply below_alloc1) | (with_reducible apply below_drewN1) | (with_reducible apply below_drew1)))) hb; have hC := (bcell hB).1; have hF := (bcell hB).2; clear hb)
    exact bodyPost_ret (v := .tuple #[.agg #[.int .i64 0, .int .i64 0], .bool false]) (by simp [results, Try.results28, go_sem, hC _ _ s0, c0, c1]) rfl ⟨rfl, below_setCell1 (below_setCell1 (below_trans hb1 (by (repeat (first | (with_reducible assumption) | (with_reducible apply below_refl) | (with_reducible apply below_alloc1) | (with_reducible apply below_drewN1) | (with_reducible apply below_drew1))))) (Nat.le_refl _)) (Nat.le_refl _)⟩
  have g1' := inB_true g1
  cases g2 : inB bad 0 lot
  · rw [bestM_no (by rw [bestOk_spec]; simp [g2])]
    go_enter Try.func28, Try.ntmps28
    go_wp2_with fail
    obtain ⟨w1, hw1⟩ : ∃ w1 : World, w1 = (w.alloc (Obj.cells #[.int .i64 0, .int .i64 0] 25)) := ⟨_, rfl⟩
    have c0 : w1.cell? ⟨w.heap.size, 0, none⟩ = some (.int .i64 0) := by subst hw1; go_simp
    have c1 : w1.cell? ⟨w.heap.size, 1, none⟩ = some (.int .i64 0) := by subst hw1; go_simp
    have f0 : w1.frozen? ⟨w.heap.size, 0, none⟩ = false := by subst hw1; go_simp
    have f1 : w1.frozen? ⟨w.heap.size, 1, none⟩ = false := by subst hw1; go_simp
    rw [← hw1]
    have hb1 : Below w.heap.size w w1 := by subst hw1; exact below_alloc _ _
    have s0 : w.heap.size < w1.heap.size := by subst hw1; simp
    clear hw1
    go_wp2_with (go_at_call 40; refine (l00In_any _ _ _ _).mono ?_; (first | rw [g1] | rw [g2]); rintro e w' ⟨rfl, hb⟩; have hB : Below w1.heap.size w1 w' := below_trans (by (repeat (first | (with_reducible assumption) | (with_reducible apply below_refl) | (with_reducible apply below_alloc1) | (with_reducible apply below_drewN1) | (with_reducible apply below_drew1)))) hb; have hC := (bcell hB).1; have hF := (bcell hB).2; clear hb)
    exact bodyPost_ret (v := .tuple #[.agg #[.int .i64 0, .int .i64 0], .bool false]) (by simp [results, Try.results28, go_sem, hC _ _ s0, c0, c1]) rfl ⟨rfl, below_setCell1 (below_setCell1 (below_trans hb1 (by (repeat (first | (with_reducible assumption) | (with_reducible apply below_refl) | (with_reducible apply below_alloc1) | (with_reducible apply below_drewN1) | (with_reducible apply below_drew1))))) (Nat.le_refl _)) (Nat.le_refl _)⟩
  have g2' := inB_true g2
  cases g3 : inB good 0 (bad - 1)
  · rw [bestM_no (by rw [bestOk_spec]; simp [g3])]
    go_enter Try.func28, Try.ntmps28
    go_wp2_with fail
    obtain ⟨w1, hw1⟩ : ∃ w1 : World, w1 = (w.alloc (Obj.cells #[.int .i64 0, .int .i64 0] 25)) := ⟨_, rfl⟩
    have c0 : w1.cell? ⟨w.heap.size, 0, none⟩ = some (.int .i64 0) := by subst hw1; go_simp
    have c1 : w1.cell? ⟨w.heap.size, 1, none⟩ = some (.int .i64 0) := by subst hw1; go_simp
    have f0 : w1.frozen? ⟨w.heap.size, 0, none⟩ = false := by subst hw1; go_simp
    have f1 : w1.frozen? ⟨w.heap.size, 1, none⟩ = false := by subst hw1; go_simp
    rw [← hw1]
    have hb1 : Below w.heap.size w w1 := by subst hw1; exact below_alloc _ _
    have s0 : w.heap.size < w1.heap.size := by subst hw1; simp
    clear hw1
    go_wp2_with (go_at_call 40; refine (l00In_any _ _ _ _).mono ?_; (first | rw [g1] | rw [g2] | rw [g3]); rintro e w' ⟨rfl, hb⟩; have hB : Below w1.heap.size w1 w' := below_trans (by (repeat (first | (with_reducible assumption) | (with_reducible apply below_refl) | (with_reducible apply below_alloc1) | (with_reducible apply below_drewN1) | (with_reducible apply below_drew1)))) hb; have hC := (bcell hB).1; have hF := (bcell hB).2; clear hb)
    exact bodyPost_ret (v := .tuple #[.agg #[.int .i64 0, .int .i64 0], .bool false]) (by simp [results, Try.results28, go_sem, hC _ _ s0, c0, c1]) rfl ⟨rfl, below_setCell1 (below_setCell1 (below_trans hb1 (by (repeat (first | (with_reducible assumption) | (with_reducible apply below_refl) | (with_reducible apply below_alloc1) | (with_reducible apply below_drewN1) | (with_reducible apply below_drew1))))) (Nat.le_refl _)) (Nat.le_refl _)⟩
  cases g4 : inB risk 0 1000
  · rw [bestM_no (by rw [bestOk_spec]; simp [g4])]
    go_enter Try.func28, Try.ntmps28
    go_wp2_with fail
    obtain ⟨w1, hw1⟩ : ∃ w1 : World, w1 = (w.alloc (Obj.cells #[.int .i64 0, .int .i64 0] 25)) := ⟨_, rfl⟩
    have c0 : w1.cell? ⟨w.heap.size, 0, none⟩ = some (.int .i64 0) := by subst hw1; go_simp
    have c1 : w1.cell? ⟨w.heap.size, 1, none⟩ = some (.int .i64 0) := by subst hw1; go_simp
    have f0 : w1.frozen? ⟨w.heap.size, 0, none⟩ = false := by subst hw1; go_simp
    have f1 : w1.frozen? ⟨w.heap.size, 1, none⟩ = false := by subst hw1; go_simp
    rw [← hw1]
    have hb1 : Below w.heap.size w w1 := by subst hw1; exact below_alloc _ _
    have s0 : w.heap.size < w1.heap.size := by subst hw1; simp
    clear hw1
    go_wp2_with (go_at_call 40; refine (l00In_any _ _ _ _).mono ?_; (first | rw [g1] | rw [g2] | rw [g3] | rw [g4]); rintro e w' ⟨rfl, hb⟩; have hB : Below w1.heap.size w1 w' := below_trans (by (repeat (first | (with_reducible assumption) | (with_reducible apply below_refl) | (with_reducible apply below_alloc1) | (with_reducible apply below_drewN1) | (with_reducible apply below_drew1)))) hb; have hC := (bcell hB).1; have hF := (bcell hB).2; clear hb)
    exact bodyPost_ret (v := .tuple #[.agg #[.int .i64 0, .int .i64 0], .bool false]) (by simp [results, Try.results28, go_sem, hC _ _ s0, c0, c1]) rfl ⟨rfl, below_setCell1 (below_setCell1 (below_trans hb1 (by (repeat (first | (with_reducible assumption) | (with_reducible apply below_refl) | (with_reducible apply below_alloc1) | (with_reducible apply below_drewN1) | (with_reducible apply below_drew1))))) (Nat.le_refl _)) (Nat.le_refl _)⟩
  cases g5 : inB chance 0 1000
  · rw [bestM_no (by rw [bestOk_spec]; simp [g5])]
    go_enter Try.func28, Try.ntmps28
    go_wp2_with fail
    obtain ⟨w1, hw1⟩ : ∃ w1 : World, w1 = (w.alloc (Obj.cells #[.int .i64 0, .int .i64 0] 25)) := ⟨_, rfl⟩
    have c0 : w1.cell? ⟨w.heap.size, 0, none⟩ = some (.int .i64 0) := by subst hw1; go_simp
    have c1 : w1.cell? ⟨w.heap.size, 1, none⟩ = some (.int .i64 0) := by subst hw1; go_simp
    have f0 : w1.frozen? ⟨w.heap.size, 0, none⟩ = false := by subst hw1; go_simp
    have f1 : w1.frozen? ⟨w.heap.size, 1, none⟩ = false := by subst hw1; go_simp
    rw [← hw1]
    have hb1 : Below w.heap.size w w1 := by subst hw1; exact below_alloc _ _
    have s0 : w.heap.size < w1.heap.size := by subst hw1; simp
    clear hw1
    go_wp2_with (go_at_call 40; refine (l00In_any _ _ _ _).mono ?_; (first | rw [g1] | rw [g2] | rw [g3] | rw [g4] | rw [g5]); rintro e w' ⟨rfl, hb⟩; have hB : Below w1.heap.size w1 w' := below_trans (by (repeat (first | (with_reducible assumption) | (with_reducible apply below_refl) | (with_reducible apply below_alloc1) | (with_reducible apply below_drewN1) | (with_reducible apply below_drew1)))) hb; have hC := (bcell hB).1; have hF := (bcell hB).2; clear hb)
    exact bodyPost_ret (v := .tuple #[.agg #[.int .i64 0, .int .i64 0], .bool false]) (by simp [results, Try.results28, go_sem, hC _ _ s0, c0, c1]) rfl ⟨rfl, below_setCell1 (below_setCell1 (below_trans hb1 (by (repeat (first | (with_reducible assumption) | (with_reducible apply below_refl) | (with_reducible apply below_alloc1) | (with_reducible apply below_drewN1) | (with_reducible apply below_drew1))))) (Nat.le_refl _)) (Nat.le_refl _)⟩
  have hok : bestOk lot good bad risk chance = true := by rw [bestOk_spec]; simp [g1, g2, g3, g4, g5]
  clear g1' g2'
  obtain ⟨q1, q2, q3, q4, q5, q6, q7, q8, q9⟩ := bestOk_true hok
  have HOK := hid hok; clear hok
  go_enter Try.func28, Try.ntmps28
  go_wp2_with fail
  obtain ⟨w1, hw1⟩ : ∃ w1 : World, w1 = (w.alloc (Obj.cells #[.int .i64 0, .int .i64 0] 25)) := ⟨_, rfl⟩
  have c0 : w1.cell? ⟨w.heap.size, 0, none⟩ = some (.int .i64 0) := by subst hw1; go_simp
  have c1 : w1.cell? ⟨w.heap.size, 1, none⟩ = some (.int .i64 0) := by subst hw1; go_simp
  have f0 : w1.frozen? ⟨w.heap.size, 0, none⟩ = false := by subst hw1; go_simp
  have f1 : w1.frozen? ⟨w.heap.size, 1, none⟩ = false := by subst hw1; go_simp
  rw [← hw1]
  have hb1 : Below w.heap.size w w1 := by subst hw1; exact below_alloc _ _
  have s0 : w.heap.size < w1.heap.size := by subst hw1; simp
  clear hw1
  go_wp2_with (go_at_call 40; refine (l00In_any _ _ _ _).mono ?_; (first | rw [g1] | rw [g2] | rw [g3] | rw [g4] | rw [g5]); rintro e w' ⟨rfl, hb⟩; have hB : Below w1.heap.size w1 w' := below_trans (by (repeat (first | (with_reducible assumption) | (with_reducible apply below_refl) | (with_reducible apply below_alloc1) | (with_reducible apply below_drewN1) | (with_reducible apply below_drew1)))) hb; have hC := (bcell hB).1; have hF := (bcell hB).2; clear hb)
  go_loopw [12] (fun x wr => ∃ n : Int, x = .int .i64 n ∧ 1 ≤ n ∧ n ≤ lot + 1 ∧ Hid (bestLow lot good bad risk chance n 0) ∧ Below w1.heap.size w1 wr) (fun x _ => (lot + 1).toNat - (intOf x).toNat)
  case atStart => exact ⟨1, rfl, by omega, by omega, hid (bestLow_start _ _ _ _ _), by (repeat (first | (with_reducible assumption) | (with_reducible apply below_refl) | (with_reducible apply below_alloc1) | (with_reducible apply below_drewN1) | (with_reducible apply below_drew1)))⟩
  case round =>
    obtain ⟨n, rfl, n1, n2, hlow, hw⟩ := hrel
    have hC1 := (bcell hw).1
    have hF1 := (bcell hw).2
    by_cases hle : n ≤ lot
    · obtain ⟨C, e0⟩ : ∃ C, binI lot.toNat n = C := ⟨_, rfl⟩
      have eb := binI_le40 lot.toNat n (by omega)
      rw [e0] at eb
      have E0 := hid e0; clear e0
      go_wp2_with (first | (go_at_call 50; refine (l06Choose_i lot n ⟨by omega, by omega⟩ ⟨by omega, by omega⟩ _).mono ?_; rw [E0.out]; rintro e w' ⟨rfl, hb⟩; have hB : Below w1.heap.size w1 w' := below_trans (by (repeat (first | (with_reducible assumption) | (with_reducible apply below_refl) | (with_reducible apply below_alloc1) | (with_reducible apply below_drewN1) | (with_reducible apply below_drew1)))) hb; have hC := (bcell hB).1; have hF := (bcell hB).2; clear hb))
      have p1 : 0 ≤ (1000 - risk) * (C : Int) := Int.mul_nonneg (by omega) (by omega)
      have p2 : (1000 - risk) * (C : Int) ≤ 1000 * 1099511627776 := Int.mul_le_mul (by omega) (by omega) (by omega) (by omega)
      have p3 : 0 ≤ chance * (C : Int) := Int.mul_nonneg (by omega) (by omega)
      have p4 : chance * (C : Int) ≤ 1000 * 1099511627776 := Int.mul_le_mul (by omega) (by omega) (by omega) (by omega)
      go_loopw [14] (fun y wr2 => ∃ a : Int, y = .int .i64 a ∧ 0 ≤ a ∧ a ≤ n + 1 ∧ Hid (bestLow lot good bad risk chance n a) ∧ Below w1.heap.size w1 wr2) (fun y _ => (n + 1).toNat - (intOf y).toNat)
      case atStart => exact ⟨0, rfl, by omega, by omega, hlow, by (repeat (first | (with_reducible assumption) | (with_reducible apply below_refl) | (with_reducible apply below_alloc1) | (with_reducible apply below_drewN1) | (with_reducible apply below_drew1)))⟩
      case round =>
        obtain ⟨a, rfl, a1, a2, hl2, hw2⟩ := hrel
        have hC2 := (bcell hw2).1
        have hF2 := (bcell hw2).2
        by_cases hla : a ≤ n
        · have hla2 : a < n + 1 := by omega
          obtain ⟨A1, e1⟩ : ∃ A, accS good.toNat (lot - good).toNat n (a + 1).toNat = A := ⟨_, rfl⟩
          obtain ⟨A2, e2⟩ : ∃ A, accS bad.toNat (lot - bad).toNat n (a + 1).toNat = A := ⟨_, rfl⟩
          have b1 := accS_le40 good.toNat (lot - good).toNat n (a + 1).toNat (by omega)
          have b2 := accS_le40 bad.toNat (lot - bad).toNat n (a + 1).toNat (by omega)
          rw [e1] at b1
          rw [e2] at b2
          have eT : bestT lot good bad risk chance n a = (decide ((1000 - risk) * (C : Int) ≤ (A1 : Int) * 1000) && decide ((A2 : Int) * 1000 ≤ chance * (C : Int))) := by unfold bestT; rw [e1, e2, E0.out]
          have E1 := hid e1; have E2 := hid e2; clear e1 e2
          by_cases t1 : (1000 - risk) * (C : Int) ≤ (A1 : Int) * 1000
          · by_cases t2 : (A2 : Int) * 1000 ≤ chance * (C : Int)
            · have hT : bestT lot good bad risk chance n a = true := by rw [eT]; simp [t1, t2]
              have HM := hid (bestM_hit HOK.out (bestLow_hit hl2.out ⟨n1, hle, a1, hla⟩ hT))
              clear eT hT
              go_wp2_with (go_at_call 51; refine (l06Sets_any _ _ _ _ ⟨by omega, by omega, by omega⟩ ⟨by omega, by omega⟩ ⟨by omega, by omega⟩ _).mono ?_; (first | rw [E1.out] | rw [E2.out]); rintro e w' ⟨rfl, hb⟩; have hB : Below w1.heap.size w1 w' := below_trans (by (repeat (first | (with_reducible assumption) | (with_reducible apply below_refl) | (with_reducible apply below_alloc1) | (with_reducible apply below_drewN1) | (with_reducible apply below_drew1)))) hb; have hC := (bcell hB).1; have hF := (bcell hB).2; clear hb)
              exact bodyPost_ret (v := .tuple #[.agg #[.int .i64 n, .int .i64 a], .bool true]) (by simp [results, Try.results28, go_sem, hC _ _ s0, c0, c1]) rfl ⟨by rw [HM.out], below_setCell1 (below_setCell1 (below_trans hb1 (by (repeat (first | (with_reducible assumption) | (with_reducible apply below_refl) | (with_reducible apply below_alloc1) | (with_reducible apply below_drewN1) | (with_reducible apply below_drew1))))) (Nat.le_refl _)) (Nat.le_refl _)⟩
            · have hT : bestT lot good bad risk chance n a = false := by rw [eT]; simp [t1, t2]
              have HN := hid (bestLow_next hl2.out hT)
              clear eT hT
              go_wp2_with (go_at_call 51; refine (l06Sets_any _ _ _ _ ⟨by omega, by omega, by omega⟩ ⟨by omega, by omega⟩ ⟨by omega, by omega⟩ _).mono ?_; (first | rw [E1.out] | rw [E2.out]); rintro e w' ⟨rfl, hb⟩; have hB : Below w1.heap.size w1 w' := below_trans (by (repeat (first | (with_reducible assumption) | (with_reducible apply below_refl) | (with_reducible apply below_alloc1) | (with_reducible apply below_drewN1) | (with_reducible apply below_drew1)))) hb; have hC := (bcell hB).1; have hF := (bcell hB).2; clear hb)
              go_roundw
              case rel => exact ⟨a + 1, by go_num, by omega, by omega, HN, by (repeat (first | (with_reducible assumption) | (with_reducible apply below_refl) | (with_reducible apply below_alloc1) | (with_reducible apply below_drewN1) | (with_reducible apply below_drew1)))⟩
              case measure => simp [intOf]; omega
          · have hT : bestT lot good bad risk chance n a = false := by rw [eT]; simp [t1]
            have HN := hid (bestLow_next hl2.out hT)
            clear eT hT
            go_wp2_with (go_at_call 51; refine (l06Sets_any _ _ _ _ ⟨by omega, by omega, by omega⟩ ⟨by omega, by omega⟩ ⟨by omega, by omega⟩ _).mono ?_; (first | rw [E1.out] | rw [E2.out]); rintro e w' ⟨rfl, hb⟩; have hB : Below w1.heap.size w1 w' := below_trans (by (repeat (first | (with_reducible assumption) | (with_reducible apply below_refl) | (with_reducible apply below_alloc1) | (with_reducible apply below_drewN1) | (with_reducible apply below_drew1)))) hb; have hC := (bcell hB).1; have hF := (bcell hB).2; clear hb)
            go_roundw
            case rel => exact ⟨a + 1, by go_num, by omega, by omega, HN, by (repeat (first | (with_reducible assumption) | (with_reducible apply below_refl) | (with_reducible apply below_alloc1) | (with_reducible apply below_drewN1) | (with_reducible apply below_drew1)))⟩
            case measure => simp [intOf]; omega
        · have ha : a = n + 1 := by omega
          subst ha
          have hla2 : ¬ n + 1 < n + 1 := by omega
          have HR := hid (bestLow_row hl2.out)
          go_wp2_with fail
          go_roundw
          case rel => exact ⟨n + 1, by go_num, by omega, by omega, HR, by (repeat (first | (with_reducible assumption) | (with_reducible apply below_refl) | (with_reducible apply below_alloc1) | (with_reducible apply below_drewN1) | (with_reducible apply below_drew1)))⟩
          case measure => simp [intOf]; omega
    · have hn : n = lot + 1 := by omega
      subst hn
      have HM := hid (bestM_none HOK.out (bestLow_all hlow.out))
      go_wp2_with fail
      exact bodyPost_ret (v := .tuple #[.agg #[.int .i64 0, .int .i64 0], .bool false]) (by simp [results, Try.results28, go_sem, hC1 _ _ s0, c0, c1]) rfl ⟨by rw [HM.out], below_setCell1 (below_setCell1 (below_trans hb1 (by (repeat (first | (with_reducible assumption) | (with_reducible apply below_refl) | (with_reducible apply below_alloc1) | (with_reducible apply below_drewN1) | (with_reducible apply below_drew1))))) (Nat.le_refl _)) (Nat.le_refl _)⟩
end Go.Proofs.Ytdjpbgdhjkbcmaa
