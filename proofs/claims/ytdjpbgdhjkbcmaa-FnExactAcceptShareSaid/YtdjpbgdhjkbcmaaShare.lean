/- Contracts: AcceptShare. -/
import Derived.Test.YtdjpbgdhjkbcmaaPlan
namespace Go.Proofs.Ytdjpbgdhjkbcmaa
open Go.RowKit

def shareNum (lot bad a b : Int) : Nat := accS bad.toNat (lot - bad).toNat a (b + 1).toNat
def shareDen (lot a : Int) : Nat := binI lot.toNat a
def shareM (lot bad a b : Int) : Value := if lotB lot bad a b then .tuple #[.int .i64 (shareNum lot bad a b / Nat.gcd (shareNum lot bad a b) (shareDen lot a) : Nat), .int .i64 (shareDen lot a / Nat.gcd (shareNum lot bad a b) (shareDen lot a) : Nat), .bool true] else .tuple #[.int .i64 0, .int .i64 0, .bool false]
theorem shareM_no {lot bad a b : Int} (h : lotB lot bad a b = false) : shareM lot bad a b = .tuple #[.int .i64 0, .int .i64 0, .bool false] := by simp only [shareM, h]; rfl
theorem shareM_yes {lot bad a b : Int} (h : lotB lot bad a b = true) : shareM lot bad a b = .tuple #[.int .i64 (shareNum lot bad a b / Nat.gcd (shareNum lot bad a b) (shareDen lot a) : Nat), .int .i64 (shareDen lot a / Nat.gcd (shareNum lot bad a b) (shareDen lot a) : Nat), .bool true] := by simp only [shareM, h]; rfl
theorem shareM_form (lot bad a b : Int) : ∃ x y z, shareM lot bad a b = .tuple #[.int .i64 x, .int .i64 y, .bool z] := by
  cases h : lotB lot bad a b
  · exact ⟨_, _, _, shareM_no h⟩
  · exact ⟨_, _, _, shareM_yes h⟩

theorem share_bd {lot bad a b : Int} (h : lotB lot bad a b = true) : shareNum lot bad a b ≤ 9223372036854775807 ∧ shareDen lot a ≤ 9223372036854775807 ∧ 0 < shareDen lot a := by
  rw [lotB_eq] at h
  simp only [Bool.and_eq_true] at h
  obtain ⟨q1, q2, q3, q4, q5, q6⟩ := isLotB_true h.1
  obtain ⟨q7, q8⟩ := inB_true h.2
  have h1 := accS_le40 bad.toNat (lot - bad).toNat a (b + 1).toNat (by omega)
  have h2 := binI_le40 lot.toNat a (by omega)
  refine ⟨by unfold shareNum; omega, by unfold shareDen; omega, ?_⟩
  unfold shareDen
  obtain ⟨a, rfl⟩ := Int.eq_ofNat_of_zero_le (show 0 ≤ a by omega)
  rw [binI_nat]
  exact bin_pos _ _ (by omega)

set_option maxRecDepth 100000 in
set_option maxHeartbeats 800000 in
theorem implShare_any (lot bad a b : Int) (w : World) :
    Calls Try.prog 32 #[.int .i64 lot, .int .i64 bad, .agg #[.int .i64 a, .int .i64 b]] w fun e w' => e = .returned (shareM lot bad a b) ∧ Below w.heap.size w w' := by
  cases h1 : isLotB lot a b
  · rw [shareM_no (by rw [lotB_eq, h1]; rfl)]
    go_enter Try.func32, Try.ntmps32
    go_wp2_with fail
    obtain ⟨w1, hw1⟩ : ∃ w1 : World, w1 = (w.alloc (Obj.cells #[.int .i64 a, .int .i64 b] 25)) := ⟨_, rfl⟩
    have c0 : w1.cell? ⟨w.heap.size, 0, none⟩ = some (.int .i64 a) := by subst hw1; go_simp
    have c1 : w1.cell? ⟨w.heap.size, 1, none⟩ = some (.int .i64 b) := by subst hw1; go_simp
    rw [← hw1]
    have hb1 : Below w.heap.size w w1 := by subst hw1; exact below_alloc _ _
    have s0 : w.heap.size < w1.heap.size := by subst hw1; simp
    clear hw1
    go_wp2_with (first | (go_at_call 57; refine (isLot_any _ _ _ _).mono ?_; rintro e w' ⟨rfl, hb⟩; have hB : Below w1.heap.size w1 w' := below_trans (by (repeat (first | (with_reducible assumption) | (with_reducible apply below_refl) | (with_reducible apply below_alloc1) | (with_reducible apply below_drewN1) | (with_reducible apply below_drew1)))) hb; have hC := (bcell hB).1; clear hb) | (go_at_call 39; refine (within_any _ _ _ _).mono ?_; rintro e w' ⟨rfl, hb⟩; have hB : Below w1.heap.size w1 w' := below_trans (by (repeat (first | (with_reducible assumption) | (with_reducible apply below_refl) | (with_reducible apply below_alloc1) | (with_reducible apply below_drewN1) | (with_reducible apply below_drew1)))) hb; have hC := (bcell hB).1; clear hb))
    go_ret3
    exact ⟨rfl, below_trans hb1 (by assumption)⟩
  · cases h2 : inB bad 0 lot
    · rw [shareM_no (by rw [lotB_eq, h1, h2]; rfl)]
      go_enter Try.func32, Try.ntmps32
      go_wp2_with fail
      obtain ⟨w1, hw1⟩ : ∃ w1 : World, w1 = (w.alloc (Obj.cells #[.int .i64 a, .int .i64 b] 25)) := ⟨_, rfl⟩
      have c0 : w1.cell? ⟨w.heap.size, 0, none⟩ = some (.int .i64 a) := by subst hw1; go_simp
      have c1 : w1.cell? ⟨w.heap.size, 1, none⟩ = some (.int .i64 b) := by subst hw1; go_simp
      rw [← hw1]
      have hb1 : Below w.heap.size w w1 := by subst hw1; exact below_alloc _ _
      have s0 : w.heap.size < w1.heap.size := by subst hw1; simp
      clear hw1
      go_wp2_with (first | (go_at_call 57; refine (isLot_any _ _ _ _).mono ?_; rintro e w' ⟨rfl, hb⟩; have hB : Below w1.heap.size w1 w' := below_trans (by (repeat (first | (with_reducible assumption) | (with_reducible apply below_refl) | (with_reducible apply below_alloc1) | (with_reducible apply below_drewN1) | (with_reducible apply below_drew1)))) hb; have hC := (bcell hB).1; clear hb) | (go_at_call 39; refine (within_any _ _ _ _).mono ?_; rintro e w' ⟨rfl, hb⟩; have hB : Below w1.heap.size w1 w' := below_trans (by (repeat (first | (with_reducible assumption) | (with_reducible apply below_refl) | (with_reducible apply below_alloc1) | (with_reducible apply below_drewN1) | (with_reducible apply below_drew1)))) hb; have hC := (bcell hB).1; clear hb))
      go_ret3
      exact ⟨rfl, below_trans hb1 (by assumption)⟩
    · have hl : lotB lot bad a b = true := by rw [lotB_eq, h1, h2]; rfl
      rw [shareM_yes hl]
      obtain ⟨d1, d2, d3⟩ := share_bd hl
      obtain ⟨q1, q2, q3, q4, q5, q6⟩ := isLotB_true h1
      obtain ⟨q7, q8⟩ := inB_true h2
      have HL := hid hl; clear hl
      go_enter Try.func32, Try.ntmps32
      go_wp2_with fail
      obtain ⟨w1, hw1⟩ : ∃ w1 : World, w1 = (w.alloc (Obj.cells #[.int .i64 a, .int .i64 b] 25)) := ⟨_, rfl⟩
      have c0 : w1.cell? ⟨w.heap.size, 0, none⟩ = some (.int .i64 a) := by subst hw1; go_simp
      have c1 : w1.cell? ⟨w.heap.size, 1, none⟩ = some (.int .i64 b) := by subst hw1; go_simp
      rw [← hw1]
      have hb1 : Below w.heap.size w w1 := by subst hw1; exact below_alloc _ _
      have s0 : w.heap.size < w1.heap.size := by subst hw1; simp
      clear hw1
      go_wp2_with (first
        | (go_at_call 57; refine (isLot_any _ _ _ _).mono ?_; rintro e w' ⟨rfl, hb⟩; have hB : Below w1.heap.size w1 w' := below_trans (by (repeat (first | (with_reducible assumption) | (with_reducible apply below_refl) | (with_reducible apply below_alloc1) | (with_reducible apply below_drewN1) | (with_reducible apply below_drew1)))) hb; have hC := (bcell hB).1; clear hb)
        | (go_at_call 39; refine (within_any _ _ _ _).mono ?_; rintro e w' ⟨rfl, hb⟩; have hB : Below w1.heap.size w1 w' := below_trans (by (repeat (first | (with_reducible assumption) | (with_reducible apply below_refl) | (with_reducible apply below_alloc1) | (with_reducible apply below_drewN1) | (with_reducible apply below_drew1)))) hb; have hC := (bcell hB).1; clear hb)
        | (go_region_held3 (fun w' => Below w1.heap.size w1 w' ∧ ∀ b o, b < w1.heap.size → w'.cell? ⟨b, o, none⟩ = w1.cell? ⟨b, o, none⟩) (first | exact keep_next ‹_› ‹_› | exact keep_start | exact keep_drew ‹_› | exact keep_of (by (repeat (first | (with_reducible assumption) | (with_reducible apply below_refl) | (with_reducible apply below_alloc1) | (with_reducible apply below_drewN1) | (with_reducible apply below_drew1))))) (first
            | (go_at_call 54; refine (accepts_any lot bad a b ⟨by omega, by omega, by omega⟩ ⟨by omega, by omega⟩ ⟨by omega, by omega⟩ _).mono ?_; rintro e w' ⟨rfl, hb⟩)
            | (go_at_call 53; refine (choose_i lot a ⟨by omega, by omega⟩ ⟨by omega, by omega⟩ _).mono ?_; rintro e w' ⟨rfl, hb⟩)
            | (go_at_call 58; refine (reduced_any (shareNum lot bad a b) (shareDen lot a) d1 d2 d3 _).mono ?_; rintro e w' ⟨rfl, hb⟩))))
      rename_i hHeld
      go_ret3
      exact ⟨rfl, below_trans hb1 hHeld.1⟩
set_option maxRecDepth 100000 in
set_option maxHeartbeats 800000 in
theorem specShare_any (lot bad a b : Int) (w : World) :
    Calls Try.prog 31 #[.int .i64 lot, .int .i64 bad, .agg #[.int .i64 a, .int .i64 b]] w fun e w' => e = .returned (shareM lot bad a b) ∧ Below w.heap.size w w' := by
  cases hl : lotB lot bad a b
  · rw [shareM_no hl]
    go_enter Try.func31, Try.ntmps31
    go_wp2_with fail
    obtain ⟨w1, hw1⟩ : ∃ w1 : World, w1 = (w.alloc (Obj.cells #[.int .i64 a, .int .i64 b] 25)) := ⟨_, rfl⟩
    have c0 : w1.cell? ⟨w.heap.size, 0, none⟩ = some (.int .i64 a) := by subst hw1; go_simp
    have c1 : w1.cell? ⟨w.heap.size, 1, none⟩ = some (.int .i64 b) := by subst hw1; go_simp
    rw [← hw1]
    have hb1 : Below w.heap.size w w1 := by subst hw1; exact below_alloc _ _
    have s0 : w.heap.size < w1.heap.size := by subst hw1; simp
    clear hw1
    go_wp2_with (go_at_call 55; refine (l06Lot_any _ _ lot bad a b _ (by go_simp) (by go_simp)).mono ?_; rintro e w' ⟨rfl, hb⟩; have hB : Below w1.heap.size w1 w' := below_trans (by (repeat (first | (with_reducible assumption) | (with_reducible apply below_refl) | (with_reducible apply below_alloc1) | (with_reducible apply below_drewN1) | (with_reducible apply below_drew1)))) hb; have hC := (bcell hB).1; clear hb)
    go_ret3
    exact ⟨rfl, below_trans hb1 (by assumption)⟩
  · rw [shareM_yes hl]
    obtain ⟨d1, d2, d3⟩ := share_bd hl
    have hl' := hl
    rw [lotB_eq] at hl'
    simp only [Bool.and_eq_true] at hl'
    obtain ⟨q1, q2, q3, q4, q5, q6⟩ := isLotB_true hl'.1
    obtain ⟨q7, q8⟩ := inB_true hl'.2
    clear hl'
    go_enter Try.func31, Try.ntmps31
    go_wp2_with fail
    obtain ⟨w1, hw1⟩ : ∃ w1 : World, w1 = (w.alloc (Obj.cells #[.int .i64 a, .int .i64 b] 25)) := ⟨_, rfl⟩
    have c0 : w1.cell? ⟨w.heap.size, 0, none⟩ = some (.int .i64 a) := by subst hw1; go_simp
    have c1 : w1.cell? ⟨w.heap.size, 1, none⟩ = some (.int .i64 b) := by subst hw1; go_simp
    rw [← hw1]
    have hb1 : Below w.heap.size w w1 := by subst hw1; exact below_alloc _ _
    have s0 : w.heap.size < w1.heap.size := by subst hw1; simp
    clear hw1
    go_wp2_with (first
      | (go_at_call 55; refine (l06Lot_any _ _ lot bad a b _ (by go_simp) (by go_simp)).mono ?_; rintro e w' ⟨rfl, hb⟩; have hB : Below w1.heap.size w1 w' := below_trans (by (repeat (first | (with_reducible assumption) | (with_reducible apply below_refl) | (with_reducible apply below_alloc1) | (with_reducible apply below_drewN1) | (with_reducible apply below_drew1)))) hb; have hC := (bcell hB).1; clear hb)
      | (go_region_held3 (fun w' => Below w1.heap.size w1 w' ∧ ∀ b o, b < w1.heap.size → w'.cell? ⟨b, o, none⟩ = w1.cell? ⟨b, o, none⟩) (first | exact keep_next ‹_› ‹_› | exact keep_start | exact keep_drew ‹_› | exact keep_of (by (repeat (first | (with_reducible assumption) | (with_reducible apply below_refl) | (with_reducible apply below_alloc1) | (with_reducible apply below_drewN1) | (with_reducible apply below_drew1))))) (first
          | (go_at_call 51; refine (l06Sets_any lot bad a b ⟨by omega, by omega, by omega⟩ ⟨by omega, by omega⟩ ⟨by omega, by omega⟩ _).mono ?_; rintro e w' ⟨rfl, hb⟩)
          | (go_at_call 50; refine (l06Choose_i lot a ⟨by omega, by omega⟩ ⟨by omega, by omega⟩ _).mono ?_; rintro e w' ⟨rfl, hb⟩)
          | (go_at_call 56; refine (l06Least_any (shareNum lot bad a b) (shareDen lot a) d1 d2 d3 _).mono ?_; rintro e w' ⟨rfl, hb⟩))))
    rename_i hHeld
    go_ret3
    exact ⟨rfl, below_trans hb1 hHeld.1⟩
end Go.Proofs.Ytdjpbgdhjkbcmaa
