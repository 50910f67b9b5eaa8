/- Contracts on plans: toPlan, ValidPlan, SamePlan .. -/
import Derived.Test.YtkonlchholfpoaaRows
import Derived.Test.YtkonlchholfpoaaLib
import Derived.Test.YtkonlchholfpoaaInt
namespace Go.Proofs.Ytkonlchholfpoaa
open Go.RowKit

def planV (a b : Int) : Value := .agg #[.int .i64 a, .int .i64 b]

set_option maxHeartbeats 400000 in
theorem toPlan_any (a b : Int) (w : World) :
    Calls Try.prog 15 #[.agg #[.int .i64 a, .int .i64 b]] w fun e w' => e = .returned (.agg #[.int .i64 a, .int .i64 b]) ∧ Below w.heap.size w w' := by
  go_enter Try.func15, Try.ntmps15
  go_wp2
  exact bodyPost_ret (v := .agg #[.int .i64 a, .int .i64 b]) (by simp [results, Try.results15, go_sem]) rfl ⟨rfl, below_trans (below_trans (below_alloc _ _) (below_alloc _ _)) (below_alloc _ _)⟩

/-- A plan is valid. -/
def vldP (a b : Int) : Bool := inB a 1 40 && inB b 0 a

set_option maxRecDepth 100000 in
set_option maxHeartbeats 400000 in
theorem l06Is_any (b o : Nat) (x y : Int) (w : World) (h1 : w.cell? ⟨b, o, none⟩ = some (.int .i64 x)) (h2 : w.cell? ⟨b, o + 1, none⟩ = some (.int .i64 y)) :
    Calls Try.prog 78 #[.pointer (some ⟨b, o, none⟩)] w fun e w' => e = .returned (.bool (vldP x y)) ∧ Below w.heap.size w w' := by
  have hlt : b < w.heap.size := World.block_lt_of_cell? w _ h1
  cases hx : inB x 1 40
  · have hv : vldP x y = false := by simp [vldP, hx]
    rw [hv]; have HV := hid hv; clear hv
    go_enter Try.func78, Try.ntmps78
    go_wp2_with (first | go_quiet ((go_at_call 59; exact Calls.quiet_of_same (l00In_val _ _ _ _ (by first | assumption | rfl) _))))
    go_ret
    exact ⟨rfl, below_drewN _ _⟩
  · have hv : vldP x y = inB y 0 x := by simp [vldP, hx]
    rw [hv]; have HV := hid hv; clear hv
    go_enter Try.func78, Try.ntmps78
    go_wp2_with (first | go_quiet ((go_at_call 59; exact Calls.quiet_of_same (l00In_val _ _ _ _ (by first | assumption | rfl) _))))
    go_ret
    exact ⟨rfl, below_drewN _ _⟩
set_option maxRecDepth 100000 in
set_option maxHeartbeats 400000 in
theorem implValidPlan_any (x y : Int) (w : World) :
    Calls Try.prog 79 #[.agg #[.int .i64 x, .int .i64 y]] w fun e w' => e = .returned (.bool (vldP x y)) ∧ Below w.heap.size w w' := by
  cases hx : inB x 1 40
  · have hv : vldP x y = false := by simp [vldP, hx]
    rw [hv]; have HV := hid hv; clear hv
    go_enter Try.func79, Try.ntmps79
    go_wp2_with (go_at_call 52; refine (within_any _ _ _ _).mono ?_; rintro e w' ⟨rfl, hb⟩; have hB : Below w.heap.size w w' := below_trans (by (repeat (first | (with_reducible assumption) | (with_reducible apply below_refl) | (with_reducible apply below_alloc1) | (with_reducible apply below_drewN1) | (with_reducible apply below_drew1)))) hb; have hC := (bcell hB).1; clear hb)
    go_ret
    exact ⟨rfl, by assumption⟩
  · have hv : vldP x y = inB y 0 x := by simp [vldP, hx]
    rw [hv]; have HV := hid hv; clear hv
    go_enter Try.func79, Try.ntmps79
    go_wp2_with fail
    obtain ⟨w1, hw1⟩ : ∃ w1 : World, w1 = (w.alloc (Obj.cells #[.int .i64 x, .int .i64 y] 27)) := ⟨_, rfl⟩
    have h0 : w1.cell? ⟨w.heap.size, 0, none⟩ = some (.int .i64 x) := by subst hw1; go_simp
    have h1 : w1.cell? ⟨w.heap.size, 1, none⟩ = some (.int .i64 y) := by subst hw1; go_simp
    rw [← hw1]
    have hb1 : Below w.heap.size w w1 := by subst hw1; exact below_alloc _ _
    have s0 : w.heap.size < w1.heap.size := by subst hw1; simp
    clear hw1
    go_wp2_with (go_at_call 52; refine (within_any _ _ _ _).mono ?_; rintro e w' ⟨rfl, hb⟩; have hB : Below w1.heap.size w1 w' := below_trans (by (repeat (first | (with_reducible assumption) | (with_reducible apply below_refl) | (with_reducible apply below_alloc1) | (with_reducible apply below_drewN1) | (with_reducible apply below_drew1)))) hb; have hC := (bcell hB).1; clear hb)
    go_ret
    exact ⟨rfl, below_trans hb1 (by assumption)⟩
/-- There are a lot and a plan for it. -/
def isLotB (lot a b : Int) : Bool := inB lot 1 40 && vldP a b && decide (a ≤ lot)
def lotB (lot bad a b : Int) : Bool := inB lot 1 40 && inB bad 0 lot && vldP a b && decide (a ≤ lot)
theorem lotB_eq (lot bad a b : Int) : lotB lot bad a b = (isLotB lot a b && inB bad 0 lot) := by
  unfold lotB isLotB
  cases inB lot 1 40 <;> cases inB bad 0 lot <;> cases vldP a b <;> cases decide (a ≤ lot) <;> rfl
theorem isLotB_true {lot a b : Int} (h : isLotB lot a b = true) : 1 ≤ lot ∧ lot ≤ 40 ∧ 1 ≤ a ∧ a ≤ lot ∧ 0 ≤ b ∧ b ≤ a := by
  simp only [isLotB, vldP, inB, Bool.and_eq_true, decide_eq_true_eq] at h
  omega

set_option maxRecDepth 100000 in
set_option maxHeartbeats 400000 in
theorem isLot_any (lot a b : Int) (w : World) :
    Calls Try.prog 47 #[.int .i64 lot, .agg #[.int .i64 a, .int .i64 b]] w fun e w' => e = .returned (.bool (isLotB lot a b)) ∧ Below w.heap.size w w' := by
  cases h1 : inB lot 1 40
  · have hv : isLotB lot a b = false := by simp [isLotB, h1]
    rw [hv]; have HV := hid hv; clear hv
    go_enter Try.func47, Try.ntmps47
    go_wp2_with fail
    obtain ⟨w1, hw1⟩ : ∃ w1 : World, w1 = (w.alloc (Obj.cells #[.int .i64 a, .int .i64 b] 27)) := ⟨_, rfl⟩
    have c0 : w1.cell? ⟨w.heap.size, 0, none⟩ = some (.int .i64 a) := by subst hw1; go_simp
    have c1 : w1.cell? ⟨w.heap.size, 1, none⟩ = some (.int .i64 b) := by subst hw1; go_simp
    rw [← hw1]
    have hb1 : Below w.heap.size w w1 := by subst hw1; exact below_alloc _ _
    have s0 : w.heap.size < w1.heap.size := by subst hw1; simp
    clear hw1
    go_wp2_with (go_at_call 52; refine (within_any _ _ _ _).mono ?_; rintro e w' ⟨rfl, hb⟩; have hB : Below w1.heap.size w1 w' := below_trans (by (repeat (first | (with_reducible assumption) | (with_reducible apply below_refl) | (with_reducible apply below_alloc1) | (with_reducible apply below_drewN1) | (with_reducible apply below_drew1)))) hb; have hC := (bcell hB).1; clear hb)
    go_ret
    exact ⟨rfl, below_trans hb1 (by assumption)⟩
  · cases h2 : vldP a b
    · have hv : isLotB lot a b = false := by simp [isLotB, h2]
      rw [hv]; have HV := hid hv; clear hv
      go_enter Try.func47, Try.ntmps47
      go_wp2_with fail
      obtain ⟨w1, hw1⟩ : ∃ w1 : World, w1 = (w.alloc (Obj.cells #[.int .i64 a, .int .i64 b] 27)) := ⟨_, rfl⟩
      have c0 : w1.cell? ⟨w.heap.size, 0, none⟩ = some (.int .i64 a) := by subst hw1; go_simp
      have c1 : w1.cell? ⟨w.heap.size, 1, none⟩ = some (.int .i64 b) := by subst hw1; go_simp
      rw [← hw1]
      have hb1 : Below w.heap.size w w1 := by subst hw1; exact below_alloc _ _
      have s0 : w.heap.size < w1.heap.size := by subst hw1; simp
      clear hw1
      go_wp2_with (first | (go_at_call 52; refine (within_any _ _ _ _).mono ?_; rintro e w' ⟨rfl, hb⟩; have hB : Below w1.heap.size w1 w' := below_trans (by (repeat (first | (with_reducible assumption) | (with_reducible apply below_refl) | (with_reducible apply below_alloc1) | (with_reducible apply below_drewN1) | (with_reducible apply below_drew1)))) hb; have hC := (bcell hB).1; clear hb) | (go_at_call 79; refine (implValidPlan_any _ _ _).mono ?_; rintro e w' ⟨rfl, hb⟩; have hB : Below w1.heap.size w1 w' := below_trans (by (repeat (first | (with_reducible assumption) | (with_reducible apply below_refl) | (with_reducible apply below_alloc1) | (with_reducible apply below_drewN1) | (with_reducible apply below_drew1)))) hb; have hC := (bcell hB).1; clear hb))
      go_ret
      exact ⟨rfl, below_trans hb1 (by assumption)⟩
    · have hv : isLotB lot a b = decide (a ≤ lot) := by simp [isLotB, h1, h2]
      rw [hv]; have HV := hid hv; clear hv
      go_enter Try.func47, Try.ntmps47
      go_wp2_with fail
      obtain ⟨w1, hw1⟩ : ∃ w1 : World, w1 = (w.alloc (Obj.cells #[.int .i64 a, .int .i64 b] 27)) := ⟨_, rfl⟩
      have c0 : w1.cell? ⟨w.heap.size, 0, none⟩ = some (.int .i64 a) := by subst hw1; go_simp
      have c1 : w1.cell? ⟨w.heap.size, 1, none⟩ = some (.int .i64 b) := by subst hw1; go_simp
      rw [← hw1]
      have hb1 : Below w.heap.size w w1 := by subst hw1; exact below_alloc _ _
      have s0 : w.heap.size < w1.heap.size := by subst hw1; simp
      clear hw1
      go_wp2_with (first | (go_at_call 52; refine (within_any _ _ _ _).mono ?_; rintro e w' ⟨rfl, hb⟩; have hB : Below w1.heap.size w1 w' := below_trans (by (repeat (first | (with_reducible assumption) | (with_reducible apply below_refl) | (with_reducible apply below_alloc1) | (with_reducible apply below_drewN1) | (with_reducible apply below_drew1)))) hb; have hC := (bcell hB).1; clear hb) | (go_at_call 79; refine (implValidPlan_any _ _ _).mono ?_; rintro e w' ⟨rfl, hb⟩; have hB : Below w1.heap.size w1 w' := below_trans (by (repeat (first | (with_reducible assumption) | (with_reducible apply below_refl) | (with_reducible apply below_alloc1) | (with_reducible apply below_drewN1) | (with_reducible apply below_drew1)))) hb; have hC := (bcell hB).1; clear hb))
      go_ret
      exact ⟨rfl, below_trans hb1 (by assumption)⟩
set_option maxRecDepth 100000 in
set_option maxHeartbeats 800000 in
theorem l06Lot_any (p o : Nat) (lot bad a b : Int) (w : World) (e1 : w.cell? ⟨p, o, none⟩ = some (.int .i64 a)) (e2 : w.cell? ⟨p, o + 1, none⟩ = some (.int .i64 b)) :
    Calls Try.prog 44 #[.int .i64 lot, .int .i64 bad, .pointer (some ⟨p, o, none⟩)] w fun e w' => e = .returned (.bool (lotB lot bad a b)) ∧ Below w.heap.size w w' := by
  have hlt : p < w.heap.size := World.block_lt_of_cell? w _ e1
  cases h1 : inB lot 1 40
  · have hv : lotB lot bad a b = false := by simp [lotB, h1]
    rw [hv]; have HV := hid hv; clear hv
    go_enter Try.func44, Try.ntmps44
    go_wp2_with (go_at_call 59; refine (l00In_any _ _ _ _).mono ?_; rintro e w' ⟨rfl, hb⟩; have hB : Below w.heap.size w w' := below_trans (by (repeat (first | (with_reducible assumption) | (with_reducible apply below_refl) | (with_reducible apply below_alloc1) | (with_reducible apply below_drewN1) | (with_reducible apply below_drew1)))) hb; have hC := (bcell hB).1; clear hb)
    go_ret
    exact ⟨rfl, by assumption⟩
  · cases h2 : inB bad 0 lot
    · have hv : lotB lot bad a b = false := by simp [lotB, h2]
      rw [hv]; have HV := hid hv; clear hv
      go_enter Try.func44, Try.ntmps44
      go_wp2_with (go_at_call 59; refine (l00In_any _ _ _ _).mono ?_; rintro e w' ⟨rfl, hb⟩; have hB : Below w.heap.size w w' := below_trans (by (repeat (first | (with_reducible assumption) | (with_reducible apply below_refl) | (with_reducible apply below_alloc1) | (with_reducible apply below_drewN1) | (with_reducible apply below_drew1)))) hb; have hC := (bcell hB).1; clear hb)
      go_ret
      exact ⟨rfl, by assumption⟩
    · cases h3 : vldP a b
      · have hv : lotB lot bad a b = false := by simp [lotB, h3]
        rw [hv]; have HV := hid hv; clear hv
        go_enter Try.func44, Try.ntmps44
        go_wp2_with (first | (go_at_call 59; refine (l00In_any _ _ _ _).mono ?_; rintro e w' ⟨rfl, hb⟩; have hB : Below w.heap.size w w' := below_trans (by (repeat (first | (with_reducible assumption) | (with_reducible apply below_refl) | (with_reducible apply below_alloc1) | (with_reducible apply below_drewN1) | (with_reducible apply below_drew1)))) hb; have hC := (bcell hB).1; clear hb) | (go_at_call 78; refine (l06Is_any _ _ a b _ (by go_simp) (by go_simp)).mono ?_; rintro e w' ⟨rfl, hb⟩; have hB : Below w.heap.size w w' := below_trans (by (repeat (first | (with_reducible assumption) | (with_reducible apply below_refl) | (with_reducible apply below_alloc1) | (with_reducible apply below_drewN1) | (with_reducible apply below_drew1)))) hb; have hC := (bcell hB).1; clear hb))
        go_ret
        exact ⟨rfl, by assumption⟩
      · have hv : lotB lot bad a b = decide (a ≤ lot) := by simp [lotB, h1, h2, h3]
        rw [hv]; have HV := hid hv; clear hv
        go_enter Try.func44, Try.ntmps44
        go_wp2_with (first | (go_at_call 59; refine (l00In_any _ _ _ _).mono ?_; rintro e w' ⟨rfl, hb⟩; have hB : Below w.heap.size w w' := below_trans (by (repeat (first | (with_reducible assumption) | (with_reducible apply below_refl) | (with_reducible apply below_alloc1) | (with_reducible apply below_drewN1) | (with_reducible apply below_drew1)))) hb; have hC := (bcell hB).1; clear hb) | (go_at_call 78; refine (l06Is_any _ _ a b _ (by go_simp) (by go_simp)).mono ?_; rintro e w' ⟨rfl, hb⟩; have hB : Below w.heap.size w w' := below_trans (by (repeat (first | (with_reducible assumption) | (with_reducible apply below_refl) | (with_reducible apply below_alloc1) | (with_reducible apply below_drewN1) | (with_reducible apply below_drew1)))) hb; have hC := (bcell hB).1; clear hb))
        go_ret
        exact ⟨rfl, by assumption⟩
theorem l06Lot_zero (p o : Nat) (lot a b : Int) (w : World) (e1 : w.cell? ⟨p, o, none⟩ = some (.int .i64 a)) (e2 : w.cell? ⟨p, o + 1, none⟩ = some (.int .i64 b)) :
    Calls Try.prog 44 #[.int .i64 lot, .int .i64 0, .pointer (some ⟨p, o, none⟩)] w fun e w' => e = .returned (.bool (isLotB lot a b)) ∧ Below w.heap.size w w' := by
  have h : lotB lot 0 a b = isLotB lot a b := by
    rw [lotB_eq]
    cases h : isLotB lot a b
    · rfl
    · rw [inB_mk (by omega) (by have := isLotB_true h; omega)]; rfl
  rw [← h]
  exact l06Lot_any p o lot 0 a b w e1 e2
end Go.Proofs.Ytkonlchholfpoaa