/- FnGrowth: a table of logarithms. No program in sight. -/
import Derived.Test.YtkaeohlakeliiaaRise
import Derived.Test.YtkaeohlakeliiaaLog3
namespace Go.Proofs.Ytkaeohlakeliiaa
open Go.RowKit

def ratX (Q q : Nat) : Option Nat := fop .quo .f32 (some (fq Q)) (some (fq q))
def lgT (Q q : Nat) : Option Nat := lg32 (ratX Q q)
/-- A finite number between two bounds, a/50 and b. -/
def btwB (x : Option Nat) (a b : Nat) : Bool := match x with
  | none => false
  | some c => decide (c % FloatKind.f32.format.signWeight < FloatKind.f32.format.infRung) && decide ((a : Int) * (unit .f32 : Int) ≤ fv FloatKind.f32.format c * 50) && decide (fv FloatKind.f32.format c ≤ (b : Int) * (unit .f32 : Int))
theorem btw_of {x : Option Nat} {a b : Nat} (h : btwB x a b = true) : ∃ r, RV .f32 x r ∧ (a : Rat) / 50 ≤ r ∧ r ≤ (b : Rat) := by
  cases x with
  | none => cases h
  | some c =>
    simp only [btwB, Bool.and_eq_true, decide_eq_true_eq] at h
    obtain ⟨⟨h1, h2⟩, h3⟩ := h
    have hu := unit_pos .f32
    refine ⟨_, RV.of (v := fv FloatKind.f32.format c) ⟨c, rfl, h1, rfl⟩, ?_, ?_⟩
    · have := Rat.intCast_le_intCast.2 h2
      rw [Rat.intCast_mul, Rat.intCast_mul, Rat.intCast_natCast, Rat.intCast_natCast] at this
      have e : ((50 : Int) : Rat) = 50 := rfl
      rw [e] at this
      refine Rat.le_of_mul_le_mul_right (c := (unit .f32 : Nat)) ?_ hu
      rw [Rat.div_mul_cancel (by grind)]
      grind
    · have := Rat.intCast_le_intCast.2 h3
      rw [Rat.intCast_mul, Rat.intCast_natCast, Rat.intCast_natCast] at this
      refine Rat.le_of_mul_le_mul_right (c := (unit .f32 : Nat)) ?_ hu
      rw [Rat.div_mul_cancel (by grind)]
      exact this
set_option maxHeartbeats 4000000 in
theorem lg_t2 : ∀ q, q < 2 → 0 < q → btwB (lgT 2 q) 1 4 = true := by decide +kernel
set_option maxHeartbeats 4000000 in
theorem lg_t3 : ∀ q, q < 3 → 0 < q → btwB (lgT 3 q) 1 4 = true := by decide +kernel
set_option maxHeartbeats 4000000 in
theorem lg_t4 : ∀ q, q < 4 → 0 < q → btwB (lgT 4 q) 1 4 = true := by decide +kernel
set_option maxHeartbeats 4000000 in
theorem lg_t5 : ∀ q, q < 5 → 0 < q → btwB (lgT 5 q) 1 4 = true := by decide +kernel
set_option maxHeartbeats 4000000 in
theorem lg_t6 : ∀ q, q < 6 → 0 < q → btwB (lgT 6 q) 1 4 = true := by decide +kernel
set_option maxHeartbeats 4000000 in
theorem lg_t7 : ∀ q, q < 7 → 0 < q → btwB (lgT 7 q) 1 4 = true := by decide +kernel
set_option maxHeartbeats 4000000 in
theorem lg_t8 : ∀ q, q < 8 → 0 < q → btwB (lgT 8 q) 1 4 = true := by decide +kernel
set_option maxHeartbeats 4000000 in
theorem lg_t9 : ∀ q, q < 9 → 0 < q → btwB (lgT 9 q) 1 4 = true := by decide +kernel
set_option maxHeartbeats 4000000 in
theorem lg_t10 : ∀ q, q < 10 → 0 < q → btwB (lgT 10 q) 1 4 = true := by decide +kernel
set_option maxHeartbeats 4000000 in
theorem lg_t11 : ∀ q, q < 11 → 0 < q → btwB (lgT 11 q) 1 4 = true := by decide +kernel
set_option maxHeartbeats 4000000 in
theorem lg_t12 : ∀ q, q < 12 → 0 < q → btwB (lgT 12 q) 1 4 = true := by decide +kernel
set_option maxHeartbeats 4000000 in
theorem lg_t13 : ∀ q, q < 13 → 0 < q → btwB (lgT 13 q) 1 4 = true := by decide +kernel
set_option maxHeartbeats 4000000 in
theorem lg_t14 : ∀ q, q < 14 → 0 < q → btwB (lgT 14 q) 1 4 = true := by decide +kernel
set_option maxHeartbeats 4000000 in
theorem lg_t15 : ∀ q, q < 15 → 0 < q → btwB (lgT 15 q) 1 4 = true := by decide +kernel
set_option maxHeartbeats 4000000 in
theorem lg_t16 : ∀ q, q < 16 → 0 < q → btwB (lgT 16 q) 1 4 = true := by decide +kernel
set_option maxHeartbeats 4000000 in
theorem lg_t17 : ∀ q, q < 17 → 0 < q → btwB (lgT 17 q) 1 4 = true := by decide +kernel
set_option maxHeartbeats 4000000 in
theorem lg_t18 : ∀ q, q < 18 → 0 < q → btwB (lgT 18 q) 1 4 = true := by decide +kernel
set_option maxHeartbeats 4000000 in
theorem lg_t19 : ∀ q, q < 19 → 0 < q → btwB (lgT 19 q) 1 4 = true := by decide +kernel
set_option maxHeartbeats 4000000 in
theorem lg_t20 : ∀ q, q < 20 → 0 < q → btwB (lgT 20 q) 1 4 = true := by decide +kernel
set_option maxHeartbeats 4000000 in
theorem lg_t21 : ∀ q, q < 21 → 0 < q → btwB (lgT 21 q) 1 4 = true := by decide +kernel
set_option maxHeartbeats 4000000 in
theorem lg_t22 : ∀ q, q < 22 → 0 < q → btwB (lgT 22 q) 1 4 = true := by decide +kernel
set_option maxHeartbeats 4000000 in
theorem lg_t23 : ∀ q, q < 23 → 0 < q → btwB (lgT 23 q) 1 4 = true := by decide +kernel
set_option maxHeartbeats 4000000 in
theorem lg_t24 : ∀ q, q < 24 → 0 < q → btwB (lgT 24 q) 1 4 = true := by decide +kernel
set_option maxHeartbeats 4000000 in
theorem lg_t25 : ∀ q, q < 25 → 0 < q → btwB (lgT 25 q) 1 4 = true := by decide +kernel
set_option maxHeartbeats 4000000 in
theorem lg_t26 : ∀ q, q < 26 → 0 < q → btwB (lgT 26 q) 1 4 = true := by decide +kernel
set_option maxHeartbeats 4000000 in
theorem lg_t27 : ∀ q, q < 27 → 0 < q → btwB (lgT 27 q) 1 4 = true := by decide +kernel
set_option maxHeartbeats 4000000 in
theorem lg_t28 : ∀ q, q < 28 → 0 < q → btwB (lgT 28 q) 1 4 = true := by decide +kernel
set_option maxHeartbeats 4000000 in
theorem lg_t29 : ∀ q, q < 29 → 0 < q → btwB (lgT 29 q) 1 4 = true := by decide +kernel
set_option maxHeartbeats 4000000 in
theorem lg_t30 : ∀ q, q < 30 → 0 < q → btwB (lgT 30 q) 1 4 = true := by decide +kernel
set_option maxHeartbeats 4000000 in
theorem lg_t31 : ∀ q, q < 31 → 0 < q → btwB (lgT 31 q) 1 4 = true := by decide +kernel
set_option maxHeartbeats 4000000 in
theorem lg_t32 : ∀ q, q < 32 → 0 < q → btwB (lgT 32 q) 1 4 = true := by decide +kernel
set_option maxHeartbeats 4000000 in
theorem lg_t33 : ∀ q, q < 33 → 0 < q → btwB (lgT 33 q) 1 4 = true := by decide +kernel
set_option maxHeartbeats 4000000 in
theorem lg_t34 : ∀ q, q < 34 → 0 < q → btwB (lgT 34 q) 1 4 = true := by decide +kernel
set_option maxHeartbeats 4000000 in
theorem lg_t35 : ∀ q, q < 35 → 0 < q → btwB (lgT 35 q) 1 4 = true := by decide +kernel
set_option maxHeartbeats 4000000 in
theorem lg_t36 : ∀ q, q < 36 → 0 < q → btwB (lgT 36 q) 1 4 = true := by decide +kernel
theorem lg_table (Q : Nat) (hQ : Q < 37) (q : Nat) (h : q < Q) (h0 : 0 < q) : btwB (lgT Q q) 1 4 = true :=
  match Q, hQ, h with
  | 0, _, h => absurd h (by omega)
  | 1, _, h => absurd h (by omega)
  | 2, _, h => lg_t2 q h h0
  | 3, _, h => lg_t3 q h h0
  | 4, _, h => lg_t4 q h h0
  | 5, _, h => lg_t5 q h h0
  | 6, _, h => lg_t6 q h h0
  | 7, _, h => lg_t7 q h h0
  | 8, _, h => lg_t8 q h h0
  | 9, _, h => lg_t9 q h h0
  | 10, _, h => lg_t10 q h h0
  | 11, _, h => lg_t11 q h h0
  | 12, _, h => lg_t12 q h h0
  | 13, _, h => lg_t13 q h h0
  | 14, _, h => lg_t14 q h h0
  | 15, _, h => lg_t15 q h h0
  | 16, _, h => lg_t16 q h h0
  | 17, _, h => lg_t17 q h h0
  | 18, _, h => lg_t18 q h h0
  | 19, _, h => lg_t19 q h h0
  | 20, _, h => lg_t20 q h h0
  | 21, _, h => lg_t21 q h h0
  | 22, _, h => lg_t22 q h h0
  | 23, _, h => lg_t23 q h h0
  | 24, _, h => lg_t24 q h h0
  | 25, _, h => lg_t25 q h h0
  | 26, _, h => lg_t26 q h h0
  | 27, _, h => lg_t27 q h h0
  | 28, _, h => lg_t28 q h h0
  | 29, _, h => lg_t29 q h h0
  | 30, _, h => lg_t30 q h h0
  | 31, _, h => lg_t31 q h h0
  | 32, _, h => lg_t32 q h h0
  | 33, _, h => lg_t33 q h h0
  | 34, _, h => lg_t34 q h h0
  | 35, _, h => lg_t35 q h h0
  | 36, _, h => lg_t36 q h h0
  | n + 37, h, _ => absurd h (by omega)
end Go.Proofs.Ytkaeohlakeliiaa
