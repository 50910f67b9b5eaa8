/- Numbers of quarters and halves. No program in sight. -/
import Derived.Test.YtkgbbagklkffpaaRen
namespace Go.Proofs.Ytkgbbagklkffpaa
open Go.RowKit

def cfour : Nat := 1082130432
def fqX (q : Nat) : Option Nat := fop .quo .f32 (some (floatOfInt .f32 (q : Int))) (some cfour)
/-- The bits of a number of quarters. -/
def fq (q : Nat) : Nat := (fqX q).getD 0
theorem fq_some : ∀ q : Nat, q < 80 → fqX q = some (fq q) ∧ ab .f32 (fq q) = some (fq q) ∧ fq q % FloatKind.f32.format.signWeight < FloatKind.f32.format.infRung ∧ fv FloatKind.f32.format (fq q) * 4 = (q : Int) * (unit .f32 : Int) ∧ fq q < 4294967296 := by decide +kernel
theorem half_some : ∀ q : Nat, q < 40 → fop .quo .f32 (some (floatOfInt .f32 (q : Int))) (some 1073741824) = some (fq (2 * q)) := by decide +kernel
theorem rv_fq (q : Nat) (hq : q < 80) : RV .f32 (ab .f32 (fq q)) ((q : Rat) / 4) := by
  obtain ⟨_, h2, h3, h4, _⟩ := fq_some q hq
  rw [h2]
  refine ⟨_, ⟨_, rfl, h3, rfl⟩, ?_⟩
  have h5 : ((fv FloatKind.f32.format (fq q) : Int) : Rat) * 4 = ((q : Int) : Rat) * (unit .f32 : Nat) := by
    have := congrArg (fun q : Int => (q : Rat)) h4
    simp only [Rat.intCast_mul, Rat.intCast_natCast] at this
    exact this
  rw [Rat.intCast_natCast] at h5
  grind
theorem natr_le {a b : Nat} (h : a ≤ b) : (a : Rat) ≤ (b : Rat) := Rat.natCast_le_natCast.2 h
/-- A drawn law. -/
theorem law_ok {K P Q : Nat} (hK : K < 4) (hP : P < 11) (hQ : Q < 32) : LawOk (K : Int) (ab .f32 (fq (2 + P))) (ab .f32 (fq (2 * (1 + Q)))) (((2 + P : Nat) : Rat) / 4) (((2 * (1 + Q) : Nat) : Rat) / 4) := by
  have a1 := natr_le (show 2 ≤ 2 + P by omega)
  have a2 := natr_le (show 2 + P ≤ 12 by omega)
  have a3 := natr_le (show 2 ≤ 2 * (1 + Q) by omega)
  have a4 := natr_le (show 2 * (1 + Q) ≤ 64 by omega)
  rw [show ((2 : Nat) : Rat) = 2 from rfl] at a1 a3
  rw [show ((12 : Nat) : Rat) = 12 from rfl] at a2
  rw [show ((64 : Nat) : Rat) = 64 from rfl] at a4
  exact ⟨by omega, by omega, rv_fq _ (by omega), by grind, by grind, rv_fq _ (by omega), by grind, by grind⟩
end Go.Proofs.Ytkgbbagklkffpaa
