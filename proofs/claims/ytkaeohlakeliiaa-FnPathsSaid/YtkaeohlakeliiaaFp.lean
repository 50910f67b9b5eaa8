/- Contracts: FirstPassage at numbers whose exponentials fit. -/
import Derived.Test.YtkaeohlakeliiaaExpG
namespace Go.Proofs.Ytkaeohlakeliiaa
open Go.RowKit

def sqX (x : Option Nat) : Option Nat := x.bind fun b => FloatKind.f64.format.sqrt b
def rootX (x : Option Nat) : Option Nat := nar (sqX (wid x))
def c15976 : Nat := 1070366248
def c0705 : Nat := 1032881384
def belZ (z : Option Nat) : Option Nat := fop .add .f32 (fop .mul .f32 (some c15976) z) (fop .mul .f32 (fop .mul .f32 (fop .mul .f32 (some c0705) z) z) z)
def belA (z : Option Nat) : Option Nat := fop .sub .f32 (some 0) (belZ z)
def belX (z : Option Nat) : Option Nat := fop .quo .f32 (some 1065353216) (fop .add .f32 (some 1065353216) (nar (exM (wid (belA z)))))
/-- The exponential of the number fits. -/
def ExpOk (x : Option Nat) : Prop := (∃ y, RV .f32 x y ∧ -200 ≤ y ∧ y ≤ 200) ∧ Fits (exM (wid x))
def fitsB (x : Option Nat) : Bool := match x with
  | none => true
  | some b => decide ((fv FloatKind.f64.format b).natAbs ≤ pw 1178)
theorem fits_of {x : Option Nat} (h : fitsB x = true) : Fits x := by
  intro v hv
  obtain ⟨b, rfl, _, e⟩ := hv
  have h2 := of_decide_eq_true (show decide ((fv FloatKind.f64.format b).natAbs ≤ pw 1178) = true from h)
  rw [e] at h2
  exact h2
def expB (x : Option Nat) : Bool := match x with
  | none => false
  | some b => decide (b % FloatKind.f32.format.signWeight < FloatKind.f32.format.infRung) && decide ((fv FloatKind.f32.format b).natAbs ≤ 200 * unit .f32) && fitsB (exM (wid x))
theorem exp_of {x : Option Nat} (h : expB x = true) : ExpOk x := by
  cases x with
  | none => cases h
  | some b =>
    simp only [expB, Bool.and_eq_true, decide_eq_true_eq] at h
    obtain ⟨⟨h1, h2⟩, h3⟩ := h
    refine ⟨⟨_, RV.of (v := fv FloatKind.f32.format b) ⟨b, rfl, h1, rfl⟩, ?_, ?_⟩, fits_of h3⟩
    · have hu := unit_pos .f32
      have : ((-(200 * (unit .f32 : Int)) : Int) : Rat) ≤ ((fv FloatKind.f32.format b : Int) : Rat) := Rat.intCast_le_intCast.2 (by omega)
      rw [Rat.intCast_neg, Rat.intCast_mul, Rat.intCast_natCast] at this
      refine Rat.le_of_mul_le_mul_right (c := (unit .f32 : Nat)) ?_ hu
      rw [Rat.div_mul_cancel (by grind)]
      have e : ((200 : Int) : Rat) = 200 := rfl
      rw [e] at this
      grind
    · have hu := unit_pos .f32
      have : ((fv FloatKind.f32.format b : Int) : Rat) ≤ ((200 * (unit .f32 : Int) : Int) : Rat) := Rat.intCast_le_intCast.2 (by omega)
      rw [Rat.intCast_mul, Rat.intCast_natCast] at this
      refine Rat.le_of_mul_le_mul_right (c := (unit .f32 : Nat)) ?_ hu
      rw [Rat.div_mul_cancel (by grind)]
      exact this
/-! ### The twelve times -/
def tB (i : Nat) : Nat := floatOfInt .f32 ((i : Int) + 1)
def sqIn (i : Nat) : Nat := floatOfInt .f64 ((i : Int) + 1)
def sqOut (i : Nat) : Nat := (FloatKind.f64.format.sqrt (sqIn i)).getD 0
def kfour : Nat := 1082130432
def khalf : Nat := 1056964608
def ktwo : Nat := 1073741824
def kone : Nat := 1065353216
def fpR (i : Nat) : Option Nat := fop .mul .f32 (some khalf) (rootX (some (tB i)))
def fpW (i : Nat) : Option Nat := fop .mul .f32 (some khalf) (some (tB i))
def fpZ1 (i : Nat) : Option Nat := fop .quo .f32 (fop .sub .f32 (fpW i) (some kfour)) (fpR i)
def fpZ2 (i : Nat) : Option Nat := fop .quo .f32 (fop .sub .f32 (fop .sub .f32 (some 0) (some kfour)) (fpW i)) (fpR i)
def fpE : Option Nat := fop .quo .f32 (fop .mul .f32 (fop .mul .f32 (some ktwo) (some khalf)) (some kfour)) (fop .mul .f32 (some khalf) (some khalf))
def fpO (i : Nat) : Option Nat := fop .add .f32 (belX (fpZ1 i)) (fop .mul .f32 (nar (exM (wid fpE))) (belX (fpZ2 i)))
def fpV (i : Nat) : Option Nat := if (ford .f32 (fpO i) (some kone) == some .gt) = true then some kone else fpO i
theorem fp_c1 : ∀ i, i < 12 → wid (some (tB i)) = some (sqIn i) := by decide +kernel
theorem fp_c2 : ∀ i, i < 12 → FloatKind.f64.format.sqrt (sqIn i) = some (sqOut i) := by decide +kernel
theorem fp_c3 : ∀ i, i < 12 → fitsB (some (sqOut i)) = true := by decide +kernel
theorem fp_c4 : ∀ i, i < 12 → ab .f64 (sqOut i) = some (sqOut i) := by decide +kernel
theorem fp_c5 : ∀ i, i < 12 → expB (belA (fpZ1 i)) = true := by decide +kernel
theorem fp_c6 : ∀ i, i < 12 → expB (belA (fpZ2 i)) = true := by decide +kernel
theorem fp_c7 : expB fpE = true := by decide +kernel
theorem fp_c8 : ∀ i, i < 12 → finite32 (fpV i) = true := by decide +kernel
theorem fp_c9 : ∀ i, i < 12 → moreB (ab .f32 (tB i)) = true := by decide +kernel
theorem fp_c10 : ∀ i, i < 12 → ab .f32 (tB i) = some (tB i) := by decide +kernel
theorem root_of {x : Option Nat} {a b : Nat} (h1 : wid x = some a) (h2 : FloatKind.f64.format.sqrt a = some b) : rootX x = nar (some b) := by
  unfold rootX sqX
  rw [h1, Option.bind_some, h2]
set_option maxRecDepth 100000 in
theorem run_sqrt (i : Nat) (hi : i < 12) (w : World) : (callFunc 129 #[Value.float .f64 (sqIn i)]).run Try.prog w = .ok (.value (.float .f64 (sqOut i))) w :=
  match i, hi with
  | 0, _ => by kernel_rfl
  | 1, _ => by kernel_rfl
  | 2, _ => by kernel_rfl
  | 3, _ => by kernel_rfl
  | 4, _ => by kernel_rfl
  | 5, _ => by kernel_rfl
  | 6, _ => by kernel_rfl
  | 7, _ => by kernel_rfl
  | 8, _ => by kernel_rfl
  | 9, _ => by kernel_rfl
  | 10, _ => by kernel_rfl
  | 11, _ => by kernel_rfl
  | n + 12, h => absurd h (by omega)
set_option maxRecDepth 100000 in
set_option maxHeartbeats 400000 in
theorem sqrt_any (i : Nat) (hi : i < 12) (w : World) : Calls Try.prog 119 #[.float .f64 (sqIn i)] w fun e w' => e = .returned (.float .f64 (sqOut i)) ∧ Below w.heap.size w w' := by
  have hs := run_sqrt i hi
  generalize sqIn i = x at hs
  generalize sqOut i = r at hs
  go_enter Try.func119, Try.ntmps119
  go_wp2_with fail
  go_ret
  exact ⟨rfl, by (repeat (first | (with_reducible assumption) | (with_reducible apply below_refl) | (with_reducible apply below_alloc1) | (with_reducible apply below_drewN1) | (with_reducible apply below_drew1)))⟩
end Go.Proofs.Ytkaeohlakeliiaa
