/- Finite floats have values: what the tests of finiteness and of bounds tell. No program in sight. -/
import Derived.Test.YtkgbbagklkffpaaMag
import Derived.Test.YtkgbbagklkffpaaCom
namespace Go.Proofs.Ytkgbbagklkffpaa
open Go.RowKit

theorem ab_cases (k : FloatKind) (b : Nat) : ab k b = none ∨ (∃ s, ab k b = some b ∧ k.format.read b = .infinity s) ∨ ∃ v, IsV k (ab k b) v := by
  cases h : k.format.read b with
  | nan s t => left; unfold ab; rw [h]; rfl
  | infinity s => right; left; exact ⟨s, by unfold ab; rw [h]; rfl, rfl⟩
  | number s m i =>
    right; right
    refine ⟨fv k.format b, b, by unfold ab; rw [h]; rfl, ?_, rfl⟩
    unfold Ieee.Format.read at h
    simp only at h
    have hb : k.format.binade ≤ k.format.infRung := by cases k <;> decide
    by_cases h1 : b % k.format.signWeight < k.format.binade
    · omega
    · rw [if_neg h1] at h
      by_cases h2 : b % k.format.signWeight < k.format.infRung
      · exact h2
      · rw [if_neg h2] at h
        split at h <;> cases h

theorem isV_zero (k : FloatKind) : IsV k (some 0) 0 := ⟨0, rfl, by cases k <;> decide, by cases k <;> decide⟩
theorem isV_one32 : IsV .f32 (some 1065353216) (unit .f32 : Int) := by
  have h := isV_ofInt32 1 (by decide)
  rw [show floatOfInt .f32 1 = 1065353216 from by decide] at h
  simpa using h
theorem isV_one64 : IsV .f64 (some 4607182418800017408) (unit .f64 : Int) := by
  have h := isV_ofInt64 1 (by decide)
  rw [show floatOfInt .f64 1 = 4607182418800017408 from by decide] at h
  simpa using h

theorem fin_of_isV {k : FloatKind} {x : Option Nat} {v : Int} (h : IsV k x v) : fin k x = true := by
  obtain ⟨u, hu, h1, h2⟩ := sub_within h h (rep_zero k) (rep_zero k) (by omega) (by omega)
  have : u = 0 := by omega
  subst this
  unfold fin
  rw [ford_val hu (isV_zero k)]
  simp
theorem isV_of_fin {k : FloatKind} {b : Nat} (h : fin k (ab k b) = true) : ∃ v, IsV k (ab k b) v := by
  rcases ab_cases k b with h1 | ⟨s, h1, h2⟩ | h1
  · rw [h1] at h; simp [fin, fop_none_left, ford_none_left] at h
  · exfalso
    rw [h1] at h
    have : fop .sub k (some b) (some b) = none := by
      show ((k.format.read b).sum (k.format.read b).opposite).map k.format.write = none
      rw [h2]
      cases s <;> rfl
    unfold fin at h
    rw [this, ford_none_left] at h
    simp at h
  · exact h1
theorem isV_of_fin32 {b : Nat} (h : finite32 (ab .f32 b) = true) : ∃ v, IsV .f32 (ab .f32 b) v := isV_of_fin h
theorem fin32_of_isV {x : Option Nat} {v : Int} (h : IsV .f32 x v) : finite32 x = true := fin_of_isV h

theorem ford_gt {k : FloatKind} {x y : Option Nat} {a b : Int} (hx : IsV k x a) (hy : IsV k y b) (h : b < a) : ford k x y = some .gt := by rw [ford_val hx hy, Int.compare_eq_gt.2 h]
theorem ford_lt {k : FloatKind} {x y : Option Nat} {a b : Int} (hx : IsV k x a) (hy : IsV k y b) (h : a < b) : ford k x y = some .lt := by rw [ford_val hx hy, Int.compare_eq_lt.2 h]
theorem ford_eq {k : FloatKind} {x y : Option Nat} {a b : Int} (hx : IsV k x a) (hy : IsV k y b) (h : a = b) : ford k x y = some .eq := by rw [ford_val hx hy, Int.compare_eq_eq.2 h]

theorem le_of_ford {k : FloatKind} {x y : Option Nat} {a b : Int} (hx : IsV k x a) (hy : IsV k y b) (h : (ford k x y == some .lt || ford k x y == some .eq) = true) : a ≤ b := by
  rcases Int.lt_trichotomy a b with c | c | c
  · omega
  · omega
  · rw [ford_gt hx hy c] at h; simp at h
theorem ge_of_ford {k : FloatKind} {x y : Option Nat} {a b : Int} (hx : IsV k x a) (hy : IsV k y b) (h : (ford k x y == some .gt || ford k x y == some .eq) = true) : b ≤ a := by
  rcases Int.lt_trichotomy a b with c | c | c
  · rw [ford_lt hx hy c] at h; simp at h
  · omega
  · omega
theorem gt_of_ford {k : FloatKind} {x y : Option Nat} {a b : Int} (hx : IsV k x a) (hy : IsV k y b) (h : (ford k x y == some .gt) = true) : b < a := by
  rcases Int.lt_trichotomy a b with c | c | c
  · rw [ford_lt hx hy c] at h; simp at h
  · rw [ford_eq hx hy c] at h; simp at h
  · omega
theorem lt_of_ford {k : FloatKind} {x y : Option Nat} {a b : Int} (hx : IsV k x a) (hy : IsV k y b) (h : (ford k x y == some .lt) = true) : a < b := by
  rcases Int.lt_trichotomy a b with c | c | c
  · omega
  · rw [ford_eq hx hy c] at h; simp at h
  · rw [ford_gt hx hy c] at h; simp at h

theorem notLess_isV {b : Nat} (h : notLessB (ab .f32 b) = true) : ∃ v, IsV .f32 (ab .f32 b) v ∧ 0 ≤ v := by
  simp only [notLessB, Bool.and_eq_true] at h
  obtain ⟨v, hv⟩ := isV_of_fin32 h.1
  exact ⟨v, hv, ge_of_ford hv (isV_zero .f32) h.2⟩
theorem more_isV {b : Nat} (h : moreB (ab .f32 b) = true) : ∃ v, IsV .f32 (ab .f32 b) v ∧ 0 < v := by
  simp only [moreB, Bool.and_eq_true] at h
  obtain ⟨v, hv⟩ := isV_of_fin32 h.1
  exact ⟨v, hv, gt_of_ford hv (isV_zero .f32) h.2⟩
end Go.Proofs.Ytkgbbagklkffpaa
