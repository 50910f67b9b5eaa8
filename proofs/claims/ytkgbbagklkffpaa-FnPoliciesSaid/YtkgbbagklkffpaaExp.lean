/- The exponential of a number that is at most 0, as it is computed in 64 bits: the model, and that it fits. No program in sight. -/
import Derived.Test.YtkgbbagklkffpaaNar
namespace Go.Proofs.Ytkgbbagklkffpaa
open Go.RowKit

/-! ### Signs -/
def Pos (k : FloatKind) (b : Nat) : Prop := (∃ m i, k.format.read b = .number false m i) ∨ k.format.read b = .infinity false
def Ps (k : FloatKind) (x : Option Nat) : Prop := x = none ∨ ∃ b, x = some b ∧ Pos k b
theorem read_word_pos (f : Ieee.Format) (r : Nat) (h : r ≤ f.infRung) : (∃ m i, f.read (f.word false r) = .number false m i) ∨ f.read (f.word false r) = .infinity false := by
  have h1 := f.infRung_lt
  have hn := word_neg f false r (by omega)
  have hm := word_mod f false r (by omega)
  unfold Ieee.Format.read
  simp only [hm, hn]
  by_cases c1 : r < f.binade
  · rw [if_pos c1]; exact Or.inl ⟨_, _, rfl⟩
  · rw [if_neg c1]
    by_cases c2 : r < f.infRung
    · rw [if_pos c2]; exact Or.inl ⟨_, _, rfl⟩
    · rw [if_neg c2, if_pos (by omega)]; exact Or.inr rfl
theorem write_pos (k : FloatKind) (m : Nat) (i : Int) : Pos k (k.format.write (.number false m i)) := by
  unfold Pos
  show (∃ m' i', k.format.read (k.format.nearest false m i) = _) ∨ k.format.read (k.format.nearest false m i) = _
  rw [nearest_rung]
  refine read_word_pos _ _ ?_
  unfold rungOf
  split
  · exact Nat.zero_le _
  · exact Nat.min_le_right _ _
theorem write_pos_inf (k : FloatKind) : Pos k (k.format.write (.infinity false)) := read_word_pos _ _ (Nat.le_refl _)
theorem ps_mul {k : FloatKind} {x y : Option Nat} (hx : Ps k x) (hy : Ps k y) : Ps k (fop .mul k x y) := by
  rcases hx with rfl | ⟨a, rfl, ha⟩
  · exact Or.inl (fop_none_left _ _ _)
  rcases hy with rfl | ⟨b, rfl, hb⟩
  · exact Or.inl (fop_none_right _ _ _)
  have e : fop .mul k (some a) (some b) = ((k.format.read a).product (k.format.read b)).map k.format.write := rfl
  rw [e]
  rcases ha with ⟨m, i, ha⟩ | ha <;> rcases hb with ⟨n, j, hb⟩ | hb <;> rw [ha, hb] <;> simp only [Ieee.Datum.product, Bool.xor_false]
  · exact Or.inr ⟨_, rfl, write_pos _ _ _⟩
  · by_cases h : m = 0
    · simp [h]; exact Or.inl rfl
    · rw [if_neg h]; exact Or.inr ⟨_, rfl, write_pos_inf _⟩
  · by_cases h : n = 0
    · simp [h]; exact Or.inl rfl
    · rw [if_neg h]; exact Or.inr ⟨_, rfl, write_pos_inf _⟩
  · exact Or.inr ⟨_, rfl, write_pos_inf _⟩
theorem ps_quo {k : FloatKind} {x y : Option Nat} (hx : Ps k x) (hy : Ps k y) : Ps k (fop .quo k x y) := by
  rcases hx with rfl | ⟨a, rfl, ha⟩
  · exact Or.inl (fop_none_left _ _ _)
  rcases hy with rfl | ⟨b, rfl, hb⟩
  · exact Or.inl (fop_none_right _ _ _)
  have e : fop .quo k (some a) (some b) = ((k.format.read a).quotient (k.format.fractionBits + 2) (k.format.read b)).map k.format.write := rfl
  rw [e]
  rcases ha with ⟨m, i, ha⟩ | ha <;> rcases hb with ⟨n, j, hb⟩ | hb <;> rw [ha, hb] <;> simp only [Ieee.Datum.quotient, Bool.xor_false]
  · by_cases h : n = 0
    · rw [if_pos h]
      by_cases h2 : m = 0
      · rw [if_pos h2]; exact Or.inl rfl
      · rw [if_neg h2]; exact Or.inr ⟨_, rfl, write_pos_inf _⟩
    · rw [if_neg h]; exact Or.inr ⟨_, rfl, write_pos _ _ _⟩
  · exact Or.inr ⟨_, rfl, write_pos _ _ _⟩
  · exact Or.inr ⟨_, rfl, write_pos_inf _⟩
  · exact Or.inl rfl
theorem ps_square (k : FloatKind) (x : Option Nat) : Ps k (fop .mul k x x) := by
  cases x with
  | none => exact Or.inl rfl
  | some a =>
    have e : fop .mul k (some a) (some a) = ((k.format.read a).product (k.format.read a)).map k.format.write := rfl
    rw [e]
    cases h : k.format.read a with
    | nan s f => exact Or.inl rfl
    | infinity s => simp only [Ieee.Datum.product, Bool.xor_self]; exact Or.inr ⟨_, rfl, write_pos_inf _⟩
    | number s m i => simp only [Ieee.Datum.product, Bool.xor_self]; exact Or.inr ⟨_, rfl, write_pos _ _ _⟩
theorem ps_isV {k : FloatKind} {x : Option Nat} {v : Int} (h : IsV k x v) (h0 : 0 < v) : Ps k x := by
  obtain ⟨b, s, m, i, rfl, e, _, ev⟩ := h.read
  refine Or.inr ⟨b, rfl, Or.inl ⟨m, i, ?_⟩⟩
  cases s with
  | false => exact e
  | true => rw [signed_eq] at ev; simp only [if_true] at ev; omega
/-- Not more than 0: no number, or at most 0, or the infinity below. -/
def Neg (x : Option Nat) : Prop := x = none ∨ (∃ v, IsV .f32 x v ∧ v ≤ 0) ∨ ∃ b, x = some b ∧ FloatKind.f32.format.read b = .infinity true
theorem neg_of_ps {x : Option Nat} (h : Ps .f32 x) (hb : ∀ b, x = some b → ab .f32 b = some b) : Neg (fop .sub .f32 (some 0) x) := by
  rcases h with rfl | ⟨b, rfl, hp⟩
  · exact Or.inl (fop_none_right _ _ _)
  have hab := hb b rfl
  rcases ab_cases .f32 b with h1 | ⟨s, h1, h2⟩ | ⟨v, hv⟩
  · rw [hab] at h1; cases h1
  · right; right
    have hs : s = false := by
      rcases hp with ⟨m, i, hp⟩ | hp
      · rw [h2] at hp; cases hp
      · rw [h2] at hp; cases hp; rfl
    subst hs
    refine ⟨FloatKind.f32.format.write (.infinity true), ?_, by decide⟩
    have e : fop .sub .f32 (some 0) (some b) = ((FloatKind.f32.format.read 0).sum (FloatKind.f32.format.read b).opposite).map FloatKind.f32.format.write := rfl
    rw [e, h2]
    rfl
  · right; left
    rw [hab] at hv
    obtain ⟨c, s, m, i, hc, e, _, ev⟩ := hv.read
    cases hc
    have hs : 0 ≤ v := by
      rcases hp with ⟨m', i', hp⟩ | hp
      · rw [e] at hp
        cases hp
        rw [signed_eq] at ev
        simp only [Bool.false_eq_true, if_false] at ev
        omega
      · rw [e] at hp; cases hp
    have hr := hv.rep
    obtain ⟨u, hu, u1, u2⟩ := sub_within (isV_zero .f32) hv (rep_neg _ hr) (rep_neg _ hr) (by omega) (by omega)
    exact ⟨u, hu, by omega⟩

/-! ### The series -/
def exP (t : Option Nat) : Nat → Option Nat
  | 0 => some 4607182418800017408
  | j + 1 => fop .add .f64 (some 4607182418800017408) (fop .quo .f64 (fop .mul .f64 t (exP t j)) (k64 (12 - (j : Int))))
theorem exP_next (t : Option Nat) (j : Nat) : exP t (j + 1) = fop .add .f64 (some 4607182418800017408) (fop .quo .f64 (fop .mul .f64 t (exP t j)) (k64 (12 - (j : Int)))) := rfl
def exS (p : Option Nat) : Nat → Option Nat
  | 0 => p
  | j + 1 => fop .mul .f64 (exS p j) (exS p j)
theorem exS_next (p : Option Nat) (j : Nat) : exS p (j + 1) = fop .mul .f64 (exS p j) (exS p j) := rfl
def exM (y : Option Nat) : Option Nat := exS (exP (fop .quo .f64 y (some 4643211215818981376)) 12) 8
def exX (x : Option Nat) : Option Nat := if (ford .f32 x (some 3276275712) == some .lt) = true then some 0 else nar (exM (wid x))
theorem exM_none : exM none = none := rfl
/-- Between 0 and 1. -/
def UnE (x : Option Nat) : Prop := ∃ v, IsV .f64 x v ∧ 0 ≤ v ∧ v ≤ (pw 1074 : Int)
theorem UnE.sq {x : Option Nat} (h : UnE x) : UnE (fop .mul .f64 x x) := by
  obtain ⟨v, hv, h0, h1⟩ := h
  refine mul_within hv hv (rep_zero .f64) (rep_pw 1074 (by omega)) ?_ ?_
  · rw [Int.zero_mul]; exact Int.mul_nonneg h0 h0
  · rw [unit64]
    exact Int.le_trans (Int.mul_le_mul_of_nonneg_left h1 h0) (Int.mul_le_mul_of_nonneg_right h1 (by omega))
theorem exS_un {p : Option Nat} (h : UnE p) (j : Nat) : UnE (exS p j) := by
  induction j with
  | zero => exact h
  | succ j ih => exact ih.sq
theorem isV_c256 : IsV .f64 (some 4643211215818981376) (256 * (pw 1074 : Int)) := by
  have h := isV_ofInt64 256 (by decide)
  rwa [show floatOfInt .f64 256 = 4643211215818981376 from by decide, unit64] at h
theorem exP_un {t : Option Nat} (ht : ∃ v, IsV .f64 t v ∧ -(pw 1074 : Int) ≤ v ∧ v ≤ 0) (j : Nat) (hj : j ≤ 12) : UnE (exP t j) := by
  have hp := pw_pos 1074
  have hr1 := rep_pw 1074 (by omega)
  induction j with
  | zero => exact ⟨_, isV_one, by omega, by omega⟩
  | succ j ih =>
    obtain ⟨p, hpv, p0, p1⟩ := ih (by omega)
    obtain ⟨v, hv, v0, v1⟩ := ht
    have q1 : -((pw 1074 : Int) * (pw 1074 : Int)) ≤ v * p := by
      have a1 : (-v) * p ≤ (pw 1074 : Int) * (pw 1074 : Int) := Int.le_trans (Int.mul_le_mul_of_nonneg_left p1 (by omega)) (Int.mul_le_mul_of_nonneg_right (by omega) (by omega))
      rw [Int.neg_mul] at a1
      omega
    have q2 : v * p ≤ 0 := Int.mul_nonpos_of_nonpos_of_nonneg v1 p0
    obtain ⟨m, hm, m0, m1⟩ := mul_within hv hpv (rep_neg _ hr1) (rep_zero .f64) (by rw [unit64, Int.neg_mul]; exact q1) (by rw [Int.zero_mul]; exact q2)
    have hk := isV_k64 (12 - (j : Int)) (by omega)
    have k1 : (pw 1074 : Int) ≤ (12 - (j : Int)) * (pw 1074 : Int) := by
      have := Int.mul_le_mul_of_nonneg_right (show (1 : Int) ≤ 12 - (j : Int) by omega) (show (0 : Int) ≤ (pw 1074 : Int) by omega)
      omega
    obtain ⟨d, hd, d0, d1⟩ := div_within hm hk (by omega) (rep_neg _ hr1) (rep_zero .f64) (by
        rw [unit64, Int.neg_mul]
        have a1 : (-m) * (pw 1074 : Int) ≤ (pw 1074 : Int) * ((12 - (j : Int)) * (pw 1074 : Int)) := Int.le_trans (Int.mul_le_mul_of_nonneg_right (show -m ≤ (pw 1074 : Int) by omega) (by omega)) (Int.mul_le_mul_of_nonneg_left k1 (by omega))
        rw [Int.neg_mul] at a1
        omega) (by
        rw [Int.zero_mul]
        exact Int.mul_nonpos_of_nonpos_of_nonneg m1 (by omega))
    rw [exP_next]
    exact add_within isV_one hd (rep_zero .f64) hr1 (by omega) (by omega)
theorem isV_m200 : IsV .f32 (some 3276275712) (-200 * (pw 149 : Int)) := by
  have h := isV_ofInt32 (-200) (by decide)
  rwa [show floatOfInt .f32 (-200) = 3276275712 from by decide, unit32] at h
theorem isV_m200d : IsV .f64 (some 13864612927836782592) (-200 * (pw 1074 : Int)) := by
  have h := isV_ofInt64 (-200) (by decide)
  rwa [show floatOfInt .f64 (-200) = 13864612927836782592 from by decide, unit64] at h
theorem isV_200 : IsV .f32 (some 1128792064) (200 * (pw 149 : Int)) := by
  have h := isV_ofInt32 200 (by decide)
  rwa [show floatOfInt .f32 200 = 1128792064 from by decide, unit32] at h
theorem isV_200d : IsV .f64 (some 4641240890982006784) (200 * (pw 1074 : Int)) := by
  have h := isV_ofInt64 200 (by decide)
  rwa [show floatOfInt .f64 200 = 4641240890982006784 from by decide, unit64] at h
theorem pw_1074 : pw 149 * pw 925 = pw 1074 := (pw_add 149 925).symm
/-- What the code asks of a number that is not more than 0. -/
theorem neg_facts {b : Nat} (h : Neg (ab .f32 b)) :
    (ford .f32 (ab .f32 b) (some 1128792064) == some .gt) = false ∧ (ford .f64 (wid (ab .f32 b)) (some 4641240890982006784) == some .gt) = false ∧
    (ford .f64 (wid (ab .f32 b)) (some 13864612927836782592) == some .lt) = (ford .f32 (ab .f32 b) (some 3276275712) == some .lt) ∧
    ((ford .f32 (ab .f32 b) (some 3276275712) == some .lt) = false → Fits (exM (wid (ab .f32 b)))) := by
  have hp := pw_pos 149
  have hp2 := pw_pos 925
  have e := pw_1074
  rcases h with h | ⟨v, hv, h0⟩ | ⟨c, hc, hi⟩
  · rw [h]
    refine ⟨rfl, rfl, rfl, fun _ u hu => ?_⟩
    obtain ⟨q, hq, _⟩ := hu
    rw [show wid none = none from rfl, exM_none] at hq
    cases hq
  · have hw := wid_isV hv
    rw [w925_pw] at hw
    have e' : (pw 149 : Int) * (pw 925 : Int) = (pw 1074 : Int) := by rw [← Int.natCast_mul, e]
    have hw0 : v * (pw 925 : Int) ≤ 0 := Int.mul_nonpos_of_nonpos_of_nonneg h0 (by omega)
    have hp3 := pw_pos 1074
    refine ⟨?_, ?_, ?_, fun hl => ?_⟩
    · rw [ford_val hv isV_200, Int.compare_eq_lt.2 (by omega)]; rfl
    · rw [ford_val hw isV_200d, Int.compare_eq_lt.2 (by omega)]; rfl
    · rw [ford_val hw isV_m200d, ford_val hv isV_m200, ← e', ← Int.mul_assoc]
      rcases Int.lt_trichotomy v (-200 * (pw 149 : Int)) with hc | hc | hc
      · rw [Int.compare_eq_lt.2 hc, Int.compare_eq_lt.2 (Int.mul_lt_mul_of_pos_right hc (by omega))]
      · rw [hc, Int.compare_eq_eq.2 rfl, Int.compare_eq_eq.2 rfl]
      · rw [Int.compare_eq_gt.2 hc, Int.compare_eq_gt.2 (Int.mul_lt_mul_of_pos_right hc (by omega))]
    · have hlo : -200 * (pw 149 : Int) ≤ v := by
        rw [ford_val hv isV_m200] at hl
        rcases Int.lt_or_le v (-200 * (pw 149 : Int)) with hc | hc
        · rw [Int.compare_eq_lt.2 hc] at hl; simp at hl
        · exact hc
      have hlw : -200 * (pw 1074 : Int) ≤ v * (pw 925 : Int) := by
        rw [← e', ← Int.mul_assoc]
        exact Int.mul_le_mul_of_nonneg_right hlo (by omega)
      have ht : ∃ u, IsV .f64 (fop .quo .f64 (wid (ab .f32 b)) (some 4643211215818981376)) u ∧ -(pw 1074 : Int) ≤ u ∧ u ≤ 0 := by
        refine div_within hw isV_c256 (by omega) (rep_neg _ (rep_pw 1074 (by omega))) (rep_zero .f64) ?_ ?_
        · rw [unit64, Int.neg_mul]
          generalize v * (pw 925 : Int) = z at hlw hw0
          have a1 : (-z) * (pw 1074 : Int) ≤ (256 * (pw 1074 : Int)) * (pw 1074 : Int) := Int.mul_le_mul_of_nonneg_right (by omega) (by omega)
          rw [Int.neg_mul, Int.mul_comm (256 * (pw 1074 : Int))] at a1
          omega
        · rw [Int.zero_mul]
          exact Int.mul_nonpos_of_nonpos_of_nonneg hw0 (by omega)
      obtain ⟨u, hu, u0, u1⟩ := exS_un (exP_un ht 12 (by omega)) 8
      intro z hz
      rw [hz.val hu]
      have := pw_le (show 1074 ≤ 1178 by omega)
      omega
  · have hw : wid (ab .f32 b) = some (Ieee.double.write (.infinity true)) := by
      rw [hc]
      show some (Ieee.double.write (Ieee.single.read c)) = _
      rw [show Ieee.single.read c = .infinity true from hi]
    have q : ∀ y, ford .f32 (ab .f32 b) (some y) = (Ieee.Datum.infinity true).order (FloatKind.f32.format.read y) := fun y => by
      rw [hc]
      show (FloatKind.f32.format.read c).order _ = _
      rw [hi]
    rw [hw, q, q]
    refine ⟨by decide, by decide, by decide, fun hl => ?_⟩
    exact absurd hl (by decide)
/-! ### Counting in floats -/
theorem exp_ge : ∀ j : Nat, j < 13 → geB (k64 (12 - (j : Int))) 4607182418800017408 = decide (j < 12) := by decide +kernel
end Go.Proofs.Ytkgbbagklkffpaa
