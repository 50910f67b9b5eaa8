/- The exponential over a wide range: it rises where its arguments lie apart, and by how much. No program in sight. -/
import Derived.Test.YtkgbbagklkffpaaMono2
namespace Go.Proofs.Ytkgbbagklkffpaa
open Go.RowKit

def u0 : Rat := 1 / 4503599627370496
theorem u0_eq : u0 = 1 / 4503599627370496 := rfl
theorem div2_ge {m k c : Rat} (hk : 2 ≤ k) (hc : 0 ≤ c) (h : -(2 * c) ≤ m) : -c ≤ m / k := by
  have hd := Rat.div_mul_cancel (a := m) (b := k) (by grind)
  generalize m / k = x at *
  by_cases hx : 0 ≤ x
  · grind
  · have := Rat.mul_nonneg (show 0 ≤ -x by grind) (show 0 ≤ k - 2 by grind)
    grind
theorem div2_le {m k c : Rat} (hk : 2 ≤ k) (hc : 0 ≤ c) (h : m ≤ 2 * c) : m / k ≤ c := by
  have hd := Rat.div_mul_cancel (a := m) (b := k) (by grind)
  generalize m / k = x at *
  by_cases hx : x ≤ 0
  · grind
  · have := Rat.mul_nonneg (show 0 ≤ x by grind) (show 0 ≤ k - 2 by grind)
    grind
theorem cnt_two' (j : Nat) (hj : j < 11) : (2 : Rat) ≤ ((12 - (j : Int) : Int) : Rat) := by
  have : (2 : Int) ≤ 12 - (j : Int) := by omega
  have := Rat.intCast_le_intCast.2 this
  exact this
theorem expT_w {τ : Rat} (h1 : -(79 / 100) ≤ τ) (h2 : τ ≤ 1 / 10) (j : Nat) (hj : j ≤ 11) : 56 / 100 ≤ expT τ j ∧ expT τ j ≤ 106 / 100 := by
  induction j with
  | zero => exact ⟨by show (56 / 100 : Rat) ≤ 1; grind, by show (1 : Rat) ≤ _; grind⟩
  | succ j ih =>
    obtain ⟨i1, i2⟩ := ih (by omega)
    have hk := cnt_two' j (by omega)
    rw [expT_next]
    have p1 := Rat.mul_nonneg (show 0 ≤ τ + 79 / 100 by grind) (show 0 ≤ expT τ j by grind)
    have p2 := Rat.mul_nonneg (show 0 ≤ 1 / 10 - τ by grind) (show 0 ≤ expT τ j by grind)
    have q1 := div2_le (m := τ * expT τ j) (c := 53 / 1000) hk (by grind) (by grind)
    have q2 := div2_ge (m := τ * expT τ j) (c := 4187 / 10000) hk (by grind) (by grind)
    generalize τ * expT τ j / ((12 - (j : Int) : Int) : Rat) = q at *
    constructor <;> grind
theorem expT_diff (σ τ : Rat) (j : Nat) : expT σ (j + 1) - expT τ (j + 1) = ((σ - τ) * expT σ j + τ * (expT σ j - expT τ j)) / ((12 - (j : Int) : Int) : Rat) := by
  rw [expT_next, expT_next]
  have : (σ - τ) * expT σ j + τ * (expT σ j - expT τ j) = σ * expT σ j - τ * expT τ j := by grind
  rw [this, Rat.div_def, Rat.div_def, Rat.div_def]
  grind
theorem expT_g {σ τ : Rat} (h1 : -(79 / 100) ≤ τ) (h2 : τ ≤ σ) (h3 : σ ≤ 1 / 10) (j : Nat) (hj : j ≤ 11) : 0 ≤ expT σ j - expT τ j ∧ expT σ j - expT τ j ≤ (σ - τ) * (56 / 100) := by
  induction j with
  | zero =>
    have : expT σ 0 - expT τ 0 = 0 := by show (1 : Rat) - 1 = 0; grind
    rw [this]
    exact ⟨by grind, Rat.mul_nonneg (by grind) (by grind)⟩
  | succ j ih =>
    obtain ⟨i1, i2⟩ := ih (by omega)
    obtain ⟨w1, w2⟩ := expT_w (τ := σ) (by grind) h3 j (by omega)
    have hk := cnt_two' j (by omega)
    rw [expT_diff]
    generalize expT σ j - expT τ j = D at *
    have p1 := Rat.mul_nonneg (show 0 ≤ τ + 79 / 100 by grind) i1
    have p2 := Rat.mul_nonneg (show 0 ≤ 1 / 10 - τ by grind) i1
    have p3 := Rat.mul_nonneg (show 0 ≤ σ - τ by grind) (show 0 ≤ expT σ j - 56 / 100 by grind)
    have p4 := Rat.mul_nonneg (show 0 ≤ σ - τ by grind) (show 0 ≤ 106 / 100 - expT σ j by grind)
    have q1 := div2_ge (m := (σ - τ) * expT σ j + τ * D) (c := 0) hk (by grind) (by grind)
    have q2 := div2_le (m := (σ - τ) * expT σ j + τ * D) (c := (σ - τ) * (56 / 100)) hk (by grind) (by grind)
    exact ⟨by grind, q2⟩
theorem expT_last (σ τ : Rat) : expT σ 12 - expT τ 12 = (σ - τ) * expT σ 11 + τ * (expT σ 11 - expT τ 11) := by
  rw [expT_diff]
  have : ((12 - ((11 : Nat) : Int) : Int) : Rat) = 1 := rfl
  rw [this]; grind
theorem expT_gap {σ τ : Rat} (h1 : -(79 / 100) ≤ τ) (h2 : τ ≤ σ) (h3 : σ ≤ 1 / 10) : (σ - τ) / 10 ≤ expT σ 12 - expT τ 12 := by
  obtain ⟨g1, g2⟩ := expT_g h1 h2 h3 11 (by omega)
  obtain ⟨w1, w2⟩ := expT_w (τ := σ) (by grind) h3 11 (by omega)
  rw [expT_last]
  generalize expT σ 11 - expT τ 11 = D at *
  have p1 := Rat.mul_nonneg (show 0 ≤ τ + 79 / 100 by grind) g1
  have p3 := Rat.mul_nonneg (show 0 ≤ σ - τ by grind) (show 0 ≤ expT σ 11 - 56 / 100 by grind)
  grind
theorem expT_gap2 {σ τ : Rat} (h1 : -(1 / 10) ≤ τ) (h2 : τ ≤ σ) (h3 : σ ≤ 1 / 10) : (σ - τ) * (8 / 10) ≤ expT σ 12 - expT τ 12 := by
  obtain ⟨g1, g2⟩ := expT_g (by grind) h2 h3 11 (by omega)
  obtain ⟨w1, w2⟩ := expT_w (τ := σ) (by grind) h3 10 (by omega)
  have e : 94 / 100 ≤ expT σ 11 := by
    rw [show (11 : Nat) = 10 + 1 from rfl, expT_next]
    have p1 := Rat.mul_nonneg (show 0 ≤ σ + 1 / 10 by grind) (show 0 ≤ expT σ 10 by grind)
    have q2 := div2_ge (m := σ * expT σ 10) (c := 53 / 1000) (cnt_two' 10 (by omega)) (by grind) (by grind)
    generalize σ * expT σ 10 / ((12 - ((10 : Nat) : Int) : Int) : Rat) = q at *
    grind
  rw [expT_last]
  generalize expT σ 11 - expT τ 11 = D at *
  have p1 := Rat.mul_nonneg (show 0 ≤ τ + 1 / 10 by grind) g1
  have p3 := Rat.mul_nonneg (show 0 ≤ σ - τ by grind) (show 0 ≤ expT σ 11 - 94 / 100 by grind)
  grind
theorem expT_all {τ : Rat} (h1 : -(79 / 100) ≤ τ) (h2 : τ ≤ 1 / 10) (j : Nat) (hj : j ≤ 12) : 16 / 100 ≤ expT τ j ∧ expT τ j ≤ 1107 / 1000 := by
  by_cases h : j ≤ 11
  · have := expT_w h1 h2 j h; constructor <;> grind
  · obtain rfl : j = 12 := by omega
    obtain ⟨w1, w2⟩ := expT_w h1 h2 11 (by omega)
    have e : expT τ 12 = 1 + τ * expT τ 11 := by
      rw [show (12 : Nat) = 11 + 1 from rfl, expT_next]
      have : ((12 - ((11 : Nat) : Int) : Int) : Rat) = 1 := rfl
      rw [this]; grind
    have p1 := Rat.mul_nonneg (show 0 ≤ τ + 79 / 100 by grind) (show 0 ≤ expT τ 11 by grind)
    have p2 := Rat.mul_nonneg (show 0 ≤ 1 / 10 - τ by grind) (show 0 ≤ expT τ 11 by grind)
    rw [e]
    constructor <;> grind
/-- How near the computed series lies. -/
theorem exP_w {t : Option Nat} {τ : Rat} (ht : RV .f64 t τ) (h1 : -(79 / 100) ≤ τ) (h2 : τ ≤ 1 / 10) (j : Nat) (hj : j ≤ 12) : ∃ P, RV .f64 (exP t j) P ∧ P ≤ expT τ j + 20 * u0 ∧ expT τ j ≤ P + 20 * u0 := by
  induction j with
  | zero => exact ⟨1, rv_one64, by show (1 : Rat) ≤ 1 + _; rw [u0_eq]; grind, by show (1 : Rat) ≤ 1 + _; rw [u0_eq]; grind⟩
  | succ j ih =>
    obtain ⟨P, hP, i1, i2⟩ := ih (by omega)
    obtain ⟨t1, t2⟩ := expT_all h1 h2 j (by omega)
    have t3 : j ≤ 11 := by omega
    obtain ⟨t4, t5⟩ := expT_w h1 h2 j t3
    have hk := cnt_one j (by omega)
    rw [exP_next, expT_next]
    generalize expT τ j = T at *
    have hke := rv_k64 (12 - (j : Int)) (by omega)
    generalize hkk : ((12 - (j : Int) : Int) : Rat) = k at *
    rw [u0_eq] at *
    obtain ⟨b1, b2⟩ := abs_mul_le (a := τ) (b := P) (α := 79 / 100) (β := 107 / 100) (by grind) (by grind) (by grind) (by grind)
    obtain ⟨m, hm, -, -, m1, m2⟩ := near64 (wn_mul ht hP) 1 (by grind) (by grind) (by grind)
    rw [tiny_eq] at *
    have d1 := div_ge_c (m := m) (c := 1) hk (by grind) (by grind)
    have d2 := div_le_c (m := m) (c := 1) hk (by grind) (by grind)
    obtain ⟨δ, hδ, -, -, e1', e2'⟩ := near64 (wn_div hm hke (by grind)) 1 (by grind) d1 d2
    have d3 := div_ge_c (m := m) (c := 86 / 100) hk (by grind) (by grind)
    have d4 := div_le_c (m := m) (c := 86 / 100) hk (by grind) (by grind)
    obtain ⟨r, hr, -, -, r1, r2⟩ := near64 (wn_add rv_one64 hδ) 2 (by grind) (by rw [tiny_eq] at *; grind) (by rw [tiny_eq] at *; grind)
    rw [tiny_eq] at *
    obtain ⟨c1, c2⟩ := abs_mul_le (a := τ) (b := P - T) (α := 79 / 100) (β := 20 * (1 / 4503599627370496)) (by grind) (by grind) (by grind) (by grind)
    have g1 := div_le_c (m := m - τ * T) (c := (1681 / 100) * (1 / 4503599627370496)) hk (by grind) (by grind)
    have g2 := div_ge_c (m := m - τ * T) (c := (1681 / 100) * (1 / 4503599627370496)) hk (by grind) (by grind)
    have s : (m - τ * T) / k = m / k - τ * T / k := by rw [Rat.div_def, Rat.div_def, Rat.div_def]; grind
    rw [s] at g1 g2
    refine ⟨r, hr, ?_, ?_⟩
    · generalize τ * T / k = x at *
      generalize m / k = y at *
      grind
    · generalize τ * T / k = x at *
      generalize m / k = y at *
      grind
/-- One square. -/
theorem sq_step {p : Option Nat} {v : Rat} (b B : Rat) (hp : RV .f64 p v) (h1 : 0 ≤ v) (h2 : v ≤ b) (hb : b ≤ 100000) (hB : b * b + b * b / 1000000000 + 1 / 1000000000 ≤ B) : ∃ u, RV .f64 (fop .mul .f64 p p) u ∧ 0 ≤ u ∧ u ≤ B := by
  obtain ⟨b1, b2⟩ := abs_mul_le (a := v) (b := v) (α := b) (β := b) (by grind) h2 (by grind) h2
  have b3 := Rat.mul_nonneg h1 h1
  have hbb : b * b ≤ 10000000000 := by
    have := (abs_mul_le (a := b) (b := b) (α := 100000) (β := 100000) (by grind) hb (by grind) hb).2
    grind
  obtain ⟨u, hu, -, u3, u1, u2⟩ := near64 (wn_mul hp hp) (b * b) (by grind) b1 b2
  rw [tiny_eq] at *
  exact ⟨u, hu, u3 b3, by grind⟩
/-- All squares exist. -/
theorem exS_ex {p : Option Nat} {v : Rat} (hp : RV .f64 p v) (h1 : 0 ≤ v) (h2 : v ≤ 1086 / 1000) (j : Nat) (hj : j ≤ 8) : ∃ u, RV .f64 (exS p j) u ∧ 0 ≤ u ∧ u ≤ 2000000000 := by
  obtain ⟨u1, hu1, a1, b1⟩ := sq_step (1086 / 1000) (118 / 100) hp h1 h2 (by grind) (by grind)
  obtain ⟨u2, hu2, a2, b2⟩ := sq_step (118 / 100) (1393 / 1000) hu1 a1 b1 (by grind) (by grind)
  obtain ⟨u3, hu3, a3, b3⟩ := sq_step (1393 / 1000) (1941 / 1000) hu2 a2 b2 (by grind) (by grind)
  obtain ⟨u4, hu4, a4, b4⟩ := sq_step (1941 / 1000) (3768 / 1000) hu3 a3 b3 (by grind) (by grind)
  obtain ⟨u5, hu5, a5, b5⟩ := sq_step (3768 / 1000) (142 / 10) hu4 a4 b4 (by grind) (by grind)
  obtain ⟨u6, hu6, a6, b6⟩ := sq_step (142 / 10) (2017 / 10) hu5 a5 b5 (by grind) (by grind)
  obtain ⟨u7, hu7, a7, b7⟩ := sq_step (2017 / 10) 40683 hu6 a6 b6 (by grind) (by grind)
  obtain ⟨u8, hu8, a8, b8⟩ := sq_step 40683 1655200000 hu7 a7 b7 (by grind) (by grind)
  match j, hj with
  | 0, _ => exact ⟨v, hp, h1, by grind⟩
  | 1, _ => exact ⟨u1, hu1, a1, by grind⟩
  | 2, _ => exact ⟨u2, hu2, a2, by grind⟩
  | 3, _ => exact ⟨u3, hu3, a3, by grind⟩
  | 4, _ => exact ⟨u4, hu4, a4, by grind⟩
  | 5, _ => exact ⟨u5, hu5, a5, by grind⟩
  | 6, _ => exact ⟨u6, hu6, a6, by grind⟩
  | 7, _ => exact ⟨u7, hu7, a7, by grind⟩
  | 8, _ => exact ⟨u8, hu8, a8, by grind⟩
  | n + 9, h => omega
theorem exS_mono {p q : Option Nat} {v w : Rat} (hp : RV .f64 p v) (hq : RV .f64 q w) (h0 : 0 ≤ v) (h : v ≤ w) (hw : w ≤ 1086 / 1000) (j : Nat) (hj : j ≤ 8) : ∀ a b, RV .f64 (exS p j) a → RV .f64 (exS q j) b → a ≤ b := by
  induction j with
  | zero => exact fun a b ha hb => by rw [ha.val hp, hb.val hq]; exact h
  | succ j ih =>
    intro a b ha hb
    obtain ⟨c, hc, c0, -⟩ := exS_ex hp h0 (by grind) j (by omega)
    obtain ⟨d, hd, d0, -⟩ := exS_ex hq (by grind) hw j (by omega)
    have hcd := ih (by omega) c d hc hd
    have e1 := nr_mul hc hc c0 c0 ha
    have e2 := nr_mul hd hd d0 d0 hb
    refine nr_mono e1 e2 ?_ ha hb
    have := Rat.mul_nonneg (show 0 ≤ d - c by grind) (show 0 ≤ d + c by grind)
    grind
/-- The quotient by 256. -/
theorem ex_tau {y : Option Nat} {η : Rat} (hy : RV .f64 y η) (h1 : -200 ≤ η) (h2 : η ≤ 20) : ∃ τ, RV .f64 (fop .quo .f64 y (some 4643211215818981376)) τ ∧ -(79 / 100) ≤ τ ∧ τ ≤ 79 / 1000 ∧ τ ≤ η / 256 + 2 * u0 ∧ η / 256 ≤ τ + 2 * u0 := by
  obtain ⟨τ, hτ, -, -, t1, t2⟩ := near64 (wn_div hy rv_c256 (by grind)) 1 (by grind) (by grind) (by grind)
  rw [tiny_eq] at *
  refine ⟨τ, hτ, by grind, by grind, by rw [u0_eq]; grind, by rw [u0_eq]; grind⟩
theorem ex_P {t : Option Nat} {τ : Rat} (ht : RV .f64 t τ) (h1 : -(79 / 100) ≤ τ) (h2 : τ ≤ 79 / 1000) : ∃ P, RV .f64 (exP t 12) P ∧ P ≤ expT τ 12 + 20 * u0 ∧ expT τ 12 ≤ P + 20 * u0 ∧ 0 ≤ P ∧ P ≤ 1086 / 1000 := by
  obtain ⟨P, hP, p1, p2⟩ := exP_w ht h1 (by grind) 12 (by omega)
  obtain ⟨t1, -⟩ := expT_all h1 (by grind) 12 (by omega)
  obtain ⟨w1, w2⟩ := expT_w h1 (by grind) 11 (by omega)
  have e : expT τ 12 = 1 + τ * expT τ 11 := by
    rw [show (12 : Nat) = 11 + 1 from rfl, expT_next]
    have : ((12 - ((11 : Nat) : Int) : Int) : Rat) = 1 := rfl
    rw [this]; grind
  have p3 := Rat.mul_nonneg (show 0 ≤ 79 / 1000 - τ by grind) (show 0 ≤ expT τ 11 by grind)
  rw [u0_eq] at *
  exact ⟨P, hP, p1, p2, by grind, by grind⟩
/-- The exponential in 64 bits has a value. -/
theorem exM_ex {y : Option Nat} {η : Rat} (hy : RV .f64 y η) (h1 : -200 ≤ η) (h2 : η ≤ 20) : ∃ v, RV .f64 (exM y) v ∧ 0 ≤ v ∧ v ≤ 2000000000 := by
  obtain ⟨τ, hτ, t1, t2, -, -⟩ := ex_tau hy h1 h2
  obtain ⟨P, hP, -, -, p1, p2⟩ := ex_P hτ t1 t2
  exact exS_ex hP p1 p2 8 (by omega)
/-- It rises. -/
theorem exM_mono {y z : Option Nat} {η θ : Rat} (hy : RV .f64 y η) (hz : RV .f64 z θ) (h1 : -200 ≤ η) (h2 : θ ≤ 20) (hg : η + 3 / 100000000000 ≤ θ) {a b : Rat} (ha : RV .f64 (exM y) a) (hb : RV .f64 (exM z) b) : a ≤ b := by
  obtain ⟨τ, hτ, t1, t2, t3, t4⟩ := ex_tau hy h1 (by grind)
  obtain ⟨σ, hσ, s1, s2, s3, s4⟩ := ex_tau hz (by grind) h2
  obtain ⟨P, hP, p1, p2, p3, p4⟩ := ex_P hτ t1 t2
  obtain ⟨Q, hQ, q1, q2, q3, q4⟩ := ex_P hσ s1 s2
  rw [u0_eq] at *
  have := expT_gap t1 (show τ ≤ σ by grind) (show σ ≤ 1 / 10 by grind)
  exact exS_mono hP hQ p3 (by grind) q4 8 (by omega) a b ha hb
/-- It rises, near 1. -/
theorem exM_mono2 {y z : Option Nat} {η θ : Rat} (hy : RV .f64 y η) (hz : RV .f64 z θ) (h1 : -25 ≤ η) (h2 : θ ≤ 20) (hg : η + 31 / 10000000000000 ≤ θ) {a b : Rat} (ha : RV .f64 (exM y) a) (hb : RV .f64 (exM z) b) : a ≤ b := by
  obtain ⟨τ, hτ, t1, t2, t3, t4⟩ := ex_tau hy (by grind) (by grind)
  obtain ⟨σ, hσ, s1, s2, s3, s4⟩ := ex_tau hz (by grind) h2
  obtain ⟨P, hP, p1, p2, p3, p4⟩ := ex_P hτ t1 t2
  obtain ⟨Q, hQ, q1, q2, q3, q4⟩ := ex_P hσ s1 s2
  rw [u0_eq] at *
  have := expT_gap2 (show -(1 / 10) ≤ τ by grind) (show τ ≤ σ by grind) (show σ ≤ 1 / 10 by grind)
  exact exS_mono hP hQ p3 (by grind) q4 8 (by omega) a b ha hb
theorem ratio_lin {V X A b W ρ : Rat} (b2 : W ≤ b + (W / 4503599627370496 + 1 / 1000000000000000000000000000000)) (k4 : V + 2 * X ≤ W) (k5 : V / 100000 ≤ X) (hV : 1 / 100000000000 ≤ V) (hρ : ρ ≤ 1)
    (hA : A ≤ V + V / 4503599627370496 + 1 / 1000000000000000000000000000000 + X * (19 / 10) + X / 4503599627370496 * (19 / 10) + ρ * (19 / 10) / 1000000000000000000000000000000) : A ≤ b := by
  grind
/-- A square keeps a ratio, nearly. -/
theorem sq_ratio {p q : Option Nat} {v w ρ a b : Rat} (hp : RV .f64 p v) (hq : RV .f64 q w) (hv : 1 / 100000000000 ≤ v * v) (hw : w ≤ 100000) (hv0 : 0 ≤ v) (r0 : 1 / 100000 ≤ ρ) (r1 : ρ ≤ 1) (h : v * (1 + ρ) ≤ w) (ha : RV .f64 (fop .mul .f64 p p) a) (hb : RV .f64 (fop .mul .f64 q q) b) : a * (1 + ρ * (19 / 10)) ≤ b := by
  have hvρ := Rat.mul_nonneg hv0 (show 0 ≤ ρ by grind)
  have hvw : v ≤ w := by grind
  have m1 := Rat.mul_nonneg hv0 hv0
  have m2 := (abs_mul_le (a := w) (b := w) (α := 100000) (β := 100000) (by grind) hw (by grind) hw).2
  have m3 := Rat.mul_nonneg (show 0 ≤ w - v by grind) (show 0 ≤ w + v by grind)
  obtain ⟨a', ha', -, -, a1, a2⟩ := near64 (wn_mul hp hp) (v * v) (by grind) (by grind) (by grind)
  obtain ⟨b', hb', -, -, b1, b2⟩ := near64 (wn_mul hq hq) (w * w) (by grind) (by grind) (by grind)
  obtain rfl := ha.val ha'
  obtain rfl := hb.val hb'
  rw [tiny_eq] at a1 b2
  have k1 := Rat.mul_nonneg (show 0 ≤ w - v * (1 + ρ) by grind) (show 0 ≤ w + v * (1 + ρ) by grind)
  have k3 := Rat.mul_nonneg m1 (Rat.mul_nonneg (show 0 ≤ ρ by grind) (show 0 ≤ ρ by grind))
  have k4 : v * v + 2 * (v * v * ρ) ≤ w * w := by grind
  have k5 := Rat.mul_nonneg m1 (show 0 ≤ ρ - 1 / 100000 by grind)
  have k7 := Rat.mul_nonneg (show 0 ≤ v * v + (v * v / 4503599627370496 + 1 / 1000000000000000000000000000000) - a by grind) (show 0 ≤ 1 + ρ * (19 / 10) by grind)
  have k8 : ∀ V : Rat, (V + (V / 4503599627370496 + 1 / 1000000000000000000000000000000) - a) * (1 + ρ * (19 / 10)) = (V + V / 4503599627370496 + 1 / 1000000000000000000000000000000) + (V * ρ) * (19 / 10) + (V * ρ) / 4503599627370496 * (19 / 10) + ρ * (19 / 10) / 1000000000000000000000000000000 - a * (1 + ρ * (19 / 10)) := fun V => by grind
  rw [k8] at k7
  refine ratio_lin (V := v * v) (X := v * v * ρ) (W := w * w) (ρ := ρ) b2 k4 ?_ hv r1 ?_
  · clear k7 k8 k4 k3 k1 a1 a2 b1 b2
    generalize v * v = V at *
    have : V * (ρ - 1 / 100000) = V * ρ - V / 100000 := by grind
    grind
  · generalize a * (1 + ρ * (19 / 10)) = A at *
    generalize v * v * ρ = X at *
    generalize v * v = V at *
    clear k8 k5 k4 k3 k1 a1 a2 b1 b2
    grind
/-- One square from below. -/
theorem sq_low {p : Option Nat} {v a : Rat} (b B : Rat) (hp : RV .f64 p v) (hb : 0 ≤ b) (h1 : b ≤ v) (h2 : v ≤ 100000) (hB : B + 1 / 1000000000000000000000000000000 ≤ b * b - b * b / 1000000000) (ha : RV .f64 (fop .mul .f64 p p) a) : B ≤ a := by
  have m1 := Rat.mul_nonneg (show 0 ≤ v - b by grind) (show 0 ≤ v + b by grind)
  have m2 := (abs_mul_le (a := v) (b := v) (α := 100000) (β := 100000) (by grind) h2 (by grind) h2).2
  have m3 := Rat.mul_nonneg hb hb
  obtain ⟨a', ha', -, -, a1, a2⟩ := near64 (wn_mul hp hp) (v * v) (by grind) (by grind) (by grind)
  obtain rfl := ha.val ha'
  rw [tiny_eq] at a2
  have e : b * b ≤ v * v := by grind
  generalize v * v = V at *
  generalize b * b = C at *
  grind
theorem exS_ratio {p q : Option Nat} {v w : Rat} (hp : RV .f64 p v) (hq : RV .f64 q w) (h0 : 92 / 100 ≤ v) (h : v * (1 + 5 / 100000) ≤ w) (hw : w ≤ 1086 / 1000) : ∀ a b, RV .f64 (exS p 8) a → RV .f64 (exS q 8) b → 1 / 2000000000 ≤ a ∧ a * (1 + 8 / 1000) ≤ b := by
  intro a b ha hb
  have hvw : v ≤ w := by grind
  have ex := fun j (hj : j ≤ 8) => exS_ex hp (by grind) (by grind) j hj
  have ey := fun j (hj : j ≤ 8) => exS_ex hq (by grind) hw j hj
  obtain ⟨v1, hv1, -, -⟩ := ex 1 (by omega)
  obtain ⟨v2, hv2, -, -⟩ := ex 2 (by omega)
  obtain ⟨v3, hv3, -, -⟩ := ex 3 (by omega)
  obtain ⟨v4, hv4, -, -⟩ := ex 4 (by omega)
  obtain ⟨v5, hv5, -, -⟩ := ex 5 (by omega)
  obtain ⟨v6, hv6, -, -⟩ := ex 6 (by omega)
  obtain ⟨v7, hv7, -, -⟩ := ex 7 (by omega)
  obtain ⟨w1, hw1, -, -⟩ := ey 1 (by omega)
  obtain ⟨w2, hw2, -, -⟩ := ey 2 (by omega)
  obtain ⟨w3, hw3, -, -⟩ := ey 3 (by omega)
  obtain ⟨w4, hw4, -, -⟩ := ey 4 (by omega)
  obtain ⟨w5, hw5, -, -⟩ := ey 5 (by omega)
  obtain ⟨w6, hw6, -, -⟩ := ey 6 (by omega)
  obtain ⟨w7, hw7, -, -⟩ := ey 7 (by omega)
  have U := fun {p : Option Nat} {c d : Rat} (b B : Rat) (hp : RV .f64 p c) (h1 : 0 ≤ c) (h2 : c ≤ b) (hb : b ≤ 100000) (hB : b * b + b * b / 1000000000 + 1 / 1000000000 ≤ B) (hd : RV .f64 (fop .mul .f64 p p) d) => (show 0 ≤ d ∧ d ≤ B by
    obtain ⟨d', hd', d1, d2⟩ := sq_step b B hp h1 h2 hb hB
    obtain rfl := hd.val hd'
    exact ⟨d1, d2⟩)
  obtain ⟨x1, y1⟩ := U (1086 / 1000) (118 / 100) hq (by grind) hw (by grind) (by grind) hw1
  obtain ⟨x2, y2⟩ := U (118 / 100) (1393 / 1000) hw1 x1 y1 (by grind) (by grind) hw2
  obtain ⟨x3, y3⟩ := U (1393 / 1000) (1941 / 1000) hw2 x2 y2 (by grind) (by grind) hw3
  obtain ⟨x4, y4⟩ := U (1941 / 1000) (3768 / 1000) hw3 x3 y3 (by grind) (by grind) hw4
  obtain ⟨x5, y5⟩ := U (3768 / 1000) (142 / 10) hw4 x4 y4 (by grind) (by grind) hw5
  obtain ⟨x6, y6⟩ := U (142 / 10) (2017 / 10) hw5 x5 y5 (by grind) (by grind) hw6
  obtain ⟨x7, y7⟩ := U (2017 / 10) 40683 hw6 x6 y6 (by grind) (by grind) hw7
  have m := exS_mono hp hq (by grind) hvw hw
  have m1 := m 1 (by omega) _ _ hv1 hw1
  have m2 := m 2 (by omega) _ _ hv2 hw2
  have m3 := m 3 (by omega) _ _ hv3 hw3
  have m4 := m 4 (by omega) _ _ hv4 hw4
  have m5 := m 5 (by omega) _ _ hv5 hw5
  have m6 := m 6 (by omega) _ _ hv6 hw6
  have m7 := m 7 (by omega) _ _ hv7 hw7
  have l1 := sq_low (92 / 100) (8463 / 10000) hp (by grind) h0 (by grind) (by grind) hv1
  have l2 := sq_low (8463 / 10000) (7162 / 10000) hv1 (by grind) l1 (by grind) (by grind) hv2
  have l3 := sq_low (7162 / 10000) (5129 / 10000) hv2 (by grind) l2 (by grind) (by grind) hv3
  have l4 := sq_low (5129 / 10000) (2630 / 10000) hv3 (by grind) l3 (by grind) (by grind) hv4
  have l5 := sq_low (2630 / 10000) (6916 / 100000) hv4 (by grind) l4 (by grind) (by grind) hv5
  have l6 := sq_low (6916 / 100000) (4783 / 1000000) hv5 (by grind) l5 (by grind) (by grind) hv6
  have l7 := sq_low (4783 / 1000000) (2287 / 100000000) hv6 (by grind) l6 (by grind) (by grind) hv7
  have l8 := sq_low (2287 / 100000000) (1 / 2000000000) hv7 (by grind) l7 (by grind) (by grind) ha
  have sq := fun (x c : Rat) (hc : 0 ≤ c) (h : c ≤ x) => (show c * c ≤ x * x by
    have := Rat.mul_nonneg (show 0 ≤ x - c by grind) (show 0 ≤ x + c by grind)
    grind)
  have r1 := sq_ratio hp hq (by have := sq v (92 / 100) (by grind) h0; grind) (by grind) (by grind) (ρ := 5 / 100000) (by grind) (by grind) h hv1 hw1
  have r2 := sq_ratio hv1 hw1 (by have := sq v1 (8463 / 10000) (by grind) l1; grind) (by grind) (by grind) (ρ := 95 / 1000000) (by grind) (by grind) (by grind) hv2 hw2
  have r3 := sq_ratio hv2 hw2 (by have := sq v2 (7162 / 10000) (by grind) l2; grind) (by grind) (by grind) (ρ := 18 / 100000) (by grind) (by grind) (by grind) hv3 hw3
  have r4 := sq_ratio hv3 hw3 (by have := sq v3 (5129 / 10000) (by grind) l3; grind) (by grind) (by grind) (ρ := 34 / 100000) (by grind) (by grind) (by grind) hv4 hw4
  have r5 := sq_ratio hv4 hw4 (by have := sq v4 (2630 / 10000) (by grind) l4; grind) (by grind) (by grind) (ρ := 64 / 100000) (by grind) (by grind) (by grind) hv5 hw5
  have r6 := sq_ratio hv5 hw5 (by have := sq v5 (6916 / 100000) (by grind) l5; grind) (by grind) (by grind) (ρ := 12 / 10000) (by grind) (by grind) (by grind) hv6 hw6
  have r7 := sq_ratio hv6 hw6 (by have := sq v6 (4783 / 1000000) (by grind) l6; grind) (by grind) (by grind) (ρ := 225 / 100000) (by grind) (by grind) (by grind) hv7 hw7
  have r8 := sq_ratio hv7 hw7 (by have := sq v7 (2287 / 100000000) (by grind) l7; grind) (by grind) (by grind) (ρ := 4225 / 1000000) (by grind) (by grind) (by grind) ha hb
  exact ⟨l8, by grind⟩
/-- It rises by a ratio. -/
theorem exM_ratio {y z : Option Nat} {η θ : Rat} (hy : RV .f64 y η) (hz : RV .f64 z θ) (h1 : -(199 / 10) ≤ η) (h2 : θ ≤ 20) (hg : η + 18 / 1000 ≤ θ) {a b : Rat} (ha : RV .f64 (exM y) a) (hb : RV .f64 (exM z) b) : 1 / 2000000000 ≤ a ∧ a * (1 + 8 / 1000) ≤ b := by
  obtain ⟨τ, hτ, t1, t2, t3, t4⟩ := ex_tau hy (by grind) (by grind)
  obtain ⟨σ, hσ, s1, s2, s3, s4⟩ := ex_tau hz (by grind) h2
  obtain ⟨P, hP, p1, p2, p3, p4⟩ := ex_P hτ t1 t2
  obtain ⟨Q, hQ, q1, q2, q3, q4⟩ := ex_P hσ s1 s2
  rw [u0_eq] at *
  have g := expT_gap2 (show -(1 / 10) ≤ τ by grind) (show τ ≤ σ by grind) (show σ ≤ 1 / 10 by grind)
  have hl : 1 + τ ≤ expT τ 12 := by
    have e : expT τ 12 = 1 + τ * expT τ 11 := by
      rw [show (12 : Nat) = 11 + 1 from rfl, expT_next]
      have : ((12 - ((11 : Nat) : Int) : Int) : Rat) = 1 := rfl
      rw [this]; grind
    have e2 : expT τ 11 = 1 + τ * expT τ 10 / 2 := by
      rw [show (11 : Nat) = 10 + 1 from rfl, expT_next]
      have : ((12 - ((10 : Nat) : Int) : Int) : Rat) = 2 := rfl
      rw [this]
    obtain ⟨w1, w2⟩ := expT_w (τ := τ) (by grind) (by grind) 10 (by omega)
    have m1 : 0 ≤ τ * τ := by
      by_cases h : 0 ≤ τ
      · exact Rat.mul_nonneg h h
      · have := Rat.mul_nonneg (show 0 ≤ -τ by grind) (show 0 ≤ -τ by grind); grind
    have m2 := Rat.mul_nonneg m1 (show 0 ≤ expT τ 10 by grind)
    rw [e, e2]
    grind
  exact exS_ratio hP hQ (by grind) (by grind) q4 a b ha hb
end Go.Proofs.Ytkgbbagklkffpaa
