/- The logarithm's series: how near, and how far apart; powers. No program in sight. -/
import Derived.Test.YtkgbbagklkffpaaLgA
namespace Go.Proofs.Ytkgbbagklkffpaa
open Go.RowKit

def qT (u : Rat) : Nat → Rat
  | 0 => 0
  | j + 1 => 1 / ((25 - 2 * (j : Int) : Int) : Rat) + u * qT u j
theorem qT_next (u : Rat) (j : Nat) : qT u (j + 1) = 1 / ((25 - 2 * (j : Int) : Int) : Rat) + u * qT u j := rfl
def tT (s : Rat) (j : Nat) : Rat := s * qT (s * s) j
theorem tT_next (s : Rat) (j : Nat) : tT s (j + 1) = s / ((25 - 2 * (j : Int) : Int) : Rat) + s * s * tT s j := by
  unfold tT
  rw [qT_next, Rat.div_def, Rat.div_def]
  grind
theorem odd_one (j : Nat) (hj : j < 13) : (1 : Rat) ≤ ((25 - 2 * (j : Int) : Int) : Rat) := by
  have : (1 : Int) ≤ 25 - 2 * (j : Int) := by omega
  have := Rat.intCast_le_intCast.2 this
  exact this
theorem inv_bd {k : Rat} (hk : 1 ≤ k) : 0 ≤ 1 / k ∧ 1 / k ≤ 1 := ⟨div_nonneg hk (by grind), div_le_c hk (by grind) (by grind)⟩
theorem sq_nonneg (s : Rat) : 0 ≤ s * s := by
  by_cases h : 0 ≤ s
  · exact Rat.mul_nonneg h h
  · have := Rat.mul_nonneg (show 0 ≤ -s by grind) (show 0 ≤ -s by grind); grind
theorem tT_sign (s : Rat) (j : Nat) (hj : j ≤ 13) : (0 ≤ s → 0 ≤ tT s j) ∧ (s ≤ 0 → tT s j ≤ 0) := by
  induction j with
  | zero => constructor <;> intro _ <;> (show _ ≤ _; unfold tT qT; grind)
  | succ j ih =>
    obtain ⟨i1, i2⟩ := ih (by omega)
    have hk := odd_one j (by omega)
    have hs := sq_nonneg s
    rw [tT_next]
    constructor
    · intro h
      have := Rat.mul_nonneg hs (i1 h)
      have := div_nonneg (m := s) hk h
      grind
    · intro h
      have := Rat.mul_nonneg hs (show 0 ≤ -tT s j by have := i2 h; grind)
      have := div_nonpos (m := s) hk h
      grind
theorem cube_mono {a b ga gb : Rat} (h : a ≤ b) (hg : ga ≤ gb) (a1 : 0 ≤ a → 0 ≤ ga) (a2 : a ≤ 0 → ga ≤ 0) (b1 : 0 ≤ b → 0 ≤ gb) (b2 : b ≤ 0 → gb ≤ 0) : a * a * ga ≤ b * b * gb := by
  have sa := sq_nonneg a
  have sb := sq_nonneg b
  by_cases h0 : 0 ≤ a
  · have e1 := Rat.mul_nonneg (show 0 ≤ b - a by grind) (show 0 ≤ b + a by grind)
    have e2 := Rat.mul_nonneg (show 0 ≤ b * b - a * a by grind) (a1 h0)
    have e3 := Rat.mul_nonneg sb (show 0 ≤ gb - ga by grind)
    grind
  · by_cases h1 : b ≤ 0
    · have e1 := Rat.mul_nonneg (show 0 ≤ b - a by grind) (show 0 ≤ -(b + a) by grind)
      have := b2 h1
      have e2 := Rat.mul_nonneg (show 0 ≤ a * a - b * b by grind) (show 0 ≤ -gb by grind)
      have e3 := Rat.mul_nonneg sa (show 0 ≤ gb - ga by grind)
      grind
    · have e1 := Rat.mul_nonneg sa (show 0 ≤ -ga by have := a2 (by grind); grind)
      have e2 := Rat.mul_nonneg sb (b1 (by grind))
      grind
theorem tT_mono {a b : Rat} (h : a ≤ b) (j : Nat) (hj : j ≤ 13) : tT a j ≤ tT b j := by
  induction j with
  | zero => show _ ≤ _; unfold tT qT; grind
  | succ j ih =>
    have hk := odd_one j (by omega)
    rw [tT_next, tT_next]
    have h1 := tT_sign a j (by omega)
    have h2 := tT_sign b j (by omega)
    have h3 := cube_mono h (ih (by omega)) h1.1 h1.2 h2.1 h2.2
    have h4 : 0 ≤ (b - a) / ((25 - 2 * (j : Int) : Int) : Rat) := div_nonneg hk (by grind)
    have h5 : (b - a) / ((25 - 2 * (j : Int) : Int) : Rat) = b / ((25 - 2 * (j : Int) : Int) : Rat) - a / ((25 - 2 * (j : Int) : Int) : Rat) := by rw [Rat.div_def, Rat.div_def, Rat.div_def]; grind
    grind
theorem tT_gap {a b : Rat} (h : a ≤ b) : b - a ≤ tT b 13 - tT a 13 := by
  rw [show (13 : Nat) = 12 + 1 from rfl, tT_next b 12, tT_next a 12]
  have h1 := tT_sign a 12 (by omega)
  have h2 := tT_sign b 12 (by omega)
  have h3 := cube_mono h (tT_mono h 12 (by omega)) h1.1 h1.2 h2.1 h2.2
  have : ((25 - 2 * ((12 : Nat) : Int) : Int) : Rat) = 1 := rfl
  rw [this]
  grind
def cLn : Rat := 6243314768165359 / 9007199254740992
theorem tT_lo : -(144 / 1000) ≤ tT (-(143 / 1000)) 13 := by decide +kernel
theorem tT_hi : tT (2001 / 10000) 13 ≤ 203 / 1000 := by decide +kernel
def sLo : Rat := -(1 / 7) - 1 / 10000000000
def sHi : Rat := 1 / 5 + 1 / 10000000000
theorem tT_join : 2 * tT sHi 13 - 2 * tT sLo 13 ≤ cLn + 1 / 100000000 := by decide +kernel
theorem rv_ln2 : RV .f64 (some 4604418534313441775) cLn := by
  refine ⟨fv FloatKind.f64.format 4604418534313441775, ⟨_, rfl, by decide, rfl⟩, ?_⟩
  have e : fv FloatKind.f64.format 4604418534313441775 = ((6243314768165359 * pw 1021 : Nat) : Int) := by
    have h := mgr_pw 1021 6243314768165359 (by decide) (by decide)
    rw [show 1021 * FloatKind.f64.format.binade + 6243314768165359 = 4604418534313441775 from by decide] at h
    have e2 : fv FloatKind.f64.format 4604418534313441775 = (mgr FloatKind.f64.format 4604418534313441775 : Int) := by
      rw [show (4604418534313441775 : Nat) = FloatKind.f64.format.word false 4604418534313441775 from by decide]
      rw [fv_word FloatKind.f64.format false _ (by decide)]
      rw [show FloatKind.f64.format.word false 4604418534313441775 = 4604418534313441775 from by decide]; rfl
    rw [e2, h]
  rw [e, unit64, show pw 1074 = pw 1021 * pw 53 from pw_add 1021 53, show pw 53 = 9007199254740992 from by decide, Rat.intCast_natCast, Rat.natCast_mul, Rat.natCast_mul]
  unfold cLn
  rw [show ((6243314768165359 : Nat) : Rat) = 6243314768165359 from rfl, show ((9007199254740992 : Nat) : Rat) = 9007199254740992 from rfl]
  grind
theorem rv_two64 : RV .f64 (some 4611686018427387904) 2 := by
  have := rv_ofInt64 2 (by decide)
  rwa [show floatOfInt .f64 2 = 4611686018427387904 from by decide] at this
/-- Quotients of the reduced number's kind. -/
def sig (ζ : Rat) : Rat := (ζ - 1) / (ζ + 1)
theorem sig_mul {ζ : Rat} (h : 0 < ζ) : sig ζ * (ζ + 1) = ζ - 1 := Rat.div_mul_cancel (by grind)
theorem sig_gap {a b : Rat} (h1 : 3 / 4 ≤ a) (h2 : a ≤ b) (h3 : b ≤ 3 / 2) : (b - a) * (32 / 100) ≤ sig b - sig a := by
  have e1 := sig_mul (ζ := a) (by grind)
  have e2 := sig_mul (ζ := b) (by grind)
  generalize sig a = s at *
  generalize sig b = t at *
  have e3 : (t - s) * ((a + 1) * (b + 1)) = 2 * (b - a) := by grind
  have d1 := Rat.mul_nonneg (show 0 ≤ 5 / 2 - (a + 1) by grind) (show 0 ≤ b + 1 by grind)
  have d2 : (a + 1) * (b + 1) ≤ 625 / 100 := by grind
  have d3 : 0 < (a + 1) * (b + 1) := Rat.mul_pos (by grind) (by grind)
  generalize (a + 1) * (b + 1) = D at *
  by_cases hw : 0 ≤ t - s
  · have := Rat.mul_nonneg hw (show 0 ≤ 625 / 100 - D by grind)
    grind
  · exfalso
    have := Rat.mul_pos (show 0 < -(t - s) by grind) d3
    grind
theorem sig_bd {ζ : Rat} (h1 : 3 / 4 ≤ ζ) (h2 : ζ ≤ 3 / 2) : -(1 / 7) ≤ sig ζ ∧ sig ζ ≤ 1 / 5 := by
  have a := sig_gap (a := 3 / 4) (b := ζ) (by grind) h1 h2
  have b := sig_gap (a := ζ) (b := 3 / 2) h1 h2 (by grind)
  have e1 : sig (3 / 4) = -(1 / 7) := by unfold sig; grind
  have e2 : sig (3 / 2) = 1 / 5 := by unfold sig; grind
  rw [e1] at a
  rw [e2] at b
  clear e1 e2
  constructor <;> grind
/-- The quotient as it is computed. -/
theorem lgS_near {z : Option Nat} {ζ : Rat} (hz : RV .f64 z ζ) (h1 : 3 / 4 ≤ ζ) (h2 : ζ < 3 / 2) : ∃ s, RV .f64 (lgS z) s ∧ s ≤ sig ζ + 4 * u0 ∧ sig ζ ≤ s + 4 * u0 := by
  obtain ⟨b1, b2⟩ := sig_bd h1 (by grind)
  have e := sig_mul (ζ := ζ) (by grind)
  generalize sig ζ = σ at *
  obtain ⟨m, hm, -, -, m1, m2⟩ := near64 (wn_sub hz rv_one64) 1 (by grind) (by grind) (by grind)
  obtain ⟨p, hp, -, -, p1, p2⟩ := near64 (wn_add hz rv_one64) 3 (by grind) (by grind) (by grind)
  rw [tiny_eq] at *
  have hp1 : 1 ≤ p := by grind
  have hd := Rat.div_mul_cancel (a := m) (b := p) (by grind)
  obtain ⟨c1, c2⟩ := abs_mul_le (a := σ) (b := p - (ζ + 1)) (α := 1 / 5) (β := 4 / 4503599627370496) (by grind) (by grind) (by grind) (by grind)
  have w1 : m / p - σ ≤ 2 / 4503599627370496 := le_of_mul_ge_one hp1 (by grind) (by
    have : (m / p - σ) * p = m - σ * p := by grind
    rw [this]; grind)
  have w2 : σ - m / p ≤ 2 / 4503599627370496 := le_of_mul_ge_one hp1 (by grind) (by
    have : (σ - m / p) * p = σ * p - m := by grind
    rw [this]; grind)
  obtain ⟨s, hs, -, -, s1, s2⟩ := near64 (wn_div hm hp (by grind)) 1 (by grind) (by grind) (by grind)
  rw [tiny_eq] at *
  exact ⟨s, hs, by rw [u0_eq]; grind, by rw [u0_eq]; grind⟩
theorem qT_bd {u : Rat} (h0 : 0 ≤ u) (h1 : u ≤ 1 / 16) (j : Nat) (hj : j ≤ 13) : 0 ≤ qT u j ∧ qT u j ≤ 11 / 10 := by
  induction j with
  | zero => exact ⟨by show (0 : Rat) ≤ 0; grind, by show (0 : Rat) ≤ _; grind⟩
  | succ j ih =>
    obtain ⟨i1, i2⟩ := ih (by omega)
    obtain ⟨k1, k2⟩ := inv_bd (odd_one j (by omega))
    rw [qT_next]
    have p1 := Rat.mul_nonneg h0 i1
    have p2 := Rat.mul_nonneg (show 0 ≤ 1 / 16 - u by grind) i1
    constructor <;> grind
theorem lgQ_near {x : Option Nat} {v u : Rat} (hx : RV .f64 x v) (h0 : 0 ≤ u) (h1 : u ≤ 1 / 16) (v1 : v ≤ u + 2 * u0) (v2 : u ≤ v + 2 * u0) (j : Nat) (hj : j ≤ 13) : ∃ q, RV .f64 (lgQ x j) q ∧ q ≤ qT u j + 10 * u0 ∧ qT u j ≤ q + 10 * u0 := by
  rw [u0_eq] at *
  induction j with
  | zero =>
    refine ⟨0, ⟨0, isV_zero .f64, by grind⟩, ?_, ?_⟩
    · show (0 : Rat) ≤ 0 + _; grind
    · show (0 : Rat) ≤ 0 + _; grind
  | succ j ih =>
    obtain ⟨q, hq, i1, i2⟩ := ih (by omega)
    obtain ⟨t1, t2⟩ := qT_bd h0 h1 j (by omega)
    have hk := odd_one j (by omega)
    obtain ⟨k1, k2⟩ := inv_bd hk
    have hke := rv_k64 (25 - 2 * (j : Int)) (by omega)
    rw [lgQ_next, qT_next]
    generalize qT u j = T at *
    generalize ((25 - 2 * (j : Int) : Int) : Rat) = k at *
    obtain ⟨c, hc, -, -, c1, c2⟩ := near64 (wn_div rv_one64 hke (by grind)) 1 (by grind) (by grind) (by grind)
    obtain ⟨b1, b2⟩ := abs_mul_le (a := v) (b := q) (α := 1 / 10) (β := 12 / 10) (by grind) (by grind) (by grind) (by grind)
    obtain ⟨m, hm, -, -, m1, m2⟩ := near64 (wn_mul hx hq) 1 (by grind) (by grind) (by grind)
    rw [tiny_eq] at *
    obtain ⟨d1, d2⟩ := abs_mul_le (a := v) (b := q - T) (α := 1 / 10) (β := 10 * (1 / 4503599627370496)) (by grind) (by grind) (by grind) (by grind)
    obtain ⟨e1, e2⟩ := abs_mul_le (a := v - u) (b := T) (α := 2 * (1 / 4503599627370496)) (β := 11 / 10) (by grind) (by grind) (by grind) (by grind)
    obtain ⟨r, hr, -, -, r1, r2⟩ := near64 (wn_add hc hm) 2 (by grind) (by grind) (by grind)
    rw [tiny_eq] at *
    generalize 1 / k = κ at *
    exact ⟨r, hr, by grind, by grind⟩
/-- The logarithm as it is computed, from the reduced number. -/
theorem lgM_near {y : Option Nat} {ζ : Rat} (hz : RV .f64 (lgZ y) ζ) (h1 : 3 / 4 ≤ ζ) (h2 : ζ < 3 / 2) (e1 : -15 ≤ lgE y) (e2 : lgE y ≤ 9) : ∃ L s, RV .f64 (lgM y) L ∧ s ≤ sig ζ + 4 * u0 ∧ sig ζ ≤ s + 4 * u0 ∧ L ≤ (lgE y : Rat) * cLn + 2 * tT s 13 + 40 * u0 ∧ (lgE y : Rat) * cLn + 2 * tT s 13 ≤ L + 40 * u0 := by
  obtain ⟨s, hs, s1, s2⟩ := lgS_near hz h1 h2
  obtain ⟨g1, g2⟩ := sig_bd h1 (by grind)
  have hs0 := sq_nonneg s
  have hE1 : (-15 : Rat) ≤ ((lgE y : Int) : Rat) := by have := Rat.intCast_le_intCast.2 e1; exact this
  have hE2 : ((lgE y : Int) : Rat) ≤ 9 := by have := Rat.intCast_le_intCast.2 e2; exact this
  rw [u0_eq] at *
  have hsq : s * s ≤ 1 / 16 := by
    have := (abs_mul_le (a := s) (b := s) (α := 1 / 4) (β := 1 / 4) (by grind) (by grind) (by grind) (by grind)).2
    grind
  obtain ⟨v, hv, -, -, v1, v2⟩ := near64 (wn_mul hs hs) 1 (by grind) (by grind) (by grind)
  obtain ⟨q, hq, q1, q2⟩ := lgQ_near (u := s * s) hv hs0 hsq (by rw [tiny_eq, u0_eq] at *; grind) (by rw [tiny_eq, u0_eq] at *; grind) 13 (by omega)
  obtain ⟨t1, t2⟩ := qT_bd hs0 hsq 13 (by omega)
  rw [u0_eq] at *
  have eT : tT s 13 = s * qT (s * s) 13 := rfl
  obtain ⟨T, hT⟩ : ∃ T, T = qT (s * s) 13 := ⟨_, rfl⟩
  rw [← hT] at q1 q2 t1 t2 eT
  obtain ⟨b1, b2⟩ := abs_mul_le (a := s) (b := q) (α := 1 / 4) (β := 12 / 10) (by grind) (by grind) (by grind) (by grind)
  obtain ⟨a, ha, -, -, a1, a2⟩ := near64 (wn_mul hs hq) 1 (by grind) (by grind) (by grind)
  rw [tiny_eq] at *
  obtain ⟨d1, d2⟩ := abs_mul_le (a := s) (b := q - T) (α := 1 / 4) (β := 10 * (1 / 4503599627370496)) (by grind) (by grind) (by grind) (by grind)
  obtain ⟨b, hb, -, -, b3, b4⟩ := near64 (wn_mul rv_two64 ha) 1 (by grind) (by grind) (by grind)
  have hk := rv_k64 (lgE y) (by omega)
  have hC : cLn ≤ 7 / 10 := by unfold cLn; grind
  have hC0 : 0 ≤ cLn := by unfold cLn; grind
  obtain ⟨x1, x2⟩ := abs_mul_le (a := ((lgE y : Int) : Rat)) (b := cLn) (α := 15) (β := 7 / 10) (by grind) (by grind) (by grind) hC
  obtain ⟨c, hc, -, -, c1, c2⟩ := near64 (wn_mul hk rv_ln2) 11 (by grind) (by grind) (by grind)
  rw [tiny_eq] at *
  obtain ⟨L, hL, -, -, l1, l2⟩ := near64 (wn_add hb hc) 12 (by grind) (by grind) (by grind)
  rw [tiny_eq] at *
  generalize ((lgE y : Int) : Rat) * cLn = X at *
  exact ⟨L, s, hL, s1, s2, by rw [eT]; grind, by rw [eT]; grind⟩
theorem p2_zero : p2 0 = 1 := by
  unfold p2
  rw [show ((0 : Int) + 300).toNat = 300 from rfl, Rat.div_def]
  exact Rat.mul_inv_cancel _ (by have := pwr_pos 300; grind)
theorem p2_ten : p2 10 = 1024 := by
  have a := p2_zero
  have h := fun e he => p2_next e he
  have h0 := h 0 (by omega); have h1 := h 1 (by omega); have h2 := h 2 (by omega); have h3 := h 3 (by omega); have h4 := h 4 (by omega)
  have h5 := h 5 (by omega); have h6 := h 6 (by omega); have h7 := h 7 (by omega); have h8 := h 8 (by omega); have h9 := h 9 (by omega)
  simp only [Int.reduceAdd] at h0 h1 h2 h3 h4 h5 h6 h7 h8 h9
  grind
theorem p2_mten : p2 (-10) * 1024 = 1 := by
  have a := p2_zero
  have h := fun e he => p2_next e he
  have h0 := h (-10) (by omega); have h1 := h (-9) (by omega); have h2 := h (-8) (by omega); have h3 := h (-7) (by omega); have h4 := h (-6) (by omega)
  have h5 := h (-5) (by omega); have h6 := h (-4) (by omega); have h7 := h (-3) (by omega); have h8 := h (-2) (by omega); have h9 := h (-1) (by omega)
  simp only [Int.reduceAdd, Int.reduceNeg, Int.add_left_neg] at h0 h1 h2 h3 h4 h5 h6 h7 h8 h9
  grind
theorem p2_msixt : p2 (-16) * 65536 = 1 := by
  have a := p2_mten
  have h0 := p2_next (-16) (by omega); have h1 := p2_next (-15) (by omega); have h2 := p2_next (-14) (by omega); have h3 := p2_next (-13) (by omega); have h4 := p2_next (-12) (by omega); have h5 := p2_next (-11) (by omega)
  simp only [Int.reduceAdd, Int.reduceNeg] at h0 h1 h2 h3 h4 h5
  grind
/-- All that is told of a logarithm. -/
structure LgV (x : Option Nat) (r L ζ s : Rat) : Prop where
  rv : RV .f64 (lgM (wid x)) L
  z1 : 3 / 4 ≤ ζ
  z2 : ζ < 3 / 2
  er : r = ζ * p2 (lgE (wid x))
  s1 : s ≤ sig ζ + 4 * u0
  s2 : sig ζ ≤ s + 4 * u0
  l1 : L ≤ (lgE (wid x) : Rat) * cLn + 2 * tT s 13 + 40 * u0
  l2 : (lgE (wid x) : Rat) * cLn + 2 * tT s 13 ≤ L + 40 * u0
  e1 : -15 ≤ lgE (wid x)
  e2 : lgE (wid x) ≤ 9
  e3 : 1 / 400 ≤ r → -9 ≤ lgE (wid x)
theorem lg_told {x : Option Nat} {r : Rat} (hx : RV .f32 x r) (h0 : 1 / 20000 ≤ r) (h1 : r ≤ 400) : ∃ L ζ s, LgV x r L ζ s := by
  obtain ⟨ζ, hz, z1, z2, er, E1, E2, -⟩ := lg_red hx (by grind)
  have hp := p2_pos (lgE (wid x))
  have e2 : lgE (wid x) ≤ 9 := by
    rcases Int.lt_or_le 9 (lgE (wid x)) with h | h
    · exfalso
      have h2 := p2_mono (show (10 : Int) ≤ lgE (wid x) by omega)
      rw [p2_ten] at h2
      have := Rat.mul_nonneg (show 0 ≤ ζ - 3 / 4 by grind) (Rat.le_of_lt hp)
      grind
    · exact h
  have e1 : -15 ≤ lgE (wid x) := by
    rcases Int.lt_or_le (lgE (wid x)) (-15) with h | h
    · exfalso
      have h2 := p2_mono (show lgE (wid x) ≤ -16 by omega)
      have h3 := p2_msixt
      have := Rat.mul_nonneg (show 0 ≤ 3 / 2 - ζ by grind) (Rat.le_of_lt hp)
      grind
    · exact h
  obtain ⟨L, s, hL, s1, s2, l1, l2⟩ := lgM_near hz z1 z2 e1 e2
  refine ⟨L, ζ, s, hL, z1, z2, er, s1, s2, l1, l2, e1, e2, fun h3 => ?_⟩
  rcases Int.lt_or_le (lgE (wid x)) (-9) with h | h
  · exfalso
    have h2 := p2_mono (show lgE (wid x) ≤ -10 by omega)
    have h3 := p2_mten
    have := Rat.mul_nonneg (show 0 ≤ 3 / 2 - ζ by grind) (Rat.le_of_lt hp)
    grind
  · exact h
theorem LgV.sb {x : Option Nat} {r L ζ s : Rat} (h : LgV x r L ζ s) : sLo ≤ s ∧ s ≤ sHi ∧ -(144 / 1000) ≤ tT s 13 ∧ tT s 13 ≤ 203 / 1000 := by
  obtain ⟨g1, g2⟩ := sig_bd h.z1 (Rat.le_of_lt h.z2)
  have a := h.s1
  have b := h.s2
  rw [u0_eq] at *
  have c1 := tT_mono (show -(143 / 1000) ≤ s by grind) 13 (by omega)
  have c2 := tT_mono (show s ≤ 2001 / 10000 by grind) 13 (by omega)
  have := tT_lo
  have := tT_hi
  refine ⟨by unfold sLo; grind, by unfold sHi; grind, by grind, by grind⟩
theorem LgV.range {x : Option Nat} {r L ζ s : Rat} (h : LgV x r L ζ s) : -(1069 / 100) ≤ L ∧ L ≤ 6645 / 1000 ∧ (1 / 400 ≤ r → -(6528 / 1000) ≤ L) := by
  obtain ⟨-, -, t1, t2⟩ := h.sb
  have l1 := h.l1
  have l2 := h.l2
  have hE1 : (-15 : Rat) ≤ ((lgE (wid x) : Int) : Rat) := by have := Rat.intCast_le_intCast.2 h.e1; exact this
  have hE2 : ((lgE (wid x) : Int) : Rat) ≤ 9 := by have := Rat.intCast_le_intCast.2 h.e2; exact this
  have hC : cLn ≤ 69315 / 100000 := by unfold cLn; grind
  have hC1 : 69314 / 100000 ≤ cLn := by unfold cLn; grind
  have m1 := Rat.mul_nonneg (show 0 ≤ ((lgE (wid x) : Int) : Rat) + 15 by grind) (show 0 ≤ cLn by grind)
  have m2 := Rat.mul_nonneg (show 0 ≤ 9 - ((lgE (wid x) : Int) : Rat) by grind) (show 0 ≤ cLn by grind)
  rw [u0_eq] at *
  refine ⟨by grind, by grind, fun hr => ?_⟩
  have hE3 : (-9 : Rat) ≤ ((lgE (wid x) : Int) : Rat) := by have := Rat.intCast_le_intCast.2 (h.e3 hr); exact this
  have m3 := Rat.mul_nonneg (show 0 ≤ ((lgE (wid x) : Int) : Rat) + 9 by grind) (show 0 ≤ cLn by grind)
  grind
/-- Numbers that differ by a ratio have logarithms that lie apart. -/
theorem LgV.gap {x y : Option Nat} {r L ζ s r' L' ζ' s' : Rat} (h : LgV x r L ζ s) (h' : LgV y r' L' ζ' s') (hr : r * (108 / 100) ≤ r') : L + 38 / 1000 ≤ L' := by
  obtain ⟨a1, a2, -, -⟩ := h.sb
  obtain ⟨b1, b2, -, -⟩ := h'.sb
  have l1 := h.l1
  have l2 := h'.l2
  have s1 := h.s1
  have s2 := h'.s2
  have er := h.er
  have er' := h'.er
  have z1 := h.z1; have z2 := h.z2; have z1' := h'.z1; have z2' := h'.z2
  have E1 := h.e1; have E2 := h.e2
  have hC1 : 69314 / 100000 ≤ cLn := by unfold cLn; grind
  generalize lgE (wid x) = e at *
  generalize lgE (wid y) = e' at *
  clear h h'
  have hp := p2_pos e
  have hp' := p2_pos e'
  have hee : e ≤ e' := by
    rcases Int.lt_or_le e' e with hlt | hge
    · exfalso
      have h1 := p2_mono (show e' + 1 ≤ e by omega)
      by_cases hb : -300 ≤ e'
      · rw [p2_next e' hb] at h1
        have m1 := Rat.mul_nonneg (show 0 ≤ ζ - 3 / 4 by grind) (Rat.le_of_lt hp)
        have m2 := Rat.mul_nonneg (show 0 ≤ 3 / 2 - ζ' by grind) (Rat.le_of_lt hp')
        grind
      · have h2 := p2_mono (show e' ≤ -300 by omega)
        have h3 := p2_mono (show -300 + 1 ≤ e by omega)
        rw [p2_next (-300) (by omega)] at h3
        have m1 := Rat.mul_nonneg (show 0 ≤ ζ - 3 / 4 by grind) (Rat.le_of_lt hp)
        have m2 := Rat.mul_nonneg (show 0 ≤ 3 / 2 - ζ' by grind) (Rat.le_of_lt hp')
        grind
    · exact hge
  rw [u0_eq] at *
  by_cases c0 : e' = e
  · subst c0
    have hz : ζ * (108 / 100) ≤ ζ' := by
      refine Rat.le_of_mul_le_mul_right (c := p2 e') ?_ hp
      grind
    have g := sig_gap z1 (show ζ ≤ ζ' by grind) (Rat.le_of_lt z2')
    have t := tT_gap (show s ≤ s' by grind)
    grind
  · by_cases c1 : e' = e + 1
    · subst c1
      rw [p2_next e (by omega)] at er'
      have hz : ζ * (54 / 100) ≤ ζ' := by
        refine Rat.le_of_mul_le_mul_right (c := p2 e) ?_ hp
        grind
      have ec : ((e + 1 : Int) : Rat) = (e : Rat) + 1 := by rw [Rat.intCast_add]; rfl
      rw [ec] at l2
      have g1 := sig_gap (a := 3 / 4) (b := ζ') (by grind) z1' (Rat.le_of_lt z2')
      have g2 := sig_gap (a := ζ) (b := 3 / 2) z1 (Rat.le_of_lt z2) (by grind)
      have x1 : sig (3 / 4) = -(1 / 7) := by unfold sig; grind
      have x2 : sig (3 / 2) = 1 / 5 := by unfold sig; grind
      have t1 := tT_gap b1
      have t2 := tT_gap a2
      have j := tT_join
      unfold sLo at *
      unfold sHi at *
      have : ((e : Rat) + 1) * cLn = (e : Rat) * cLn + cLn := by grind
      rw [this] at l2
      grind
    · have m1 := tT_mono b1 13 (by omega)
      have m2 := tT_mono a2 13 (by omega)
      have j := tT_join
      have hE : (e : Rat) + 2 ≤ ((e' : Int) : Rat) := by
        have := Rat.intCast_le_intCast.2 (show e + 2 ≤ e' by omega)
        rw [Rat.intCast_add] at this
        exact this
      have m3 := Rat.mul_nonneg (show 0 ≤ ((e' : Int) : Rat) - ((e : Rat) + 2) by grind) (show 0 ≤ cLn by grind)
      grind
end Go.Proofs.Ytkgbbagklkffpaa
