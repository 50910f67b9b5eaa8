/- The logarithm: how far those of numbers lie apart that differ by a ratio. No program in sight. -/
import Derived.Test.YtkgbbagklkffpaaLog3
import Derived.Test.YtkgbbagklkffpaaEpA
namespace Go.Proofs.Ytkgbbagklkffpaa
open Go.RowKit

/-! ### Powers of 2 -/
def p2 (e : Int) : Rat := ((pw (e + 300).toNat : Nat) : Rat) / ((pw 300 : Nat) : Rat)
theorem pwr_pos (j : Nat) : (0 : Rat) < ((pw j : Nat) : Rat) := Rat.natCast_pos.2 (pw_pos j)
theorem p2_pos (e : Int) : 0 < p2 e := by
  unfold p2
  rw [Rat.div_def]
  exact Rat.mul_pos (pwr_pos _) (Rat.inv_pos.2 (pwr_pos _))
theorem p2_next (e : Int) (he : -300 ≤ e) : p2 (e + 1) = 2 * p2 e := by
  unfold p2
  rw [show (e + 1 + 300).toNat = (e + 300).toNat + 1 by omega, pw_succ, Rat.natCast_mul, Rat.div_def, Rat.div_def]
  rw [show ((2 : Nat) : Rat) = 2 from rfl]; grind
theorem p2_mono {a b : Int} (h : a ≤ b) : p2 a ≤ p2 b := by
  unfold p2
  rw [Rat.div_def, Rat.div_def]
  exact Rat.mul_le_mul_of_nonneg_right (Rat.natCast_le_natCast.2 (pw_le (by omega))) (Rat.le_of_lt (Rat.inv_pos.2 (pwr_pos _)))

/-! ### The reduced number -/
/-- A number that can be halved and doubled. -/
def Dy (x : Option Nat) (K J : Nat) : Prop := IsV .f64 x ((K * pw J : Nat) : Int)
theorem dy_rep (K J : Nat) (hK : K < 9007199254740992) (hJ : J ≤ 2045) : Rep FloatKind.f64.format ((K * pw J : Nat) : Int) := rep_nat64 K J hK hJ
theorem Dy.half {x : Option Nat} {K J : Nat} (h : Dy x K (J + 1)) (hK : K < 9007199254740992) (hJ : J ≤ 2045) : Dy (fop .quo .f64 x (some 4611686018427387904)) K J := by
  have hr := dy_rep K J hK hJ
  have e : ((K * pw J : Nat) : Int) * (pw 1075 : Int) = ((K * pw (J + 1) : Nat) : Int) * (unit .f64 : Int) := by
    rw [unit64, ← Int.natCast_mul, ← Int.natCast_mul, pw_succ J, show pw 1075 = 2 * pw 1074 from pw_succ 1074]
    generalize pw 1074 = P
    congr 1; ac_rfl
  obtain ⟨v, hv, v1, v2⟩ := div_within h isV_two (by have := pw_pos 1075; omega) hr hr (Int.le_of_eq e) (Int.le_of_eq e.symm)
  unfold Dy
  rwa [show ((K * pw J : Nat) : Int) = v by omega]
theorem Dy.dbl {x : Option Nat} {K J : Nat} (h : Dy x K J) (hK : K < 9007199254740992) (hJ : J + 1 ≤ 2045) : Dy (fop .mul .f64 x (some 4611686018427387904)) K (J + 1) := by
  have hr := dy_rep K (J + 1) hK hJ
  have e : ((K * pw (J + 1) : Nat) : Int) * (unit .f64 : Int) = ((K * pw J : Nat) : Int) * (pw 1075 : Int) := by
    rw [unit64, ← Int.natCast_mul, ← Int.natCast_mul, pw_succ J, show pw 1075 = 2 * pw 1074 from pw_succ 1074]
    generalize pw 1074 = P
    congr 1; ac_rfl
  obtain ⟨v, hv, v1, v2⟩ := mul_within h isV_two hr hr (Int.le_of_eq e) (Int.le_of_eq e.symm)
  unfold Dy
  rwa [show ((K * pw (J + 1) : Nat) : Int) = v by omega]
theorem dy_halve {y : Option Nat} {K J : Nat} (h : Dy y K J) (hK : K < 9007199254740992) (hJ : J ≤ 2045) (n : Nat) (hn : n ≤ J) : Dy (halveN y n) K (J - n) := by
  induction n with
  | zero => exact h
  | succ n ih =>
    have h2 := ih (by omega)
    rw [show J - n = (J - (n + 1)) + 1 by omega] at h2
    exact h2.half hK (by omega)
theorem dy_double {y : Option Nat} {K J : Nat} (h : Dy y K J) (hK : K < 9007199254740992) (n : Nat) (hn : J + n ≤ 2045) : Dy (dblN y n) K (J + n) := by
  induction n with
  | zero => exact h
  | succ n ih => exact (ih (by omega)).dbl hK (by omega)
theorem dy_of {x : Option Nat} {v : Int} (h : IsV .f32 x v) (h0 : 0 < v) : ∃ K J, K < 16777216 ∧ 925 ≤ J ∧ J ≤ 1180 ∧ Dy (wid x) K J := by
  obtain ⟨r, hr, hv⟩ := h.rep
  obtain ⟨D, K, e, eK, hK, hD⟩ := rung_parts FloatKind.f32.format r
  rw [show FloatKind.f32.format.binade = 8388608 from by decide] at hK e hD
  rw [show FloatKind.f32.format.infRung = 2139095040 from by decide] at hr
  refine ⟨K, D + 925, by omega, by omega, by omega, ?_⟩
  have hw := wid_isV h
  unfold Dy
  have : ((K * pw (D + 925) : Nat) : Int) = v * (w925 : Int) := by
    have hv2 : v = ((K * 2 ^ D : Nat) : Int) := by rw [← eK]; omega
    rw [hv2, ← Int.natCast_mul, w925_pw, pw_add, show pw D = 2 ^ D from rfl, Nat.mul_assoc]
  rw [this]; exact hw
theorem rv_c15 : RV .f64 (some 4609434218613702656) (3 / 2) := by
  refine ⟨fv FloatKind.f64.format 4609434218613702656, ⟨_, rfl, by decide, rfl⟩, ?_⟩
  have e : fv FloatKind.f64.format 4609434218613702656 = ((3 * pw 1073 : Nat) : Int) := by
    have h := mgr_pw 1022 6755399441055744 (by decide) (by decide)
    rw [show 1022 * FloatKind.f64.format.binade + 6755399441055744 = 4609434218613702656 from by decide] at h
    have e2 : fv FloatKind.f64.format 4609434218613702656 = (mgr FloatKind.f64.format 4609434218613702656 : Int) := by
      rw [show (4609434218613702656 : Nat) = FloatKind.f64.format.word false 4609434218613702656 from by decide]
      rw [fv_word FloatKind.f64.format false _ (by decide)]
      rw [show FloatKind.f64.format.word false 4609434218613702656 = 4609434218613702656 from by decide]; rfl
    rw [e2, h, show (6755399441055744 : Nat) = 3 * pw 51 from by decide, Nat.mul_assoc, ← pw_add]
  rw [e, unit64, show pw 1074 = 2 * pw 1073 from pw_succ 1073, Rat.intCast_natCast, Rat.natCast_mul, Rat.natCast_mul, show ((3 : Nat) : Rat) = 3 from rfl, show ((2 : Nat) : Rat) = 2 from rfl]
  grind
theorem rv_c75 : RV .f64 (some 4604930618986332160) (3 / 4) := by
  refine ⟨fv FloatKind.f64.format 4604930618986332160, ⟨_, rfl, by decide, rfl⟩, ?_⟩
  have e : fv FloatKind.f64.format 4604930618986332160 = ((3 * pw 1072 : Nat) : Int) := by
    have h := mgr_pw 1021 6755399441055744 (by decide) (by decide)
    rw [show 1021 * FloatKind.f64.format.binade + 6755399441055744 = 4604930618986332160 from by decide] at h
    have e2 : fv FloatKind.f64.format 4604930618986332160 = (mgr FloatKind.f64.format 4604930618986332160 : Int) := by
      rw [show (4604930618986332160 : Nat) = FloatKind.f64.format.word false 4604930618986332160 from by decide]
      rw [fv_word FloatKind.f64.format false _ (by decide)]
      rw [show FloatKind.f64.format.word false 4604930618986332160 = 4604930618986332160 from by decide]; rfl
    rw [e2, h, show (6755399441055744 : Nat) = 3 * pw 51 from by decide, Nat.mul_assoc, ← pw_add]
  rw [e, unit64, show pw 1074 = 2 * pw 1073 from pw_succ 1073, show pw 1073 = 2 * pw 1072 from pw_succ 1072, Rat.intCast_natCast, Rat.natCast_mul, Rat.natCast_mul, Rat.natCast_mul, show ((3 : Nat) : Rat) = 3 from rfl, show ((2 : Nat) : Rat) = 2 from rfl]
  grind
/-- The reduced number: from 3/4 up to less than 3/2, and the number is it times a power of 2. -/
theorem lg_red {x : Option Nat} {r : Rat} (hx : RV .f32 x r) (h0 : 0 < r) : ∃ ζ, RV .f64 (lgZ (wid x)) ζ ∧ 3 / 4 ≤ ζ ∧ ζ < 3 / 2 ∧ r = ζ * p2 (lgE (wid x)) ∧ -200 ≤ lgE (wid x) ∧ lgE (wid x) ≤ 200 ∧ Rb (lgZ (wid x)) 1073 1075 := by
  have hw := rv_wid hx
  obtain ⟨v, hv, ev⟩ := hx
  have hv0 : 0 < v := by
    rw [← Rat.intCast_lt_intCast, ev]
    exact Rat.mul_pos h0 (unit_pos .f32)
  obtain ⟨K, J, hK, hJ1, hJ2, hD⟩ := dy_of hv hv0
  have hR := wid_rb hv hv0
  generalize wid x = y at *
  clear hv ev hv0
  -- the first loop ends
  have ex1 : ∃ n, (∀ j, j < n → geB (halveN y j) 4609434218613702656 = true) ∧ geB (halveN y n) 4609434218613702656 = false := by
    have key : ∀ m, (∃ n, n < m ∧ (∀ j, j < n → geB (halveN y j) 4609434218613702656 = true) ∧ geB (halveN y n) 4609434218613702656 = false) ∨ (∀ j, j < m → geB (halveN y j) 4609434218613702656 = true) := by
      intro m
      induction m with
      | zero => exact Or.inr fun j hj => by omega
      | succ m ih =>
        rcases ih with ⟨n, hn, h1, h2⟩ | h
        · exact Or.inl ⟨n, by omega, h1, h2⟩
        · cases hg : geB (halveN y m) 4609434218613702656
          · exact Or.inl ⟨m, by omega, h, hg⟩
          · exact Or.inr fun j hj => by
              rcases Nat.lt_succ_iff_lt_or_eq.1 hj with h1 | h1
              · exact h j h1
              · rw [h1]; exact hg
    rcases key 131 with ⟨n, -, h1, h2⟩ | h
    · exact ⟨n, h1, h2⟩
    · have := (halve_bd hR 131 h).1; omega
  obtain ⟨n, a1, a2⟩ := ex1
  have hn := (halve_bd hR n a1).1
  obtain ⟨e1, e2, b1, b2⟩ := lg_first hR n a1 a2
  have ex2 : ∃ n, (∀ j, j < n → ltB (dblN (lgX y) j) 4604930618986332160 = true) ∧ ltB (dblN (lgX y) n) 4604930618986332160 = false := by
    have key : ∀ m, (∃ n, n < m ∧ (∀ j, j < n → ltB (dblN (lgX y) j) 4604930618986332160 = true) ∧ ltB (dblN (lgX y) n) 4604930618986332160 = false) ∨ (∀ j, j < m → ltB (dblN (lgX y) j) 4604930618986332160 = true) := by
      intro m
      induction m with
      | zero => exact Or.inr fun j hj => by omega
      | succ m ih =>
        rcases ih with ⟨n, hn, h1, h2⟩ | h
        · exact Or.inl ⟨n, by omega, h1, h2⟩
        · cases hg : ltB (dblN (lgX y) m) 4604930618986332160
          · exact Or.inl ⟨m, by omega, h, hg⟩
          · exact Or.inr fun j hj => by
              rcases Nat.lt_succ_iff_lt_or_eq.1 hj with h1 | h1
              · exact h j h1
              · rw [h1]; exact hg
    rcases key 152 with ⟨n, -, h1, h2⟩ | h
    · exact ⟨n, h1, h2⟩
    · have := (dbl_bd b1 152 h).1; omega
  obtain ⟨m, c1, c2⟩ := ex2
  have hm := (dbl_bd b1 m c1).1
  obtain ⟨f1, f2, f3⟩ := lg_second b1 m c1 c2
  have hE : lgE y = (n : Int) - (m : Int) := by unfold lgE; rw [e1, f1]
  have d1 := dy_halve hD (by omega) (by omega) n (by omega)
  rw [← e2] at d1
  have d2 := dy_double d1 (by omega) m (by omega)
  rw [← f2] at d2
  have hz := RV.of d2
  obtain ⟨ζ, hζ⟩ : ∃ ζ, ζ = (((K * pw (J - n + m) : Nat) : Int) : Rat) / (unit .f64 : Nat) := ⟨_, rfl⟩
  rw [← hζ] at hz
  have hr2 := hw.val (RV.of hD)
  have hu := unit_pos .f64
  have key : r = ζ * p2 (lgE y) := by
    rw [hE, hζ, hr2]
    unfold p2
    have q1 := pwr_pos 300
    have q2 : pw (J - n + m) * pw ((n : Int) - (m : Int) + 300).toNat = pw J * pw 300 := by
      rw [← pw_add, ← pw_add]; exact congrArg pw (by omega)
    rw [Rat.intCast_natCast, Rat.intCast_natCast, Rat.natCast_mul, Rat.natCast_mul, Rat.div_def, Rat.div_def, Rat.div_def]
    have q3 : ((pw (J - n + m) : Nat) : Rat) * ((pw ((n : Int) - (m : Int) + 300).toNat : Nat) : Rat) = ((pw J : Nat) : Rat) * ((pw 300 : Nat) : Rat) := by
      rw [← Rat.natCast_mul, q2, Rat.natCast_mul]
    have q4 : ((pw 300 : Nat) : Rat) * ((pw 300 : Nat) : Rat)⁻¹ = 1 := Rat.mul_inv_cancel _ (by grind)
    generalize ((pw (J - n + m) : Nat) : Rat) = A at *
    generalize ((pw ((n : Int) - (m : Int) + 300).toNat : Nat) : Rat) = B at *
    generalize ((pw J : Nat) : Rat) = C at *
    generalize ((pw 300 : Nat) : Rat) = E at *
    generalize E⁻¹ = F at *
    generalize ((unit .f64 : Nat) : Rat)⁻¹ = G
    generalize ((K : Nat) : Rat) = k
    clear hz hζ hr2 hu hw hD hR b1 b2 c1 c2 d1 d2 f3
    have : k * A * G * (B * F) = k * G * (A * B) * F := by grind
    rw [this, q3]
    have : k * G * (C * E) * F = k * C * G * (E * F) := by grind
    rw [this, q4]
    grind
  refine ⟨ζ, hz, ?_, ?_, key, by rw [hE]; omega, by rw [hE]; omega, f3⟩
  · -- not less than 3/4
    rw [← f2] at c2
    unfold ltB at c2
    by_cases h : 3 / 4 ≤ ζ
    · exact h
    · rw [rv_lt hz rv_c75 (by grind)] at c2; simp at c2
  · -- less than 3/2
    by_cases h' : ζ < 3 / 2
    · exact h'
    · exfalso
      have h : 3 / 2 ≤ ζ := by grind
      rcases Nat.eq_zero_or_pos m with h0 | h0
      · subst h0
        have hzx : RV .f64 (lgX y) ζ := by rw [f2] at hz; exact hz
        rw [e2] at hzx
        unfold geB at a2
        by_cases hq : ζ = 3 / 2
        · rw [rv_eq hzx rv_c15 hq] at a2; simp at a2
        · rw [rv_gt hzx rv_c15 (by grind)] at a2; simp at a2
      · obtain ⟨m', rfl⟩ : ∃ m', m = m' + 1 := ⟨m - 1, by omega⟩
        have hl := c1 m' (by omega)
        have d3 := RV.of (dy_double d1 (by omega) m' (by omega))
        unfold ltB at hl
        have hlt : (((K * pw (J - n + m') : Nat) : Int) : Rat) / (unit .f64 : Nat) < 3 / 4 := by
          generalize hX : ((((K * pw (J - n + m') : Nat) : Int) : Rat) / (unit .f64 : Nat)) = X at *
          by_cases h9 : X < 3 / 4
          · exact h9
          · by_cases hq : X = 3 / 4
            · rw [rv_eq d3 rv_c75 hq] at hl; simp at hl
            · rw [rv_gt d3 rv_c75 (by grind)] at hl; simp at hl
        have : ζ = 2 * ((((K * pw (J - n + m') : Nat) : Int) : Rat) / (unit .f64 : Nat)) := by
          rw [hζ, show J - n + (m' + 1) = (J - n + m') + 1 by omega, pw_succ, Rat.intCast_natCast, Rat.intCast_natCast, Rat.natCast_mul, Rat.natCast_mul, Rat.natCast_mul, Rat.div_def, Rat.div_def, show ((2 : Nat) : Rat) = 2 from rfl]
          grind
        grind
end Go.Proofs.Ytkgbbagklkffpaa
