/- What rounding keeps: sums, products, quotients and conversions of floats lie within representable bounds of the exact ones: plain mathematics, no program. -/
import Derived.Test.YtkgbbagklkffpaaFlo
namespace Go.Proofs.Ytkgbbagklkffpaa
open Go.RowKit

/-! ## Mag -/
section
variable (f : Ieee.Format)

/-- The magnitude of a rung, in units of the least place. -/
def mgr (r : Nat) : Nat := if r < f.binade then r else (f.binade + r % f.binade) * 2 ^ (r / f.binade - 1)

theorem bnd_pos : 0 < f.binade := Nat.two_pow_pos _

theorem rung_parts (r : Nat) : ∃ D K, r = D * f.binade + K ∧ mgr f r = K * 2 ^ D ∧ K < 2 * f.binade ∧ (0 < D → f.binade ≤ K) := by
  have hb := bnd_pos f
  by_cases h : r < f.binade
  · exact ⟨0, r, by simp, by simp [mgr, h], by omega, by omega⟩
  · refine ⟨r / f.binade - 1, f.binade + r % f.binade, ?_, by simp [mgr, h], ?_, fun _ => Nat.le_add_right _ _⟩
    · have h1 : 1 ≤ r / f.binade := (Nat.le_div_iff_mul_le hb).2 (by omega)
      have h2 := Nat.div_add_mod r f.binade
      obtain ⟨d, hd⟩ := Nat.exists_eq_add_of_le h1
      rw [hd] at h2 ⊢
      rw [show 1 + d - 1 = d by omega]
      rw [Nat.mul_add, Nat.mul_one, Nat.mul_comm f.binade d] at h2
      omega
    · have := Nat.mod_lt r hb; omega

theorem mgr_parts (D K : Nat) (hK : K ≤ 2 * f.binade) (hD : 0 < D → f.binade ≤ K) : mgr f (D * f.binade + K) = K * 2 ^ D := by
  have hb := bnd_pos f
  by_cases h1 : K < f.binade
  · obtain rfl : D = 0 := by
      rcases Nat.eq_zero_or_pos D with h | h
      · exact h
      · have := hD h; omega
    simp [mgr, h1]
  · have h2 : ¬ D * f.binade + K < f.binade := by omega
    rw [mgr, if_neg h2]
    by_cases h3 : K = 2 * f.binade
    · subst h3
      have e : D * f.binade + 2 * f.binade = (D + 2) * f.binade := by rw [Nat.add_mul]
      rw [e, Nat.mul_div_cancel _ hb, Nat.mul_mod_left, show D + 2 - 1 = D + 1 by omega, Nat.pow_succ, Nat.add_zero]
      rw [Nat.mul_comm (2 ^ D) 2, ← Nat.mul_assoc, Nat.mul_comm 2 f.binade]
    · have e : D * f.binade + K = (K - f.binade) + (D + 1) * f.binade := by rw [Nat.add_mul]; omega
      have e1 : (D * f.binade + K) / f.binade = D + 1 := by rw [e, Nat.add_mul_div_right _ _ hb, Nat.div_eq_of_lt (by omega)]; omega
      have e2 : (D * f.binade + K) % f.binade = K - f.binade := by rw [e, Nat.add_mul_mod_self_right, Nat.mod_eq_of_lt (by omega)]
      rw [e1, e2, show D + 1 - 1 = D by omega, show f.binade + (K - f.binade) = K by omega]

theorem pow_split {a b : Nat} (h : a ≤ b) : 2 ^ b = 2 ^ (b - a) * 2 ^ a := by rw [← Nat.pow_add]; congr 1; omega

theorem mgr_mono {q r : Nat} (h : q ≤ r) : mgr f q ≤ mgr f r := by
  obtain ⟨D, K, rfl, e, hK, hD⟩ := rung_parts f q
  obtain ⟨D', K', rfl, e', hK', hD'⟩ := rung_parts f r
  rw [e, e']
  have hb := bnd_pos f
  rcases Nat.lt_trichotomy D D' with hd | hd | hd
  · have h1 := hD' (by omega)
    have h2 : 2 ^ D' = 2 ^ (D' - (D + 1)) * 2 ^ (D + 1) := pow_split (by omega)
    calc K * 2 ^ D ≤ 2 * f.binade * 2 ^ D := Nat.mul_le_mul_right _ (by omega)
      _ = f.binade * 2 ^ (D + 1) := by rw [Nat.pow_succ, Nat.mul_comm 2 f.binade, Nat.mul_assoc, Nat.mul_comm 2 (2 ^ D)]
      _ ≤ f.binade * 2 ^ D' := Nat.mul_le_mul_left _ (Nat.pow_le_pow_right (by decide) (by omega))
      _ ≤ K' * 2 ^ D' := Nat.mul_le_mul_right _ h1
  · subst hd
    exact Nat.mul_le_mul_right _ (by omega)
  · have h1 := hD (by omega)
    have h2 : (D' + 1) * f.binade ≤ D * f.binade := Nat.mul_le_mul_right _ (by omega)
    rw [Nat.add_mul, Nat.one_mul] at h2
    omega

theorem cut_le_of (neg : Bool) (n drop K : Nat) (h : n ≤ K * 2 ^ drop) : Ieee.Toward.even.cut neg n drop ≤ K := by
  unfold Ieee.Toward.cut
  simp only [Nat.one_shiftLeft]
  by_cases hd : drop ≤ n.log2 + 2
  · rw [Nat.min_eq_left hd]
    have hp : 0 < 2 ^ drop := Nat.two_pow_pos _
    generalize 2 ^ drop = g at h hp
    have h1 := Nat.div_add_mod n g
    have h2 := Nat.mod_lt n hp
    generalize n / g = q at h1
    generalize n % g = s at h1 h2
    by_cases hz : s = 0
    · subst hz
      have : (decide (g < 2 * 0) || g == 2 * 0 && q % 2 == 1) = false := by simp; omega
      rw [this]
      have : g * q ≤ g * K := by rw [Nat.mul_comm g K]; omega
      simpa using Nat.le_of_mul_le_mul_left this hp
    · have hq : q < K := by
        have : g * q < g * K := by rw [Nat.mul_comm g K]; omega
        exact Nat.lt_of_mul_lt_mul_left this
      have : ∀ b : Bool, b.toNat ≤ 1 := by decide
      have := this (decide (g < 2 * s) || g == 2 * s && q % 2 == 1)
      omega
  · rw [Nat.min_eq_right (by omega)]
    have hn : n < 2 ^ (n.log2 + 1) := Nat.lt_log2_self
    have hp : 2 ^ (n.log2 + 2) = 2 * 2 ^ (n.log2 + 1) := by rw [Nat.pow_succ, Nat.mul_comm]
    generalize 2 ^ (n.log2 + 1) = u at hn hp
    rw [hp]
    have e1 : n / (2 * u) = 0 := Nat.div_eq_of_lt (by omega)
    have e2 : n % (2 * u) = n := Nat.mod_eq_of_lt (by omega)
    rw [e1, e2]
    have : (decide (2 * u < 2 * n) || 2 * u == 2 * n && 0 % 2 == 1) = false := by simp; omega
    rw [this]
    simp

theorem le_cut_of (neg : Bool) (n drop K : Nat) (h : K * 2 ^ drop ≤ n) : K ≤ Ieee.Toward.even.cut neg n drop := by
  unfold Ieee.Toward.cut
  simp only [Nat.one_shiftLeft]
  refine Nat.le_trans ?_ (Nat.le_add_right _ _)
  by_cases hd : drop ≤ n.log2 + 2
  · rw [Nat.min_eq_left hd]
    exact (Nat.le_div_iff_mul_le (Nat.two_pow_pos _)).2 h
  · have hn : n < 2 ^ (n.log2 + 1) := Nat.lt_log2_self
    have hp : 2 ^ (n.log2 + 1) ≤ 2 ^ drop := Nat.pow_le_pow_right (by decide) (by omega)
    have : K = 0 := by
      rcases Nat.eq_zero_or_pos K with h0 | h0
      · exact h0
      · have : 1 * 2 ^ drop ≤ K * 2 ^ drop := Nat.mul_le_mul_right _ h0
        omega
    rw [this]; exact Nat.zero_le _

/-- The rung nearest to mag * 2 ^ place. -/
def rungOf (mag : Nat) (place : Int) : Nat :=
  if mag = 0 then 0 else
  min (((max (place + mag.log2 - f.fractionBits) f.leastPlace) - f.leastPlace).toNat * f.binade + Ieee.Toward.even.cut false (mag <<< (place - (max (place + mag.log2 - f.fractionBits) f.leastPlace)).toNat) ((max (place + mag.log2 - f.fractionBits) f.leastPlace) - place).toNat) f.infRung

theorem nearest_rung (neg : Bool) (mag : Nat) (place : Int) : f.nearest neg mag place = f.word neg (rungOf f mag place) := by
  unfold Ieee.Format.nearest rungOf
  split <;> rfl

theorem rungOf_parts (mag : Nat) (place c : Int) (h0 : mag ≠ 0) (hc : c ≤ place) (hl : c ≤ f.leastPlace) :
    ∃ D kept, rungOf f mag place = min (D * f.binade + kept) f.infRung ∧ kept ≤ 2 * f.binade ∧ (0 < D → f.binade ≤ kept) ∧
      (∀ K, mag * 2 ^ (place - c).toNat ≤ K * 2 ^ (D + (f.leastPlace - c).toNat) → kept ≤ K) ∧
      (∀ K, K * 2 ^ (D + (f.leastPlace - c).toNat) ≤ mag * 2 ^ (place - c).toNat → K ≤ kept) ∧
      mag * 2 ^ (place - c).toNat < 2 * f.binade * 2 ^ (D + (f.leastPlace - c).toNat) ∧
      (0 < D → f.binade * 2 ^ (D + (f.leastPlace - c).toNat) ≤ mag * 2 ^ (place - c).toNat) := by
  obtain ⟨last, hlast⟩ : ∃ last, last = max (place + mag.log2 - f.fractionBits) f.leastPlace := ⟨_, rfl⟩
  have hm1 : mag < 2 ^ (mag.log2 + 1) := Nat.lt_log2_self
  have hm0 : 2 ^ mag.log2 ≤ mag := Nat.log2_self_le h0
  have A : ∀ K, mag * 2 ^ (place - c).toNat ≤ K * 2 ^ ((last - f.leastPlace).toNat + (f.leastPlace - c).toNat) → mag <<< (place - last).toNat ≤ K * 2 ^ (last - place).toNat := by
    intro K h
    rw [Nat.shiftLeft_eq]
    obtain ⟨X, hX⟩ : ∃ X, X = (last - f.leastPlace).toNat + (f.leastPlace - c).toNat := ⟨_, rfl⟩
    rw [← hX] at h
    by_cases hp : last ≤ place
    · rw [show (last - place).toNat = 0 by omega, Nat.pow_zero, Nat.mul_one]
      rw [show (place - c).toNat = (place - last).toNat + X by omega, Nat.pow_add, ← Nat.mul_assoc] at h
      exact Nat.le_of_mul_le_mul_right h (Nat.two_pow_pos _)
    · rw [show (place - last).toNat = 0 by omega, Nat.pow_zero, Nat.mul_one]
      rw [show X = (last - place).toNat + (place - c).toNat by omega, Nat.pow_add, ← Nat.mul_assoc] at h
      exact Nat.le_of_mul_le_mul_right h (Nat.two_pow_pos _)
  have B : ∀ K, K * 2 ^ ((last - f.leastPlace).toNat + (f.leastPlace - c).toNat) ≤ mag * 2 ^ (place - c).toNat → K * 2 ^ (last - place).toNat ≤ mag <<< (place - last).toNat := by
    intro K h
    rw [Nat.shiftLeft_eq]
    obtain ⟨X, hX⟩ : ∃ X, X = (last - f.leastPlace).toNat + (f.leastPlace - c).toNat := ⟨_, rfl⟩
    rw [← hX] at h
    by_cases hp : last ≤ place
    · rw [show (last - place).toNat = 0 by omega, Nat.pow_zero, Nat.mul_one]
      rw [show (place - c).toNat = (place - last).toNat + X by omega, Nat.pow_add, ← Nat.mul_assoc] at h
      exact Nat.le_of_mul_le_mul_right h (Nat.two_pow_pos _)
    · rw [show (place - last).toNat = 0 by omega, Nat.pow_zero, Nat.mul_one]
      rw [show X = (last - place).toNat + (place - c).toNat by omega, Nat.pow_add, ← Nat.mul_assoc] at h
      exact Nat.le_of_mul_le_mul_right h (Nat.two_pow_pos _)
  have hbin : f.binade = 2 ^ f.fractionBits := rfl
  have C : mag * 2 ^ (place - c).toNat < 2 * f.binade * 2 ^ ((last - f.leastPlace).toNat + (f.leastPlace - c).toNat) := by
    calc mag * 2 ^ (place - c).toNat < 2 ^ (mag.log2 + 1) * 2 ^ (place - c).toNat := Nat.mul_lt_mul_of_pos_right hm1 (Nat.two_pow_pos _)
      _ = 2 ^ (mag.log2 + 1 + (place - c).toNat) := by rw [← Nat.pow_add]
      _ ≤ 2 ^ (f.fractionBits + 1 + ((last - f.leastPlace).toNat + (f.leastPlace - c).toNat)) := Nat.pow_le_pow_right (by decide) (by omega)
      _ = _ := by rw [Nat.pow_add, Nat.pow_succ, hbin, Nat.mul_comm (2 ^ f.fractionBits) 2]
  have E : 0 < (last - f.leastPlace).toNat → f.binade * 2 ^ ((last - f.leastPlace).toNat + (f.leastPlace - c).toNat) ≤ mag * 2 ^ (place - c).toNat := by
    intro hD
    calc f.binade * 2 ^ ((last - f.leastPlace).toNat + (f.leastPlace - c).toNat) = 2 ^ (f.fractionBits + ((last - f.leastPlace).toNat + (f.leastPlace - c).toNat)) := by rw [Nat.pow_add _ f.fractionBits, hbin]
      _ = 2 ^ (mag.log2 + (place - c).toNat) := by congr 1; omega
      _ = 2 ^ mag.log2 * 2 ^ (place - c).toNat := by rw [Nat.pow_add]
      _ ≤ _ := Nat.mul_le_mul_right _ hm0
  refine ⟨(last - f.leastPlace).toNat, Ieee.Toward.even.cut false (mag <<< (place - last).toNat) (last - place).toNat, ?_, ?_, ?_, ?_, ?_, C, E⟩
  · unfold rungOf
    rw [if_neg h0, ← hlast]
  · exact cut_le_of _ _ _ _ (A _ (Nat.le_of_lt C))
  · intro hD
    exact le_cut_of _ _ _ _ (B _ (E hD))
  · intro K h
    exact cut_le_of _ _ _ _ (A _ h)
  · intro K h
    exact le_cut_of _ _ _ _ (B _ h)

theorem rungOf_le (mag : Nat) (place c : Int) (r : Nat) (hc : c ≤ place) (hl : c ≤ f.leastPlace) (h : mag * 2 ^ (place - c).toNat ≤ mgr f r * 2 ^ (f.leastPlace - c).toNat) : rungOf f mag place ≤ r := by
  by_cases h0 : mag = 0
  · simp [rungOf, h0]
  obtain ⟨D, kept, e, k1, k2, k3, k4, k5, k6⟩ := rungOf_parts f mag place c h0 hc hl
  obtain ⟨D', K, rfl, e', hK, hD'⟩ := rung_parts f r
  rw [e]
  refine Nat.le_trans (Nat.min_le_left _ _) ?_
  rw [e', Nat.mul_assoc, ← Nat.pow_add] at h
  have hb := bnd_pos f
  by_cases hd : D ≤ D'
  · have h1 : kept ≤ K * 2 ^ (D' - D) := k3 _ (by
      rw [Nat.mul_assoc, ← Nat.pow_add, show D' - D + (D + (f.leastPlace - c).toNat) = D' + (f.leastPlace - c).toNat by omega]; exact h)
    by_cases hj : D' = D
    · subst hj; rw [Nat.sub_self, Nat.pow_zero, Nat.mul_one] at h1; omega
    · have h2 := hD' (by omega)
      have h3 : (D + 1) * f.binade ≤ D' * f.binade := Nat.mul_le_mul_right _ (by omega)
      rw [Nat.add_mul, Nat.one_mul] at h3
      omega
  · exfalso
    have h1 := k6 (by omega)
    have h2 : 2 * f.binade * 2 ^ (D' + (f.leastPlace - c).toNat) ≤ f.binade * 2 ^ (D + (f.leastPlace - c).toNat) := by
      rw [Nat.mul_comm 2 f.binade, Nat.mul_assoc, ← Nat.pow_succ']
      exact Nat.mul_le_mul_left _ (Nat.pow_le_pow_right (by decide) (by omega))
    have h3 : K * 2 ^ (D' + (f.leastPlace - c).toNat) < 2 * f.binade * 2 ^ (D' + (f.leastPlace - c).toNat) := Nat.mul_lt_mul_of_pos_right hK (Nat.two_pow_pos _)
    omega

theorem rungOf_ge (mag : Nat) (place c : Int) (r : Nat) (hc : c ≤ place) (hl : c ≤ f.leastPlace) (hr : r ≤ f.infRung) (h : mgr f r * 2 ^ (f.leastPlace - c).toNat ≤ mag * 2 ^ (place - c).toNat) : r ≤ rungOf f mag place := by
  by_cases h0 : mag = 0
  · subst h0
    rw [Nat.zero_mul] at h
    have h1 : mgr f r = 0 := by
      rcases Nat.eq_zero_or_pos (mgr f r) with h1 | h1
      · exact h1
      · have := Nat.mul_pos h1 (Nat.two_pow_pos (f.leastPlace - c).toNat); omega
    obtain ⟨D', K, rfl, e', hK, hD'⟩ := rung_parts f r
    rw [e'] at h1
    have hb := bnd_pos f
    rcases Nat.mul_eq_zero.1 h1 with h2 | h2
    · subst h2
      rcases Nat.eq_zero_or_pos D' with h3 | h3
      · subst h3; simp
      · have := hD' h3; omega
    · have := Nat.two_pow_pos D'; omega
  obtain ⟨D, kept, e, k1, k2, k3, k4, k5, k6⟩ := rungOf_parts f mag place c h0 hc hl
  obtain ⟨D', K, rfl, e', hK, hD'⟩ := rung_parts f r
  rw [e]
  refine Nat.le_min.2 ⟨?_, hr⟩
  rw [e', Nat.mul_assoc, ← Nat.pow_add] at h
  have hb := bnd_pos f
  by_cases hd : D' ≤ D
  · by_cases hj : D' = D
    · subst hj
      have := k4 K h
      omega
    · have h2 := k2 (by omega)
      have h3 : (D' + 1) * f.binade ≤ D * f.binade := Nat.mul_le_mul_right _ (by omega)
      rw [Nat.add_mul, Nat.one_mul] at h3
      omega
  · exfalso
    have h1 := hD' (by omega)
    have h2 : 2 * f.binade * 2 ^ (D + (f.leastPlace - c).toNat) ≤ f.binade * 2 ^ (D' + (f.leastPlace - c).toNat) := by
      rw [Nat.mul_comm 2 f.binade, Nat.mul_assoc, ← Nat.pow_succ']
      exact Nat.mul_le_mul_left _ (Nat.pow_le_pow_right (by decide) (by omega))
    have h3 : f.binade * 2 ^ (D' + (f.leastPlace - c).toNat) ≤ K * 2 ^ (D' + (f.leastPlace - c).toNat) := Nat.mul_le_mul_right _ h1
    omega

/-! ### Words and their values -/

/-- The value of a finite word, in units of the least place. -/
def fv (w : Nat) : Int := if (w / f.signWeight % 2 == 1) = true then -(mgr f (w % f.signWeight) : Int) else (mgr f (w % f.signWeight) : Int)

theorem word_mod (neg : Bool) (q : Nat) (h : q < f.signWeight) : f.word neg q % f.signWeight = q := by
  unfold Ieee.Format.word
  cases neg
  · simpa using Nat.mod_eq_of_lt h
  · simpa using Nat.mod_eq_of_lt h
theorem word_neg (neg : Bool) (q : Nat) (h : q < f.signWeight) : (f.word neg q / f.signWeight % 2 == 1) = neg := by
  have hp : 0 < f.signWeight := by omega
  unfold Ieee.Format.word
  cases neg
  · simp [Nat.div_eq_of_lt h]
  · have : (f.signWeight + q) / f.signWeight = 1 := by rw [Nat.add_div_left _ hp, Nat.div_eq_of_lt h]
    simp [this]

theorem fv_word (neg : Bool) (q : Nat) (h : q < f.signWeight) : fv f (f.word neg q) = if neg then -(mgr f q : Int) else (mgr f q : Int) := by
  unfold fv
  rw [word_neg f neg q h, word_mod f neg q h]

theorem read_fin (w : Nat) (h : w % f.signWeight < f.infRung) :
    ∃ m i, f.read w = .number (w / f.signWeight % 2 == 1) m i ∧ f.leastPlace ≤ i ∧ m * 2 ^ (i - f.leastPlace).toNat = mgr f (w % f.signWeight) := by
  unfold Ieee.Format.read
  simp only
  by_cases h1 : w % f.signWeight < f.binade
  · exact ⟨_, _, by rw [if_pos h1], Int.le_refl _, by simp [mgr, h1]⟩
  · refine ⟨_, _, by rw [if_neg h1, if_pos h], by omega, ?_⟩
    rw [mgr, if_neg h1]
    congr 2
    omega

/-- A value that the format has. -/
def Rep (v : Int) : Prop := ∃ r, r < f.infRung ∧ v.natAbs = mgr f r

theorem rep_neg {v : Int} (h : Rep f v) : Rep f (-v) := by
  obtain ⟨r, h1, h2⟩ := h
  exact ⟨r, h1, by rw [Int.natAbs_neg]; exact h2⟩
theorem rep_fv {w : Nat} (h : w % f.signWeight < f.infRung) : Rep f (fv f w) := by
  refine ⟨_, h, ?_⟩
  unfold fv
  split <;> simp

theorem signed_eq (neg : Bool) (m u : Nat) : Ieee.signed neg m u = if neg then -((m * 2 ^ u : Nat) : Int) else ((m * 2 ^ u : Nat) : Int) := by
  unfold Ieee.signed
  rw [Nat.shiftLeft_eq]

theorem nonneg_of_mul {a : Int} {U : Nat} (hU : 0 < U) (h : 0 ≤ a * (U : Int)) : 0 ≤ a := by
  rcases Int.lt_or_le a 0 with hn | hp
  · have : a * (U : Int) < 0 := Int.mul_neg_of_neg_of_pos hn (by omega)
    omega
  · exact hp

/-- Rounding keeps representable bounds. -/
theorem write_within (neg : Bool) (mag : Nat) (place c L H : Int) (hc : c ≤ place) (hl : c ≤ f.leastPlace) (hL : Rep f L) (hH : Rep f H)
    (h1 : L * ((2 ^ (f.leastPlace - c).toNat : Nat) : Int) ≤ Ieee.signed neg mag (place - c).toNat) (h2 : Ieee.signed neg mag (place - c).toNat ≤ H * ((2 ^ (f.leastPlace - c).toNat : Nat) : Int)) :
    f.write (.number neg mag place) % f.signWeight < f.infRung ∧ L ≤ fv f (f.write (.number neg mag place)) ∧ fv f (f.write (.number neg mag place)) ≤ H := by
  have hi := f.infRung_lt
  have hw : f.write (.number neg mag place) = f.word neg (rungOf f mag place) := nearest_rung f neg mag place
  obtain ⟨rL, hrL, eL⟩ := hL
  obtain ⟨rH, hrH, eH⟩ := hH
  have hp : 0 < 2 ^ (f.leastPlace - c).toNat := Nat.two_pow_pos _
  rw [signed_eq] at h1 h2
  rw [hw]
  have UP : ∀ (v : Int) (r : Nat), v = (mgr f r : Int) → ((mag * 2 ^ (place - c).toNat : Nat) : Int) ≤ v * ((2 ^ (f.leastPlace - c).toNat : Nat) : Int) → rungOf f mag place ≤ r := by
    intro v r hv h
    refine rungOf_le f mag place c r hc hl ?_
    rw [hv, ← Int.natCast_mul] at h
    exact Int.ofNat_le.1 h
  have DN : ∀ (v : Int) (r : Nat), r < f.infRung → v = (mgr f r : Int) → v * ((2 ^ (f.leastPlace - c).toNat : Nat) : Int) ≤ ((mag * 2 ^ (place - c).toNat : Nat) : Int) → r ≤ rungOf f mag place := by
    intro v r hr hv h
    refine rungOf_ge f mag place c r hc hl (Nat.le_of_lt hr) ?_
    rw [hv, ← Int.natCast_mul] at h
    exact Int.ofNat_le.1 h
  cases neg with
  | false =>
    simp only [Bool.false_eq_true, if_false] at h1 h2
    have hH0 : 0 ≤ H := nonneg_of_mul hp (Int.le_trans (Int.natCast_nonneg _) h2)
    have k1 := UP H rH (by omega) h2
    have hq : rungOf f mag place < f.signWeight := by omega
    rw [fv_word f false _ hq, word_mod f false _ hq]
    simp only [Bool.false_eq_true, if_false]
    refine ⟨by omega, ?_, ?_⟩
    · rcases Int.lt_or_le L 0 with hn | hpos
      · omega
      · have k2 := DN L rL hrL (by omega) h1
        have := mgr_mono f k2
        omega
    · have := mgr_mono f k1
      omega
  | true =>
    simp only [if_true] at h1 h2
    have hL0 : 0 ≤ -L := by
      refine nonneg_of_mul hp ?_
      rw [Int.neg_mul]
      omega
    have k1 := UP (-L) rL (by omega) (by rw [Int.neg_mul]; omega)
    have hq : rungOf f mag place < f.signWeight := by omega
    rw [fv_word f true _ hq, word_mod f true _ hq]
    simp only [if_true]
    refine ⟨by omega, ?_, ?_⟩
    · have := mgr_mono f k1
      omega
    · rcases Int.lt_or_le H 0 with hn | hpos
      · have k2 := DN (-H) rH hrH (by omega) (by rw [Int.neg_mul]; omega)
        have := mgr_mono f k2
        omega
      · omega

theorem inf_parts : f.infRung = (2 ^ f.exponentBits - 1) * f.binade := rfl

/-- Few digits at a small place: the format has it. -/
theorem rep_of (_ : 1 ≤ f.fractionBits) (K j : Nat) (hK : K < 2 * f.binade) (hj : j + 3 ≤ 2 ^ f.exponentBits) : Rep f ((K * 2 ^ j : Nat) : Int) := by
  have hb := bnd_pos f
  have key : ∀ j K : Nat, K < 2 * f.binade → ∃ D K', D ≤ j ∧ K' < 2 * f.binade ∧ (0 < D → f.binade ≤ K') ∧ K * 2 ^ j = K' * 2 ^ D := by
    intro j
    induction j with
    | zero => intro K h; exact ⟨0, K, Nat.le_refl _, h, by omega, rfl⟩
    | succ j ih =>
      intro K h
      by_cases h1 : f.binade ≤ K
      · exact ⟨j + 1, K, Nat.le_refl _, h, fun _ => h1, rfl⟩
      · obtain ⟨D, K', a, b, c, d⟩ := ih (2 * K) (by omega)
        refine ⟨D, K', by omega, b, c, ?_⟩
        rw [← d, Nat.pow_succ]
        ac_rfl
  obtain ⟨D, K', a, b, c, d⟩ := key j K hK
  refine ⟨D * f.binade + K', ?_, ?_⟩
  · rw [inf_parts]
    have h1 : (D + 2) * f.binade ≤ (2 ^ f.exponentBits - 1) * f.binade := Nat.mul_le_mul_right _ (by omega)
    rw [Nat.add_mul] at h1
    omega
  · rw [d, Int.natAbs_natCast, mgr_parts f D K' (by omega) c]

theorem rep_pow (hb1 : 1 ≤ f.fractionBits) (j : Nat) (hj : j + 3 ≤ 2 ^ f.exponentBits) : Rep f ((2 ^ j : Nat) : Int) := by
  have := rep_of f hb1 1 j (by have := bnd_pos f; omega) hj
  simpa using this
end

/-! ### Read floats -/

/-- x is finite, and its value is v. -/
def IsV (k : FloatKind) (x : Option Nat) (v : Int) : Prop := ∃ b, x = some b ∧ b % k.format.signWeight < k.format.infRung ∧ fv k.format b = v

theorem IsV.rep {k : FloatKind} {x : Option Nat} {v : Int} (h : IsV k x v) : Rep k.format v := by
  obtain ⟨b, _, h1, rfl⟩ := h
  exact rep_fv _ h1

theorem IsV.read {k : FloatKind} {x : Option Nat} {v : Int} (h : IsV k x v) : ∃ b s m i, x = some b ∧ k.format.read b = .number s m i ∧ k.format.leastPlace ≤ i ∧ Ieee.signed s m (i - k.format.leastPlace).toNat = v := by
  obtain ⟨b, h1, h2, h3⟩ := h
  obtain ⟨m, i, e1, e2, e3⟩ := read_fin k.format b h2
  refine ⟨b, _, m, i, h1, e1, e2, ?_⟩
  rw [signed_eq, ← h3, fv, e3]

theorem IsV.val {k : FloatKind} {x : Option Nat} {v w : Int} (h : IsV k x v) (h' : IsV k x w) : v = w := by
  obtain ⟨b, h1, h2, h3⟩ := h
  obtain ⟨c, k1, k2, k3⟩ := h'
  rw [h1] at k1; cases k1
  rw [← h3, ← k3]

theorem lp_neg (k : FloatKind) : k.format.leastPlace ≤ 0 := by cases k <;> decide

theorem signed_opp (s : Bool) (m u : Nat) : Ieee.signed (!s) m u = -Ieee.signed s m u := by
  rw [signed_eq, signed_eq]; cases s <;> simp

theorem sum_within (k : FloatKind) (s t : Bool) (m n : Nat) (i j L H : Int) (hi : k.format.leastPlace ≤ i) (hj : k.format.leastPlace ≤ j) (hL : Rep k.format L) (hH : Rep k.format H)
    (h1 : L ≤ Ieee.signed s m (i - k.format.leastPlace).toNat + Ieee.signed t n (j - k.format.leastPlace).toNat) (h2 : Ieee.signed s m (i - k.format.leastPlace).toNat + Ieee.signed t n (j - k.format.leastPlace).toNat ≤ H) :
    ∃ v, IsV k (((Ieee.Datum.number s m i).sum (.number t n j)).map k.format.write) v ∧ L ≤ v ∧ v ≤ H := by
  simp only [Ieee.Datum.sum, Option.map_some]
  have hsh : ∀ (s : Bool) (m : Nat) (i b : Int), k.format.leastPlace ≤ b → b ≤ i → Ieee.signed s m (i - k.format.leastPlace).toNat = Ieee.signed s m (i - b).toNat * ((2 ^ (b - k.format.leastPlace).toNat : Nat) : Int) := by
    intro s m i b hb1 hb2
    rw [signed_eq, signed_eq, show (i - k.format.leastPlace).toNat = (i - b).toNat + (b - k.format.leastPlace).toNat by omega, Nat.pow_add, ← Nat.mul_assoc, Int.natCast_mul]
    cases s <;> simp [Int.neg_mul]
  rw [hsh s m i (min i j) (by omega) (by omega), hsh t n j (min i j) (by omega) (by omega), ← Int.add_mul] at h1 h2
  generalize Ieee.signed s m (i - min i j).toNat + Ieee.signed t n (j - min i j).toNat = T at h1 h2
  have hT : Ieee.signed (if T = 0 then s && t else decide (T < 0)) T.natAbs (min i j - k.format.leastPlace).toNat = T * ((2 ^ (min i j - k.format.leastPlace).toNat : Nat) : Int) := by
    rw [signed_eq]
    by_cases h0 : T = 0
    · subst h0; simp
    · rw [if_neg h0]
      by_cases hn : T < 0
      · have e : T = -(T.natAbs : Int) := by omega
        simp only [hn, decide_true, if_true]
        rw [Int.natCast_mul]
        generalize T.natAbs = a at e
        rw [e, Int.neg_mul]
      · have e : T = (T.natAbs : Int) := by omega
        simp only [hn, decide_false, Bool.false_eq_true, if_false]
        rw [Int.natCast_mul]
        generalize T.natAbs = a at e
        rw [e]
  have hz : (k.format.leastPlace - k.format.leastPlace).toNat = 0 := by simp
  have := write_within k.format (if T = 0 then s && t else decide (T < 0)) T.natAbs (min i j) k.format.leastPlace L H (by omega) (Int.le_refl _) hL hH
    (by rw [hz, hT]; simpa using h1) (by rw [hz, hT]; simpa using h2)
  exact ⟨_, ⟨_, rfl, this.1, rfl⟩, this.2.1, this.2.2⟩

theorem add_within {k : FloatKind} {x y : Option Nat} {a b : Int} (hx : IsV k x a) (hy : IsV k y b) {L H : Int} (hL : Rep k.format L) (hH : Rep k.format H) (h1 : L ≤ a + b) (h2 : a + b ≤ H) :
    ∃ v, IsV k (fop .add k x y) v ∧ L ≤ v ∧ v ≤ H := by
  obtain ⟨p, s, m, i, rfl, e1, hi, ea⟩ := hx.read
  obtain ⟨q, t, n, j, rfl, e2, hj, eb⟩ := hy.read
  have : fop .add k (some p) (some q) = ((k.format.read p).sum (k.format.read q)).map k.format.write := rfl
  rw [this, e1, e2]
  exact sum_within k s t m n i j L H hi hj hL hH (by rw [ea, eb]; exact h1) (by rw [ea, eb]; exact h2)

theorem sub_within {k : FloatKind} {x y : Option Nat} {a b : Int} (hx : IsV k x a) (hy : IsV k y b) {L H : Int} (hL : Rep k.format L) (hH : Rep k.format H) (h1 : L ≤ a - b) (h2 : a - b ≤ H) :
    ∃ v, IsV k (fop .sub k x y) v ∧ L ≤ v ∧ v ≤ H := by
  obtain ⟨p, s, m, i, rfl, e1, hi, ea⟩ := hx.read
  obtain ⟨q, t, n, j, rfl, e2, hj, eb⟩ := hy.read
  have : fop .sub k (some p) (some q) = ((k.format.read p).sum (k.format.read q).opposite).map k.format.write := rfl
  rw [this, e1, e2]
  exact sum_within k s (!t) m n i j L H hi hj hL hH (by rw [ea, signed_opp, eb]; omega) (by rw [ea, signed_opp, eb]; omega)

/-- 1 in units of the least place. -/
def unit (k : FloatKind) : Nat := 2 ^ (-k.format.leastPlace).toNat

theorem signed_mul (s t : Bool) (m n u v : Nat) : Ieee.signed (s ^^ t) (m * n) (u + v) = Ieee.signed s m u * Ieee.signed t n v := by
  rw [signed_eq, signed_eq, signed_eq, show m * n * 2 ^ (u + v) = (m * 2 ^ u) * (n * 2 ^ v) by rw [Nat.pow_add]; ac_rfl, Int.natCast_mul]
  cases s <;> cases t <;> simp [Int.neg_mul, Int.mul_neg]

theorem mul_within {k : FloatKind} {x y : Option Nat} {a b : Int} (hx : IsV k x a) (hy : IsV k y b) {L H : Int} (hL : Rep k.format L) (hH : Rep k.format H) (h1 : L * (unit k : Int) ≤ a * b) (h2 : a * b ≤ H * (unit k : Int)) :
    ∃ v, IsV k (fop .mul k x y) v ∧ L ≤ v ∧ v ≤ H := by
  obtain ⟨p, s, m, i, rfl, e1, hi, ea⟩ := hx.read
  obtain ⟨q, t, n, j, rfl, e2, hj, eb⟩ := hy.read
  have : fop .mul k (some p) (some q) = ((k.format.read p).product (k.format.read q)).map k.format.write := rfl
  rw [this, e1, e2]
  simp only [Ieee.Datum.product, Option.map_some]
  have hn := lp_neg k
  have hu : (k.format.leastPlace - (k.format.leastPlace + k.format.leastPlace)).toNat = (-k.format.leastPlace).toNat := by omega
  have hs : Ieee.signed (s ^^ t) (m * n) (i + j - (k.format.leastPlace + k.format.leastPlace)).toNat = a * b := by
    rw [← ea, ← eb, ← signed_mul]
    congr 1
    omega
  have := write_within k.format (s ^^ t) (m * n) (i + j) (k.format.leastPlace + k.format.leastPlace) L H (by omega) (by omega) hL hH
    (by rw [hu, hs]; exact h1) (by rw [hu, hs]; exact h2)
  exact ⟨_, ⟨_, rfl, this.1, rfl⟩, this.2.1, this.2.2⟩

theorem ford_val {k : FloatKind} {x y : Option Nat} {a b : Int} (hx : IsV k x a) (hy : IsV k y b) : ford k x y = some (compare a b) := by
  obtain ⟨p, s, m, i, rfl, e1, hi, ea⟩ := hx.read
  obtain ⟨q, t, n, j, rfl, e2, hj, eb⟩ := hy.read
  show k.format.order p q = _
  unfold Ieee.Format.order
  rw [e1, e2]
  simp only [Ieee.Datum.order]
  congr 1
  have hsh : ∀ (s : Bool) (m : Nat) (i b : Int), k.format.leastPlace ≤ b → b ≤ i → Ieee.signed s m (i - k.format.leastPlace).toNat = Ieee.signed s m (i - b).toNat * ((2 ^ (b - k.format.leastPlace).toNat : Nat) : Int) := by
    intro s m i b hb1 hb2
    rw [signed_eq, signed_eq, show (i - k.format.leastPlace).toNat = (i - b).toNat + (b - k.format.leastPlace).toNat by omega, Nat.pow_add, ← Nat.mul_assoc, Int.natCast_mul]
    cases s <;> simp [Int.neg_mul]
  rw [hsh s m i (min i j) (by omega) (by omega)] at ea
  rw [hsh t n j (min i j) (by omega) (by omega)] at eb
  rw [← ea, ← eb]
  have hp : 0 < 2 ^ (min i j - k.format.leastPlace).toNat := Nat.two_pow_pos _
  generalize Ieee.signed s m (i - min i j).toNat = A
  generalize Ieee.signed t n (j - min i j).toNat = B
  generalize 2 ^ (min i j - k.format.leastPlace).toNat = U at hp
  have hU : (0 : Int) < (U : Int) := by omega
  rcases Int.lt_trichotomy A B with h | h | h
  · rw [Int.compare_eq_lt.2 h, Int.compare_eq_lt.2 (Int.mul_lt_mul_of_pos_right h hU)]
  · rw [h]; simp
  · rw [Int.compare_eq_gt.2 h, Int.compare_eq_gt.2 (Int.mul_lt_mul_of_pos_right h hU)]

/-! ## Mag2 -/
/-- A quotient that is not whole bears a last digit 1: bounds above. -/
theorem sticky_le (n D K M : Nat) (hn : 0 < n) (h : D ≤ M * n) (hK : K = 2 * (D / n) + (D % n != 0).toNat) : K ≤ 2 * M := by
  have h1 := Nat.div_add_mod D n
  have h2 := Nat.mod_lt D hn
  generalize D / n = q at h1 hK
  generalize D % n = s at h1 h2 hK
  by_cases hz : s = 0
  · subst hz
    have : n * q ≤ n * M := by rw [Nat.mul_comm n M]; omega
    have := Nat.le_of_mul_le_mul_left this hn
    simp at hK
    omega
  · have : n * q < n * M := by rw [Nat.mul_comm n M]; omega
    have := Nat.lt_of_mul_lt_mul_left this
    have hb : ∀ b : Bool, b.toNat ≤ 1 := by decide
    have := hb (s != 0)
    omega
theorem le_sticky (n D K M : Nat) (hn : 0 < n) (h : M * n ≤ D) (hK : K = 2 * (D / n) + (D % n != 0).toNat) : 2 * M ≤ K := by
  have := (Nat.le_div_iff_mul_le hn).2 h
  omega

section
variable (f : Ieee.Format)

theorem mgr_zero {r : Nat} (h : mgr f r = 0) : r = 0 := by
  obtain ⟨D, K, rfl, e, hK, hD⟩ := rung_parts f r
  rw [e] at h
  have hb := bnd_pos f
  rcases Nat.mul_eq_zero.1 h with h2 | h2
  · subst h2
    rcases Nat.eq_zero_or_pos D with h3 | h3
    · subst h3; simp
    · have := hD h3; omega
  · have := Nat.two_pow_pos D; omega

theorem rung_within (neg : Bool) (q : Nat) (L H : Int) (hL : Rep f L) (hH : Rep f H)
    (hup : ∀ r, r < f.infRung → (if neg then -L else H) = (mgr f r : Int) → q ≤ r)
    (hdn : ∀ r, r < f.infRung → (if neg then -H else L) = (mgr f r : Int) → r ≤ q)
    (h0 : 0 ≤ if neg then -L else H) :
    f.word neg q % f.signWeight < f.infRung ∧ L ≤ fv f (f.word neg q) ∧ fv f (f.word neg q) ≤ H := by
  have hi := f.infRung_lt
  obtain ⟨rL, hrL, eL⟩ := hL
  obtain ⟨rH, hrH, eH⟩ := hH
  cases neg with
  | false =>
    simp only [Bool.false_eq_true, if_false] at hup hdn h0
    have k1 := hup rH hrH (by omega)
    have hq : q < f.signWeight := by omega
    rw [fv_word f false _ hq, word_mod f false _ hq]
    simp only [Bool.false_eq_true, if_false]
    refine ⟨by omega, ?_, ?_⟩
    · rcases Int.lt_or_le L 0 with hn | hpos
      · omega
      · have := mgr_mono f (hdn rL hrL (by omega))
        omega
    · have := mgr_mono f k1
      omega
  | true =>
    simp only [if_true] at hup hdn h0
    have k1 := hup rL hrL (by omega)
    have hq : q < f.signWeight := by omega
    rw [fv_word f true _ hq, word_mod f true _ hq]
    simp only [if_true]
    refine ⟨by omega, ?_, ?_⟩
    · have := mgr_mono f k1
      omega
    · rcases Int.lt_or_le H 0 with hn | hpos
      · have := mgr_mono f (hdn rH hrH (by omega))
        omega
      · omega

theorem quot_rung_le (m n : Nat) (i j : Int) (r : Nat) (hm : m ≠ 0) (hn : n ≠ 0) (hi : f.leastPlace ≤ i) (hj : f.leastPlace ≤ j) (hl : f.leastPlace ≤ 0)
    (h : m * 2 ^ (i - f.leastPlace).toNat * 2 ^ (-f.leastPlace).toNat ≤ mgr f r * (n * 2 ^ (j - f.leastPlace).toNat)) (more : Nat) (hmore : more = f.fractionBits + 2 + n.log2 - m.log2) :
    rungOf f (2 * ((m <<< more) / n) + ((m <<< more) % n != 0).toNat) (i - j - (more : Int) - 1) ≤ r := by
  obtain ⟨D, K, rfl, e, hK, hD⟩ := rung_parts f r
  obtain ⟨A, hA⟩ : ∃ A, A = (i - f.leastPlace).toNat + (-f.leastPlace).toNat := ⟨_, rfl⟩
  obtain ⟨B, hB⟩ : ∃ B, B = (j - f.leastPlace).toNat := ⟨_, rfl⟩
  rw [Nat.mul_assoc, ← Nat.pow_add, ← hA, ← hB, e] at h
  have hn0 : 0 < n := by omega
  have hpA : 0 < 2 ^ A := Nat.two_pow_pos _
  have h' : m <<< more * 2 ^ A ≤ K * n * 2 ^ (D + B + more) := by
    rw [Nat.shiftLeft_eq]
    calc m * 2 ^ more * 2 ^ A = m * 2 ^ A * 2 ^ more := by ac_rfl
      _ ≤ K * 2 ^ D * (n * 2 ^ B) * 2 ^ more := Nat.mul_le_mul_right _ h
      _ = _ := by rw [Nat.pow_add, Nat.pow_add]; ac_rfl
  by_cases hc : A ≤ D + B + more
  · have h1 : m <<< more ≤ K * 2 ^ (D + B + more - A) * n := by
      refine Nat.le_of_mul_le_mul_right ?_ hpA
      rw [show D + B + more = (D + B + more - A) + A by omega, Nat.pow_add] at h'
      calc m <<< more * 2 ^ A ≤ _ := h'
        _ = _ := by ac_rfl
    have h2 := sticky_le n (m <<< more) _ (K * 2 ^ (D + B + more - A)) hn0 h1 rfl
    refine rungOf_le f _ _ (min (i - j - (more : Int) - 1) f.leastPlace) _ (by omega) (by omega) ?_
    rw [e]
    refine Nat.le_trans (Nat.mul_le_mul_right _ h2) (Nat.le_of_eq ?_)
    rw [Nat.mul_assoc K, ← Nat.pow_add, ← Nat.mul_assoc 2 K, Nat.mul_comm 2 K, Nat.mul_assoc K, ← Nat.pow_succ', Nat.mul_assoc K, ← Nat.pow_add]
    congr 2
    omega
  · exfalso
    have hm0 : 2 ^ m.log2 ≤ m := Nat.log2_self_le hm
    have hn1 : n < 2 ^ (n.log2 + 1) := Nat.lt_log2_self
    have hbin : f.binade = 2 ^ f.fractionBits := rfl
    have h1 : m <<< more ≤ K * n := by
      refine Nat.le_of_mul_le_mul_right (Nat.le_trans ?_ h') (Nat.two_pow_pos (D + B + more))
      exact Nat.mul_le_mul_left _ (Nat.pow_le_pow_right (by decide) (by omega))
    have h2 : 2 ^ (f.fractionBits + 1) * 2 ^ (n.log2 + 1) ≤ m <<< more := by
      rw [Nat.shiftLeft_eq, ← Nat.pow_add]
      refine Nat.le_trans ?_ (Nat.mul_le_mul_right _ hm0)
      rw [← Nat.pow_add]
      exact Nat.pow_le_pow_right (by decide) (by omega)
    have h3 : K * n < 2 ^ (f.fractionBits + 1) * 2 ^ (n.log2 + 1) := by
      refine Nat.mul_lt_mul_of_lt_of_le (by rw [Nat.pow_succ, Nat.mul_comm, ← hbin]; exact hK) (Nat.le_of_lt hn1) (Nat.two_pow_pos _)
    omega

theorem quot_rung_ge (m n : Nat) (i j : Int) (r : Nat) (hm : m ≠ 0) (hn : n ≠ 0) (hi : f.leastPlace ≤ i) (hj : f.leastPlace ≤ j) (hl : f.leastPlace ≤ 0) (hr : r ≤ f.infRung)
    (h : mgr f r * (n * 2 ^ (j - f.leastPlace).toNat) ≤ m * 2 ^ (i - f.leastPlace).toNat * 2 ^ (-f.leastPlace).toNat) (more : Nat) (hmore : more = f.fractionBits + 2 + n.log2 - m.log2) :
    r ≤ rungOf f (2 * ((m <<< more) / n) + ((m <<< more) % n != 0).toNat) (i - j - (more : Int) - 1) := by
  refine rungOf_ge f _ _ (min (i - j - (more : Int) - 1) f.leastPlace) _ (by omega) (by omega) hr ?_
  obtain ⟨D, K, rfl, e, hK, hD⟩ := rung_parts f r
  obtain ⟨A, hA⟩ : ∃ A, A = (i - f.leastPlace).toNat + (-f.leastPlace).toNat := ⟨_, rfl⟩
  obtain ⟨B, hB⟩ : ∃ B, B = (j - f.leastPlace).toNat := ⟨_, rfl⟩
  rw [Nat.mul_assoc m, ← Nat.pow_add, ← hA, ← hB, e] at h
  rw [e]
  have hn0 : 0 < n := by omega
  have hpA : 0 < 2 ^ A := Nat.two_pow_pos _
  by_cases hc : A ≤ D + B + more
  · have h1 : K * 2 ^ (D + B + more - A) * n ≤ m <<< more := by
      refine Nat.le_of_mul_le_mul_right ?_ hpA
      rw [Nat.shiftLeft_eq]
      calc K * 2 ^ (D + B + more - A) * n * 2 ^ A = K * n * 2 ^ (D + B + more - A + A) := by rw [Nat.pow_add]; ac_rfl
        _ = K * 2 ^ D * (n * 2 ^ B) * 2 ^ more := by rw [show D + B + more - A + A = D + B + more by omega, Nat.pow_add, Nat.pow_add]; ac_rfl
        _ ≤ m * 2 ^ A * 2 ^ more := Nat.mul_le_mul_right _ h
        _ = _ := by ac_rfl
    have h2 := le_sticky n (m <<< more) _ (K * 2 ^ (D + B + more - A)) hn0 h1 rfl
    refine Nat.le_trans (Nat.le_of_eq ?_) (Nat.mul_le_mul_right _ h2)
    rw [Nat.mul_assoc K, ← Nat.pow_add, ← Nat.mul_assoc 2 K, Nat.mul_comm 2 K, Nat.mul_assoc K, ← Nat.pow_succ', Nat.mul_assoc K, ← Nat.pow_add]
    congr 2
    omega
  · have hm0 : 2 ^ m.log2 ≤ m := Nat.log2_self_le hm
    have hn1 : n < 2 ^ (n.log2 + 1) := Nat.lt_log2_self
    have hbin : f.binade = 2 ^ f.fractionBits := rfl
    have h2 : 2 ^ (f.fractionBits + 1) * n ≤ m <<< more := by
      rw [Nat.shiftLeft_eq]
      refine Nat.le_trans (Nat.mul_le_mul_left _ (Nat.le_of_lt hn1)) (Nat.le_trans ?_ (Nat.mul_le_mul_right _ hm0))
      rw [← Nat.pow_add, ← Nat.pow_add]
      exact Nat.pow_le_pow_right (by decide) (by omega)
    have h3 := le_sticky n (m <<< more) _ (2 ^ (f.fractionBits + 1)) hn0 h2 rfl
    have hK2 : K ≤ 2 * 2 ^ (f.fractionBits + 1) := by
      rw [Nat.pow_succ, ← hbin]; omega
    rw [Nat.mul_assoc, ← Nat.pow_add]
    refine Nat.mul_le_mul (Nat.le_trans hK2 h3) (Nat.pow_le_pow_right (by decide) (by omega))
end

theorem natAbs_signed (s : Bool) (m u : Nat) : (Ieee.signed s m u).natAbs = m * 2 ^ u := by
  rw [signed_eq]; cases s
  · simp only [Bool.false_eq_true, if_false, Int.natAbs_natCast]
  · simp only [if_true, Int.natAbs_neg, Int.natAbs_natCast]

theorem div_within {k : FloatKind} {x y : Option Nat} {a b : Int} (hx : IsV k x a) (hy : IsV k y b) (hb : 0 < b) {L H : Int} (hL : Rep k.format L) (hH : Rep k.format H) (h1 : L * b ≤ a * (unit k : Int)) (h2 : a * (unit k : Int) ≤ H * b) :
    ∃ v, IsV k (fop .quo k x y) v ∧ L ≤ v ∧ v ≤ H := by
  obtain ⟨p, s, m, i, rfl, e1, hi, ea⟩ := hx.read
  obtain ⟨q, t, n, j, rfl, e2, hj, eb⟩ := hy.read
  have hq : fop .quo k (some p) (some q) = ((k.format.read p).quotient (k.format.fractionBits + 2) (k.format.read q)).map k.format.write := rfl
  rw [hq, e1, e2]
  have hl := lp_neg k
  have hn : n ≠ 0 := by
    intro h0
    subst h0
    rw [signed_eq] at eb
    cases t <;> simp at eb <;> omega
  simp only [Ieee.Datum.quotient, if_neg hn, Option.map_some]
  have ht : t = false := by
    cases t with
    | false => rfl
    | true => rw [signed_eq] at eb; simp only [if_true] at eb; omega
  subst ht
  have eb' : b = ((n * 2 ^ (j - k.format.leastPlace).toNat : Nat) : Int) := by rw [← eb, signed_eq]; simp only [Bool.false_eq_true, if_false]
  have ea' : a = if s then -((m * 2 ^ (i - k.format.leastPlace).toNat : Nat) : Int) else ((m * 2 ^ (i - k.format.leastPlace).toNat : Nat) : Int) := by rw [← ea, signed_eq]
  rw [Bool.xor_false]
  obtain ⟨more, hmore⟩ : ∃ more, more = k.format.fractionBits + 2 + n.log2 - m.log2 := ⟨_, rfl⟩
  rw [← hmore]
  have hw : k.format.write (.number s (2 * ((m <<< more) / n) + ((m <<< more) % n != 0).toNat) (i - j - (more : Int) - 1)) = k.format.word s (rungOf k.format (2 * ((m <<< more) / n) + ((m <<< more) % n != 0).toNat) (i - j - (more : Int) - 1)) := nearest_rung _ _ _ _
  rw [hw]
  have nn : ∀ z : Int, 0 ≤ z * b → 0 ≤ z := by
    intro z hz
    rcases Int.lt_or_le z 0 with h | h
    · have := Int.mul_neg_of_neg_of_pos h hb; omega
    · exact h
  have up : ∀ (z : Int) (r : Nat), z = (mgr k.format r : Int) → ((m * 2 ^ (i - k.format.leastPlace).toNat : Nat) : Int) * (unit k : Int) ≤ z * b → rungOf k.format (2 * ((m <<< more) / n) + ((m <<< more) % n != 0).toNat) (i - j - (more : Int) - 1) ≤ r := by
    intro z r hz h
    by_cases hm : m = 0
    · subst hm; simp [rungOf]
    · refine quot_rung_le k.format m n i j r hm hn hi hj hl ?_ more hmore
      rw [hz, eb', ← Int.natCast_mul, ← Int.natCast_mul] at h
      exact Int.ofNat_le.1 h
  have dn : ∀ (z : Int) (r : Nat), r < k.format.infRung → z = (mgr k.format r : Int) → z * b ≤ ((m * 2 ^ (i - k.format.leastPlace).toNat : Nat) : Int) * (unit k : Int) → r ≤ rungOf k.format (2 * ((m <<< more) / n) + ((m <<< more) % n != 0).toNat) (i - j - (more : Int) - 1) := by
    intro z r hr hz h
    by_cases hm : m = 0
    · subst hm
      have hz0 : z = 0 := by
        rcases Int.lt_or_le 0 z with h3 | h3
        · have := Int.mul_pos h3 hb
          simp at h; omega
        · omega
      have : r = 0 := mgr_zero k.format (by omega)
      omega
    · refine quot_rung_ge k.format m n i j r hm hn hi hj hl (Nat.le_of_lt hr) ?_ more hmore
      rw [hz, eb', ← Int.natCast_mul, ← Int.natCast_mul] at h
      exact Int.ofNat_le.1 h
  have res : k.format.word s (rungOf k.format (2 * ((m <<< more) / n) + ((m <<< more) % n != 0).toNat) (i - j - (more : Int) - 1)) % k.format.signWeight < k.format.infRung ∧ L ≤ fv k.format (k.format.word s (rungOf k.format (2 * ((m <<< more) / n) + ((m <<< more) % n != 0).toNat) (i - j - (more : Int) - 1))) ∧ fv k.format (k.format.word s (rungOf k.format (2 * ((m <<< more) / n) + ((m <<< more) % n != 0).toNat) (i - j - (more : Int) - 1))) ≤ H := by
    have hmu : (0 : Int) ≤ ((m * 2 ^ (i - k.format.leastPlace).toNat : Nat) : Int) * (unit k : Int) := Int.mul_nonneg (Int.natCast_nonneg _) (Int.natCast_nonneg _)
    cases s with
    | false =>
      simp only [Bool.false_eq_true, if_false] at ea'
      rw [ea'] at h1 h2
      refine rung_within k.format false _ L H hL hH (fun r hr he => up H r (by simpa using he) h2) (fun r hr he => dn L r hr (by simpa using he) h1) ?_
      simp only [Bool.false_eq_true, if_false]
      exact nn H (Int.le_trans hmu h2)
    | true =>
      simp only [if_true] at ea'
      rw [ea', Int.neg_mul] at h1 h2
      refine rung_within k.format true _ L H hL hH (fun r hr he => up (-L) r (by simpa using he) (by rw [Int.neg_mul]; omega)) (fun r hr he => dn (-H) r hr (by simpa using he) (by rw [Int.neg_mul]; omega)) ?_
      simp only [if_true]
      exact nn (-L) (by rw [Int.neg_mul]; omega)
  exact ⟨_, ⟨_, rfl, res.1, rfl⟩, res.2.1, res.2.2⟩

/-! ### whole numbers, the other kind -/
theorem ofInt_within (k : FloatKind) (n L H : Int) (hL : Rep k.format L) (hH : Rep k.format H) (h1 : L ≤ n * (unit k : Int)) (h2 : n * (unit k : Int) ≤ H) :
    ∃ v, IsV k (some (floatOfInt k n)) v ∧ L ≤ v ∧ v ≤ H := by
  have hl := lp_neg k
  have e : Ieee.signed (decide (n < 0)) n.natAbs (0 - k.format.leastPlace).toNat = n * (unit k : Int) := by
    rw [signed_eq, show (0 - k.format.leastPlace).toNat = (-k.format.leastPlace).toNat by omega]
    unfold unit
    rw [Int.natCast_mul]
    by_cases hn : n < 0
    · have e : n = -(n.natAbs : Int) := by omega
      simp only [hn, decide_true, if_true]
      generalize n.natAbs = a at e
      rw [e, Int.neg_mul]
    · have e : n = (n.natAbs : Int) := by omega
      simp only [hn, decide_false, Bool.false_eq_true, if_false]
      generalize n.natAbs = a at e
      rw [e]
  have hz : (k.format.leastPlace - k.format.leastPlace).toNat = 0 := by simp
  have := write_within k.format (decide (n < 0)) n.natAbs 0 k.format.leastPlace L H (by omega) (Int.le_refl _) hL hH
    (by rw [hz, e]; simpa using h1) (by rw [hz, e]; simpa using h2)
  exact ⟨_, ⟨_, rfl, this.1, rfl⟩, this.2.1, this.2.2⟩

theorem fb_pos (k : FloatKind) : 1 ≤ k.format.fractionBits := by cases k <;> decide
theorem rep_nat (k : FloatKind) (K j : Nat) (hK : K < 2 * k.format.binade) (hj : j ≤ 253) : Rep k.format ((K * 2 ^ j : Nat) : Int) :=
  rep_of k.format (fb_pos k) K j hK (by
    have : 256 ≤ 2 ^ k.format.exponentBits := by cases k <;> decide
    omega)
theorem rep_nat64 (K j : Nat) (hK : K < 9007199254740992) (hj : j ≤ 2045) : Rep FloatKind.f64.format ((K * 2 ^ j : Nat) : Int) :=
  rep_of FloatKind.f64.format (by decide) K j (by rw [show 2 * Ieee.Format.binade FloatKind.f64.format = 9007199254740992 from by decide]; exact hK) (by
    rw [show 2 ^ Ieee.Format.exponentBits FloatKind.f64.format = 2048 from by decide]; omega)
theorem rep_nat32 (K j : Nat) (hK : K < 16777216) (hj : j ≤ 253) : Rep FloatKind.f32.format ((K * 2 ^ j : Nat) : Int) :=
  rep_of FloatKind.f32.format (by decide) K j (by rw [show 2 * Ieee.Format.binade FloatKind.f32.format = 16777216 from by decide]; exact hK) (by
    rw [show 2 ^ Ieee.Format.exponentBits FloatKind.f32.format = 256 from by decide]; omega)
theorem rep_zero (k : FloatKind) : Rep k.format 0 := by simpa using rep_nat k 0 0 (by have := bnd_pos k.format; omega) (by omega)

theorem isV_ofInt32 (n : Int) (hn : n.natAbs < 16777216) : IsV .f32 (some (floatOfInt .f32 n)) (n * (unit .f32 : Int)) := by
  have hr : Rep FloatKind.f32.format (n * (unit .f32 : Int)) := by
    have h : Rep FloatKind.f32.format ((n.natAbs * unit .f32 : Nat) : Int) := rep_nat32 n.natAbs (-Ieee.Format.leastPlace FloatKind.f32.format).toNat hn (by decide)
    rw [Int.natCast_mul] at h
    by_cases h0 : n < 0
    · have e : n * (unit .f32 : Int) = -((n.natAbs : Int) * (unit .f32 : Int)) := by rw [← Int.neg_mul]; congr 1; omega
      rw [e]; exact rep_neg _ h
    · have e : n * (unit .f32 : Int) = (n.natAbs : Int) * (unit .f32 : Int) := by congr 1; omega
      rw [e]; exact h
  obtain ⟨v, hv, h1, h2⟩ := ofInt_within .f32 n _ _ hr hr (Int.le_refl _) (Int.le_refl _)
  obtain rfl : v = n * (unit .f32 : Int) := by omega
  exact hv
theorem isV_ofInt64 (n : Int) (hn : n.natAbs < 9007199254740992) : IsV .f64 (some (floatOfInt .f64 n)) (n * (unit .f64 : Int)) := by
  have hr : Rep FloatKind.f64.format (n * (unit .f64 : Int)) := by
    have h : Rep FloatKind.f64.format ((n.natAbs * unit .f64 : Nat) : Int) := rep_nat64 n.natAbs (-Ieee.Format.leastPlace FloatKind.f64.format).toNat hn (by decide)
    rw [Int.natCast_mul] at h
    by_cases h0 : n < 0
    · have e : n * (unit .f64 : Int) = -((n.natAbs : Int) * (unit .f64 : Int)) := by rw [← Int.neg_mul]; congr 1; omega
      rw [e]; exact rep_neg _ h
    · have e : n * (unit .f64 : Int) = (n.natAbs : Int) * (unit .f64 : Int) := by congr 1; omega
      rw [e]; exact h
  obtain ⟨v, hv, h1, h2⟩ := ofInt_within .f64 n _ _ hr hr (Int.le_refl _) (Int.le_refl _)
  obtain rfl : v = n * (unit .f64 : Int) := by omega
  exact hv

/-- A float32's value in units of float64's least place: 2 ^ 925 times as much. -/
def e925 : Nat := 925
theorem e925_eq : 925 = e925 := rfl
def w925 : Nat := 2 ^ e925
theorem w925_pos : 0 < w925 := Nat.two_pow_pos e925
theorem pow_925 (a : Nat) : 2 ^ (a + 925) = 2 ^ a * w925 := by rw [e925_eq]; exact Nat.pow_add 2 a e925
theorem lp32 : FloatKind.f32.format.leastPlace = -149 := by decide
theorem lp64 : FloatKind.f64.format.leastPlace = -1074 := by decide

theorem wid_isV {x : Option Nat} {v : Int} (hx : IsV .f32 x v) : IsV .f64 (wid x) (v * (w925 : Int)) := by
  have hrep := hx.rep
  obtain ⟨p, s, m, i, rfl, e1, hi, ea⟩ := hx.read
  show IsV .f64 (some (Ieee.double.write (Ieee.single.read p))) _
  rw [show Ieee.single.read p = .number s m i from e1]
  rw [lp32] at hi ea
  have hr : Rep FloatKind.f64.format (v * (w925 : Int)) := by
    obtain ⟨r, hr, er⟩ := hrep
    obtain ⟨D, K, rfl, e, hK, hD⟩ := rung_parts FloatKind.f32.format r
    have hb : Ieee.Format.binade FloatKind.f32.format = 8388608 := by decide
    have hi : Ieee.Format.infRung FloatKind.f32.format = 2139095040 := by decide
    rw [hb] at hK hr
    rw [hi] at hr
    have h := rep_nat64 K (D + 925) (by omega) (by omega)
    rw [pow_925, ← Nat.mul_assoc, ← e, ← er, Int.natCast_mul] at h
    by_cases h0 : v < 0
    · have e : v * (w925 : Int) = -((v.natAbs : Int) * (w925 : Int)) := by rw [← Int.neg_mul]; congr 1; omega
      rw [e]; exact rep_neg _ h
    · have e : v * (w925 : Int) = (v.natAbs : Int) * (w925 : Int) := by congr 1; omega
      rw [e]; exact h
  have hs : Ieee.signed s m (i - FloatKind.f64.format.leastPlace).toNat = v * (w925 : Int) := by
    rw [← ea, signed_eq, signed_eq, lp64, show (i - -1074).toNat = (i - -149).toNat + 925 by omega, pow_925, ← Nat.mul_assoc, Int.natCast_mul]
    cases s <;> simp [Int.neg_mul]
  have hz : (FloatKind.f64.format.leastPlace - FloatKind.f64.format.leastPlace).toNat = 0 := by simp
  have := write_within FloatKind.f64.format s m i FloatKind.f64.format.leastPlace _ _ (by rw [lp64]; omega) (Int.le_refl _) hr hr
    (by rw [hz, hs]; simp) (by rw [hz, hs]; simp)
  have h2 : fv FloatKind.f64.format (FloatKind.f64.format.write (Ieee.Datum.number s m i)) = v * (w925 : Int) := by
    generalize v * (w925 : Int) = V at this ⊢
    omega
  exact ⟨_, rfl, this.1, h2⟩

/-- A float64 made a float32. -/
def nar (x : Option Nat) : Option Nat := x.map fun b => Ieee.single.write (Ieee.double.read b)

theorem nar_within {x : Option Nat} {v : Int} (hx : IsV .f64 x v) {L H : Int} (hL : Rep FloatKind.f32.format L) (hH : Rep FloatKind.f32.format H) (h1 : L * (w925 : Int) ≤ v) (h2 : v ≤ H * (w925 : Int)) :
    ∃ w, IsV .f32 (nar x) w ∧ L ≤ w ∧ w ≤ H := by
  obtain ⟨p, s, m, i, rfl, e1, hi, ea⟩ := hx.read
  show ∃ w, IsV .f32 (some (Ieee.single.write (Ieee.double.read p))) w ∧ L ≤ w ∧ w ≤ H
  rw [show Ieee.double.read p = .number s m i from e1]
  rw [lp64] at hi ea
  have hz : (2 ^ (FloatKind.f32.format.leastPlace - -1074).toNat : Nat) = w925 := by
    rw [lp32, show ((-149 : Int) - -1074).toNat = 925 from by decide, e925_eq]; rfl
  have := write_within FloatKind.f32.format s m i (-1074) L H hi (by rw [lp32]; decide) hL hH
    (by rw [hz, ea]; exact h1) (by rw [hz, ea]; exact h2)
  exact ⟨_, ⟨_, rfl, this.1, rfl⟩, this.2.1, this.2.2⟩
end Go.Proofs.Ytkgbbagklkffpaa
