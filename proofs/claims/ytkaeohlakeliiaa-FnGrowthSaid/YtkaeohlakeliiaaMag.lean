/- What rounding keeps: sums, products, quotients and conversions of floats lie within representable bounds of the exact ones: plain mathematics, no program. -/
import Derived.Test.YtkaeohlakeliiaaFlo
namespace Go.Proofs.Ytkaeohlakeliiaa
open Go.RowKit

section
variable (f : Ieee.Format)

/-- The magnitude of a rung, in units of the least place. -/
def mgr (r : Nat) : Nat := if r < f.binade then r else (f.binade + r % f.binade) * 2 ^ (r / f.binade - 1)

theorem bnd_pos : 0 < f.binade := Nat.two_pow_pos _

theorem rung_parts (r : Nat) : ∃ D K, r = D * f.binade + K ∧ mgr f r = K * 2 ^ D ∧ K < 2 * f.binade ∧ (0 < D → f.binade ≤ K) := by
  have hb := bnd_pos f
  by_cases h : r < f.binade
  · exact ⟨0, r, by simp, by simp [mgr, h], by omega, by omega⟩
  · refine ⟨r / f.binade - 1, f.binade + r % f.binade, ?_, by simp [mgr, h], ?_, fun _ => Nat.le_add_right _ _⟩
    · have h1 : 1 ≤ r / f.binade := (Nat.le_div_iff_mul_le hb).2 (by omega)
      have h2 := Nat.div_add_mod r f.binade
      obtain ⟨d, hd⟩ := Nat.exists_eq_add_of_le h1
      rw [hd] at h2 ⊢
      rw [show 1 + d - 1 = d by omega]
      rw [Nat.mul_add, Nat.mul_one, Nat.mul_comm f.binade d] at h2
      omega
    · have := Nat.mod_lt r hb; omega

theorem mgr_parts (D K : Nat) (hK : K ≤ 2 * f.binade) (hD : 0 < D → f.binade ≤ K) : mgr f (D * f.binade + K) = K * 2 ^ D := by
  have hb := bnd_pos f
  by_cases h1 : K < f.binade
  · obtain rfl : D = 0 := by
      rcases Nat.eq_zero_or_pos D with h | h
      · exact h
      · have := hD h; omega
    simp [mgr, h1]
  · have h2 : ¬ D * f.binade + K < f.binade := by omega
    rw [mgr, if_neg h2]
    by_cases h3 : K = 2 * f.binade
    · subst h3
      have e : D * f.binade + 2 * f.binade = (D + 2) * f.binade := by rw [Nat.add_mul]
      rw [e, Nat.mul_div_cancel _ hb, Nat.mul_mod_left, show D + 2 - 1 = D + 1 by omega, Nat.pow_succ, Nat.add_zero]
      rw [Nat.mul_comm (2 ^ D) 2, ← Nat.mul_assoc, Nat.mul_comm 2 f.binade]
    · have e : D * f.binade + K = (K - f.binade) + (D + 1) * f.binade := by rw [Nat.add_mul]; omega
      have e1 : (D * f.binade + K) / f.binade = D + 1 := by rw [e, Nat.add_mul_div_right _ _ hb, Nat.div_eq_of_lt (by omega)]; omega
      have e2 : (D * f.binade + K) % f.binade = K - f.binade := by rw [e, Nat.add_mul_mod_self_right, Nat.mod_eq_of_lt (by omega)]
      rw [e1, e2, show D + 1 - 1 = D by omega, show f.binade + (K - f.binade) = K by omega]

theorem pow_split {a b : Nat} (h : a ≤ b) : 2 ^ b = 2 ^ (b - a) * 2 ^ a := by rw [← Nat.pow_add]; congr 1; omega

theorem mgr_mono {q r : Nat} (h : q ≤ r) : mgr f q ≤ mgr f r := by
  obtain ⟨D, K, rfl, e, hK, hD⟩ := rung_parts f q
  obtain ⟨D', K', rfl, e', hK', hD'⟩ := rung_parts f r
  rw [e, e']
  have hb := bnd_pos f
  rcases Nat.lt_trichotomy D D' with hd | hd | hd
  · have h1 := hD' (by omega)
    have h2 : 2 ^ D' = 2 ^ (D' - (D + 1)) * 2 ^ (D + 1) := pow_split (by omega)
    calc K * 2 ^ D ≤ 2 * f.binade * 2 ^ D := Nat.mul_le_mul_right _ (by omega)
      _ = f.binade * 2 ^ (D + 1) := by rw [Nat.pow_succ, Nat.mul_comm 2 f.binade, Nat.mul_assoc, Nat.mul_comm 2 (2 ^ D)]
      _ ≤ f.binade * 2 ^ D' := Nat.mul_le_mul_left _ (Nat.pow_le_pow_right (by decide) (by omega))
      _ ≤ K' * 2 ^ D' := Nat.mul_le_mul_right _ h1
  · subst hd
    exact Nat.mul_le_mul_right _ (by omega)
  · have h1 := hD (by omega)
    have h2 : (D' + 1) * f.binade ≤ D * f.binade := Nat.mul_le_mul_right _ (by omega)
    rw [Nat.add_mul, Nat.one_mul] at h2
    omega

theorem cut_le_of (neg : Bool) (n drop K : Nat) (h : n ≤ K * 2 ^ drop) : Ieee.Toward.even.cut neg n drop ≤ K := by
  unfold Ieee.Toward.cut
  simp only [Nat.one_shiftLeft]
  by_cases hd : drop ≤ n.log2 + 2
  · rw [Nat.min_eq_left hd]
    have hp : 0 < 2 ^ drop := Nat.two_pow_pos _
    generalize 2 ^ drop = g at h hp
    have h1 := Nat.div_add_mod n g
    have h2 := Nat.mod_lt n hp
    generalize n / g = q at h1
    generalize n % g = s at h1 h2
    by_cases hz : s = 0
    · subst hz
      have : (decide (g < 2 * 0) || g == 2 * 0 && q % 2 == 1) = false := by simp; omega
      rw [this]
      have : g * q ≤ g * K := by rw [Nat.mul_comm g K]; omega
      simpa using Nat.le_of_mul_le_mul_left this hp
    · have hq : q < K := by
        have : g * q < g * K := by rw [Nat.mul_comm g K]; omega
        exact Nat.lt_of_mul_lt_mul_left this
      have : ∀ b : Bool, b.toNat ≤ 1 := by decide
      have := this (decide (g < 2 * s) || g == 2 * s && q % 2 == 1)
      omega
  · rw [Nat.min_eq_right (by omega)]
    have hn : n < 2 ^ (n.log2 + 1) := Nat.lt_log2_self
    have hp : 2 ^ (n.log2 + 2) = 2 * 2 ^ (n.log2 + 1) := by rw [Nat.pow_succ, Nat.mul_comm]
    generalize 2 ^ (n.log2 + 1) = u at hn hp
    rw [hp]
    have e1 : n / (2 * u) = 0 := Nat.div_eq_of_lt (by omega)
    have e2 : n % (2 * u) = n := Nat.mod_eq_of_lt (by omega)
    rw [e1, e2]
    have : (decide (2 * u < 2 * n) || 2 * u == 2 * n && 0 % 2 == 1) = false := by simp; omega
    rw [this]
    simp

theorem le_cut_of (neg : Bool) (n drop K : Nat) (h : K * 2 ^ drop ≤ n) : K ≤ Ieee.Toward.even.cut neg n drop := by
  unfold Ieee.Toward.cut
  simp only [Nat.one_shiftLeft]
  refine Nat.le_trans ?_ (Nat.le_add_right _ _)
  by_cases hd : drop ≤ n.log2 + 2
  · rw [Nat.min_eq_left hd]
    exact (Nat.le_div_iff_mul_le (Nat.two_pow_pos _)).2 h
  · have hn : n < 2 ^ (n.log2 + 1) := Nat.lt_log2_self
    have hp : 2 ^ (n.log2 + 1) ≤ 2 ^ drop := Nat.pow_le_pow_right (by decide) (by omega)
    have : K = 0 := by
      rcases Nat.eq_zero_or_pos K with h0 | h0
      · exact h0
      · have : 1 * 2 ^ drop ≤ K * 2 ^ drop := Nat.mul_le_mul_right _ h0
        omega
    rw [this]; exact Nat.zero_le _

/-- The rung nearest to mag * 2 ^ place. -/
def rungOf (mag : Nat) (place : Int) : Nat :=
  if mag = 0 then 0 else
  min (((max (place + mag.log2 - f.fractionBits) f.leastPlace) - f.leastPlace).toNat * f.binade + Ieee.Toward.even.cut false (mag <<< (place - (max (place + mag.log2 - f.fractionBits) f.leastPlace)).toNat) ((max (place + mag.log2 - f.fractionBits) f.leastPlace) - place).toNat) f.infRung

theorem nearest_rung (neg : Bool) (mag : Nat) (place : Int) : f.nearest neg mag place = f.word neg (rungOf f mag place) := by
  unfold Ieee.Format.nearest rungOf
  split <;> rfl

theorem rungOf_parts (mag : Nat) (place c : Int) (h0 : mag ≠ 0) (hc : c ≤ place) (hl : c ≤ f.leastPlace) :
    ∃ D kept, rungOf f mag place = min (D * f.binade + kept) f.infRung ∧ kept ≤ 2 * f.binade ∧ (0 < D → f.binade ≤ kept) ∧
      (∀ K, mag * 2 ^ (place - c).toNat ≤ K * 2 ^ (D + (f.leastPlace - c).toNat) → kept ≤ K) ∧
      (∀ K, K * 2 ^ (D + (f.leastPlace - c).toNat) ≤ mag * 2 ^ (place - c).toNat → K ≤ kept) ∧
      mag * 2 ^ (place - c).toNat < 2 * f.binade * 2 ^ (D + (f.leastPlace - c).toNat) ∧
      (0 < D → f.binade * 2 ^ (D + (f.leastPlace - c).toNat) ≤ mag * 2 ^ (place - c).toNat) := by
  obtain ⟨last, hlast⟩ : ∃ last, last = max (place + mag.log2 - f.fractionBits) f.leastPlace := ⟨_, rfl⟩
  have hm1 : mag < 2 ^ (mag.log2 + 1) := Nat.lt_log2_self
  have hm0 : 2 ^ mag.log2 ≤ mag := Nat.log2_self_le h0
  have A : ∀ K, mag * 2 ^ (place - c).toNat ≤ K * 2 ^ ((last - f.leastPlace).toNat + (f.leastPlace - c).toNat) → mag <<< (place - last).toNat ≤ K * 2 ^ (last - place).toNat := by
    intro K h
    rw [Nat.shiftLeft_eq]
    obtain ⟨X, hX⟩ : ∃ X, X = (last - f.leastPlace).toNat + (f.leastPlace - c).toNat := ⟨_, rfl⟩
    rw [← hX] at h
    by_cases hp : last ≤ place
    · rw [show (last - place).toNat = 0 by omega, Nat.pow_zero, Nat.mul_one]
      rw [show (place - c).toNat = (place - last).toNat + X by omega, Nat.pow_add, ← Nat.mul_assoc] at h
      exact Nat.le_of_mul_le_mul_right h (Nat.two_pow_pos _)
    · rw [show (place - last).toNat = 0 by omega, Nat.pow_zero, Nat.mul_one]
      rw [show X = (last - place).toNat + (place - c).toNat by omega, Nat.pow_add, ← Nat.mul_assoc] at h
      exact Nat.le_of_mul_le_mul_right h (Nat.two_pow_pos _)
  have B : ∀ K, K * 2 ^ ((last - f.leastPlace).toNat + (f.leastPlace - c).toNat) ≤ mag * 2 ^ (place - c).toNat → K * 2 ^ (last - place).toNat ≤ mag <<< (place - last).toNat := by
    intro K h
    rw [Nat.shiftLeft_eq]
    obtain ⟨X, hX⟩ : ∃ X, X = (last - f.leastPlace).toNat + (f.leastPlace - c).toNat := ⟨_, rfl⟩
    rw [← hX] at h
    by_cases hp : last ≤ place
    · rw [show (last - place).toNat = 0 by omega, Nat.pow_zero, Nat.mul_one]
      rw [show (place - c).toNat = (place - last).toNat + X by omega, Nat.pow_add, ← Nat.mul_assoc] at h
      exact Nat.le_of_mul_le_mul_right h (Nat.two_pow_pos _)
    · rw [show (place - last).toNat = 0 by omega, Nat.pow_zero, Nat.mul_one]
      rw [show X = (last - place).toNat + (place - c).toNat by omega, Nat.pow_add, ← Nat.mul_assoc] at h
      exact Nat.le_of_mul_le_mul_right h (Nat.two_pow_pos _)
  have hbin : f.binade = 2 ^ f.fractionBits := rfl
  have C : mag * 2 ^ (place - c).toNat < 2 * f.binade * 2 ^ ((last - f.leastPlace).toNat + (f.leastPlace - c).toNat) := by
    calc mag * 2 ^ (place - c).toNat < 2 ^ (mag.log2 + 1) * 2 ^ (place - c).toNat := Nat.mul_lt_mul_of_pos_right hm1 (Nat.two_pow_pos _)
      _ = 2 ^ (mag.log2 + 1 + (place - c).toNat) := by rw [← Nat.pow_add]
      _ ≤ 2 ^ (f.fractionBits + 1 + ((last - f.leastPlace).toNat + (f.leastPlace - c).toNat)) := Nat.pow_le_pow_right (by decide) (by omega)
      _ = _ := by rw [Nat.pow_add, Nat.pow_succ, hbin, Nat.mul_comm (2 ^ f.fractionBits) 2]
  have E : 0 < (last - f.leastPlace).toNat → f.binade * 2 ^ ((last - f.leastPlace).toNat + (f.leastPlace - c).toNat) ≤ mag * 2 ^ (place - c).toNat := by
    intro hD
    calc f.binade * 2 ^ ((last - f.leastPlace).toNat + (f.leastPlace - c).toNat) = 2 ^ (f.fractionBits + ((last - f.leastPlace).toNat + (f.leastPlace - c).toNat)) := by rw [Nat.pow_add _ f.fractionBits, hbin]
      _ = 2 ^ (mag.log2 + (place - c).toNat) := by congr 1; omega
      _ = 2 ^ mag.log2 * 2 ^ (place - c).toNat := by rw [Nat.pow_add]
      _ ≤ _ := Nat.mul_le_mul_right _ hm0
  refine ⟨(last - f.leastPlace).toNat, Ieee.Toward.even.cut false (mag <<< (place - last).toNat) (last - place).toNat, ?_, ?_, ?_, ?_, ?_, C, E⟩
  · unfold rungOf
    rw [if_neg h0, ← hlast]
  · exact cut_le_of _ _ _ _ (A _ (Nat.le_of_lt C))
  · intro hD
    exact le_cut_of _ _ _ _ (B _ (E hD))
  · intro K h
    exact cut_le_of _ _ _ _ (A _ h)
  · intro K h
    exact le_cut_of _ _ _ _ (B _ h)

theorem rungOf_le (mag : Nat) (place c : Int) (r : Nat) (hc : c ≤ place) (hl : c ≤ f.leastPlace) (h : mag * 2 ^ (place - c).toNat ≤ mgr f r * 2 ^ (f.leastPlace - c).toNat) : rungOf f mag place ≤ r := by
  by_cases h0 : mag = 0
  · simp [rungOf, h0]
  obtain ⟨D, kept, e, k1, k2, k3, k4, k5, k6⟩ := rungOf_parts f mag place c h0 hc hl
  obtain ⟨D', K, rfl, e', hK, hD'⟩ := rung_parts f r
  rw [e]
  refine Nat.le_trans (Nat.min_le_left _ _) ?_
  rw [e', Nat.mul_assoc, ← Nat.pow_add] at h
  have hb := bnd_pos f
  by_cases hd : D ≤ D'
  · have h1 : kept ≤ K * 2 ^ (D' - D) := k3 _ (by
      rw [Nat.mul_assoc, ← Nat.pow_add, show D' - D + (D + (f.leastPlace - c).toNat) = D' + (f.leastPlace - c).toNat by omega]; exact h)
    by_cases hj : D' = D
    · subst hj; rw [Nat.sub_self, Nat.pow_zero, Nat.mul_one] at h1; omega
    · have h2 := hD' (by omega)
      have h3 : (D + 1) * f.binade ≤ D' * f.binade := Nat.mul_le_mul_right _ (by omega)
      rw [Nat.add_mul, Nat.one_mul] at h3
      omega
  · exfalso
    have h1 := k6 (by omega)
    have h2 : 2 * f.binade * 2 ^ (D' + (f.leastPlace - c).toNat) ≤ f.binade * 2 ^ (D + (f.leastPlace - c).toNat) := by
      rw [Nat.mul_comm 2 f.binade, Nat.mul_assoc, ← Nat.pow_succ']
      exact Nat.mul_le_mul_left _ (Nat.pow_le_pow_right (by decide) (by omega))
    have h3 : K * 2 ^ (D' + (f.leastPlace - c).toNat) < 2 * f.binade * 2 ^ (D' + (f.leastPlace - c).toNat) := Nat.mul_lt_mul_of_pos_right hK (Nat.two_pow_pos _)
    omega

theorem rungOf_ge (mag : Nat) (place c : Int) (r : Nat) (hc : c ≤ place) (hl : c ≤ f.leastPlace) (hr : r ≤ f.infRung) (h : mgr f r * 2 ^ (f.leastPlace - c).toNat ≤ mag * 2 ^ (place - c).toNat) : r ≤ rungOf f mag place := by
  by_cases h0 : mag = 0
  · subst h0
    rw [Nat.zero_mul] at h
    have h1 : mgr f r = 0 := by
      rcases Nat.eq_zero_or_pos (mgr f r) with h1 | h1
      · exact h1
      · have := Nat.mul_pos h1 (Nat.two_pow_pos (f.leastPlace - c).toNat); omega
    obtain ⟨D', K, rfl, e', hK, hD'⟩ := rung_parts f r
    rw [e'] at h1
    have hb := bnd_pos f
    rcases Nat.mul_eq_zero.1 h1 with h2 | h2
    · subst h2
      rcases Nat.eq_zero_or_pos D' with h3 | h3
      · subst h3; simp
      · have := hD' h3; omega
    · have := Nat.two_pow_pos D'; omega
  obtain ⟨D, kept, e, k1, k2, k3, k4, k5, k6⟩ := rungOf_parts f mag place c h0 hc hl
  obtain ⟨D', K, rfl, e', hK, hD'⟩ := rung_parts f r
  rw [e]
  refine Nat.le_min.2 ⟨?_, hr⟩
  rw [e', Nat.mul_assoc, ← Nat.pow_add] at h
  have hb := bnd_pos f
  by_cases hd : D' ≤ D
  · by_cases hj : D' = D
    · subst hj
      have := k4 K h
      omega
    · have h2 := k2 (by omega)
      have h3 : (D' + 1) * f.binade ≤ D * f.binade := Nat.mul_le_mul_right _ (by omega)
      rw [Nat.add_mul, Nat.one_mul] at h3
      omega
  · exfalso
    have h1 := hD' (by omega)
    have h2 : 2 * f.binade * 2 ^ (D + (f.leastPlace - c).toNat) ≤ f.binade * 2 ^ (D' + (f.leastPlace - c).toNat) := by
      rw [Nat.mul_comm 2 f.binade, Nat.mul_assoc, ← Nat.pow_succ']
      exact Nat.mul_le_mul_left _ (Nat.pow_le_pow_right (by decide) (by omega))
    have h3 : f.binade * 2 ^ (D' + (f.leastPlace - c).toNat) ≤ K * 2 ^ (D' + (f.leastPlace - c).toNat) := Nat.mul_le_mul_right _ h1
    omega

/-! ### Words and their values -/

/-- The value of a finite word, in units of the least place. -/
def fv (w : Nat) : Int := if (w / f.signWeight % 2 == 1) = true then -(mgr f (w % f.signWeight) : Int) else (mgr f (w % f.signWeight) : Int)

theorem word_mod (neg : Bool) (q : Nat) (h : q < f.signWeight) : f.word neg q % f.signWeight = q := by
  unfold Ieee.Format.word
  cases neg
  · simpa using Nat.mod_eq_of_lt h
  · simpa using Nat.mod_eq_of_lt h
theorem word_neg (neg : Bool) (q : Nat) (h : q < f.signWeight) : (f.word neg q / f.signWeight % 2 == 1) = neg := by
  have hp : 0 < f.signWeight := by omega
  unfold Ieee.Format.word
  cases neg
  · simp [Nat.div_eq_of_lt h]
  · have : (f.signWeight + q) / f.signWeight = 1 := by rw [Nat.add_div_left _ hp, Nat.div_eq_of_lt h]
    simp [this]

theorem fv_word (neg : Bool) (q : Nat) (h : q < f.signWeight) : fv f (f.word neg q) = if neg then -(mgr f q : Int) else (mgr f q : Int) := by
  unfold fv
  rw [word_neg f neg q h, word_mod f neg q h]

theorem read_fin (w : Nat) (h : w % f.signWeight < f.infRung) :
    ∃ m i, f.read w = .number (w / f.signWeight % 2 == 1) m i ∧ f.leastPlace ≤ i ∧ m * 2 ^ (i - f.leastPlace).toNat = mgr f (w % f.signWeight) := by
  unfold Ieee.Format.read
  simp only
  by_cases h1 : w % f.signWeight < f.binade
  · exact ⟨_, _, by rw [if_pos h1], Int.le_refl _, by simp [mgr, h1]⟩
  · refine ⟨_, _, by rw [if_neg h1, if_pos h], by omega, ?_⟩
    rw [mgr, if_neg h1]
    congr 2
    omega

/-- A value that the format has. -/
def Rep (v : Int) : Prop := ∃ r, r < f.infRung ∧ v.natAbs = mgr f r

theorem rep_neg {v : Int} (h : Rep f v) : Rep f (-v) := by
  obtain ⟨r, h1, h2⟩ := h
  exact ⟨r, h1, by rw [Int.natAbs_neg]; exact h2⟩
theorem rep_fv {w : Nat} (h : w % f.signWeight < f.infRung) : Rep f (fv f w) := by
  refine ⟨_, h, ?_⟩
  unfold fv
  split <;> simp

theorem signed_eq (neg : Bool) (m u : Nat) : Ieee.signed neg m u = if neg then -((m * 2 ^ u : Nat) : Int) else ((m * 2 ^ u : Nat) : Int) := by
  unfold Ieee.signed
  rw [Nat.shiftLeft_eq]

theorem nonneg_of_mul {a : Int} {U : Nat} (hU : 0 < U) (h : 0 ≤ a * (U : Int)) : 0 ≤ a := by
  rcases Int.lt_or_le a 0 with hn | hp
  · have : a * (U : Int) < 0 := Int.mul_neg_of_neg_of_pos hn (by omega)
    omega
  · exact hp

/-- Rounding keeps representable bounds. -/
theorem write_within (neg : Bool) (mag : Nat) (place c L H : Int) (hc : c ≤ place) (hl : c ≤ f.leastPlace) (hL : Rep f L) (hH : Rep f H)
    (h1 : L * ((2 ^ (f.leastPlace - c).toNat : Nat) : Int) ≤ Ieee.signed neg mag (place - c).toNat) (h2 : Ieee.signed neg mag (place - c).toNat ≤ H * ((2 ^ (f.leastPlace - c).toNat : Nat) : Int)) :
    f.write (.number neg mag place) % f.signWeight < f.infRung ∧ L ≤ fv f (f.write (.number neg mag place)) ∧ fv f (f.write (.number neg mag place)) ≤ H := by
  have hi := f.infRung_lt
  have hw : f.write (.number neg mag place) = f.word neg (rungOf f mag place) := nearest_rung f neg mag place
  obtain ⟨rL, hrL, eL⟩ := hL
  obtain ⟨rH, hrH, eH⟩ := hH
  have hp : 0 < 2 ^ (f.leastPlace - c).toNat := Nat.two_pow_pos _
  rw [signed_eq] at h1 h2
  rw [hw]
  have UP : ∀ (v : Int) (r : Nat), v = (mgr f r : Int) → ((mag * 2 ^ (place - c).toNat : Nat) : Int) ≤ v * ((2 ^ (f.leastPlace - c).toNat : Nat) : Int) → rungOf f mag place ≤ r := by
    intro v r hv h
    refine rungOf_le f mag place c r hc hl ?_
    rw [hv, ← Int.natCast_mul] at h
    exact Int.ofNat_le.1 h
  have DN : ∀ (v : Int) (r : Nat), r < f.infRung → v = (mgr f r : Int) → v * ((2 ^ (f.leastPlace - c).toNat : Nat) : Int) ≤ ((mag * 2 ^ (place - c).toNat : Nat) : Int) → r ≤ rungOf f mag place := by
    intro v r hr hv h
    refine rungOf_ge f mag place c r hc hl (Nat.le_of_lt hr) ?_
    rw [hv, ← Int.natCast_mul] at h
    exact Int.ofNat_le.1 h
  cases neg with
  | false =>
    simp only [Bool.false_eq_true, if_false] at h1 h2
    have hH0 : 0 ≤ H := nonneg_of_mul hp (Int.le_trans (Int.natCast_nonneg _) h2)
    have k1 := UP H rH (by omega) h2
    have hq : rungOf f mag place < f.signWeight := by omega
    rw [fv_word f false _ hq, word_mod f false _ hq]
    simp only [Bool.false_eq_true, if_false]
    refine ⟨by omega, ?_, ?_⟩
    · rcases Int.lt_or_le L 0 with hn | hpos
      · omega
      · have k2 := DN L rL hrL (by omega) h1
        have := mgr_mono f k2
        omega
    · have := mgr_mono f k1
      omega
  | true =>
    simp only [if_true] at h1 h2
    have hL0 : 0 ≤ -L := by
      refine nonneg_of_mul hp ?_
      rw [Int.neg_mul]
      omega
    have k1 := UP (-L) rL (by omega) (by rw [Int.neg_mul]; omega)
    have hq : rungOf f mag place < f.signWeight := by omega
    rw [fv_word f true _ hq, word_mod f true _ hq]
    simp only [if_true]
    refine ⟨by omega, ?_, ?_⟩
    · have := mgr_mono f k1
      omega
    · rcases Int.lt_or_le H 0 with hn | hpos
      · have k2 := DN (-H) rH hrH (by omega) (by rw [Int.neg_mul]; omega)
        have := mgr_mono f k2
        omega
      · omega

theorem inf_parts : f.infRung = (2 ^ f.exponentBits - 1) * f.binade := rfl

/-- Few digits at a small place: the format has it. -/
theorem rep_of (_ : 1 ≤ f.fractionBits) (K j : Nat) (hK : K < 2 * f.binade) (hj : j + 3 ≤ 2 ^ f.exponentBits) : Rep f ((K * 2 ^ j : Nat) : Int) := by
  have hb := bnd_pos f
  have key : ∀ j K : Nat, K < 2 * f.binade → ∃ D K', D ≤ j ∧ K' < 2 * f.binade ∧ (0 < D → f.binade ≤ K') ∧ K * 2 ^ j = K' * 2 ^ D := by
    intro j
    induction j with
    | zero => intro K h; exact ⟨0, K, Nat.le_refl _, h, by omega, rfl⟩
    | succ j ih =>
      intro K h
      by_cases h1 : f.binade ≤ K
      · exact ⟨j + 1, K, Nat.le_refl _, h, fun _ => h1, rfl⟩
      · obtain ⟨D, K', a, b, c, d⟩ := ih (2 * K) (by omega)
        refine ⟨D, K', by omega, b, c, ?_⟩
        rw [← d, Nat.pow_succ]
        ac_rfl
  obtain ⟨D, K', a, b, c, d⟩ := key j K hK
  refine ⟨D * f.binade + K', ?_, ?_⟩
  · rw [inf_parts]
    have h1 : (D + 2) * f.binade ≤ (2 ^ f.exponentBits - 1) * f.binade := Nat.mul_le_mul_right _ (by omega)
    rw [Nat.add_mul] at h1
    omega
  · rw [d, Int.natAbs_natCast, mgr_parts f D K' (by omega) c]

theorem rep_pow (hb1 : 1 ≤ f.fractionBits) (j : Nat) (hj : j + 3 ≤ 2 ^ f.exponentBits) : Rep f ((2 ^ j : Nat) : Int) := by
  have := rep_of f hb1 1 j (by have := bnd_pos f; omega) hj
  simpa using this
end

/-! ### Read floats -/

/-- x is finite, and its value is v. -/
def IsV (k : FloatKind) (x : Option Nat) (v : Int) : Prop := ∃ b, x = some b ∧ b % k.format.signWeight < k.format.infRung ∧ fv k.format b = v

theorem IsV.rep {k : FloatKind} {x : Option Nat} {v : Int} (h : IsV k x v) : Rep k.format v := by
  obtain ⟨b, _, h1, rfl⟩ := h
  exact rep_fv _ h1

theorem IsV.read {k : FloatKind} {x : Option Nat} {v : Int} (h : IsV k x v) : ∃ b s m i, x = some b ∧ k.format.read b = .number s m i ∧ k.format.leastPlace ≤ i ∧ Ieee.signed s m (i - k.format.leastPlace).toNat = v := by
  obtain ⟨b, h1, h2, h3⟩ := h
  obtain ⟨m, i, e1, e2, e3⟩ := read_fin k.format b h2
  refine ⟨b, _, m, i, h1, e1, e2, ?_⟩
  rw [signed_eq, ← h3, fv, e3]

theorem IsV.val {k : FloatKind} {x : Option Nat} {v w : Int} (h : IsV k x v) (h' : IsV k x w) : v = w := by
  obtain ⟨b, h1, h2, h3⟩ := h
  obtain ⟨c, k1, k2, k3⟩ := h'
  rw [h1] at k1; cases k1
  rw [← h3, ← k3]

theorem lp_neg (k : FloatKind) : k.format.leastPlace ≤ 0 := by cases k <;> decide

theorem signed_opp (s : Bool) (m u : Nat) : Ieee.signed (!s) m u = -Ieee.signed s m u := by
  rw [signed_eq, signed_eq]; cases s <;> simp

theorem sum_within (k : FloatKind) (s t : Bool) (m n : Nat) (i j L H : Int) (hi : k.format.leastPlace ≤ i) (hj : k.format.leastPlace ≤ j) (hL : Rep k.format L) (hH : Rep k.format H)
    (h1 : L ≤ Ieee.signed s m (i - k.format.leastPlace).toNat + Ieee.signed t n (j - k.format.leastPlace).toNat) (h2 : Ieee.signed s m (i - k.format.leastPlace).toNat + Ieee.signed t n (j - k.format.leastPlace).toNat ≤ H) :
    ∃ v, IsV k (((Ieee.Datum.number s m i).sum (.number t n j)).map k.format.write) v ∧ L ≤ v ∧ v ≤ H := by
  simp only [Ieee.Datum.sum, Option.map_some]
  have hsh : ∀ (s : Bool) (m : Nat) (i b : Int), k.format.leastPlace ≤ b → b ≤ i → Ieee.signed s m (i - k.format.leastPlace).toNat = Ieee.signed s m (i - b).toNat * ((2 ^ (b - k.format.leastPlace).toNat : Nat) : Int) := by
    intro s m i b hb1 hb2
    rw [signed_eq, signed_eq, show (i - k.format.leastPlace).toNat = (i - b).toNat + (b - k.format.leastPlace).toNat by omega, Nat.pow_add, ← Nat.mul_assoc, Int.natCast_mul]
    cases s <;> simp [Int.neg_mul]
  rw [hsh s m i (min i j) (by omega) (by omega), hsh t n j (min i j) (by omega) (by omega), ← Int.add_mul] at h1 h2
  generalize Ieee.signed s m (i - min i j).toNat + Ieee.signed t n (j - min i j).toNat = T at h1 h2
  have hT : Ieee.signed (if T = 0 then s && t else decide (T < 0)) T.natAbs (min i j - k.format.leastPlace).toNat = T * ((2 ^ (min i j - k.format.leastPlace).toNat : Nat) : Int) := by
    rw [signed_eq]
    by_cases h0 : T = 0
    · subst h0; simp
    · rw [if_neg h0]
      by_cases hn : T < 0
      · have e : T = -(T.natAbs : Int) := by omega
        simp only [hn, decide_true, if_true]
        rw [Int.natCast_mul]
        generalize T.natAbs = a at e
        rw [e, Int.neg_mul]
      · have e : T = (T.natAbs : Int) := by omega
        simp only [hn, decide_false, Bool.false_eq_true, if_false]
        rw [Int.natCast_mul]
        generalize T.natAbs = a at e
        rw [e]
  have hz : (k.format.leastPlace - k.format.leastPlace).toNat = 0 := by simp
  have := write_within k.format (if T = 0 then s && t else decide (T < 0)) T.natAbs (min i j) k.format.leastPlace L H (by omega) (Int.le_refl _) hL hH
    (by rw [hz, hT]; simpa using h1) (by rw [hz, hT]; simpa using h2)
  exact ⟨_, ⟨_, rfl, this.1, rfl⟩, this.2.1, this.2.2⟩

theorem add_within {k : FloatKind} {x y : Option Nat} {a b : Int} (hx : IsV k x a) (hy : IsV k y b) {L H : Int} (hL : Rep k.format L) (hH : Rep k.format H) (h1 : L ≤ a + b) (h2 : a + b ≤ H) :
    ∃ v, IsV k (fop .add k x y) v ∧ L ≤ v ∧ v ≤ H := by
  obtain ⟨p, s, m, i, rfl, e1, hi, ea⟩ := hx.read
  obtain ⟨q, t, n, j, rfl, e2, hj, eb⟩ := hy.read
  have : fop .add k (some p) (some q) = ((k.format.read p).sum (k.format.read q)).map k.format.write := rfl
  rw [this, e1, e2]
  exact sum_within k s t m n i j L H hi hj hL hH (by rw [ea, eb]; exact h1) (by rw [ea, eb]; exact h2)

theorem sub_within {k : FloatKind} {x y : Option Nat} {a b : Int} (hx : IsV k x a) (hy : IsV k y b) {L H : Int} (hL : Rep k.format L) (hH : Rep k.format H) (h1 : L ≤ a - b) (h2 : a - b ≤ H) :
    ∃ v, IsV k (fop .sub k x y) v ∧ L ≤ v ∧ v ≤ H := by
  obtain ⟨p, s, m, i, rfl, e1, hi, ea⟩ := hx.read
  obtain ⟨q, t, n, j, rfl, e2, hj, eb⟩ := hy.read
  have : fop .sub k (some p) (some q) = ((k.format.read p).sum (k.format.read q).opposite).map k.format.write := rfl
  rw [this, e1, e2]
  exact sum_within k s (!t) m n i j L H hi hj hL hH (by rw [ea, signed_opp, eb]; omega) (by rw [ea, signed_opp, eb]; omega)

/-- 1 in units of the least place. -/
def unit (k : FloatKind) : Nat := 2 ^ (-k.format.leastPlace).toNat

theorem signed_mul (s t : Bool) (m n u v : Nat) : Ieee.signed (s ^^ t) (m * n) (u + v) = Ieee.signed s m u * Ieee.signed t n v := by
  rw [signed_eq, signed_eq, signed_eq, show m * n * 2 ^ (u + v) = (m * 2 ^ u) * (n * 2 ^ v) by rw [Nat.pow_add]; ac_rfl, Int.natCast_mul]
  cases s <;> cases t <;> simp [Int.neg_mul, Int.mul_neg]

theorem mul_within {k : FloatKind} {x y : Option Nat} {a b : Int} (hx : IsV k x a) (hy : IsV k y b) {L H : Int} (hL : Rep k.format L) (hH : Rep k.format H) (h1 : L * (unit k : Int) ≤ a * b) (h2 : a * b ≤ H * (unit k : Int)) :
    ∃ v, IsV k (fop .mul k x y) v ∧ L ≤ v ∧ v ≤ H := by
  obtain ⟨p, s, m, i, rfl, e1, hi, ea⟩ := hx.read
  obtain ⟨q, t, n, j, rfl, e2, hj, eb⟩ := hy.read
  have : fop .mul k (some p) (some q) = ((k.format.read p).product (k.format.read q)).map k.format.write := rfl
  rw [this, e1, e2]
  simp only [Ieee.Datum.product, Option.map_some]
  have hn := lp_neg k
  have hu : (k.format.leastPlace - (k.format.leastPlace + k.format.leastPlace)).toNat = (-k.format.leastPlace).toNat := by omega
  have hs : Ieee.signed (s ^^ t) (m * n) (i + j - (k.format.leastPlace + k.format.leastPlace)).toNat = a * b := by
    rw [← ea, ← eb, ← signed_mul]
    congr 1
    omega
  have := write_within k.format (s ^^ t) (m * n) (i + j) (k.format.leastPlace + k.format.leastPlace) L H (by omega) (by omega) hL hH
    (by rw [hu, hs]; exact h1) (by rw [hu, hs]; exact h2)
  exact ⟨_, ⟨_, rfl, this.1, rfl⟩, this.2.1, this.2.2⟩

theorem ford_val {k : FloatKind} {x y : Option Nat} {a b : Int} (hx : IsV k x a) (hy : IsV k y b) : ford k x y = some (compare a b) := by
  obtain ⟨p, s, m, i, rfl, e1, hi, ea⟩ := hx.read
  obtain ⟨q, t, n, j, rfl, e2, hj, eb⟩ := hy.read
  show k.format.order p q = _
  unfold Ieee.Format.order
  rw [e1, e2]
  simp only [Ieee.Datum.order]
  congr 1
  have hsh : ∀ (s : Bool) (m : Nat) (i b : Int), k.format.leastPlace ≤ b → b ≤ i → Ieee.signed s m (i - k.format.leastPlace).toNat = Ieee.signed s m (i - b).toNat * ((2 ^ (b - k.format.leastPlace).toNat : Nat) : Int) := by
    intro s m i b hb1 hb2
    rw [signed_eq, signed_eq, show (i - k.format.leastPlace).toNat = (i - b).toNat + (b - k.format.leastPlace).toNat by omega, Nat.pow_add, ← Nat.mul_assoc, Int.natCast_mul]
    cases s <;> simp [Int.neg_mul]
  rw [hsh s m i (min i j) (by omega) (by omega)] at ea
  rw [hsh t n j (min i j) (by omega) (by omega)] at eb
  rw [← ea, ← eb]
  have hp : 0 < 2 ^ (min i j - k.format.leastPlace).toNat := Nat.two_pow_pos _
  generalize Ieee.signed s m (i - min i j).toNat = A
  generalize Ieee.signed t n (j - min i j).toNat = B
  generalize 2 ^ (min i j - k.format.leastPlace).toNat = U at hp
  have hU : (0 : Int) < (U : Int) := by omega
  rcases Int.lt_trichotomy A B with h | h | h
  · rw [Int.compare_eq_lt.2 h, Int.compare_eq_lt.2 (Int.mul_lt_mul_of_pos_right h hU)]
  · rw [h]; simp
  · rw [Int.compare_eq_gt.2 h, Int.compare_eq_gt.2 (Int.mul_lt_mul_of_pos_right h hU)]
end Go.Proofs.Ytkaeohlakeliiaa
