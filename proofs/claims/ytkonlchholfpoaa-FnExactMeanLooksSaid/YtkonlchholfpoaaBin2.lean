/- More of binomials: factorials, products of two, bounds, fractions in least terms: plain mathematics, no program. -/
import Derived.Test.YtkonlchholfpoaaBin
namespace Go.Proofs.Ytkonlchholfpoaa

def fact : Nat → Nat
  | 0 => 1
  | n + 1 => (n + 1) * fact n
theorem fact_pos (n : Nat) : 0 < fact n := by
  induction n with
  | zero => decide
  | succ n ih => exact Nat.mul_pos (by omega) ih
theorem fact_succ (n : Nat) : fact (n + 1) = (n + 1) * fact n := rfl

theorem bin_fact : ∀ a b : Nat, bin (a + b) a * (fact a * fact b) = fact (a + b)
  | 0, b => by rw [bin_zero]; simp [fact]
  | a + 1, 0 => by rw [Nat.add_zero, bin_self]; simp [fact]
  | a + 1, b + 1 => by
    have h1 := bin_fact a (b + 1)
    have h2 := bin_fact (a + 1) b
    have e : a + 1 + (b + 1) = (a + (b + 1)) + 1 := by omega
    have e2 : a + 1 + b = a + (b + 1) := by omega
    rw [e2] at h2
    rw [e, bin_succ, fact_succ (a + (b + 1)), Nat.add_mul, show a + (b + 1) + 1 = (a + 1) + (b + 1) by omega, Nat.add_mul (a + 1) (b + 1)]
    congr 1
    · rw [fact_succ a, ← h1]; ac_rfl
    · rw [fact_succ b, ← h2]; ac_rfl

theorem bin_tri (a b c : Nat) : bin (a + b + c) a * bin (b + c) b = bin (a + b + c) (a + b) * bin (a + b) a := by
  have h1 := bin_fact a (b + c)
  have h2 := bin_fact b c
  have h3 := bin_fact (a + b) c
  have h4 := bin_fact a b
  rw [← Nat.add_assoc] at h1
  have hp : 0 < fact a * fact b * fact c := Nat.mul_pos (Nat.mul_pos (fact_pos _) (fact_pos _)) (fact_pos _)
  refine Nat.eq_of_mul_eq_mul_right hp ?_
  calc bin (a + b + c) a * bin (b + c) b * (fact a * fact b * fact c)
      = bin (a + b + c) a * (fact a * (bin (b + c) b * (fact b * fact c))) := by ac_rfl
    _ = bin (a + b + c) (a + b) * (bin (a + b) a * (fact a * fact b) * fact c) := by rw [h2, h1, h4, h3]
    _ = bin (a + b + c) (a + b) * bin (a + b) a * (fact a * fact b * fact c) := by ac_rfl

theorem bin_mono (n k : Nat) : bin n k ≤ bin (n + 1) k := by
  cases k with
  | zero => rw [bin_zero, bin_zero]; omega
  | succ k => rw [bin_succ]; omega
theorem bin_mono_le {n m : Nat} (h : n ≤ m) (k : Nat) : bin n k ≤ bin m k := by
  induction h with
  | refl => exact Nat.le_refl _
  | step _ ih => exact Nat.le_trans ih (bin_mono _ _)

theorem bin_eight (k : Nat) : bin 8 k ≤ 70 := by
  by_cases h : 8 < k
  · rw [bin_gt 8 k h]; omega
  · have : ∀ k, k ≤ 8 → bin 8 k ≤ 70 := by decide +kernel
    exact this k (by omega)
theorem bin_more (m k : Nat) : bin (8 + m) k ≤ 70 * 2 ^ m := by
  induction m generalizing k with
  | zero => simpa using bin_eight k
  | succ m ih =>
    cases k with
    | zero => rw [bin_zero]; have : 0 < 70 * 2 ^ (m + 1) := Nat.mul_pos (by decide) (Nat.pow_pos (by decide)); omega
    | succ k =>
      rw [show 8 + (m + 1) = (8 + m) + 1 by omega, bin_succ, Nat.pow_succ]
      have h1 := ih k
      have h2 := ih (k + 1)
      omega
theorem bin_70 (n k : Nat) (h : n ≤ 40) : bin n k ≤ 300647710720 := by
  have h1 := bin_mono_le h k
  have h2 := bin_more 32 k
  have h3 : 70 * 2 ^ 32 = 300647710720 := by decide
  rw [h3] at h2
  exact Nat.le_trans h1 h2
theorem bin_two (n a b : Nat) (hn : n ≤ 40) (h : a + b ≤ 24) (h2 : a + b ≤ n) : bin n a * bin (n - a) b ≤ 5044031582654955520 := by
  obtain ⟨c, rfl⟩ := Nat.exists_eq_add_of_le h2
  rw [show a + b + c - a = b + c by omega, bin_tri]
  have h3 := bin_70 (a + b + c) (a + b) hn
  have h4 := bin_le (a + b) a
  have h5 : 2 ^ (a + b) ≤ 2 ^ 24 := Nat.pow_le_pow_right (by decide) h
  have h6 : bin (a + b) a ≤ 16777216 := Nat.le_trans h4 h5
  exact Nat.le_trans (Nat.mul_le_mul h3 h6) (by decide)

/-- Four products: what hypergeometric symmetry rests on. -/
theorem bin_sym (a b c d : Nat) : bin (a + b) a * bin (c + d) c * bin (a + b + (c + d)) (a + b) = bin (a + c) a * bin (b + d) b * bin (a + b + (c + d)) (a + c) := by
  have h1 := bin_fact a b
  have h2 := bin_fact c d
  have h3 := bin_fact (a + c) (b + d)
  have h4 := bin_fact a c
  have h5 := bin_fact b d
  have h6 := bin_fact (a + b) (c + d)
  rw [show a + c + (b + d) = a + b + (c + d) by omega] at h3
  have hp : 0 < fact a * fact b * (fact c * fact d) := Nat.mul_pos (Nat.mul_pos (fact_pos _) (fact_pos _)) (Nat.mul_pos (fact_pos _) (fact_pos _))
  refine Nat.eq_of_mul_eq_mul_right hp ?_
  calc bin (a + b) a * bin (c + d) c * bin (a + b + (c + d)) (a + b) * (fact a * fact b * (fact c * fact d))
      = bin (a + b + (c + d)) (a + b) * ((bin (a + b) a * (fact a * fact b)) * (bin (c + d) c * (fact c * fact d))) := by ac_rfl
    _ = fact (a + b + (c + d)) := by rw [h1, h2, h6]
    _ = bin (a + b + (c + d)) (a + c) * ((bin (a + c) a * (fact a * fact c)) * (bin (b + d) b * (fact b * fact d))) := by rw [h4, h5, h3]
    _ = bin (a + c) a * bin (b + d) b * bin (a + b + (c + d)) (a + c) * (fact a * fact b * (fact c * fact d)) := by ac_rfl

/-- C(i,k) C(L-i,m-k) C(L,i) = C(m,k) C(L-m,i-k) C(L,m), k any, i and m at most L. -/
theorem bin_hyper (L i m k : Nat) (hi : i ≤ L) (hm : m ≤ L) : bin i k * binI (L - i) ((m : Int) - (k : Int)) * bin L i = bin m k * binI (L - m) ((i : Int) - (k : Int)) * bin L m := by
  by_cases h1 : i < k
  · rw [bin_gt i k h1, binI_neg (L - m) ((i : Int) - (k : Int)) (by omega)]; simp
  by_cases h2 : m < k
  · rw [bin_gt m k h2, binI_neg (L - i) ((m : Int) - (k : Int)) (by omega)]; simp
  obtain ⟨b, rfl⟩ := Nat.exists_eq_add_of_le (Nat.not_lt.1 h1)
  obtain ⟨c, rfl⟩ := Nat.exists_eq_add_of_le (Nat.not_lt.1 h2)
  rw [show ((k + c : Nat) : Int) - (k : Int) = (c : Int) by omega, show ((k + b : Nat) : Int) - (k : Int) = (b : Int) by omega, binI_nat, binI_nat]
  by_cases h3 : L < k + b + c
  · rw [bin_gt (L - (k + b)) c (by omega), bin_gt (L - (k + c)) b (by omega)]; simp
  obtain ⟨d, rfl⟩ := Nat.exists_eq_add_of_le (Nat.not_lt.1 h3)
  have h := bin_sym k b c d
  rw [show k + b + c + d - (k + b) = c + d by omega, show k + b + c + d - (k + c) = b + d by omega, show k + b + c + d = k + b + (c + d) by omega]
  exact h

theorem accS_hyper (L i m n : Nat) (hi : i ≤ L) (hm : m ≤ L) : accS i (L - i) (m : Int) n * bin L i = accS m (L - m) (i : Int) n * bin L m := by
  induction n with
  | zero => simp [accS]
  | succ n ih => rw [accS, accS, Nat.add_mul, Nat.add_mul, ih, bin_hyper L i m n hi hm]

/-- Fractions alike have the same least terms. -/
theorem least_eq (p q p' q' : Nat) (hq : 0 < q) (hq' : 0 < q') (h : p * q' = p' * q) : p / Nat.gcd p q = p' / Nat.gcd p' q' ∧ q / Nat.gcd p q = q' / Nat.gcd p' q' := by
  have g1 : 0 < Nat.gcd p q := Nat.gcd_pos_of_pos_right _ hq
  have g2 : 0 < Nat.gcd p' q' := Nat.gcd_pos_of_pos_right _ hq'
  obtain ⟨a, ha⟩ := Nat.gcd_dvd_left p q
  obtain ⟨b, hb⟩ := Nat.gcd_dvd_right p q
  obtain ⟨c, hc⟩ := Nat.gcd_dvd_left p' q'
  obtain ⟨d, hd⟩ := Nat.gcd_dvd_right p' q'
  have k1 : Nat.Coprime a b := by
    have := Nat.coprime_div_gcd_div_gcd (m := p) (n := q) g1
    rwa [Nat.div_eq_of_eq_mul_right g1 ha, Nat.div_eq_of_eq_mul_right g1 hb] at this
  have k2 : Nat.Coprime c d := by
    have := Nat.coprime_div_gcd_div_gcd (m := p') (n := q') g2
    rwa [Nat.div_eq_of_eq_mul_right g2 hc, Nat.div_eq_of_eq_mul_right g2 hd] at this
  have e1 : p / Nat.gcd p q = a := Nat.div_eq_of_eq_mul_right g1 ha
  have e2 : q / Nat.gcd p q = b := Nat.div_eq_of_eq_mul_right g1 hb
  have e3 : p' / Nat.gcd p' q' = c := Nat.div_eq_of_eq_mul_right g2 hc
  have e4 : q' / Nat.gcd p' q' = d := Nat.div_eq_of_eq_mul_right g2 hd
  rw [e1, e2, e3, e4]
  have hx : a * d = c * b := by
    have : (Nat.gcd p q * Nat.gcd p' q') * (a * d) = (Nat.gcd p q * Nat.gcd p' q') * (c * b) := by
      calc (Nat.gcd p q * Nat.gcd p' q') * (a * d) = (Nat.gcd p q * a) * (Nat.gcd p' q' * d) := by ac_rfl
        _ = p * q' := by rw [← ha, ← hd]
        _ = p' * q := h
        _ = (Nat.gcd p' q' * c) * (Nat.gcd p q * b) := by rw [← hc, ← hb]
        _ = _ := by ac_rfl
    exact Nat.eq_of_mul_eq_mul_left (Nat.mul_pos g1 g2) this
  have hbpos : 0 < b := by rcases Nat.eq_zero_or_pos b with h0 | h0; · rw [h0] at hb; omega
                           · exact h0
  have d1 : b ∣ d := k1.symm.dvd_of_dvd_mul_left (show b ∣ a * d from hx ▸ Nat.dvd_mul_left b c)
  have d2 : d ∣ b := k2.symm.dvd_of_dvd_mul_left (show d ∣ c * b from hx ▸ Nat.dvd_mul_left d a)
  have hbd : b = d := Nat.dvd_antisymm d1 d2
  subst hbd
  exact ⟨Nat.eq_of_mul_eq_mul_right hbpos hx, rfl⟩

end Go.Proofs.Ytkonlchholfpoaa
