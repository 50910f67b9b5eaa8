/- Rounding to nearest keeps the order. No program in sight. -/
import Derived.Test.YtkgbbagklkffpaaRat
import Derived.Test.YtkgbbagklkffpaaMin
namespace Go.Proofs.Ytkgbbagklkffpaa
open Go.RowKit

theorem cut_near (n drop K : Nat) (hK : Ieee.Toward.even.cut false n drop = K) : 2 * n ≤ (2 * K + 1) * 2 ^ drop ∧ (2 * n = (2 * K + 1) * 2 ^ drop → K % 2 = 0) ∧ (1 ≤ K → (2 * K - 1) * 2 ^ drop ≤ 2 * n ∧ (2 * n = (2 * K - 1) * 2 ^ drop → K % 2 = 0)) := by
  unfold Ieee.Toward.cut at hK
  simp only [Nat.one_shiftLeft] at hK
  by_cases hd : drop ≤ n.log2 + 2
  · rw [Nat.min_eq_left hd] at hK
    have hp : 0 < 2 ^ drop := Nat.two_pow_pos _
    generalize 2 ^ drop = g at hK hp
    have h1 := Nat.div_add_mod n g
    have h2 := Nat.mod_lt n hp
    generalize n / g = q at h1 hK
    generalize n % g = s at h1 h2 hK
    have hc : g * q = q * g := Nat.mul_comm _ _
    generalize hP : q * g = P at hc
    rw [hc] at h1
    have e0 : (2 * q + 1) * g = 2 * P + g := by rw [Nat.add_mul, Nat.mul_assoc, hP, Nat.one_mul]
    have e1 : (2 * (q + 1) + 1) * g = 2 * P + 3 * g := by
      have : (2 * (q + 1) + 1) * g = 2 * (q * g) + 3 * g := by
        rw [show 2 * (q + 1) + 1 = 2 * q + 3 by omega, Nat.add_mul, Nat.mul_assoc]
      rw [this, hP]
    cases hb : (decide (g < 2 * s) || g == 2 * s && q % 2 == 1)
    · rw [hb] at hK
      simp only [Bool.toNat_false, Nat.add_zero] at hK
      subst hK
      simp only [Bool.or_eq_false_iff, decide_eq_false_iff_not, Bool.and_eq_false_imp, beq_iff_eq, beq_eq_false_iff_ne, ne_eq] at hb
      obtain ⟨b1, b2⟩ := hb
      refine ⟨by rw [e0]; omega, fun h => ?_, fun hq => ?_⟩
      · rw [e0] at h
        have := b2 (by omega)
        omega
      · have e2 : (2 * q - 1) * g = 2 * P - g := by rw [Nat.sub_mul, Nat.mul_assoc, hP, Nat.one_mul]
        have hg : g ≤ P := by rw [← hP]; exact Nat.le_mul_of_pos_left g hq
        rw [e2]
        refine ⟨by omega, fun h => by omega⟩
    · rw [hb] at hK
      simp only [Bool.toNat_true] at hK
      subst hK
      simp only [Bool.or_eq_true, decide_eq_true_eq, Bool.and_eq_true, beq_iff_eq] at hb
      refine ⟨by rw [e1]; omega, fun h => by rw [e1] at h; omega, fun _ => ?_⟩
      rw [show 2 * (q + 1) - 1 = 2 * q + 1 by omega, e0]
      refine ⟨by omega, fun h => by omega⟩
  · rw [Nat.min_eq_right (by omega)] at hK
    have hn : n < 2 ^ (n.log2 + 1) := Nat.lt_log2_self
    have hp : 2 ^ (n.log2 + 2) = 2 * 2 ^ (n.log2 + 1) := by rw [Nat.pow_succ, Nat.mul_comm]
    have hq : 2 ^ (n.log2 + 2) ≤ 2 ^ drop := Nat.pow_le_pow_right (by decide) (by omega)
    generalize 2 ^ (n.log2 + 1) = u at hn hp
    rw [hp] at hK hq
    have e1 : n / (2 * u) = 0 := Nat.div_eq_of_lt (by omega)
    have e2 : n % (2 * u) = n := Nat.mod_eq_of_lt (by omega)
    rw [e1, e2] at hK
    have : (decide (2 * u < 2 * n) || 2 * u == 2 * n && 0 % 2 == 1) = false := by simp; omega
    rw [this] at hK
    simp only [Bool.toNat_false, Nat.add_zero] at hK
    subst hK
    exact ⟨by omega, fun h => by omega, fun h => by omega⟩

section
variable (f : Ieee.Format)
/-- M / U, in units of the least place, is rounded to the rung r. -/
def Rds (M U r : Nat) : Prop :=
  (0 < r → (mgr f (r - 1) + mgr f r) * U ≤ 2 * M ∧ ((mgr f (r - 1) + mgr f r) * U = 2 * M → r % 2 = 0)) ∧
  2 * M ≤ (mgr f r + mgr f (r + 1)) * U ∧ (2 * M = (mgr f r + mgr f (r + 1)) * U → r % 2 = 0)
theorem rds_mono {M U r M' U' r' : Nat} (h : Rds f M U r) (h' : Rds f M' U' r') (hU : 0 < U) (hU' : 0 < U') (hM : M * U' ≤ M' * U) : r ≤ r' := by
  rcases Nat.lt_or_ge r' r with hlt | hge
  · exfalso
    obtain ⟨a1, a2⟩ := h.1 (by omega)
    obtain ⟨-, b1, b2⟩ := h'
    have c1 : mgr f r' ≤ mgr f (r - 1) := mgr_mono f (by omega)
    have c2 : mgr f (r' + 1) ≤ mgr f r := mgr_mono f (by omega)
    have hUU : 0 < U * U' := Nat.mul_pos hU hU'
    have d1 : (mgr f (r - 1) + mgr f r) * (U * U') ≤ 2 * (M * U') := by
      have := Nat.mul_le_mul_right U' a1
      calc _ = (mgr f (r - 1) + mgr f r) * U * U' := by rw [Nat.mul_assoc]
        _ ≤ 2 * M * U' := this
        _ = _ := by rw [Nat.mul_assoc]
    have d2 : 2 * (M' * U) ≤ (mgr f r' + mgr f (r' + 1)) * (U * U') := by
      have := Nat.mul_le_mul_right U b1
      calc _ = 2 * M' * U := by rw [Nat.mul_assoc]
        _ ≤ (mgr f r' + mgr f (r' + 1)) * U' * U := this
        _ = _ := by rw [Nat.mul_assoc, Nat.mul_comm U' U]
    have d3 : (mgr f (r - 1) + mgr f r) ≤ (mgr f r' + mgr f (r' + 1)) := Nat.le_of_mul_le_mul_right (Nat.le_trans d1 (Nat.le_trans (by omega) d2)) hUU
    have e1 : r = r' + 1 := by
      rcases Nat.lt_or_ge r' (r - 1) with h1 | h1
      · have := mgr_less f h1; omega
      · omega
    subst e1
    rw [Nat.add_sub_cancel] at *
    have s1 : (mgr f r' + mgr f (r' + 1)) * (U * U') = 2 * (M * U') := by omega
    have s2 : (mgr f r' + mgr f (r' + 1)) * (U * U') = 2 * (M' * U) := by omega
    have t1 := a2 (by
      refine Nat.eq_of_mul_eq_mul_right hU' ?_
      rw [Nat.mul_assoc, Nat.mul_assoc]; exact s1)
    have t2 := b2 (by
      refine Nat.eq_of_mul_eq_mul_right hU ?_
      rw [Nat.mul_assoc, Nat.mul_assoc, Nat.mul_comm U' U]; exact s2.symm)
    omega
  · exact hge

theorem bnd_even (h : 1 ≤ f.fractionBits) : f.binade % 2 = 0 := by
  have : f.binade = 2 ^ f.fractionBits := rfl
  rw [this, show f.fractionBits = (f.fractionBits - 1) + 1 by omega, Nat.pow_succ]
  omega
/-- From the place's digits to the rung. -/
theorem rds_of (hf : 1 ≤ f.fractionBits) (D K M U : Nat) (hK : K ≤ 2 * f.binade) (hD : 0 < D → f.binade ≤ K) (hU : 0 < U)
    (u1 : 2 * M ≤ (2 * K + 1) * (2 ^ D * U)) (u2 : 2 * M = (2 * K + 1) * (2 ^ D * U) → K % 2 = 0) (l1 : 1 ≤ K → (2 * K - 1) * (2 ^ D * U) ≤ 2 * M) (l2 : 1 ≤ K → 2 * M = (2 * K - 1) * (2 ^ D * U) → K % 2 = 0)
    (t1 : M < 2 * f.binade * (2 ^ D * U)) (t2 : 0 < D → f.binade * (2 ^ D * U) ≤ M) : Rds f M U (D * f.binade + K) := by
  have hb := bnd_pos f
  have he := bnd_even f hf
  have hpar : (D * f.binade + K) % 2 = K % 2 := by
    have : D * f.binade % 2 = 0 := by rw [Nat.mul_mod, he]; simp
    omega
  have hG : 0 < 2 ^ D * U := Nat.mul_pos (Nat.two_pow_pos _) hU
  have eK := mgr_parts f D K hK hD
  refine ⟨fun hr => ?_, ?_⟩
  · by_cases hc : 0 < D ∧ K = f.binade
    · obtain ⟨hD0, rfl⟩ := hc
      obtain ⟨d, rfl⟩ : ∃ d, D = d + 1 := ⟨D - 1, by omega⟩
      have e1 : (d + 1) * f.binade + f.binade - 1 = d * f.binade + (2 * f.binade - 1) := by rw [Nat.add_mul]; omega
      have e2 := mgr_parts f d (2 * f.binade - 1) (by omega) (fun _ => by omega)
      rw [eK, e1, e2]
      have e3 : (2 * f.binade - 1) * 2 ^ d + f.binade * 2 ^ (d + 1) = (4 * f.binade - 1) * 2 ^ d := by
        rw [Nat.pow_succ, Nat.mul_comm (2 ^ d) 2, ← Nat.mul_assoc, ← Nat.add_mul]; congr 1; omega
      have t2 := t2 (by omega)
      have e4 : f.binade * (2 ^ (d + 1) * U) = 2 * f.binade * (2 ^ d * U) := by
        rw [Nat.pow_succ]; ac_rfl
      rw [e4] at t2
      rw [e3, Nat.mul_assoc]
      have hG2 : 0 < 2 ^ d * U := Nat.mul_pos (Nat.two_pow_pos _) hU
      have e5 : (4 * f.binade - 1) * (2 ^ d * U) + 2 ^ d * U = 2 * (2 * f.binade * (2 ^ d * U)) := by
        generalize 2 ^ d * U = g
        rw [Nat.sub_mul, ← Nat.mul_assoc, ← Nat.mul_assoc, Nat.one_mul]
        have : g ≤ 4 * f.binade * g := Nat.le_mul_of_pos_left g (by omega)
        have : 2 * 2 * f.binade * g = 4 * f.binade * g := by rfl
        omega
      exact ⟨by omega, fun h => by omega⟩
    · have hK1 : 1 ≤ K := by
        rcases Nat.eq_zero_or_pos K with h0 | h0
        · subst h0
          rcases Nat.eq_zero_or_pos D with h1 | h1
          · subst h1; omega
          · have := hD h1; omega
        · exact h0
      have e1 : D * f.binade + K - 1 = D * f.binade + (K - 1) := by omega
      have e2 := mgr_parts f D (K - 1) (by omega) (fun h => by have := hD h; omega)
      rw [eK, e1, e2, hpar, ← Nat.add_mul, show K - 1 + K = 2 * K - 1 by omega, Nat.mul_assoc]
      exact ⟨l1 hK1, fun h => l2 hK1 h.symm⟩
  · by_cases hc : K = 2 * f.binade
    · subst hc
      have e1 : D * f.binade + 2 * f.binade + 1 = (D + 1) * f.binade + (f.binade + 1) := by rw [Nat.add_mul]; omega
      have e2 := mgr_parts f (D + 1) (f.binade + 1) (by omega) (fun _ => by omega)
      rw [eK, e1, e2]
      have e3 : 2 * f.binade * 2 ^ D + (f.binade + 1) * 2 ^ (D + 1) = (4 * f.binade + 2) * 2 ^ D := by
        rw [Nat.pow_succ, Nat.mul_comm (2 ^ D) 2, ← Nat.mul_assoc, ← Nat.add_mul]; congr 1; omega
      rw [e3, Nat.mul_assoc]
      generalize 2 ^ D * U = g at *
      have e4 : (4 * f.binade + 2) * g = 2 * (2 * f.binade * g) + 2 * g := by
        rw [Nat.add_mul, ← Nat.mul_assoc 2 (2 * f.binade), ← Nat.mul_assoc 2 2]
      exact ⟨by omega, fun h => by omega⟩
    · have e1 : D * f.binade + K + 1 = D * f.binade + (K + 1) := by omega
      have e2 := mgr_parts f D (K + 1) (by omega) (fun h => by have := hD h; omega)
      rw [eK, e1, e2, hpar, ← Nat.add_mul, show K + (K + 1) = 2 * K + 1 by omega, Nat.mul_assoc]
      exact ⟨u1, u2⟩

/-- What is rounded once. -/
theorem rungOf_rds (hf : 1 ≤ f.fractionBits) (mag : Nat) (place c : Int) (hc : c ≤ place) (hl : c ≤ f.leastPlace) (hfin : rungOf f mag place < f.infRung) : Rds f (mag * 2 ^ (place - c).toNat) (2 ^ (f.leastPlace - c).toNat) (rungOf f mag place) := by
  by_cases h0 : mag = 0
  · subst h0
    have : rungOf f 0 place = 0 := by simp [rungOf]
    rw [this]
    exact ⟨fun h => by omega, by omega, fun _ => rfl⟩
  obtain ⟨last, hlast⟩ : ∃ last, last = max (place + mag.log2 - f.fractionBits) f.leastPlace := ⟨_, rfl⟩
  obtain ⟨K, hK⟩ : ∃ K, Ieee.Toward.even.cut false (mag <<< (place - last).toNat) (last - place).toNat = K := ⟨_, rfl⟩
  obtain ⟨D, hD⟩ : ∃ D, D = (last - f.leastPlace).toNat := ⟨_, rfl⟩
  have hm1 : mag < 2 ^ (mag.log2 + 1) := Nat.lt_log2_self
  have hm0 : 2 ^ mag.log2 ≤ mag := Nat.log2_self_le h0
  have hbin : f.binade = 2 ^ f.fractionBits := rfl
  have e : rungOf f mag place = min (D * f.binade + K) f.infRung := by
    unfold rungOf
    rw [if_neg h0, ← hlast, hK, ← hD]
  obtain ⟨n1, n2, n3⟩ := cut_near _ _ _ hK
  have hG : 2 ^ D * 2 ^ (f.leastPlace - c).toNat = 2 ^ (last - c).toNat := by
    rw [← Nat.pow_add]; congr 1; omega
  have key : mag <<< (place - last).toNat * 2 ^ (last - c).toNat = mag * 2 ^ (place - c).toNat * 2 ^ (last - place).toNat := by
    rw [Nat.shiftLeft_eq, Nat.mul_assoc, Nat.mul_assoc, ← Nat.pow_add, ← Nat.pow_add]
    congr 2; omega
  have C : mag * 2 ^ (place - c).toNat < 2 * f.binade * 2 ^ (last - c).toNat := by
    calc mag * 2 ^ (place - c).toNat < 2 ^ (mag.log2 + 1) * 2 ^ (place - c).toNat := Nat.mul_lt_mul_of_pos_right hm1 (Nat.two_pow_pos _)
      _ = 2 ^ (mag.log2 + 1 + (place - c).toNat) := by rw [← Nat.pow_add]
      _ ≤ 2 ^ (f.fractionBits + 1 + (last - c).toNat) := Nat.pow_le_pow_right (by decide) (by omega)
      _ = _ := by rw [Nat.pow_add, Nat.pow_succ, hbin, Nat.mul_comm (2 ^ f.fractionBits) 2]
  have E : 0 < D → f.binade * 2 ^ (last - c).toNat ≤ mag * 2 ^ (place - c).toNat := by
    intro hD
    calc f.binade * 2 ^ (last - c).toNat = 2 ^ (f.fractionBits + (last - c).toNat) := by rw [Nat.pow_add _ f.fractionBits, hbin]
      _ = 2 ^ (mag.log2 + (place - c).toNat) := by congr 1; omega
      _ = 2 ^ mag.log2 * 2 ^ (place - c).toNat := by rw [Nat.pow_add]
      _ ≤ _ := Nat.mul_le_mul_right _ hm0
  generalize mag * 2 ^ (place - c).toNat = M at *
  generalize mag <<< (place - last).toNat = n at *
  have hg : 0 < 2 ^ (last - place).toNat := Nat.two_pow_pos _
  have hG0 : 0 < 2 ^ (last - c).toNat := Nat.two_pow_pos _
  rw [e, Nat.min_eq_left (by have := Nat.min_le_left (D * f.binade + K) f.infRung; omega)]
  rw [← hG] at key C E hG0
  have hU : 0 < 2 ^ (f.leastPlace - c).toNat := Nat.two_pow_pos _
  generalize 2 ^ (f.leastPlace - c).toNat = U at *
  have LE : ∀ a, 2 * n ≤ a * 2 ^ (last - place).toNat → 2 * M ≤ a * (2 ^ D * U) := fun a h => by
    refine Nat.le_of_mul_le_mul_right ?_ hg
    have := Nat.mul_le_mul_right (2 ^ D * U) h
    calc 2 * M * 2 ^ (last - place).toNat = 2 * n * (2 ^ D * U) := by rw [Nat.mul_assoc, ← key, Nat.mul_assoc]
      _ ≤ _ := this
      _ = _ := by ac_rfl
  have GE : ∀ a, a * 2 ^ (last - place).toNat ≤ 2 * n → a * (2 ^ D * U) ≤ 2 * M := fun a h => by
    refine Nat.le_of_mul_le_mul_right ?_ hg
    have := Nat.mul_le_mul_right (2 ^ D * U) h
    calc a * (2 ^ D * U) * 2 ^ (last - place).toNat = a * 2 ^ (last - place).toNat * (2 ^ D * U) := by ac_rfl
      _ ≤ _ := this
      _ = 2 * M * 2 ^ (last - place).toNat := by rw [Nat.mul_assoc, key, Nat.mul_assoc]
  have EQ : ∀ a, 2 * M = a * (2 ^ D * U) → 2 * n = a * 2 ^ (last - place).toNat := fun a h => by
    refine Nat.eq_of_mul_eq_mul_right hG0 ?_
    calc 2 * n * (2 ^ D * U) = 2 * M * 2 ^ (last - place).toNat := by rw [Nat.mul_assoc, key, Nat.mul_assoc]
      _ = a * (2 ^ D * U) * 2 ^ (last - place).toNat := by rw [h]
      _ = _ := by ac_rfl
  have kle : K ≤ 2 * f.binade := by
    have := LE _ n1
    rcases Nat.lt_or_ge (2 * f.binade) K with h | h
    · exfalso
      have h3 := GE _ (n3 (by omega)).1
      have : (2 * (2 * f.binade) + 1) * (2 ^ D * U) ≤ (2 * K - 1) * (2 ^ D * U) := Nat.mul_le_mul_right _ (by omega)
      rw [Nat.add_mul, Nat.one_mul, Nat.mul_assoc 2] at this
      omega
    · exact h
  have kge : 0 < D → f.binade ≤ K := fun h => by
    have h1 := LE _ n1
    have h2 := E h
    rcases Nat.lt_or_ge K f.binade with h3 | h3
    · exfalso
      have : (2 * K + 1) * (2 ^ D * U) ≤ (2 * f.binade - 1) * (2 ^ D * U) := Nat.mul_le_mul_right _ (by omega)
      rw [Nat.sub_mul, Nat.one_mul, Nat.mul_assoc] at this
      have hb := bnd_pos f
      have : 2 ^ D * U ≤ f.binade * (2 ^ D * U) := Nat.le_mul_of_pos_left _ hb
      omega
    · exact h3
  exact rds_of f hf D K M U kle kge hU (LE _ n1) (fun h => n2 (EQ _ h)) (fun h => GE _ (n3 h).1) (fun h h2 => (n3 h).2 (EQ _ h2)) C E
end
end Go.Proofs.Ytkgbbagklkffpaa
