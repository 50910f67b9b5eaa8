/- Rounding keeps the order: quotients; sums, products, quotients and narrowed numbers by their values. No program in sight. -/
import Derived.Test.YtkgbbagklkffpaaMono
namespace Go.Proofs.Ytkgbbagklkffpaa
open Go.RowKit

section
variable (f : Ieee.Format)
theorem log_two_le {S k : Nat} (h : 2 ^ k ≤ S) : k ≤ S.log2 := by
  rcases Nat.lt_or_ge S.log2 k with h1 | h1
  · have h2 : S < 2 ^ (S.log2 + 1) := Nat.lt_log2_self
    have h3 : 2 ^ (S.log2 + 1) ≤ 2 ^ k := Nat.pow_le_pow_right (by decide) (by omega)
    omega
  · exact h1
set_option maxHeartbeats 2000000 in
/-- A quotient that bears a last digit is rounded as the exact one. -/
theorem quot_rds (hf : 1 ≤ f.fractionBits) (m n : Nat) (i j : Int) (hm : m ≠ 0) (hn : n ≠ 0) (hi : f.leastPlace ≤ i) (hj : f.leastPlace ≤ j) (hl : f.leastPlace ≤ 0) (more : Nat) (hmore : more = f.fractionBits + 2 + n.log2 - m.log2)
    (hfin : rungOf f (2 * ((m <<< more) / n) + ((m <<< more) % n != 0).toNat) (i - j - (more : Int) - 1) < f.infRung) :
    Rds f (m * 2 ^ (i - f.leastPlace).toNat * 2 ^ (-f.leastPlace).toNat) (n * 2 ^ (j - f.leastPlace).toNat) (rungOf f (2 * ((m <<< more) / n) + ((m <<< more) % n != 0).toNat) (i - j - (more : Int) - 1)) := by
  have hn0 : 0 < n := by omega
  have hm0 : 2 ^ m.log2 ≤ m := Nat.log2_self_le hm
  have hn1 : n < 2 ^ (n.log2 + 1) := Nat.lt_log2_self
  have hbin : f.binade = 2 ^ f.fractionBits := rfl
  have hbig : 2 ^ (f.fractionBits + 1) * n ≤ m <<< more := by
    rw [Nat.shiftLeft_eq]
    refine Nat.le_trans (Nat.mul_le_mul_left _ (Nat.le_of_lt hn1)) (Nat.le_trans ?_ (Nat.mul_le_mul_right _ hm0))
    rw [← Nat.pow_add, ← Nat.pow_add]
    exact Nat.pow_le_pow_right (by decide) (by omega)
  obtain ⟨place, hplace⟩ : ∃ place, place = i - j - (more : Int) - 1 := ⟨_, rfl⟩
  obtain ⟨Q, hQ⟩ : ∃ Q, Q = (m <<< more) / n := ⟨_, rfl⟩
  obtain ⟨R, hR⟩ : ∃ R, R = (m <<< more) % n := ⟨_, rfl⟩
  have hdm : n * Q + R = m <<< more := by rw [hQ, hR]; exact Nat.div_add_mod _ _
  have hRn : R < n := by rw [hR]; exact Nat.mod_lt _ hn0
  obtain ⟨S, hS⟩ : ∃ S, S = 2 * Q + (R != 0).toNat := ⟨_, rfl⟩
  rw [← hQ, ← hR, ← hS, ← hplace] at hfin ⊢
  have hQb : 2 ^ (f.fractionBits + 1) ≤ Q := by rw [hQ]; exact (Nat.le_div_iff_mul_le hn0).2 hbig
  have hSb : 2 ^ (f.fractionBits + 2) ≤ S := by rw [Nat.pow_succ]; omega
  have hlog := log_two_le hSb
  have hS0 : S ≠ 0 := by have := Nat.two_pow_pos (f.fractionBits + 2); omega
  obtain ⟨last, hlast⟩ : ∃ last, last = max (place + S.log2 - f.fractionBits) f.leastPlace := ⟨_, rfl⟩
  have hdrop : 2 ≤ (last - place).toNat := by omega
  obtain ⟨K, hK⟩ : ∃ K, Ieee.Toward.even.cut false (S <<< (place - last).toNat) (last - place).toNat = K := ⟨_, rfl⟩
  obtain ⟨D, hD⟩ : ∃ D, D = (last - f.leastPlace).toNat := ⟨_, rfl⟩
  have e : rungOf f S place = min (D * f.binade + K) f.infRung := by
    unfold rungOf
    rw [if_neg hS0, ← hlast, hK, ← hD]
  rw [show (place - last).toNat = 0 by omega, Nat.shiftLeft_zero] at hK
  obtain ⟨n1, n2, n3⟩ := cut_near _ _ _ hK
  obtain ⟨d, hd⟩ : ∃ d, (last - place).toNat = d + 2 := ⟨(last - place).toNat - 2, by omega⟩
  have hg4 : 2 ^ (last - place).toNat = 4 * 2 ^ d := by rw [hd, Nat.pow_succ, Nat.pow_succ]; omega
  -- sizes
  have C0 : S < 2 * f.binade * 2 ^ (last - place).toNat := by
    calc S < 2 ^ (S.log2 + 1) := Nat.lt_log2_self
      _ ≤ 2 ^ (f.fractionBits + 1 + (last - place).toNat) := Nat.pow_le_pow_right (by decide) (by omega)
      _ = _ := by rw [Nat.pow_add, Nat.pow_succ, hbin, Nat.mul_comm (2 ^ f.fractionBits) 2]
  have E0 : 0 < D → f.binade * 2 ^ (last - place).toNat ≤ S := by
    intro hD
    calc f.binade * 2 ^ (last - place).toNat = 2 ^ (f.fractionBits + (last - place).toNat) := by rw [Nat.pow_add, hbin]
      _ ≤ 2 ^ S.log2 := Nat.pow_le_pow_right (by decide) (by omega)
      _ ≤ S := Nat.log2_self_le hS0
  -- exact against sticky: even bounds
  have hodd : (R != 0).toNat = if R = 0 then 0 else 1 := by by_cases h : R = 0 <;> simp [h]
  rw [hodd] at hS
  have UP : ∀ a, S ≤ 2 * a → 2 * (m <<< more) ≤ 2 * a * n := fun a h => by
    rw [← hdm]
    by_cases h0 : R = 0
    · rw [if_pos h0] at hS
      have := Nat.mul_le_mul_right n (show Q ≤ a by omega)
      rw [Nat.mul_comm n Q, h0, Nat.mul_assoc]
      omega
    · rw [if_neg h0] at hS
      have := Nat.mul_le_mul_right n (show Q + 1 ≤ a by omega)
      rw [Nat.add_mul, Nat.one_mul] at this
      rw [Nat.mul_comm n Q, Nat.mul_assoc]
      omega
  have UPE : ∀ a, S ≤ 2 * a → 2 * (m <<< more) = 2 * a * n → S = 2 * a := fun a h h2 => by
    rw [← hdm] at h2
    by_cases h0 : R = 0
    · rw [if_pos h0] at hS
      rw [h0, Nat.mul_comm n Q, Nat.mul_assoc] at h2
      have : Q = a := Nat.eq_of_mul_eq_mul_right hn0 (by omega)
      omega
    · rw [if_neg h0] at hS
      exfalso
      have := Nat.mul_le_mul_right n (show Q + 1 ≤ a by omega)
      rw [Nat.add_mul, Nat.one_mul] at this
      rw [Nat.mul_comm n Q, Nat.mul_assoc] at h2
      omega
  have DN : ∀ a, 2 * a ≤ S → 2 * a * n ≤ 2 * (m <<< more) := fun a h => by
    rw [← hdm]
    have := Nat.mul_le_mul_right n (show a ≤ Q by split at hS <;> omega)
    rw [Nat.mul_comm n Q, Nat.mul_assoc]
    omega
  have DNE : ∀ a, 2 * a ≤ S → 2 * (m <<< more) = 2 * a * n → S = 2 * a := fun a h h2 => by
    rw [← hdm] at h2
    have h3 := Nat.mul_le_mul_right n (show a ≤ Q by split at hS <;> omega)
    rw [Nat.mul_comm n Q, Nat.mul_assoc] at h2
    have h4 : R = 0 := by omega
    rw [if_pos h4] at hS
    have : Q = a := Nat.eq_of_mul_eq_mul_right hn0 (by omega)
    omega
  -- scales
  obtain ⟨U, hU⟩ : ∃ U, U = n * 2 ^ (j - f.leastPlace).toNat := ⟨_, rfl⟩
  obtain ⟨M, hM⟩ : ∃ M, M = m * 2 ^ (i - f.leastPlace).toNat * 2 ^ (-f.leastPlace).toNat := ⟨_, rfl⟩
  have hU0 : 0 < U := by rw [hU]; exact Nat.mul_pos hn0 (Nat.two_pow_pos _)
  have hG0 : 0 < 2 ^ D * U := Nat.mul_pos (Nat.two_pow_pos _) hU0
  -- M * (n * 2^drop) = (m <<< more) * 2^? ..: compare M / (2^D U) with 2 (m<<<more) / (n 2^drop)
  have key : M * (n * 2 ^ (last - place).toNat) = 2 * (m <<< more) * (2 ^ D * U) := by
    rw [hM, hU, Nat.shiftLeft_eq, hplace]
    have e1 : m * 2 ^ (i - f.leastPlace).toNat * 2 ^ (-f.leastPlace).toNat * (n * 2 ^ (last - (i - j - (more : Int) - 1)).toNat) = m * n * (2 ^ (i - f.leastPlace).toNat * 2 ^ (-f.leastPlace).toNat * 2 ^ (last - (i - j - (more : Int) - 1)).toNat) := by ac_rfl
    have e2 : 2 * (m * 2 ^ more) * (2 ^ D * (n * 2 ^ (j - f.leastPlace).toNat)) = m * n * (2 ^ 1 * 2 ^ more * 2 ^ D * 2 ^ (j - f.leastPlace).toNat) := by rw [Nat.pow_one]; ac_rfl
    rw [e1, e2, ← Nat.pow_add, ← Nat.pow_add, ← Nat.pow_add, ← Nat.pow_add, ← Nat.pow_add]
    congr 2
    omega
  rw [← hM, ← hU]
  rw [e, Nat.min_eq_left (by have := Nat.min_le_left (D * f.binade + K) f.infRung; omega)]
  generalize 2 ^ (last - place).toNat = g at *
  generalize m <<< more = N at *
  have hg0 : 0 < g := by have := Nat.two_pow_pos d; omega
  have hng : 0 < n * g := Nat.mul_pos hn0 hg0
  generalize 2 ^ d = h4 at *
  -- 2M vs a * (2^D U)  <->  2*2N vs a * g * n
  have TLE : ∀ a, 2 * (2 * N) ≤ a * g * n → 2 * M ≤ a * (2 ^ D * U) := fun a h => by
    refine Nat.le_of_mul_le_mul_right ?_ hng
    have := Nat.mul_le_mul_right (2 ^ D * U) h
    calc 2 * M * (n * g) = 2 * (2 * N) * (2 ^ D * U) := by rw [Nat.mul_assoc, key]; ac_rfl
      _ ≤ _ := this
      _ = _ := by ac_rfl
  have TGE : ∀ a, a * g * n ≤ 2 * (2 * N) → a * (2 ^ D * U) ≤ 2 * M := fun a h => by
    refine Nat.le_of_mul_le_mul_right ?_ hng
    have := Nat.mul_le_mul_right (2 ^ D * U) h
    calc a * (2 ^ D * U) * (n * g) = a * g * n * (2 ^ D * U) := by ac_rfl
      _ ≤ _ := this
      _ = 2 * M * (n * g) := by rw [Nat.mul_assoc 2 M, key]; ac_rfl
  have TEQ : ∀ a, 2 * M = a * (2 ^ D * U) → 2 * (2 * N) = a * g * n := fun a h => by
    refine Nat.eq_of_mul_eq_mul_right hG0 ?_
    calc 2 * (2 * N) * (2 ^ D * U) = 2 * M * (n * g) := by rw [Nat.mul_assoc 2 M, key]; ac_rfl
      _ = a * (2 ^ D * U) * (n * g) := by rw [h]
      _ = _ := by ac_rfl
  -- a * g = 2 * (2 * (a * h4))
  have hag : ∀ a, a * g = 2 * (2 * (a * h4)) := fun a => by rw [hg4, ← Nat.mul_assoc, Nat.mul_comm a 4, Nat.mul_assoc]; omega
  have hS2 : ∀ a, 2 * S ≤ a * g → 2 * M ≤ a * (2 ^ D * U) := fun a h => by
    refine TLE a ?_
    have := UP (a * h4) (by have := hag a; omega)
    rw [hag a]
    rw [show 2 * (2 * (a * h4)) * n = 2 * (2 * (a * h4) * n) by ac_rfl]
    omega
  have hS3 : ∀ a, a * g ≤ 2 * S → a * (2 ^ D * U) ≤ 2 * M := fun a h => by
    refine TGE a ?_
    have := DN (a * h4) (by have := hag a; omega)
    rw [hag a]
    rw [show 2 * (2 * (a * h4)) * n = 2 * (2 * (a * h4) * n) by ac_rfl]
    omega
  have hS4 : ∀ a, 2 * S ≤ a * g → 2 * M = a * (2 ^ D * U) → 2 * S = a * g := fun a h h2 => by
    have h3 := TEQ a h2
    rw [hag a, show 2 * (2 * (a * h4)) * n = 2 * (2 * (a * h4) * n) by ac_rfl] at h3
    have := UPE (a * h4) (by have := hag a; omega) (by omega)
    have := hag a
    omega
  have hS5 : ∀ a, a * g ≤ 2 * S → 2 * M = a * (2 ^ D * U) → 2 * S = a * g := fun a h h2 => by
    have h3 := TEQ a h2
    rw [hag a, show 2 * (2 * (a * h4)) * n = 2 * (2 * (a * h4) * n) by ac_rfl] at h3
    have := DNE (a * h4) (by have := hag a; omega) (by omega)
    have := hag a
    omega
  have kle : K ≤ 2 * f.binade := by
    rcases Nat.lt_or_ge (2 * f.binade) K with h | h
    · exfalso
      have h3 := (n3 (by omega)).1
      have : (2 * (2 * f.binade) + 1) * g ≤ (2 * K - 1) * g := Nat.mul_le_mul_right _ (by omega)
      rw [Nat.add_mul, Nat.one_mul, Nat.mul_assoc 2] at this
      omega
    · exact h
  have kge : 0 < D → f.binade ≤ K := fun h => by
    have h2 := E0 h
    rcases Nat.lt_or_ge K f.binade with h3 | h3
    · exfalso
      have : (2 * K + 1) * g ≤ (2 * f.binade - 1) * g := Nat.mul_le_mul_right _ (by omega)
      rw [Nat.sub_mul, Nat.one_mul, Nat.mul_assoc] at this
      have hb := bnd_pos f
      have : g ≤ f.binade * g := Nat.le_mul_of_pos_left _ hb
      omega
    · exact h3
  have C1 : M < 2 * f.binade * (2 ^ D * U) := by
    rcases Nat.lt_or_ge M (2 * f.binade * (2 ^ D * U)) with h | h
    · exact h
    · exfalso
      -- S < 2 b g
      have h5 : 2 * S ≤ 2 * (2 * f.binade) * g := by rw [Nat.mul_assoc]; omega
      have h6 := hS2 _ h5
      rw [Nat.mul_assoc 2 (2 * f.binade)] at h6
      have h7 := hS4 _ h5 (by rw [Nat.mul_assoc 2 (2 * f.binade)]; omega)
      rw [Nat.mul_assoc 2 (2 * f.binade)] at h7
      omega
  have E1 : 0 < D → f.binade * (2 ^ D * U) ≤ M := fun h => by
    have h5 : 2 * f.binade * g ≤ 2 * S := by have := E0 h; rw [Nat.mul_assoc]; omega
    have h6 := hS3 _ h5
    rw [Nat.mul_assoc 2 f.binade] at h6
    omega
  exact rds_of f hf D K M U kle kge hU0 (hS2 _ n1) (fun h => n2 (hS4 _ n1 h)) (fun h => hS3 _ (n3 h).1) (fun h h2 => (n3 h).2 (hS5 _ (n3 h).1 h2)) C1 E1
end

/-! ### By values -/
/-- x is z rounded, and not less than 0. -/
def Nr (k : FloatKind) (x : Option Nat) (z : Rat) : Prop := ∃ (b r M U : Nat), x = some b ∧ b % k.format.signWeight < k.format.infRung ∧ fv k.format b = (mgr k.format r : Int) ∧ 0 < U ∧ (M : Rat) = z * (unit k : Nat) * (U : Nat) ∧ Rds k.format M U r
theorem nr_mono {k : FloatKind} {x y : Option Nat} {z z' a b : Rat} (h : Nr k x z) (h' : Nr k y z') (hz : z ≤ z') (hx : RV k x a) (hy : RV k y b) : a ≤ b := by
  obtain ⟨p, r, M, U, rfl, hp, ep, hU, eM, hR⟩ := h
  obtain ⟨q, r', M', U', rfl, hq, eq, hU', eM', hR'⟩ := h'
  obtain ⟨u, hu, eu⟩ := hx
  obtain ⟨v, hv, ev⟩ := hy
  have h1 : r ≤ r' := by
    refine rds_mono k.format hR hR' hU hU' ?_
    have hk := unit_pos k
    have hUr : (0 : Rat) < (U : Nat) := Rat.natCast_pos.2 hU
    have hUr' : (0 : Rat) < (U' : Nat) := Rat.natCast_pos.2 hU'
    rw [← Rat.natCast_le_natCast, Rat.natCast_mul, Rat.natCast_mul, eM, eM']
    have e1 := Rat.mul_le_mul_of_nonneg_right hz (Rat.le_of_lt (Rat.mul_pos hk (Rat.mul_pos hUr hUr')))
    generalize (unit k : Rat) = W at *
    generalize ((U : Nat) : Rat) = A at *
    generalize ((U' : Nat) : Rat) = B at *
    grind
  have h2 := mgr_mono k.format h1
  have eu1 : u = (mgr k.format r : Int) := by rw [← ep]; exact hu.val ⟨p, rfl, hp, rfl⟩
  have ev1 : v = (mgr k.format r' : Int) := by rw [← eq]; exact hv.val ⟨q, rfl, hq, rfl⟩
  exact (RV.le_iff (x := some p) (y := some q) (k := k) eu ev).1 (by omega)
theorem fb1 (k : FloatKind) : 1 ≤ k.format.fractionBits := by cases k <;> decide
/-- A number written. -/
theorem write_nr {k : FloatKind} (neg : Bool) (mag : Nat) (place c : Int) (z : Rat) (hc : c ≤ place) (hl : c ≤ k.format.leastPlace) (hneg : neg = true → mag = 0)
    (hz : ((mag * 2 ^ (place - c).toNat : Nat) : Rat) = z * (unit k : Nat) * ((2 ^ (k.format.leastPlace - c).toNat : Nat) : Rat)) {a : Rat} (hfin : RV k (some (k.format.write (.number neg mag place))) a) : Nr k (some (k.format.write (.number neg mag place))) z := by
  have hi := k.format.infRung_lt
  have hw : k.format.write (.number neg mag place) = k.format.word neg (rungOf k.format mag place) := nearest_rung k.format neg mag place
  obtain ⟨v, ⟨b, hb, h1, -⟩, -⟩ := hfin
  cases hb
  have h1' := h1
  rw [hw] at h1
  have hle : rungOf k.format mag place ≤ k.format.infRung := by
    unfold rungOf
    split
    · exact Nat.zero_le _
    · exact Nat.min_le_right _ _
  rw [word_mod k.format neg _ (by omega)] at h1
  refine ⟨_, rungOf k.format mag place, _, _, rfl, h1', ?_, Nat.two_pow_pos _, hz, rungOf_rds k.format (fb1 k) mag place c hc hl h1⟩
  rw [hw, fv_word k.format neg _ (by omega)]
  cases neg with
  | false => rfl
  | true =>
    have : rungOf k.format mag place = 0 := by rw [hneg rfl]; simp [rungOf]
    rw [this]
    have : mgr k.format 0 = 0 := by simp [mgr, bnd_pos]
    rw [this]
    rfl
theorem sum_nr {k : FloatKind} (s t : Bool) (m n : Nat) (i j : Int) (hi : k.format.leastPlace ≤ i) (hj : k.format.leastPlace ≤ j) {z a : Rat} (h0 : 0 ≤ z)
    (hz : ((Ieee.signed s m (i - k.format.leastPlace).toNat + Ieee.signed t n (j - k.format.leastPlace).toNat : Int) : Rat) = z * (unit k : Nat)) (hfin : RV k (((Ieee.Datum.number s m i).sum (.number t n j)).map k.format.write) a) :
    Nr k (((Ieee.Datum.number s m i).sum (.number t n j)).map k.format.write) z := by
  simp only [Ieee.Datum.sum, Option.map_some] at hfin ⊢
  have hsh : ∀ (s : Bool) (m : Nat) (i b : Int), k.format.leastPlace ≤ b → b ≤ i → Ieee.signed s m (i - k.format.leastPlace).toNat = Ieee.signed s m (i - b).toNat * ((2 ^ (b - k.format.leastPlace).toNat : Nat) : Int) := by
    intro s m i b hb1 hb2
    rw [signed_eq, signed_eq, show (i - k.format.leastPlace).toNat = (i - b).toNat + (b - k.format.leastPlace).toNat by omega, Nat.pow_add, ← Nat.mul_assoc, Int.natCast_mul]
    cases s <;> simp [Int.neg_mul]
  rw [hsh s m i (min i j) (by omega) (by omega), hsh t n j (min i j) (by omega) (by omega), ← Int.add_mul] at hz
  generalize Ieee.signed s m (i - min i j).toNat + Ieee.signed t n (j - min i j).toNat = T at hz hfin ⊢
  have hT : 0 ≤ T := by
    have hp : (0 : Int) < ((2 ^ (min i j - k.format.leastPlace).toNat : Nat) : Int) := by have := Nat.two_pow_pos (min i j - k.format.leastPlace).toNat; omega
    rcases Int.lt_or_le T 0 with h | h
    · exfalso
      have h2 := Int.mul_neg_of_neg_of_pos h hp
      have h3 : (0 : Rat) ≤ ((T * ((2 ^ (min i j - k.format.leastPlace).toNat : Nat) : Int) : Int) : Rat) := by
        rw [hz]; exact Rat.mul_nonneg h0 (Rat.le_of_lt (unit_pos k))
      rw [show (0 : Rat) = ((0 : Int) : Rat) from rfl, Rat.intCast_le_intCast] at h3
      omega
    · exact h
  refine write_nr _ _ _ k.format.leastPlace z (by omega) (Int.le_refl _) ?_ ?_ hfin
  · intro hn
    by_cases h : T = 0
    · omega
    · rw [if_neg h] at hn
      simp only [decide_eq_true_eq] at hn
      omega
  · have e : ((T.natAbs * 2 ^ (min i j - k.format.leastPlace).toNat : Nat) : Int) = T * ((2 ^ (min i j - k.format.leastPlace).toNat : Nat) : Int) := by
      rw [Int.natCast_mul]
      have : ((T.natAbs : Nat) : Int) = T := by omega
      rw [this]
    rw [← Rat.intCast_natCast, e, hz, show (k.format.leastPlace - k.format.leastPlace).toNat = 0 by simp, Nat.pow_zero, show ((1 : Nat) : Rat) = 1 from rfl, Rat.mul_one]
section
variable {k : FloatKind} {x y : Option Nat} {a b c : Rat}
theorem nr_add (hx : RV k x a) (hy : RV k y b) (h0 : 0 ≤ a + b) (hc : RV k (fop .add k x y) c) : Nr k (fop .add k x y) (a + b) := by
  obtain ⟨u, hu, e⟩ := hx
  obtain ⟨v, hv, e'⟩ := hy
  obtain ⟨p, s, m, i, rfl, e1, hi, ea⟩ := hu.read
  obtain ⟨q, t, n, j, rfl, e2, hj, eb⟩ := hv.read
  have : fop .add k (some p) (some q) = ((k.format.read p).sum (k.format.read q)).map k.format.write := rfl
  rw [this, e1, e2] at hc ⊢
  refine sum_nr s t m n i j hi hj h0 ?_ hc
  rw [ea, eb, Rat.intCast_add, e, e']; grind
theorem nr_sub (hx : RV k x a) (hy : RV k y b) (h0 : 0 ≤ a - b) (hc : RV k (fop .sub k x y) c) : Nr k (fop .sub k x y) (a - b) := by
  obtain ⟨u, hu, e⟩ := hx
  obtain ⟨v, hv, e'⟩ := hy
  obtain ⟨p, s, m, i, rfl, e1, hi, ea⟩ := hu.read
  obtain ⟨q, t, n, j, rfl, e2, hj, eb⟩ := hv.read
  have : fop .sub k (some p) (some q) = ((k.format.read p).sum (k.format.read q).opposite).map k.format.write := rfl
  rw [this, e1, e2] at hc ⊢
  refine sum_nr s (!t) m n i j hi hj h0 ?_ hc
  rw [signed_opp, ea, eb, ← Int.sub_eq_add_neg, Rat.intCast_sub, e, e']; grind
theorem nr_mul (hx : RV k x a) (hy : RV k y b) (h0 : 0 ≤ a) (h1 : 0 ≤ b) (hc : RV k (fop .mul k x y) c) : Nr k (fop .mul k x y) (a * b) := by
  obtain ⟨u, hu, e⟩ := hx
  obtain ⟨v, hv, e'⟩ := hy
  obtain ⟨p, s, m, i, rfl, e1, hi, ea⟩ := hu.read
  obtain ⟨q, t, n, j, rfl, e2, hj, eb⟩ := hv.read
  have : fop .mul k (some p) (some q) = ((k.format.read p).product (k.format.read q)).map k.format.write := rfl
  rw [this, e1, e2] at hc ⊢
  simp only [Ieee.Datum.product, Option.map_some] at hc ⊢
  have hn := lp_neg k
  have hk := unit_pos k
  have pos : ∀ (s : Bool) (m : Nat) (w : Nat) (V : Int) (A : Rat), Ieee.signed s m w = V → (V : Rat) = A * (unit k : Nat) → 0 ≤ A → (s = true → m = 0) ∧ ((m * 2 ^ w : Nat) : Int) = V := by
    intro s m w V A h1 h2 h3
    have hV : 0 ≤ V := by
      have : (0 : Rat) ≤ (V : Rat) := by rw [h2]; exact Rat.mul_nonneg h3 (Rat.le_of_lt hk)
      rw [show (0 : Rat) = ((0 : Int) : Rat) from rfl, Rat.intCast_le_intCast] at this
      exact this
    rw [signed_eq] at h1
    have hp := Nat.two_pow_pos w
    cases s with
    | false => exact ⟨fun h => (by cases h), by simpa using h1⟩
    | true =>
      simp only [if_true] at h1
      have h0 : m * 2 ^ w = 0 := by omega
      have hm : m = 0 := by
        rcases Nat.mul_eq_zero.1 h0 with h | h
        · exact h
        · omega
      exact ⟨fun _ => hm, by rw [h0]; rw [h0] at h1; omega⟩
  obtain ⟨s1, s2⟩ := pos s m _ u a ea e h0
  obtain ⟨t1, t2⟩ := pos t n _ v b eb e' h1
  refine write_nr _ _ _ (k.format.leastPlace + k.format.leastPlace) _ (by omega) (by omega) ?_ ?_ hc
  · intro h
    cases s <;> cases t <;> simp at h s1 t1 <;> first | (rw [s1]; simp; done) | (rw [t1]; simp; done)
  · have e3 : m * n * 2 ^ (i + j - (k.format.leastPlace + k.format.leastPlace)).toNat = (m * 2 ^ (i - k.format.leastPlace).toNat) * (n * 2 ^ (j - k.format.leastPlace).toNat) := by
      rw [show (i + j - (k.format.leastPlace + k.format.leastPlace)).toNat = (i - k.format.leastPlace).toNat + (j - k.format.leastPlace).toNat by omega, Nat.pow_add]; ac_rfl
    have e4 : (2 ^ (k.format.leastPlace - (k.format.leastPlace + k.format.leastPlace)).toNat : Nat) = unit k := by
      unfold unit; congr 1; omega
    rw [e4, e3, ← Rat.intCast_natCast, Int.natCast_mul, s2, t2, Rat.intCast_mul, e, e']
    grind
theorem nr_div (hx : RV k x a) (hy : RV k y b) (h0 : 0 < a) (h1 : 0 < b) (hc : RV k (fop .quo k x y) c) : Nr k (fop .quo k x y) (a / b) := by
  obtain ⟨u, hu, e⟩ := hx
  obtain ⟨v, hv, e'⟩ := hy
  obtain ⟨p, s, m, i, rfl, e1, hi, ea⟩ := hu.read
  obtain ⟨q, t, n, j, rfl, e2, hj, eb⟩ := hv.read
  have hq : fop .quo k (some p) (some q) = ((k.format.read p).quotient (k.format.fractionBits + 2) (k.format.read q)).map k.format.write := rfl
  rw [hq, e1, e2] at hc ⊢
  have hl := lp_neg k
  have hk := unit_pos k
  have pos : ∀ (s : Bool) (m : Nat) (w : Nat) (V : Int) (A : Rat), Ieee.signed s m w = V → (V : Rat) = A * (unit k : Nat) → 0 < A → s = false ∧ m ≠ 0 ∧ ((m * 2 ^ w : Nat) : Int) = V := by
    intro s m w V A h1 h2 h3
    have hV : 0 < V := by
      have : (0 : Rat) < (V : Rat) := by rw [h2]; exact Rat.mul_pos h3 hk
      rw [show (0 : Rat) = ((0 : Int) : Rat) from rfl, Rat.intCast_lt_intCast] at this
      exact this
    rw [signed_eq] at h1
    cases s with
    | false =>
      simp only [Bool.false_eq_true, if_false] at h1
      refine ⟨rfl, fun h => ?_, h1⟩
      subst h
      simp at h1
      omega
    | true =>
      simp only [if_true] at h1
      omega
  obtain ⟨rfl, hm, s2⟩ := pos s m _ u a ea e h0
  obtain ⟨rfl, hn, t2⟩ := pos t n _ v b eb e' h1
  simp only [Ieee.Datum.quotient, if_neg hn, Option.map_some, Bool.xor_false] at hc ⊢
  obtain ⟨more, hmore⟩ : ∃ more, more = k.format.fractionBits + 2 + n.log2 - m.log2 := ⟨_, rfl⟩
  rw [← hmore] at hc ⊢
  have hi2 := k.format.infRung_lt
  have hw : k.format.write (.number false (2 * ((m <<< more) / n) + ((m <<< more) % n != 0).toNat) (i - j - (more : Int) - 1)) = k.format.word false (rungOf k.format (2 * ((m <<< more) / n) + ((m <<< more) % n != 0).toNat) (i - j - (more : Int) - 1)) := nearest_rung _ _ _ _
  obtain ⟨v2, ⟨b2, hb2, g1, -⟩, -⟩ := hc
  cases hb2
  have g1' := g1
  rw [hw] at g1
  have hle : rungOf k.format (2 * ((m <<< more) / n) + ((m <<< more) % n != 0).toNat) (i - j - (more : Int) - 1) ≤ k.format.infRung := by
    unfold rungOf
    split
    · exact Nat.zero_le _
    · exact Nat.min_le_right _ _
  rw [word_mod k.format false _ (by omega)] at g1
  have hR := quot_rds k.format (fb1 k) m n i j hm hn hi hj hl more hmore g1
  refine ⟨_, _, _, _, rfl, g1', by rw [hw, fv_word k.format false _ (by omega)]; rfl, Nat.mul_pos (by omega) (Nat.two_pow_pos _), ?_, hR⟩
  have q1 : ((m * 2 ^ (i - k.format.leastPlace).toNat : Nat) : Rat) = a * (unit k : Nat) := by rw [← Rat.intCast_natCast, s2, e]
  have q2 : ((n * 2 ^ (j - k.format.leastPlace).toNat : Nat) : Rat) = b * (unit k : Nat) := by rw [← Rat.intCast_natCast, t2, e']
  have q3 : (2 ^ (-k.format.leastPlace).toNat : Nat) = unit k := rfl
  rw [Rat.natCast_mul, q1, q2, q3]
  have hd := Rat.div_mul_cancel (a := a) (b := b) (by grind)
  generalize a / b = z at *
  subst hd
  grind
theorem nr_nar {x : Option Nat} {a c : Rat} (hx : RV .f64 x a) (h0 : 0 ≤ a) (hc : RV .f32 (nar x) c) : Nr .f32 (nar x) a := by
  obtain ⟨u, hu, e⟩ := hx
  obtain ⟨p, s, m, i, rfl, e1, hi, ea⟩ := hu.read
  have hn : nar (some p) = some (FloatKind.f32.format.write (.number s m i)) := by
    show some (Ieee.single.write (Ieee.double.read p)) = _
    rw [show Ieee.double.read p = .number s m i from e1]
    rfl
  rw [hn] at hc ⊢
  rw [lp64] at hi ea
  have hz : (2 ^ (FloatKind.f32.format.leastPlace - -1074).toNat : Nat) = w925 := by
    rw [lp32, show ((-149 : Int) - -1074).toNat = 925 from by decide, e925_eq]; rfl
  have hV : 0 ≤ u := by
    have : (0 : Rat) ≤ (u : Rat) := by rw [e]; exact Rat.mul_nonneg h0 (Rat.le_of_lt (unit_pos .f64))
    rw [show (0 : Rat) = ((0 : Int) : Rat) from rfl, Rat.intCast_le_intCast] at this
    exact this
  rw [signed_eq] at ea
  refine write_nr s m i (-1074) a hi (by rw [lp32]; decide) ?_ ?_ hc
  · intro h
    subst h
    simp only [if_true] at ea
    have hp := Nat.two_pow_pos (i - -1074).toNat
    have h0 : m * 2 ^ (i - -1074).toNat = 0 := by omega
    rcases Nat.mul_eq_zero.1 h0 with h | h
    · exact h
    · omega
  · have e5 : ((m * 2 ^ (i - -1074).toNat : Nat) : Int) = u := by
      cases s with
      | false => simpa using ea
      | true => simp only [if_true] at ea; omega
    rw [hz, ← Rat.intCast_natCast, e5, e, unit_wide]
    grind
end
end Go.Proofs.Ytkgbbagklkffpaa
