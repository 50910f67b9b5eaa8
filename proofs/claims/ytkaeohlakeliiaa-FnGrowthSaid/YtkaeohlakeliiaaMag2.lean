/- More of what rounding keeps: quotients, whole numbers, from one kind of float to the other; powers of two as bounds: plain mathematics, no program. -/
import Derived.Test.YtkaeohlakeliiaaMag
namespace Go.Proofs.Ytkaeohlakeliiaa
open Go.RowKit

/-- A quotient that is not whole bears a last digit 1: bounds above. -/
theorem sticky_le (n D K M : Nat) (hn : 0 < n) (h : D ≤ M * n) (hK : K = 2 * (D / n) + (D % n != 0).toNat) : K ≤ 2 * M := by
  have h1 := Nat.div_add_mod D n
  have h2 := Nat.mod_lt D hn
  generalize D / n = q at h1 hK
  generalize D % n = s at h1 h2 hK
  by_cases hz : s = 0
  · subst hz
    have : n * q ≤ n * M := by rw [Nat.mul_comm n M]; omega
    have := Nat.le_of_mul_le_mul_left this hn
    simp at hK
    omega
  · have : n * q < n * M := by rw [Nat.mul_comm n M]; omega
    have := Nat.lt_of_mul_lt_mul_left this
    have hb : ∀ b : Bool, b.toNat ≤ 1 := by decide
    have := hb (s != 0)
    omega
theorem le_sticky (n D K M : Nat) (hn : 0 < n) (h : M * n ≤ D) (hK : K = 2 * (D / n) + (D % n != 0).toNat) : 2 * M ≤ K := by
  have := (Nat.le_div_iff_mul_le hn).2 h
  omega

section
variable (f : Ieee.Format)

theorem mgr_zero {r : Nat} (h : mgr f r = 0) : r = 0 := by
  obtain ⟨D, K, rfl, e, hK, hD⟩ := rung_parts f r
  rw [e] at h
  have hb := bnd_pos f
  rcases Nat.mul_eq_zero.1 h with h2 | h2
  · subst h2
    rcases Nat.eq_zero_or_pos D with h3 | h3
    · subst h3; simp
    · have := hD h3; omega
  · have := Nat.two_pow_pos D; omega

theorem rung_within (neg : Bool) (q : Nat) (L H : Int) (hL : Rep f L) (hH : Rep f H)
    (hup : ∀ r, r < f.infRung → (if neg then -L else H) = (mgr f r : Int) → q ≤ r)
    (hdn : ∀ r, r < f.infRung → (if neg then -H else L) = (mgr f r : Int) → r ≤ q)
    (h0 : 0 ≤ if neg then -L else H) :
    f.word neg q % f.signWeight < f.infRung ∧ L ≤ fv f (f.word neg q) ∧ fv f (f.word neg q) ≤ H := by
  have hi := f.infRung_lt
  obtain ⟨rL, hrL, eL⟩ := hL
  obtain ⟨rH, hrH, eH⟩ := hH
  cases neg with
  | false =>
    simp only [Bool.false_eq_true, if_false] at hup hdn h0
    have k1 := hup rH hrH (by omega)
    have hq : q < f.signWeight := by omega
    rw [fv_word f false _ hq, word_mod f false _ hq]
    simp only [Bool.false_eq_true, if_false]
    refine ⟨by omega, ?_, ?_⟩
    · rcases Int.lt_or_le L 0 with hn | hpos
      · omega
      · have := mgr_mono f (hdn rL hrL (by omega))
        omega
    · have := mgr_mono f k1
      omega
  | true =>
    simp only [if_true] at hup hdn h0
    have k1 := hup rL hrL (by omega)
    have hq : q < f.signWeight := by omega
    rw [fv_word f true _ hq, word_mod f true _ hq]
    simp only [if_true]
    refine ⟨by omega, ?_, ?_⟩
    · have := mgr_mono f k1
      omega
    · rcases Int.lt_or_le H 0 with hn | hpos
      · have := mgr_mono f (hdn rH hrH (by omega))
        omega
      · omega

theorem quot_rung_le (m n : Nat) (i j : Int) (r : Nat) (hm : m ≠ 0) (hn : n ≠ 0) (hi : f.leastPlace ≤ i) (hj : f.leastPlace ≤ j) (hl : f.leastPlace ≤ 0)
    (h : m * 2 ^ (i - f.leastPlace).toNat * 2 ^ (-f.leastPlace).toNat ≤ mgr f r * (n * 2 ^ (j - f.leastPlace).toNat)) (more : Nat) (hmore : more = f.fractionBits + 2 + n.log2 - m.log2) :
    rungOf f (2 * ((m <<< more) / n) + ((m <<< more) % n != 0).toNat) (i - j - (more : Int) - 1) ≤ r := by
  obtain ⟨D, K, rfl, e, hK, hD⟩ := rung_parts f r
  obtain ⟨A, hA⟩ : ∃ A, A = (i - f.leastPlace).toNat + (-f.leastPlace).toNat := ⟨_, rfl⟩
  obtain ⟨B, hB⟩ : ∃ B, B = (j - f.leastPlace).toNat := ⟨_, rfl⟩
  rw [Nat.mul_assoc, ← Nat.pow_add, ← hA, ← hB, e] at h
  have hn0 : 0 < n := by omega
  have hpA : 0 < 2 ^ A := Nat.two_pow_pos _
  have h' : m <<< more * 2 ^ A ≤ K * n * 2 ^ (D + B + more) := by
    rw [Nat.shiftLeft_eq]
    calc m * 2 ^ more * 2 ^ A = m * 2 ^ A * 2 ^ more := by ac_rfl
      _ ≤ K * 2 ^ D * (n * 2 ^ B) * 2 ^ more := Nat.mul_le_mul_right _ h
      _ = _ := by rw [Nat.pow_add, Nat.pow_add]; ac_rfl
  by_cases hc : A ≤ D + B + more
  · have h1 : m <<< more ≤ K * 2 ^ (D + B + more - A) * n := by
      refine Nat.le_of_mul_le_mul_right ?_ hpA
      rw [show D + B + more = (D + B + more - A) + A by omega, Nat.pow_add] at h'
      calc m <<< more * 2 ^ A ≤ _ := h'
        _ = _ := by ac_rfl
    have h2 := sticky_le n (m <<< more) _ (K * 2 ^ (D + B + more - A)) hn0 h1 rfl
    refine rungOf_le f _ _ (min (i - j - (more : Int) - 1) f.leastPlace) _ (by omega) (by omega) ?_
    rw [e]
    refine Nat.le_trans (Nat.mul_le_mul_right _ h2) (Nat.le_of_eq ?_)
    rw [Nat.mul_assoc K, ← Nat.pow_add, ← Nat.mul_assoc 2 K, Nat.mul_comm 2 K, Nat.mul_assoc K, ← Nat.pow_succ', Nat.mul_assoc K, ← Nat.pow_add]
    congr 2
    omega
  · exfalso
    have hm0 : 2 ^ m.log2 ≤ m := Nat.log2_self_le hm
    have hn1 : n < 2 ^ (n.log2 + 1) := Nat.lt_log2_self
    have hbin : f.binade = 2 ^ f.fractionBits := rfl
    have h1 : m <<< more ≤ K * n := by
      refine Nat.le_of_mul_le_mul_right (Nat.le_trans ?_ h') (Nat.two_pow_pos (D + B + more))
      exact Nat.mul_le_mul_left _ (Nat.pow_le_pow_right (by decide) (by omega))
    have h2 : 2 ^ (f.fractionBits + 1) * 2 ^ (n.log2 + 1) ≤ m <<< more := by
      rw [Nat.shiftLeft_eq, ← Nat.pow_add]
      refine Nat.le_trans ?_ (Nat.mul_le_mul_right _ hm0)
      rw [← Nat.pow_add]
      exact Nat.pow_le_pow_right (by decide) (by omega)
    have h3 : K * n < 2 ^ (f.fractionBits + 1) * 2 ^ (n.log2 + 1) := by
      refine Nat.mul_lt_mul_of_lt_of_le (by rw [Nat.pow_succ, Nat.mul_comm, ← hbin]; exact hK) (Nat.le_of_lt hn1) (Nat.two_pow_pos _)
    omega

theorem quot_rung_ge (m n : Nat) (i j : Int) (r : Nat) (hm : m ≠ 0) (hn : n ≠ 0) (hi : f.leastPlace ≤ i) (hj : f.leastPlace ≤ j) (hl : f.leastPlace ≤ 0) (hr : r ≤ f.infRung)
    (h : mgr f r * (n * 2 ^ (j - f.leastPlace).toNat) ≤ m * 2 ^ (i - f.leastPlace).toNat * 2 ^ (-f.leastPlace).toNat) (more : Nat) (hmore : more = f.fractionBits + 2 + n.log2 - m.log2) :
    r ≤ rungOf f (2 * ((m <<< more) / n) + ((m <<< more) % n != 0).toNat) (i - j - (more : Int) - 1) := by
  refine rungOf_ge f _ _ (min (i - j - (more : Int) - 1) f.leastPlace) _ (by omega) (by omega) hr ?_
  obtain ⟨D, K, rfl, e, hK, hD⟩ := rung_parts f r
  obtain ⟨A, hA⟩ : ∃ A, A = (i - f.leastPlace).toNat + (-f.leastPlace).toNat := ⟨_, rfl⟩
  obtain ⟨B, hB⟩ : ∃ B, B = (j - f.leastPlace).toNat := ⟨_, rfl⟩
  rw [Nat.mul_assoc m, ← Nat.pow_add, ← hA, ← hB, e] at h
  rw [e]
  have hn0 : 0 < n := by omega
  have hpA : 0 < 2 ^ A := Nat.two_pow_pos _
  by_cases hc : A ≤ D + B + more
  · have h1 : K * 2 ^ (D + B + more - A) * n ≤ m <<< more := by
      refine Nat.le_of_mul_le_mul_right ?_ hpA
      rw [Nat.shiftLeft_eq]
      calc K * 2 ^ (D + B + more - A) * n * 2 ^ A = K * n * 2 ^ (D + B + more - A + A) := by rw [Nat.pow_add]; ac_rfl
        _ = K * 2 ^ D * (n * 2 ^ B) * 2 ^ more := by rw [show D + B + more - A + A = D + B + more by omega, Nat.pow_add, Nat.pow_add]; ac_rfl
        _ ≤ m * 2 ^ A * 2 ^ more := Nat.mul_le_mul_right _ h
        _ = _ := by ac_rfl
    have h2 := le_sticky n (m <<< more) _ (K * 2 ^ (D + B + more - A)) hn0 h1 rfl
    refine Nat.le_trans (Nat.le_of_eq ?_) (Nat.mul_le_mul_right _ h2)
    rw [Nat.mul_assoc K, ← Nat.pow_add, ← Nat.mul_assoc 2 K, Nat.mul_comm 2 K, Nat.mul_assoc K, ← Nat.pow_succ', Nat.mul_assoc K, ← Nat.pow_add]
    congr 2
    omega
  · have hm0 : 2 ^ m.log2 ≤ m := Nat.log2_self_le hm
    have hn1 : n < 2 ^ (n.log2 + 1) := Nat.lt_log2_self
    have hbin : f.binade = 2 ^ f.fractionBits := rfl
    have h2 : 2 ^ (f.fractionBits + 1) * n ≤ m <<< more := by
      rw [Nat.shiftLeft_eq]
      refine Nat.le_trans (Nat.mul_le_mul_left _ (Nat.le_of_lt hn1)) (Nat.le_trans ?_ (Nat.mul_le_mul_right _ hm0))
      rw [← Nat.pow_add, ← Nat.pow_add]
      exact Nat.pow_le_pow_right (by decide) (by omega)
    have h3 := le_sticky n (m <<< more) _ (2 ^ (f.fractionBits + 1)) hn0 h2 rfl
    have hK2 : K ≤ 2 * 2 ^ (f.fractionBits + 1) := by
      rw [Nat.pow_succ, ← hbin]; omega
    rw [Nat.mul_assoc, ← Nat.pow_add]
    refine Nat.mul_le_mul (Nat.le_trans hK2 h3) (Nat.pow_le_pow_right (by decide) (by omega))
end

theorem natAbs_signed (s : Bool) (m u : Nat) : (Ieee.signed s m u).natAbs = m * 2 ^ u := by
  rw [signed_eq]; cases s
  · simp only [Bool.false_eq_true, if_false, Int.natAbs_natCast]
  · simp only [if_true, Int.natAbs_neg, Int.natAbs_natCast]

theorem div_within {k : FloatKind} {x y : Option Nat} {a b : Int} (hx : IsV k x a) (hy : IsV k y b) (hb : 0 < b) {L H : Int} (hL : Rep k.format L) (hH : Rep k.format H) (h1 : L * b ≤ a * (unit k : Int)) (h2 : a * (unit k : Int) ≤ H * b) :
    ∃ v, IsV k (fop .quo k x y) v ∧ L ≤ v ∧ v ≤ H := by
  obtain ⟨p, s, m, i, rfl, e1, hi, ea⟩ := hx.read
  obtain ⟨q, t, n, j, rfl, e2, hj, eb⟩ := hy.read
  have hq : fop .quo k (some p) (some q) = ((k.format.read p).quotient (k.format.fractionBits + 2) (k.format.read q)).map k.format.write := rfl
  rw [hq, e1, e2]
  have hl := lp_neg k
  have hn : n ≠ 0 := by
    intro h0
    subst h0
    rw [signed_eq] at eb
    cases t <;> simp at eb <;> omega
  simp only [Ieee.Datum.quotient, if_neg hn, Option.map_some]
  have ht : t = false := by
    cases t with
    | false => rfl
    | true => rw [signed_eq] at eb; simp only [if_true] at eb; omega
  subst ht
  have eb' : b = ((n * 2 ^ (j - k.format.leastPlace).toNat : Nat) : Int) := by rw [← eb, signed_eq]; simp only [Bool.false_eq_true, if_false]
  have ea' : a = if s then -((m * 2 ^ (i - k.format.leastPlace).toNat : Nat) : Int) else ((m * 2 ^ (i - k.format.leastPlace).toNat : Nat) : Int) := by rw [← ea, signed_eq]
  rw [Bool.xor_false]
  obtain ⟨more, hmore⟩ : ∃ more, more = k.format.fractionBits + 2 + n.log2 - m.log2 := ⟨_, rfl⟩
  rw [← hmore]
  have hw : k.format.write (.number s (2 * ((m <<< more) / n) + ((m <<< more) % n != 0).toNat) (i - j - (more : Int) - 1)) = k.format.word s (rungOf k.format (2 * ((m <<< more) / n) + ((m <<< more) % n != 0).toNat) (i - j - (more : Int) - 1)) := nearest_rung _ _ _ _
  rw [hw]
  have nn : ∀ z : Int, 0 ≤ z * b → 0 ≤ z := by
    intro z hz
    rcases Int.lt_or_le z 0 with h | h
    · have := Int.mul_neg_of_neg_of_pos h hb; omega
    · exact h
  have up : ∀ (z : Int) (r : Nat), z = (mgr k.format r : Int) → ((m * 2 ^ (i - k.format.leastPlace).toNat : Nat) : Int) * (unit k : Int) ≤ z * b → rungOf k.format (2 * ((m <<< more) / n) + ((m <<< more) % n != 0).toNat) (i - j - (more : Int) - 1) ≤ r := by
    intro z r hz h
    by_cases hm : m = 0
    · subst hm; simp [rungOf]
    · refine quot_rung_le k.format m n i j r hm hn hi hj hl ?_ more hmore
      rw [hz, eb', ← Int.natCast_mul, ← Int.natCast_mul] at h
      exact Int.ofNat_le.1 h
  have dn : ∀ (z : Int) (r : Nat), r < k.format.infRung → z = (mgr k.format r : Int) → z * b ≤ ((m * 2 ^ (i - k.format.leastPlace).toNat : Nat) : Int) * (unit k : Int) → r ≤ rungOf k.format (2 * ((m <<< more) / n) + ((m <<< more) % n != 0).toNat) (i - j - (more : Int) - 1) := by
    intro z r hr hz h
    by_cases hm : m = 0
    · subst hm
      have hz0 : z = 0 := by
        rcases Int.lt_or_le 0 z with h3 | h3
        · have := Int.mul_pos h3 hb
          simp at h; omega
        · omega
      have : r = 0 := mgr_zero k.format (by omega)
      omega
    · refine quot_rung_ge k.format m n i j r hm hn hi hj hl (Nat.le_of_lt hr) ?_ more hmore
      rw [hz, eb', ← Int.natCast_mul, ← Int.natCast_mul] at h
      exact Int.ofNat_le.1 h
  have res : k.format.word s (rungOf k.format (2 * ((m <<< more) / n) + ((m <<< more) % n != 0).toNat) (i - j - (more : Int) - 1)) % k.format.signWeight < k.format.infRung ∧ L ≤ fv k.format (k.format.word s (rungOf k.format (2 * ((m <<< more) / n) + ((m <<< more) % n != 0).toNat) (i - j - (more : Int) - 1))) ∧ fv k.format (k.format.word s (rungOf k.format (2 * ((m <<< more) / n) + ((m <<< more) % n != 0).toNat) (i - j - (more : Int) - 1))) ≤ H := by
    have hmu : (0 : Int) ≤ ((m * 2 ^ (i - k.format.leastPlace).toNat : Nat) : Int) * (unit k : Int) := Int.mul_nonneg (Int.natCast_nonneg _) (Int.natCast_nonneg _)
    cases s with
    | false =>
      simp only [Bool.false_eq_true, if_false] at ea'
      rw [ea'] at h1 h2
      refine rung_within k.format false _ L H hL hH (fun r hr he => up H r (by simpa using he) h2) (fun r hr he => dn L r hr (by simpa using he) h1) ?_
      simp only [Bool.false_eq_true, if_false]
      exact nn H (Int.le_trans hmu h2)
    | true =>
      simp only [if_true] at ea'
      rw [ea', Int.neg_mul] at h1 h2
      refine rung_within k.format true _ L H hL hH (fun r hr he => up (-L) r (by simpa using he) (by rw [Int.neg_mul]; omega)) (fun r hr he => dn (-H) r hr (by simpa using he) (by rw [Int.neg_mul]; omega)) ?_
      simp only [if_true]
      exact nn (-L) (by rw [Int.neg_mul]; omega)
  exact ⟨_, ⟨_, rfl, res.1, rfl⟩, res.2.1, res.2.2⟩

/-! ### whole numbers, the other kind -/
theorem ofInt_within (k : FloatKind) (n L H : Int) (hL : Rep k.format L) (hH : Rep k.format H) (h1 : L ≤ n * (unit k : Int)) (h2 : n * (unit k : Int) ≤ H) :
    ∃ v, IsV k (some (floatOfInt k n)) v ∧ L ≤ v ∧ v ≤ H := by
  have hl := lp_neg k
  have e : Ieee.signed (decide (n < 0)) n.natAbs (0 - k.format.leastPlace).toNat = n * (unit k : Int) := by
    rw [signed_eq, show (0 - k.format.leastPlace).toNat = (-k.format.leastPlace).toNat by omega]
    unfold unit
    rw [Int.natCast_mul]
    by_cases hn : n < 0
    · have e : n = -(n.natAbs : Int) := by omega
      simp only [hn, decide_true, if_true]
      generalize n.natAbs = a at e
      rw [e, Int.neg_mul]
    · have e : n = (n.natAbs : Int) := by omega
      simp only [hn, decide_false, Bool.false_eq_true, if_false]
      generalize n.natAbs = a at e
      rw [e]
  have hz : (k.format.leastPlace - k.format.leastPlace).toNat = 0 := by simp
  have := write_within k.format (decide (n < 0)) n.natAbs 0 k.format.leastPlace L H (by omega) (Int.le_refl _) hL hH
    (by rw [hz, e]; simpa using h1) (by rw [hz, e]; simpa using h2)
  exact ⟨_, ⟨_, rfl, this.1, rfl⟩, this.2.1, this.2.2⟩

theorem fb_pos (k : FloatKind) : 1 ≤ k.format.fractionBits := by cases k <;> decide
theorem rep_nat (k : FloatKind) (K j : Nat) (hK : K < 2 * k.format.binade) (hj : j ≤ 253) : Rep k.format ((K * 2 ^ j : Nat) : Int) :=
  rep_of k.format (fb_pos k) K j hK (by
    have : 256 ≤ 2 ^ k.format.exponentBits := by cases k <;> decide
    omega)
theorem rep_nat64 (K j : Nat) (hK : K < 9007199254740992) (hj : j ≤ 2045) : Rep FloatKind.f64.format ((K * 2 ^ j : Nat) : Int) :=
  rep_of FloatKind.f64.format (by decide) K j (by rw [show 2 * Ieee.Format.binade FloatKind.f64.format = 9007199254740992 from by decide]; exact hK) (by
    rw [show 2 ^ Ieee.Format.exponentBits FloatKind.f64.format = 2048 from by decide]; omega)
theorem rep_nat32 (K j : Nat) (hK : K < 16777216) (hj : j ≤ 253) : Rep FloatKind.f32.format ((K * 2 ^ j : Nat) : Int) :=
  rep_of FloatKind.f32.format (by decide) K j (by rw [show 2 * Ieee.Format.binade FloatKind.f32.format = 16777216 from by decide]; exact hK) (by
    rw [show 2 ^ Ieee.Format.exponentBits FloatKind.f32.format = 256 from by decide]; omega)
theorem rep_zero (k : FloatKind) : Rep k.format 0 := by simpa using rep_nat k 0 0 (by have := bnd_pos k.format; omega) (by omega)

theorem isV_ofInt32 (n : Int) (hn : n.natAbs < 16777216) : IsV .f32 (some (floatOfInt .f32 n)) (n * (unit .f32 : Int)) := by
  have hr : Rep FloatKind.f32.format (n * (unit .f32 : Int)) := by
    have h : Rep FloatKind.f32.format ((n.natAbs * unit .f32 : Nat) : Int) := rep_nat32 n.natAbs (-Ieee.Format.leastPlace FloatKind.f32.format).toNat hn (by decide)
    rw [Int.natCast_mul] at h
    by_cases h0 : n < 0
    · have e : n * (unit .f32 : Int) = -((n.natAbs : Int) * (unit .f32 : Int)) := by rw [← Int.neg_mul]; congr 1; omega
      rw [e]; exact rep_neg _ h
    · have e : n * (unit .f32 : Int) = (n.natAbs : Int) * (unit .f32 : Int) := by congr 1; omega
      rw [e]; exact h
  obtain ⟨v, hv, h1, h2⟩ := ofInt_within .f32 n _ _ hr hr (Int.le_refl _) (Int.le_refl _)
  obtain rfl : v = n * (unit .f32 : Int) := by omega
  exact hv
theorem isV_ofInt64 (n : Int) (hn : n.natAbs < 9007199254740992) : IsV .f64 (some (floatOfInt .f64 n)) (n * (unit .f64 : Int)) := by
  have hr : Rep FloatKind.f64.format (n * (unit .f64 : Int)) := by
    have h : Rep FloatKind.f64.format ((n.natAbs * unit .f64 : Nat) : Int) := rep_nat64 n.natAbs (-Ieee.Format.leastPlace FloatKind.f64.format).toNat hn (by decide)
    rw [Int.natCast_mul] at h
    by_cases h0 : n < 0
    · have e : n * (unit .f64 : Int) = -((n.natAbs : Int) * (unit .f64 : Int)) := by rw [← Int.neg_mul]; congr 1; omega
      rw [e]; exact rep_neg _ h
    · have e : n * (unit .f64 : Int) = (n.natAbs : Int) * (unit .f64 : Int) := by congr 1; omega
      rw [e]; exact h
  obtain ⟨v, hv, h1, h2⟩ := ofInt_within .f64 n _ _ hr hr (Int.le_refl _) (Int.le_refl _)
  obtain rfl : v = n * (unit .f64 : Int) := by omega
  exact hv

/-- A float32's value in units of float64's least place: 2 ^ 925 times as much. -/
def e925 : Nat := 925
theorem e925_eq : 925 = e925 := rfl
def w925 : Nat := 2 ^ e925
theorem w925_pos : 0 < w925 := Nat.two_pow_pos e925
theorem pow_925 (a : Nat) : 2 ^ (a + 925) = 2 ^ a * w925 := by rw [e925_eq]; exact Nat.pow_add 2 a e925
theorem lp32 : FloatKind.f32.format.leastPlace = -149 := by decide
theorem lp64 : FloatKind.f64.format.leastPlace = -1074 := by decide

theorem wid_isV {x : Option Nat} {v : Int} (hx : IsV .f32 x v) : IsV .f64 (wid x) (v * (w925 : Int)) := by
  have hrep := hx.rep
  obtain ⟨p, s, m, i, rfl, e1, hi, ea⟩ := hx.read
  show IsV .f64 (some (Ieee.double.write (Ieee.single.read p))) _
  rw [show Ieee.single.read p = .number s m i from e1]
  rw [lp32] at hi ea
  have hr : Rep FloatKind.f64.format (v * (w925 : Int)) := by
    obtain ⟨r, hr, er⟩ := hrep
    obtain ⟨D, K, rfl, e, hK, hD⟩ := rung_parts FloatKind.f32.format r
    have hb : Ieee.Format.binade FloatKind.f32.format = 8388608 := by decide
    have hi : Ieee.Format.infRung FloatKind.f32.format = 2139095040 := by decide
    rw [hb] at hK hr
    rw [hi] at hr
    have h := rep_nat64 K (D + 925) (by omega) (by omega)
    rw [pow_925, ← Nat.mul_assoc, ← e, ← er, Int.natCast_mul] at h
    by_cases h0 : v < 0
    · have e : v * (w925 : Int) = -((v.natAbs : Int) * (w925 : Int)) := by rw [← Int.neg_mul]; congr 1; omega
      rw [e]; exact rep_neg _ h
    · have e : v * (w925 : Int) = (v.natAbs : Int) * (w925 : Int) := by congr 1; omega
      rw [e]; exact h
  have hs : Ieee.signed s m (i - FloatKind.f64.format.leastPlace).toNat = v * (w925 : Int) := by
    rw [← ea, signed_eq, signed_eq, lp64, show (i - -1074).toNat = (i - -149).toNat + 925 by omega, pow_925, ← Nat.mul_assoc, Int.natCast_mul]
    cases s <;> simp [Int.neg_mul]
  have hz : (FloatKind.f64.format.leastPlace - FloatKind.f64.format.leastPlace).toNat = 0 := by simp
  have := write_within FloatKind.f64.format s m i FloatKind.f64.format.leastPlace _ _ (by rw [lp64]; omega) (Int.le_refl _) hr hr
    (by rw [hz, hs]; simp) (by rw [hz, hs]; simp)
  have h2 : fv FloatKind.f64.format (FloatKind.f64.format.write (Ieee.Datum.number s m i)) = v * (w925 : Int) := by
    generalize v * (w925 : Int) = V at this ⊢
    omega
  exact ⟨_, rfl, this.1, h2⟩

/-- A float64 made a float32. -/
def nar (x : Option Nat) : Option Nat := x.map fun b => Ieee.single.write (Ieee.double.read b)

theorem nar_within {x : Option Nat} {v : Int} (hx : IsV .f64 x v) {L H : Int} (hL : Rep FloatKind.f32.format L) (hH : Rep FloatKind.f32.format H) (h1 : L * (w925 : Int) ≤ v) (h2 : v ≤ H * (w925 : Int)) :
    ∃ w, IsV .f32 (nar x) w ∧ L ≤ w ∧ w ≤ H := by
  obtain ⟨p, s, m, i, rfl, e1, hi, ea⟩ := hx.read
  show ∃ w, IsV .f32 (some (Ieee.single.write (Ieee.double.read p))) w ∧ L ≤ w ∧ w ≤ H
  rw [show Ieee.double.read p = .number s m i from e1]
  rw [lp64] at hi ea
  have hz : (2 ^ (FloatKind.f32.format.leastPlace - -1074).toNat : Nat) = w925 := by
    rw [lp32, show ((-149 : Int) - -1074).toNat = 925 from by decide, e925_eq]; rfl
  have := write_within FloatKind.f32.format s m i (-1074) L H hi (by rw [lp32]; decide) hL hH
    (by rw [hz, ea]; exact h1) (by rw [hz, ea]; exact h2)
  exact ⟨_, ⟨_, rfl, this.1, rfl⟩, this.2.1, this.2.2⟩

end Go.Proofs.Ytkaeohlakeliiaa
