/- Binomials, sums of products of them, greatest common factors as Go reckons them: plain mathematics, no program. -/
namespace Go.Proofs.Ytkgbbagklkffpaa

def bin : Nat → Nat → Nat
  | _, 0 => 1
  | 0, _ + 1 => 0
  | n + 1, k + 1 => bin n k + bin n (k + 1)

theorem bin_zero (n : Nat) : bin n 0 = 1 := by cases n <;> rfl
theorem bin_succ (n k : Nat) : bin (n + 1) (k + 1) = bin n k + bin n (k + 1) := rfl

theorem bin_gt : ∀ n k : Nat, n < k → bin n k = 0
  | 0, 0, h => absurd h (Nat.lt_irrefl _)
  | 0, _ + 1, _ => rfl
  | _ + 1, 0, h => absurd h (Nat.not_lt_zero _)
  | n + 1, k + 1, h => by rw [bin_succ, bin_gt n k (by omega), bin_gt n (k + 1) (by omega)]

theorem bin_absorb : ∀ n k : Nat, (k + 1) * bin (n + 1) (k + 1) = (n + 1) * bin n k
  | 0, 0 => rfl
  | 0, k + 1 => by
    rw [bin_gt 1 (k + 1 + 1) (by omega), bin_gt 0 (k + 1) (by omega)]
    simp
  | n + 1, 0 => by
    have h := bin_absorb n 0
    rw [bin_succ, bin_zero]
    rw [bin_zero] at h
    omega
  | n + 1, k + 1 => by
    have h1 := bin_absorb n k
    have h2 := bin_absorb n (k + 1)
    have e1 : bin (n + 1 + 1) (k + 1 + 1) = bin (n + 1) (k + 1) + bin (n + 1) (k + 1 + 1) := rfl
    have e2 : bin (n + 1) (k + 1) = bin n k + bin n (k + 1) := rfl
    rw [e1, Nat.mul_add, h2, Nat.add_mul (k + 1) 1, h1]
    have e3 : (n + 1 + 1) * bin (n + 1) (k + 1) = (n + 1) * bin n k + (n + 1) * bin n (k + 1) + bin (n + 1) (k + 1) := by
      rw [Nat.add_mul (n + 1) 1, Nat.one_mul]
      congr 1
      rw [e2, Nat.mul_add]
    rw [e3]
    omega

theorem bin_step (n k : Nat) (h : k ≤ n) : bin n k * (n - k) = bin n (k + 1) * (k + 1) := by
  have h1 := bin_absorb n k
  rw [bin_succ, Nat.mul_add] at h1
  obtain ⟨d, rfl⟩ := Nat.exists_eq_add_of_le h
  rw [show k + d - k = d by omega]
  have e : (k + d + 1) * bin (k + d) k = (k + 1) * bin (k + d) k + d * bin (k + d) k := by rw [← Nat.add_mul]; congr 1; omega
  rw [e] at h1
  have h2 : (k + 1) * bin (k + d) (k + 1) = d * bin (k + d) k := by omega
  rw [Nat.mul_comm, ← h2, Nat.mul_comm]

theorem bin_le : ∀ n k : Nat, bin n k ≤ 2 ^ n
  | n, 0 => by rw [bin_zero]; exact Nat.one_le_two_pow
  | 0, k + 1 => by simp [bin]
  | n + 1, k + 1 => by
    have h1 := bin_le n k
    have h2 := bin_le n (k + 1)
    rw [bin_succ, Nat.pow_succ]
    omega

theorem bin_le40 (n k : Nat) (h : n ≤ 40) : bin n k ≤ 1099511627776 :=
  Nat.le_trans (bin_le n k) (Nat.le_trans (Nat.pow_le_pow_right (by decide) h) (by decide))

theorem bin_self (n : Nat) : bin n n = 1 := by
  induction n with
  | zero => rfl
  | succ n ih => rw [bin_succ, ih, bin_gt n (n + 1) (by omega)]

theorem bin_pos (n k : Nat) (h : k ≤ n) : 0 < bin n k := by
  induction n generalizing k with
  | zero => obtain rfl : k = 0 := by omega
            decide
  | succ n ih =>
    cases k with
    | zero => rw [bin_zero]; omega
    | succ k => rw [bin_succ]; have := ih k (by omega); omega

/-- k of n things, k any whole number. -/
def binI (n : Nat) (k : Int) : Nat := if k < 0 then 0 else bin n k.toNat

theorem binI_neg (n : Nat) (k : Int) (h : k < 0) : binI n k = 0 := by simp [binI, h]
theorem binI_nat (n k : Nat) : binI n (k : Int) = bin n k := by unfold binI; rw [if_neg (by omega)]; rfl
theorem binI_le40 (n : Nat) (k : Int) (h : n ≤ 40) : binI n k ≤ 1099511627776 := by
  unfold binI; split
  · omega
  · exact bin_le40 _ _ h
theorem binI_succ (n : Nat) (k : Int) : binI (n + 1) k = binI n k + binI n (k - 1) := by
  unfold binI
  by_cases h : k < 0
  · rw [if_pos h, if_pos h, if_pos (by omega)]
  · by_cases h0 : k = 0
    · subst h0; simp [bin_zero]
    · rw [if_neg h, if_neg h, if_neg (by omega)]
      obtain ⟨j, rfl⟩ : ∃ j : Nat, k = (j : Int) + 1 := ⟨(k - 1).toNat, by omega⟩
      rw [show ((j : Int) + 1).toNat = j + 1 by omega, show ((j : Int) + 1 - 1).toNat = j by omega, bin_succ]
      omega

/-- The sum over k < m of bin b k * binI c (s - k). -/
def accS (b c : Nat) (s : Int) : Nat → Nat
  | 0 => 0
  | m + 1 => accS b c s m + bin b m * binI c (s - m)

theorem accS_zero (c : Nat) (s : Int) (m : Nat) : accS 0 c s (m + 1) = binI c s := by
  induction m with
  | zero => simp [accS, bin_zero]
  | succ m ih => rw [accS, ih, bin_gt 0 (m + 1) (by omega)]; simp

theorem accS_succ (b c : Nat) (s : Int) (m : Nat) : accS (b + 1) c s (m + 1) = accS b c s (m + 1) + accS b c (s - 1) m := by
  induction m with
  | zero => simp [accS, bin_zero]
  | succ m ih =>
    rw [accS, ih, accS.eq_2 b c s (m + 1), accS.eq_2 b c (s - 1) m, bin_succ, Nat.add_mul]
    rw [show s - 1 - (m : Int) = s - ((m + 1 : Nat) : Int) by omega]
    omega

theorem accS_le (b c : Nat) (s : Int) (m : Nat) : accS b c s m ≤ binI (b + c) s := by
  induction b generalizing s m with
  | zero =>
    cases m with
    | zero => simp [accS]
    | succ m => rw [accS_zero]; simp
  | succ b ih =>
    cases m with
    | zero => simp [accS]
    | succ m =>
      rw [accS_succ, show b + 1 + c = (b + c) + 1 by omega, binI_succ]
      exact Nat.add_le_add (ih _ _) (ih _ _)

/-- Vandermonde: the whole sum. -/
theorem accS_all (b c : Nat) (s : Int) (m : Nat) (h : s < m) : accS b c s m = binI (b + c) s := by
  induction b generalizing s m with
  | zero =>
    cases m with
    | zero => rw [binI_neg _ _ (by omega)]; rfl
    | succ m => rw [accS_zero]; simp
  | succ b ih =>
    cases m with
    | zero => rw [binI_neg _ _ (by omega)]; rfl
    | succ m =>
      rw [accS_succ, show b + 1 + c = (b + c) + 1 by omega, binI_succ, ih s (m + 1) (by omega), ih (s - 1) m (by omega)]

/-- Each product is a term of the sum. -/
theorem accS_term (b c : Nat) (s : Int) (m k : Nat) (h : k < m) : bin b k * binI c (s - k) ≤ accS b c s m := by
  induction m with
  | zero => omega
  | succ m ih =>
    rw [accS]
    by_cases hk : k = m
    · subst hk; omega
    · have := ih (by omega); omega

/-- Go's greatest common factor, of whatever whole numbers. -/
def gcf (a b : Int) : Int := if _ : b = 0 then a else gcf b (a.tmod b)
termination_by b.natAbs
decreasing_by
  rw [Int.natAbs_tmod]
  exact Nat.mod_lt _ (by omega)

theorem gcf_zero (a : Int) : gcf a 0 = a := by rw [gcf]; simp
theorem gcf_step (a b : Int) (h : b ≠ 0) : gcf a b = gcf b (a.tmod b) := by rw [gcf]; simp [h]

theorem gcf_nat (a b : Nat) : gcf (a : Int) (b : Int) = (Nat.gcd a b : Int) := by
  induction b using Nat.strongRecOn generalizing a with
  | _ b ih =>
    by_cases h : b = 0
    · subst h; rw [show ((0 : Nat) : Int) = 0 from rfl, gcf_zero]; simp
    · rw [gcf_step _ _ (by omega), ← Int.ofNat_tmod, ih (a % b) (Nat.mod_lt _ (by omega)), Nat.gcd_comm a b, Nat.gcd_rec b a, Nat.gcd_comm]

theorem gcf_ne (a b : Int) (h : a ≠ 0 ∨ b ≠ 0) : gcf a b ≠ 0 := by
  generalize hn : b.natAbs = n
  induction n using Nat.strongRecOn generalizing a b with
  | _ n ih =>
    by_cases hb : b = 0
    · subst hb; rw [gcf_zero]; rcases h with h | h
      · exact h
      · exact absurd rfl h
    · rw [gcf_step _ _ hb]
      refine ih (a.tmod b).natAbs ?_ b (a.tmod b) (Or.inl hb) rfl
      rw [← hn, Int.natAbs_tmod]
      exact Nat.mod_lt _ (by omega)

end Go.Proofs.Ytkgbbagklkffpaa
