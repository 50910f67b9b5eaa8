/- FnChains: floats: rounding on a grid; divisors below 0. No program in sight. -/
import Derived.Test.YtkaeohlakeliiaaRat
import Derived.Test.YtkaeohlakeliiaaBal
namespace Go.Proofs.Ytkaeohlakeliiaa
open Go.RowKit

/-! ## Ch1 -/
theorem div_within_neg {k : FloatKind} {x y : Option Nat} {a b : Int} (hx : IsV k x a) (hy : IsV k y b) (hb : b < 0) {L H : Int} (hL : Rep k.format L) (hH : Rep k.format H) (h1 : L * -b ≤ -a * (unit k : Int)) (h2 : -a * (unit k : Int) ≤ H * -b) :
    ∃ v, IsV k (fop .quo k x y) v ∧ L ≤ v ∧ v ≤ H := by
  obtain ⟨p, s, m, i, rfl, e1, hi, ea⟩ := hx.read
  obtain ⟨q, t, n, j, rfl, e2, hj, eb⟩ := hy.read
  have hq : fop .quo k (some p) (some q) = ((k.format.read p).quotient (k.format.fractionBits + 2) (k.format.read q)).map k.format.write := rfl
  rw [hq, e1, e2]
  have hl := lp_neg k
  have hn : n ≠ 0 := by
    intro h0
    subst h0
    rw [signed_eq] at eb
    cases t <;> simp at eb <;> omega
  simp only [Ieee.Datum.quotient, if_neg hn, Option.map_some]
  have ht : t = true := by
    cases t with
    | true => rfl
    | false => rw [signed_eq] at eb; simp only [Bool.false_eq_true, if_false] at eb; omega
  subst ht
  have eb' : -b = ((n * 2 ^ (j - k.format.leastPlace).toNat : Nat) : Int) := by rw [← eb, signed_eq]; simp only [if_true, Int.neg_neg]
  have ea' : -a = if (!s) then -((m * 2 ^ (i - k.format.leastPlace).toNat : Nat) : Int) else ((m * 2 ^ (i - k.format.leastPlace).toNat : Nat) : Int) := by
    rw [← ea, signed_eq]
    cases s
    · simp
    · simp
  rw [Bool.xor_true]
  generalize (!s) = s at *
  have hb' : 0 < -b := by omega
  generalize -b = b at *
  generalize -a = a at *
  obtain ⟨more, hmore⟩ : ∃ more, more = k.format.fractionBits + 2 + n.log2 - m.log2 := ⟨_, rfl⟩
  rw [← hmore]
  have hw : k.format.write (.number s (2 * ((m <<< more) / n) + ((m <<< more) % n != 0).toNat) (i - j - (more : Int) - 1)) = k.format.word s (rungOf k.format (2 * ((m <<< more) / n) + ((m <<< more) % n != 0).toNat) (i - j - (more : Int) - 1)) := nearest_rung _ _ _ _
  rw [hw]
  have nn : ∀ z : Int, 0 ≤ z * b → 0 ≤ z := by
    intro z hz
    rcases Int.lt_or_le z 0 with h | h
    · have := Int.mul_neg_of_neg_of_pos h hb'; omega
    · exact h
  have up : ∀ (z : Int) (r : Nat), z = (mgr k.format r : Int) → ((m * 2 ^ (i - k.format.leastPlace).toNat : Nat) : Int) * (unit k : Int) ≤ z * b → rungOf k.format (2 * ((m <<< more) / n) + ((m <<< more) % n != 0).toNat) (i - j - (more : Int) - 1) ≤ r := by
    intro z r hz h
    by_cases hm : m = 0
    · subst hm; simp [rungOf]
    · refine quot_rung_le k.format m n i j r hm hn hi hj hl ?_ more hmore
      rw [hz, eb', ← Int.natCast_mul, ← Int.natCast_mul] at h
      exact Int.ofNat_le.1 h
  have dn : ∀ (z : Int) (r : Nat), r < k.format.infRung → z = (mgr k.format r : Int) → z * b ≤ ((m * 2 ^ (i - k.format.leastPlace).toNat : Nat) : Int) * (unit k : Int) → r ≤ rungOf k.format (2 * ((m <<< more) / n) + ((m <<< more) % n != 0).toNat) (i - j - (more : Int) - 1) := by
    intro z r hr hz h
    by_cases hm : m = 0
    · subst hm
      have hz0 : z = 0 := by
        rcases Int.lt_or_le 0 z with h3 | h3
        · have := Int.mul_pos h3 hb'
          simp at h; omega
        · omega
      have : r = 0 := mgr_zero k.format (by omega)
      omega
    · refine quot_rung_ge k.format m n i j r hm hn hi hj hl (Nat.le_of_lt hr) ?_ more hmore
      rw [hz, eb', ← Int.natCast_mul, ← Int.natCast_mul] at h
      exact Int.ofNat_le.1 h
  have res : k.format.word s (rungOf k.format (2 * ((m <<< more) / n) + ((m <<< more) % n != 0).toNat) (i - j - (more : Int) - 1)) % k.format.signWeight < k.format.infRung ∧ L ≤ fv k.format (k.format.word s (rungOf k.format (2 * ((m <<< more) / n) + ((m <<< more) % n != 0).toNat) (i - j - (more : Int) - 1))) ∧ fv k.format (k.format.word s (rungOf k.format (2 * ((m <<< more) / n) + ((m <<< more) % n != 0).toNat) (i - j - (more : Int) - 1))) ≤ H := by
    have hmu : (0 : Int) ≤ ((m * 2 ^ (i - k.format.leastPlace).toNat : Nat) : Int) * (unit k : Int) := Int.mul_nonneg (Int.natCast_nonneg _) (Int.natCast_nonneg _)
    cases s with
    | false =>
      simp only [Bool.false_eq_true, if_false] at ea'
      rw [ea'] at h1 h2
      refine rung_within k.format false _ L H hL hH (fun r hr he => up H r (by simpa using he) h2) (fun r hr he => dn L r hr (by simpa using he) h1) ?_
      simp only [Bool.false_eq_true, if_false]
      exact nn H (Int.le_trans hmu h2)
    | true =>
      simp only [if_true] at ea'
      rw [ea', Int.neg_mul] at h1 h2
      refine rung_within k.format true _ L H hL hH (fun r hr he => up (-L) r (by simpa using he) (by rw [Int.neg_mul]; omega)) (fun r hr he => dn (-H) r hr (by simpa using he) (by rw [Int.neg_mul]; omega)) ?_
      simp only [if_true]
      exact nn (-L) (by rw [Int.neg_mul]; omega)
  exact ⟨_, ⟨_, rfl, res.1, rfl⟩, res.2.1, res.2.2⟩


theorem wn_divn {k : FloatKind} {x y : Option Nat} {a b : Rat} (hx : RV k x a) (hy : RV k y b) (hb : b < 0) : Wn k (fop .quo k x y) (a / b) := by
  obtain ⟨u, hu, e⟩ := hx
  obtain ⟨v, hv, e'⟩ := hy
  have hp := unit_pos k
  have hbu : 0 < -b * (unit k : Nat) := Rat.mul_pos (by grind) hp
  have hq : a / b * b = a := Rat.div_mul_cancel (by grind)
  intro L H hL hH h1 h2
  refine div_within_neg hu hv ?_ hL hH ?_ ?_
  · rw [← Rat.intCast_lt_intCast, e', show ((0 : Int) : Rat) = 0 from rfl]; grind
  · rw [← Rat.intCast_le_intCast, Rat.intCast_mul, Rat.intCast_mul, Rat.intCast_neg, Rat.intCast_neg, e, e', Rat.intCast_natCast]
    have := Rat.mul_le_mul_of_nonneg_right h1 (Rat.le_of_lt hbu)
    generalize (unit k : Rat) = U at *
    generalize a / b = q at *
    subst hq
    grind
  · rw [← Rat.intCast_le_intCast, Rat.intCast_mul, Rat.intCast_mul, Rat.intCast_neg, Rat.intCast_neg, e, e', Rat.intCast_natCast]
    have := Rat.mul_le_mul_of_nonneg_right h2 (Rat.le_of_lt hbu)
    generalize (unit k : Rat) = U at *
    generalize a / b = q at *
    subst hq
    grind
theorem intr_le {a b : Int} (h : a ≤ b) : (a : Rat) ≤ (b : Rat) := Rat.intCast_le_intCast.2 h
theorem near_grid {k : FloatKind} {x : Option Nat} {z : Rat} (h : Wn k x z) (j : Nat) (hj4 : j + 4 ≤ 2 ^ k.format.exponentBits) (h1 : -(2 * (k.format.binade : Nat) * ((2 ^ j : Nat) : Rat)) ≤ z * (unit k : Nat)) (h2 : z * (unit k : Nat) ≤ 2 * (k.format.binade : Nat) * ((2 ^ j : Nat) : Rat)) :
    ∃ r, RV k x r ∧ (r - z) * (unit k : Nat) ≤ ((2 ^ j : Nat) : Rat) ∧ (z - r) * (unit k : Nat) ≤ ((2 ^ j : Nat) : Rat) ∧ -(2 * (k.format.binade : Nat) * ((2 ^ j : Nat) : Rat)) ≤ r * (unit k : Nat) ∧ r * (unit k : Nat) ≤ 2 * (k.format.binade : Nat) * ((2 ^ j : Nat) : Rat) := by
  have hu := unit_pos k
  have hB : (0 : Rat) < (k.format.binade : Nat) := Rat.natCast_pos.2 (bnd_pos _)
  have hP : (0 : Rat) < ((2 ^ j : Nat) : Rat) := Rat.natCast_pos.2 (Nat.two_pow_pos j)
  have hz1 := h1
  have hz2 := h2
  have hrep := fun K hK => rep_bin k K j hK hj4
  generalize hPe : (2 ^ j : Nat) = P at *
  generalize hBe : k.format.binade = B at *
  generalize hZ : z * (unit k : Nat) = Z at *
  -- the place below
  have hd : Z / (P : Rat) * (P : Rat) = Z := Rat.div_mul_cancel (by grind)
  have q1 : -(2 * (B : Rat)) ≤ Z / (P : Rat) := Rat.le_of_mul_le_mul_right (c := (P : Rat)) (by rw [hd]; grind) hP
  have q2 : Z / (P : Rat) ≤ 2 * (B : Rat) := Rat.le_of_mul_le_mul_right (c := (P : Rat)) (by rw [hd]; grind) hP
  have f1 := Rat.floor_le (Z / (P : Rat))
  have f2 := Rat.lt_floor_add_one (Z / (P : Rat))
  have f3 : -(2 * (B : Int)) ≤ (Z / (P : Rat)).floor := by
    rw [Rat.le_floor_iff]
    have : ((-(2 * (B : Int)) : Int) : Rat) = -(2 * (B : Rat)) := by
      rw [Rat.intCast_neg, Rat.intCast_mul, Rat.intCast_natCast]; rfl
    rw [this]; exact q1
  have f4 : (Z / (P : Rat)).floor ≤ 2 * (B : Int) := by
    rw [← Rat.intCast_le_intCast]
    have : (((2 * (B : Int)) : Int) : Rat) = (2 * (B : Rat)) := by
      rw [Rat.intCast_mul, Rat.intCast_natCast]; rfl
    rw [this]; exact Rat.le_trans f1 q2
  rw [Rat.intCast_add] at f2
  generalize hq : Z / (P : Rat) = q at *
  generalize hF : q.floor = F at *
  have hBpos : 0 < B := by rw [← hBe]; exact bnd_pos _
  have hone : ((1 : Int) : Rat) = 1 := rfl
  obtain ⟨K, k1, k2, k3, k4⟩ : ∃ K : Int, K.natAbs ≤ 2 * B ∧ (K + 1).natAbs ≤ 2 * B ∧ (K : Rat) ≤ q ∧ q ≤ (K : Rat) + 1 := by
    by_cases c : F = 2 * (B : Int)
    · refine ⟨F - 1, by omega, by omega, ?_, ?_⟩
      · rw [Rat.intCast_sub]; grind
      · have : (F : Rat) = 2 * (B : Rat) := by rw [c, Rat.intCast_mul, Rat.intCast_natCast]; rfl
        rw [Rat.intCast_sub]; grind
    · exact ⟨F, by omega, by omega, f1, by grind⟩
  have e1 : ((K * (P : Int) : Int) : Rat) = (K : Rat) * (P : Rat) := by rw [Rat.intCast_mul, Rat.intCast_natCast]
  have e2 : (((K + 1) * (P : Int) : Int) : Rat) = ((K : Rat) + 1) * (P : Rat) := by rw [Rat.intCast_mul, Rat.intCast_natCast, Rat.intCast_add]; rfl
  have g1 := Rat.mul_le_mul_of_nonneg_right k3 (Rat.le_of_lt hP)
  have g2 := Rat.mul_le_mul_of_nonneg_right k4 (Rat.le_of_lt hP)
  rw [hd] at g1 g2
  obtain ⟨v, hv, v1, v2⟩ := h _ _ (hrep K k1) (hrep (K + 1) k2) (by rw [e1, hZ]; exact g1) (by rw [e2, hZ]; exact g2)
  rw [← Rat.intCast_le_intCast, e1] at v1
  rw [← Rat.intCast_le_intCast, e2] at v2
  have hr := RV.of hv
  have hc : (v : Rat) / (unit k : Nat) * (unit k : Nat) = (v : Rat) := Rat.div_mul_cancel (by grind)
  have K1 : -(2 * (B : Rat)) ≤ (K : Rat) := by
    have := intr_le (show -(2 * (B : Int)) ≤ K by omega)
    rw [Rat.intCast_neg, Rat.intCast_mul, Rat.intCast_natCast, show ((2 : Int) : Rat) = 2 from rfl] at this
    exact this
  have K2 : (K : Rat) + 1 ≤ 2 * (B : Rat) := by
    have := intr_le (show K + 1 ≤ 2 * (B : Int) by omega)
    rw [Rat.intCast_add, Rat.intCast_mul, Rat.intCast_natCast, show ((2 : Int) : Rat) = 2 from rfl, show ((1 : Int) : Rat) = 1 from rfl] at this
    exact this
  have g3 := Rat.mul_le_mul_of_nonneg_right K1 (Rat.le_of_lt hP)
  have g4 := Rat.mul_le_mul_of_nonneg_right K2 (Rat.le_of_lt hP)
  refine ⟨_, hr, ?_⟩
  generalize (v : Rat) / (unit k : Nat) = r at *
  generalize (v : Rat) = V at *
  have x1 : (r - z) * (unit k : Nat) = V - Z := by rw [← hc, ← hZ]; grind
  have x2 : (z - r) * (unit k : Nat) = Z - V := by rw [← hc, ← hZ]; grind
  rw [x1, x2, hc]
  refine ⟨by grind, by grind, by grind, by grind⟩
/-- Rounding below a power of two. -/
theorem near_p {x : Option Nat} {z : Rat} (h : Wn .f32 x z) (e : Nat) (he : e ≤ 40) (h1 : -((2 ^ e : Nat) : Rat) ≤ z) (h2 : z ≤ ((2 ^ e : Nat) : Rat)) :
    ∃ r, RV .f32 x r ∧ r ≤ z + ((2 ^ e : Nat) : Rat) / 16777216 ∧ z ≤ r + ((2 ^ e : Nat) : Rat) / 16777216 ∧ -((2 ^ e : Nat) : Rat) ≤ r ∧ r ≤ ((2 ^ e : Nat) : Rat) := by
  have hP : ((2 ^ (125 + e) : Nat) : Rat) = ((2 ^ e : Nat) : Rat) * 42535295865117307932921825928971026432 := by
    rw [Nat.pow_add, Nat.mul_comm, Rat.natCast_mul, show (2 ^ 125 : Nat) = 42535295865117307932921825928971026432 from by decide]; rfl
  have hu : (0 : Rat) < 713623846352979940529142984724747568191373312 := by grind
  obtain ⟨r, hr, e1, e2, e3, e4⟩ := near_grid h (125 + e) (by rw [show 2 ^ FloatKind.f32.format.exponentBits = 256 from by decide]; omega) (by rw [hP, unit32_rat, binade32_rat]; grind) (by rw [hP, unit32_rat, binade32_rat]; grind)
  rw [hP, unit32_rat] at e1 e2
  rw [hP, unit32_rat, binade32_rat] at e3 e4
  generalize ((2 ^ e : Nat) : Rat) = M at *
  exact ⟨r, hr, by grind, by grind, by grind, by grind⟩

/-! ## Ch2 -/
/-! ### Finite sums -/
def sm (f : Nat → Rat) : Nat → Rat
  | 0 => 0
  | m + 1 => sm f m + f m
theorem sm_next (f : Nat → Rat) (m : Nat) : sm f (m + 1) = sm f m + f m := rfl
theorem sm_congr {f g : Nat → Rat} {m : Nat} (h : ∀ i, i < m → f i = g i) : sm f m = sm g m := by
  induction m with
  | zero => rfl
  | succ m ih => rw [sm_next, sm_next, ih (fun i hi => h i (by omega)), h m (by omega)]
theorem sm_le {f g : Nat → Rat} {m : Nat} (h : ∀ i, i < m → f i ≤ g i) : sm f m ≤ sm g m := by
  induction m with
  | zero => exact Rat.le_refl
  | succ m ih =>
    have h1 := ih (fun i hi => h i (by omega))
    have h2 := h m (by omega)
    rw [sm_next, sm_next]; grind
theorem sm_add (f g : Nat → Rat) (m : Nat) : sm (fun i => f i + g i) m = sm f m + sm g m := by
  induction m with
  | zero => show (0 : Rat) = 0 + 0; grind
  | succ m ih => rw [sm_next, sm_next, sm_next, ih]; grind
theorem sm_sub (f g : Nat → Rat) (m : Nat) : sm (fun i => f i - g i) m = sm f m - sm g m := by
  induction m with
  | zero => show (0 : Rat) = 0 - 0; grind
  | succ m ih => rw [sm_next, sm_next, sm_next, ih]; grind
theorem sm_mul (c : Rat) (f : Nat → Rat) (m : Nat) : sm (fun i => c * f i) m = c * sm f m := by
  induction m with
  | zero => show (0 : Rat) = c * 0; grind
  | succ m ih => rw [sm_next, sm_next, ih]; grind
theorem sm_zero (m : Nat) : sm (fun _ => 0) m = 0 := by
  induction m with
  | zero => rfl
  | succ m ih => rw [sm_next, ih]; grind
theorem sm_nonneg {f : Nat → Rat} {m : Nat} (h : ∀ i, i < m → 0 ≤ f i) : 0 ≤ sm f m := by
  have := sm_le (f := fun _ => 0) (g := f) (m := m) h
  rwa [sm_zero] at this
theorem sm_one {f : Nat → Rat} {m : Nat} (h : ∀ i, i < m → 0 ≤ f i) (k : Nat) (hk : k < m) : f k ≤ sm f m := by
  induction m with
  | zero => omega
  | succ m ih =>
    rw [sm_next]
    have h0 := sm_nonneg (f := f) (m := m) (fun i hi => h i (by omega))
    have h1 := h m (by omega)
    by_cases e : k = m
    · subst e; grind
    · have := ih (fun i hi => h i (by omega)) (by omega)
      grind
theorem sm_comm (f : Nat → Nat → Rat) (m n : Nat) : sm (fun i => sm (f i) n) m = sm (fun k => sm (fun i => f i k) m) n := by
  induction m with
  | zero =>
    show (0 : Rat) = sm (fun _ => 0) n
    rw [sm_zero]
  | succ m ih =>
    rw [sm_next, ih, ← sm_add]
    rfl
/-- One term turned. -/
theorem sm_upd {f g : Nat → Rat} {m a : Nat} (ha : a < m) (h : ∀ i, i < m → i ≠ a → f i = g i) : sm f m = sm g m + (f a - g a) := by
  induction m with
  | zero => omega
  | succ m ih =>
    rw [sm_next, sm_next]
    by_cases e : a = m
    · subst e
      rw [sm_congr (f := f) (g := g) (fun i hi => h i (by omega) (by omega))]
      grind
    · rw [ih (by omega) (fun i hi hn => h i (by omega) hn), h m (by omega) (fun x => e x.symm)]
      grind
def rab (r : Rat) : Rat := if 0 ≤ r then r else -r
theorem rab_bd (r : Rat) : r ≤ rab r ∧ -r ≤ rab r ∧ 0 ≤ rab r := by
  unfold rab
  split <;> grind
theorem rab_of {r c : Rat} (h1 : r ≤ c) (h2 : -r ≤ c) : rab r ≤ c := by
  unfold rab
  split <;> grind
theorem rab_add (a b : Rat) : rab (a + b) ≤ rab a + rab b := by
  have := rab_bd a
  have := rab_bd b
  exact rab_of (by grind) (by grind)
theorem rab_mul (a b : Rat) : rab (a * b) ≤ rab a * rab b := by
  have h1 := rab_bd a
  have h2 := rab_bd b
  have := abs_mul_le (a := a) (b := b) (α := rab a) (β := rab b) (by grind) (by grind) (by grind) (by grind)
  exact rab_of (by grind) (by grind)
theorem rab_sm (f : Nat → Rat) (m : Nat) : rab (sm f m) ≤ sm (fun i => rab (f i)) m := by
  induction m with
  | zero => exact (show rab 0 ≤ 0 from rab_of (Rat.le_refl) (by grind))
  | succ m ih =>
    rw [sm_next, sm_next]
    have := rab_add (sm f m) (f m)
    grind

/-! ### A generator -/
structure Gen (n : Nat) (q : Nat → Nat → Rat) : Prop where
  low : ∀ i k, 0 ≤ q i k
  two : ∀ i k, q i k ≤ 2
  own : ∀ i, q i i = 0
  ring : 2 ≤ n → ∀ i, i < n → 1 / 4 ≤ q i ((i + 1) % n)
def lvs (n : Nat) (q : Nat → Nat → Rat) (i : Nat) : Rat := sm (q i) n
/-- What comes less what leaves. -/
def bal (n : Nat) (q : Nat → Nat → Rat) (y : Nat → Rat) (k : Nat) : Rat := sm (fun i => y i * q i k) n - y k * lvs n q k
theorem bal_sum (n : Nat) (q : Nat → Nat → Rat) (y c : Nat → Rat) :
    sm (fun k => c k * bal n q y k) n = sm (fun i => sm (fun k => y i * q i k * (c k - c i)) n) n := by
  have e1 : sm (fun k => c k * bal n q y k) n = sm (fun k => sm (fun i => y i * q i k * c k) n) n - sm (fun k => sm (fun i => y k * q k i * c k) n) n := by
    rw [← sm_sub]
    refine sm_congr fun k _ => ?_
    unfold bal lvs
    have a1 : sm (fun i => y i * q i k * c k) n = c k * sm (fun i => y i * q i k) n := by rw [← sm_mul]; exact sm_congr fun i _ => by grind
    have a2 : sm (fun i => y k * q k i * c k) n = c k * (y k * sm (q k) n) := by rw [← sm_mul, ← sm_mul]; exact sm_congr fun i _ => by grind
    rw [a1, a2]; grind
  rw [e1, sm_comm (fun k i => y i * q i k * c k) n n, ← sm_sub]
  refine sm_congr fun i _ => ?_
  rw [← sm_sub]
  exact sm_congr fun k _ => by grind
/-- All residuals together: nothing. -/
theorem bal_all (n : Nat) (q : Nat → Nat → Rat) (y : Nat → Rat) : sm (bal n q y) n = 0 := by
  have h := bal_sum n q y (fun _ => 1)
  rw [show sm (fun k => 1 * bal n q y k) n = sm (bal n q y) n from sm_congr fun k _ => by grind] at h
  rw [h, show sm (fun i => sm (fun k => y i * q i k * ((1 : Rat) - 1)) n) n = sm (fun _ => 0) n from sm_congr fun i _ => by rw [← sm_zero n]; exact sm_congr fun k _ => by grind, sm_zero]
/-- The residuals of no set of states come to more than T. -/
def SetBd (n : Nat) (q : Nat → Nat → Rat) (y : Nat → Rat) (T : Rat) : Prop := ∀ c : Nat → Rat, (∀ k, c k = 0 ∨ c k = 1) → sm (fun k => c k * bal n q y k) n ≤ T ∧ -T ≤ sm (fun k => c k * bal n q y k) n
theorem bal_neg (n : Nat) (q : Nat → Nat → Rat) (y : Nat → Rat) (k : Nat) : bal n q (fun i => -y i) k = -bal n q y k := by
  unfold bal
  rw [show sm (fun i => -y i * q i k) n = -1 * sm (fun i => y i * q i k) n from by rw [← sm_mul]; exact sm_congr fun i _ => by grind]
  grind
theorem SetBd.neg {n : Nat} {q : Nat → Nat → Rat} {y : Nat → Rat} {T : Rat} (h : SetBd n q y T) : SetBd n q (fun i => -y i) T := by
  intro c hc
  have e : sm (fun k => c k * bal n q (fun i => -y i) k) n = -1 * sm (fun k => c k * bal n q y k) n := by
    rw [← sm_mul]; exact sm_congr fun i _ => by rw [bal_neg]; grind
  have := h c hc
  rw [e]; grind
section
variable {n : Nat} {q : Nat → Nat → Rat} {y : Nat → Rat} {T : Rat} (g : Gen n q) (h : SetBd n q y T)
include g h
/-- What flows between the signs is little. -/
theorem flow_out {i v : Nat} (hi : i < n) (hv : v < n) (h1 : 0 ≤ y i) (h2 : y v < 0) : y i * q i v ≤ T := by
  have ht := (h (fun k => if y k < 0 then 1 else 0) (fun k => by by_cases c : y k < 0 <;> simp [c])).1
  rw [bal_sum] at ht
  have hn : ∀ a b, 0 ≤ y a * q a b * ((if y b < 0 then (1 : Rat) else 0) - (if y a < 0 then 1 else 0)) := by
    intro a b
    have hq := g.low a b
    by_cases ca : y a < 0
    · have := Rat.mul_nonneg (show 0 ≤ -y a by grind) hq
      by_cases cb : y b < 0 <;> simp only [ca, cb, if_true, if_false] <;> grind
    · have := Rat.mul_nonneg (show 0 ≤ y a by grind) hq
      by_cases cb : y b < 0 <;> simp only [ca, cb, if_true, if_false] <;> grind
  have s1 := sm_one (f := fun a => sm (fun b => y a * q a b * ((if y b < 0 then (1 : Rat) else 0) - (if y a < 0 then 1 else 0))) n) (m := n) (fun a _ => sm_nonneg fun b _ => hn a b) i hi
  have s2 := sm_one (f := fun b => y i * q i b * ((if y b < 0 then (1 : Rat) else 0) - (if y i < 0 then 1 else 0))) (m := n) (fun b _ => hn i b) v hv
  have hni : ¬ y i < 0 := by grind
  simp only [h2, hni, if_true, if_false] at s1 s2
  grind
theorem flow_in {i v : Nat} (hi : i < n) (hv : v < n) (h1 : y i < 0) (h2 : 0 ≤ y v) : -y i * q i v ≤ T := by
  have ht := (h (fun k => if y k < 0 then 1 else 0) (fun k => by by_cases c : y k < 0 <;> simp [c])).1
  rw [bal_sum] at ht
  have hn : ∀ a b, 0 ≤ y a * q a b * ((if y b < 0 then (1 : Rat) else 0) - (if y a < 0 then 1 else 0)) := by
    intro a b
    have hq := g.low a b
    by_cases ca : y a < 0
    · have := Rat.mul_nonneg (show 0 ≤ -y a by grind) hq
      by_cases cb : y b < 0 <;> simp only [ca, cb, if_true, if_false] <;> grind
    · have := Rat.mul_nonneg (show 0 ≤ y a by grind) hq
      by_cases cb : y b < 0 <;> simp only [ca, cb, if_true, if_false] <;> grind
  have s1 := sm_one (f := fun a => sm (fun b => y a * q a b * ((if y b < 0 then (1 : Rat) else 0) - (if y a < 0 then 1 else 0))) n) (m := n) (fun a _ => sm_nonneg fun b _ => hn a b) i hi
  have s2 := sm_one (f := fun b => y i * q i b * ((if y b < 0 then (1 : Rat) else 0) - (if y i < 0 then 1 else 0))) (m := n) (fun b _ => hn i b) v hv
  have hni : ¬ y v < 0 := by grind
  simp only [h1, hni, if_true, if_false] at s1 s2
  grind
/-- How many are not below 0. -/
def cntP (n : Nat) (y : Nat → Rat) : Rat := sm (fun k => if y k < 0 then 0 else 1) n
/-- What flows to one that is not below 0 leaves it again, nearly, to the others. -/
theorem flow_on {i v : Nat} (hi : i < n) (hv : v < n) (hiv : i ≠ v) (h1 : 0 ≤ y i) (h2 : 0 ≤ y v) : y i * q i v ≤ T + 2 * y v * (cntP n y - 1) := by
  have ht := (h (fun k => if y k < 0 ∨ k = v then 1 else 0) (fun k => by by_cases c : y k < 0 ∨ k = v <;> simp [c])).1
  rw [bal_sum] at ht
  -- all but what leaves v
  have hn : ∀ a b, a ≠ v → 0 ≤ y a * q a b * ((if y b < 0 ∨ b = v then (1 : Rat) else 0) - (if y a < 0 ∨ a = v then 1 else 0)) := by
    intro a b hav
    have hq := g.low a b
    by_cases ca : y a < 0
    · have := Rat.mul_nonneg (show 0 ≤ -y a by grind) hq
      by_cases cb : y b < 0 ∨ b = v <;> simp only [ca, cb, true_or, if_true, if_false] <;> grind
    · have := Rat.mul_nonneg (show 0 ≤ y a by grind) hq
      by_cases cb : y b < 0 ∨ b = v <;> simp only [ca, cb, hav, or_self, if_true, if_false] <;> grind
  have hvl : ∀ b, -(2 * y v * ((if y b < 0 then 0 else 1) - (if b = v then (1 : Rat) else 0))) ≤ y v * q v b * ((if y b < 0 ∨ b = v then (1 : Rat) else 0) - 1) := by
    intro b
    have hq := g.low v b
    have hq2 := g.two v b
    have p1 := Rat.mul_nonneg h2 hq
    have p2 := Rat.mul_nonneg h2 (show 0 ≤ 2 - q v b by grind)
    by_cases e : b = v
    · have hnv : ¬ y v < 0 := by grind
      rw [e]
      simp only [hnv, or_true, if_true, if_false]; grind
    · by_cases cb : y b < 0
      · simp only [cb, e, true_or, if_true, if_false]; grind
      · simp only [cb, e, or_self, if_false]; grind
  have s0 := sm_upd (f := fun a => sm (fun b => y a * q a b * ((if y b < 0 ∨ b = v then (1 : Rat) else 0) - (if y a < 0 ∨ a = v then 1 else 0))) n) (g := fun a => if a = v then 0 else sm (fun b => y a * q a b * ((if y b < 0 ∨ b = v then (1 : Rat) else 0) - (if y a < 0 ∨ a = v then 1 else 0))) n) hv (fun a _ hav => by simp [hav])
  have s1 := sm_one (f := fun a => if a = v then 0 else sm (fun b => y a * q a b * ((if y b < 0 ∨ b = v then (1 : Rat) else 0) - (if y a < 0 ∨ a = v then 1 else 0))) n) (m := n) (fun a _ => by
    by_cases e : a = v
    · simp [e]
    · simp only [e, if_false]
      exact sm_nonneg fun b _ => by have := hn a b e; simpa [e] using this) i hi
  have s2 := sm_one (f := fun b => y i * q i b * ((if y b < 0 ∨ b = v then (1 : Rat) else 0) - (if y i < 0 ∨ i = v then 1 else 0))) (m := n) (fun b _ => hn i b hiv) v hv
  have s3 := sm_le (f := fun b => -(2 * y v * ((if y b < 0 then 0 else 1) - (if b = v then (1 : Rat) else 0)))) (g := fun b => y v * q v b * ((if y b < 0 ∨ b = v then (1 : Rat) else 0) - 1)) (m := n) (fun b _ => hvl b)
  have e3 : sm (fun b => -(2 * y v * ((if y b < 0 then 0 else 1) - (if b = v then (1 : Rat) else 0)))) n = -(2 * y v) * (cntP n y - sm (fun b => if b = v then (1 : Rat) else 0) n) := by
    unfold cntP
    rw [← sm_sub, ← sm_mul]
    exact sm_congr fun b _ => by grind
  have e4 : sm (fun b => if b = v then (1 : Rat) else 0) n = 1 := by
    rw [sm_upd (g := fun _ => 0) hv (fun b _ hb => by simp [hb]), sm_zero]
    simp; grind
  rw [e3, e4] at s3
  have hni : ¬ y i < 0 := by grind
  have hnv : ¬ y v < 0 := by grind
  simp only [hni, hnv, hiv, or_true, or_self, if_true, if_false] at s0 s1 s2
  grind
end

/-! ## Ch3 -/
/-- From one state to the next one. -/
def Hop (a b T c : Rat) : Prop := (0 ≤ a → b < 0 → a ≤ 4 * T) ∧ (0 ≤ a → 0 ≤ b → a ≤ 4 * T + 8 * b * (c - 1)) ∧ (a < 0 → 0 ≤ b → -a ≤ 4 * T)
set_option maxHeartbeats 2000000
theorem mass2 {y0 y1 T c : Rat} (T0 : 0 ≤ T) (hc : c = 0 + (if y0 < 0 then 0 else 1) + (if y1 < 0 then 0 else 1)) (h : c ≤ 0) (f0 : Hop y0 y1 T c) (f1 : Hop y1 y0 T c) :
    0 + (if y0 < 0 then 0 else y0) + (if y1 < 0 then 0 else y1) ≤ 1164 * T := by
  obtain ⟨a0, b0, _⟩ := f0
  obtain ⟨a1, b1, _⟩ := f1
  by_cases c0 : y0 < 0 <;> by_cases c1 : y1 < 0 <;> simp only [c0, c1, if_true, if_false] at hc ⊢ <;> subst hc <;> grind
theorem less2 {y0 y1 T c : Rat} (T0 : 0 ≤ T) (hc : c = 0 + (if y0 < 0 then 0 else 1) + (if y1 < 0 then 0 else 1)) (h : ¬ c ≤ 0) (f0 : Hop y0 y1 T c) (f1 : Hop y1 y0 T c) :
    0 + (if y0 < 0 then -y0 else 0) + (if y1 < 0 then -y1 else 0) ≤ 4 * T := by
  obtain ⟨_, _, a0⟩ := f0
  obtain ⟨_, _, a1⟩ := f1
  by_cases c0 : y0 < 0 <;> by_cases c1 : y1 < 0 <;> simp only [c0, c1, if_true, if_false] at hc ⊢ <;> subst hc <;> grind
theorem mass3 {y0 y1 y2 T c : Rat} (T0 : 0 ≤ T) (hc : c = 0 + (if y0 < 0 then 0 else 1) + (if y1 < 0 then 0 else 1) + (if y2 < 0 then 0 else 1)) (h : c ≤ 1) (f0 : Hop y0 y1 T c) (f1 : Hop y1 y2 T c) (f2 : Hop y2 y0 T c) :
    0 + (if y0 < 0 then 0 else y0) + (if y1 < 0 then 0 else y1) + (if y2 < 0 then 0 else y2) ≤ 1164 * T := by
  obtain ⟨a0, b0, _⟩ := f0
  obtain ⟨a1, b1, _⟩ := f1
  obtain ⟨a2, b2, _⟩ := f2
  by_cases c0 : y0 < 0 <;> by_cases c1 : y1 < 0 <;> by_cases c2 : y2 < 0 <;> simp only [c0, c1, c2, if_true, if_false] at hc ⊢ <;> subst hc <;> grind
theorem less3 {y0 y1 y2 T c : Rat} (T0 : 0 ≤ T) (hc : c = 0 + (if y0 < 0 then 0 else 1) + (if y1 < 0 then 0 else 1) + (if y2 < 0 then 0 else 1)) (h : ¬ c ≤ 1) (f0 : Hop y0 y1 T c) (f1 : Hop y1 y2 T c) (f2 : Hop y2 y0 T c) :
    0 + (if y0 < 0 then -y0 else 0) + (if y1 < 0 then -y1 else 0) + (if y2 < 0 then -y2 else 0) ≤ 4 * T := by
  obtain ⟨_, _, a0⟩ := f0
  obtain ⟨_, _, a1⟩ := f1
  obtain ⟨_, _, a2⟩ := f2
  by_cases c0 : y0 < 0 <;> by_cases c1 : y1 < 0 <;> by_cases c2 : y2 < 0 <;> simp only [c0, c1, c2, if_true, if_false] at hc ⊢ <;> subst hc <;> grind
theorem mass4 {y0 y1 y2 y3 T c : Rat} (T0 : 0 ≤ T) (hc : c = 0 + (if y0 < 0 then 0 else 1) + (if y1 < 0 then 0 else 1) + (if y2 < 0 then 0 else 1) + (if y3 < 0 then 0 else 1)) (h : c ≤ 2) (f0 : Hop y0 y1 T c) (f1 : Hop y1 y2 T c) (f2 : Hop y2 y3 T c) (f3 : Hop y3 y0 T c) :
    0 + (if y0 < 0 then 0 else y0) + (if y1 < 0 then 0 else y1) + (if y2 < 0 then 0 else y2) + (if y3 < 0 then 0 else y3) ≤ 1164 * T := by
  obtain ⟨a0, b0, _⟩ := f0
  obtain ⟨a1, b1, _⟩ := f1
  obtain ⟨a2, b2, _⟩ := f2
  obtain ⟨a3, b3, _⟩ := f3
  by_cases c0 : y0 < 0 <;> by_cases c1 : y1 < 0 <;> by_cases c2 : y2 < 0 <;> by_cases c3 : y3 < 0 <;> simp only [c0, c1, c2, c3, if_true, if_false] at hc ⊢ <;> subst hc <;> grind
theorem less4 {y0 y1 y2 y3 T c : Rat} (T0 : 0 ≤ T) (hc : c = 0 + (if y0 < 0 then 0 else 1) + (if y1 < 0 then 0 else 1) + (if y2 < 0 then 0 else 1) + (if y3 < 0 then 0 else 1)) (h : ¬ c ≤ 2) (f0 : Hop y0 y1 T c) (f1 : Hop y1 y2 T c) (f2 : Hop y2 y3 T c) (f3 : Hop y3 y0 T c) :
    0 + (if y0 < 0 then -y0 else 0) + (if y1 < 0 then -y1 else 0) + (if y2 < 0 then -y2 else 0) + (if y3 < 0 then -y3 else 0) ≤ 4 * T := by
  obtain ⟨_, _, a0⟩ := f0
  obtain ⟨_, _, a1⟩ := f1
  obtain ⟨_, _, a2⟩ := f2
  obtain ⟨_, _, a3⟩ := f3
  by_cases c0 : y0 < 0 <;> by_cases c1 : y1 < 0 <;> by_cases c2 : y2 < 0 <;> by_cases c3 : y3 < 0 <;> simp only [c0, c1, c2, c3, if_true, if_false] at hc ⊢ <;> subst hc <;> grind
theorem mass5 {y0 y1 y2 y3 y4 T c : Rat} (T0 : 0 ≤ T) (hc : c = 0 + (if y0 < 0 then 0 else 1) + (if y1 < 0 then 0 else 1) + (if y2 < 0 then 0 else 1) + (if y3 < 0 then 0 else 1) + (if y4 < 0 then 0 else 1)) (h : c ≤ 3) (f0 : Hop y0 y1 T c) (f1 : Hop y1 y2 T c) (f2 : Hop y2 y3 T c) (f3 : Hop y3 y4 T c) (f4 : Hop y4 y0 T c) :
    0 + (if y0 < 0 then 0 else y0) + (if y1 < 0 then 0 else y1) + (if y2 < 0 then 0 else y2) + (if y3 < 0 then 0 else y3) + (if y4 < 0 then 0 else y4) ≤ 1164 * T := by
  obtain ⟨a0, b0, _⟩ := f0
  obtain ⟨a1, b1, _⟩ := f1
  obtain ⟨a2, b2, _⟩ := f2
  obtain ⟨a3, b3, _⟩ := f3
  obtain ⟨a4, b4, _⟩ := f4
  by_cases c0 : y0 < 0 <;> by_cases c1 : y1 < 0 <;> by_cases c2 : y2 < 0 <;> by_cases c3 : y3 < 0 <;> by_cases c4 : y4 < 0 <;> simp only [c0, c1, c2, c3, c4, if_true, if_false] at hc ⊢ <;> subst hc <;> grind
theorem less5 {y0 y1 y2 y3 y4 T c : Rat} (T0 : 0 ≤ T) (hc : c = 0 + (if y0 < 0 then 0 else 1) + (if y1 < 0 then 0 else 1) + (if y2 < 0 then 0 else 1) + (if y3 < 0 then 0 else 1) + (if y4 < 0 then 0 else 1)) (h : ¬ c ≤ 3) (f0 : Hop y0 y1 T c) (f1 : Hop y1 y2 T c) (f2 : Hop y2 y3 T c) (f3 : Hop y3 y4 T c) (f4 : Hop y4 y0 T c) :
    0 + (if y0 < 0 then -y0 else 0) + (if y1 < 0 then -y1 else 0) + (if y2 < 0 then -y2 else 0) + (if y3 < 0 then -y3 else 0) + (if y4 < 0 then -y4 else 0) ≤ 4 * T := by
  obtain ⟨_, _, a0⟩ := f0
  obtain ⟨_, _, a1⟩ := f1
  obtain ⟨_, _, a2⟩ := f2
  obtain ⟨_, _, a3⟩ := f3
  obtain ⟨_, _, a4⟩ := f4
  by_cases c0 : y0 < 0 <;> by_cases c1 : y1 < 0 <;> by_cases c2 : y2 < 0 <;> by_cases c3 : y3 < 0 <;> by_cases c4 : y4 < 0 <;> simp only [c0, c1, c2, c3, c4, if_true, if_false] at hc ⊢ <;> subst hc <;> grind


def posP (n : Nat) (y : Nat → Rat) : Rat := sm (fun k => if y k < 0 then 0 else y k) n
def negP (n : Nat) (y : Nat → Rat) : Rat := sm (fun k => if y k < 0 then -y k else 0) n
theorem pos_neg (n : Nat) (y : Nat → Rat) : sm y n = posP n y - negP n y ∧ sm (fun k => rab (y k)) n = posP n y + negP n y := by
  unfold posP negP
  refine ⟨?_, ?_⟩
  · rw [← sm_sub]
    exact sm_congr fun k _ => by split <;> grind
  · rw [← sm_add]
    exact sm_congr fun k _ => by unfold rab; split <;> split <;> grind
theorem pos0 (n : Nat) (y : Nat → Rat) : 0 ≤ posP n y ∧ 0 ≤ negP n y := by
  refine ⟨sm_nonneg fun k _ => by split <;> grind, sm_nonneg fun k _ => by split <;> grind⟩
section
variable {n : Nat} {q : Nat → Nat → Rat} {y : Nat → Rat} {T : Rat} (g : Gen n q) (h : SetBd n q y T)
include g h
theorem hop {i v : Nat} (hn : 2 ≤ n) (hi : i < n) (e : (i + 1) % n = v) : Hop (y i) (y v) T (cntP n y) := by
  subst e
  have hv : (i + 1) % n < n := Nat.mod_lt _ (by omega)
  have hiv : i ≠ (i + 1) % n := by
    intro e
    by_cases c : i + 1 < n
    · rw [Nat.mod_eq_of_lt c] at e; omega
    · rw [show i + 1 = n by omega, Nat.mod_self] at e; omega
  have hq := g.ring hn i hi
  refine ⟨fun h1 h2 => ?_, fun h1 h2 => ?_, fun h1 h2 => ?_⟩
  · have f := flow_out g h hi hv h1 h2
    have := Rat.mul_nonneg h1 (show 0 ≤ q i ((i + 1) % n) - 1 / 4 by grind)
    grind
  · have f := flow_on g h hi hv hiv h1 h2
    have := Rat.mul_nonneg h1 (show 0 ≤ q i ((i + 1) % n) - 1 / 4 by grind)
    grind
  · have f := flow_in g h hi hv h1 h2
    have := Rat.mul_nonneg (show 0 ≤ -y i by grind) (show 0 ≤ q i ((i + 1) % n) - 1 / 4 by grind)
    grind
/-- Two below 0: the rest is little. One below 0: it is little. -/
theorem masses (hn : 1 ≤ n) (h5 : n ≤ 5) (T0 : 0 ≤ T) : posP n y ≤ 1164 * T ∨ negP n y ≤ 4 * T := by
  rcases (show n = 1 ∨ n = 2 ∨ n = 3 ∨ n = 4 ∨ n = 5 by omega) with rfl | rfl | rfl | rfl | rfl
  · have e1 : posP 1 y = 0 + (if y 0 < 0 then 0 else y 0) := rfl
    have e2 : negP 1 y = 0 + (if y 0 < 0 then -y 0 else 0) := rfl
    rw [e1, e2]
    by_cases c : y 0 < 0 <;> simp only [c, if_true, if_false] <;> grind
  · by_cases c : cntP 2 y ≤ 0
    · exact Or.inl (mass2 T0 rfl c (hop (i := 0) (v := 1) g h (by omega) (by omega) rfl) (hop (i := 1) (v := 0) g h (by omega) (by omega) rfl))
    · exact Or.inr (less2 T0 rfl c (hop (i := 0) (v := 1) g h (by omega) (by omega) rfl) (hop (i := 1) (v := 0) g h (by omega) (by omega) rfl))
  · by_cases c : cntP 3 y ≤ 1
    · exact Or.inl (mass3 T0 rfl c (hop (i := 0) (v := 1) g h (by omega) (by omega) rfl) (hop (i := 1) (v := 2) g h (by omega) (by omega) rfl) (hop (i := 2) (v := 0) g h (by omega) (by omega) rfl))
    · exact Or.inr (less3 T0 rfl c (hop (i := 0) (v := 1) g h (by omega) (by omega) rfl) (hop (i := 1) (v := 2) g h (by omega) (by omega) rfl) (hop (i := 2) (v := 0) g h (by omega) (by omega) rfl))
  · by_cases c : cntP 4 y ≤ 2
    · exact Or.inl (mass4 T0 rfl c (hop (i := 0) (v := 1) g h (by omega) (by omega) rfl) (hop (i := 1) (v := 2) g h (by omega) (by omega) rfl) (hop (i := 2) (v := 3) g h (by omega) (by omega) rfl) (hop (i := 3) (v := 0) g h (by omega) (by omega) rfl))
    · exact Or.inr (less4 T0 rfl c (hop (i := 0) (v := 1) g h (by omega) (by omega) rfl) (hop (i := 1) (v := 2) g h (by omega) (by omega) rfl) (hop (i := 2) (v := 3) g h (by omega) (by omega) rfl) (hop (i := 3) (v := 0) g h (by omega) (by omega) rfl))
  · by_cases c : cntP 5 y ≤ 3
    · exact Or.inl (mass5 T0 rfl c (hop (i := 0) (v := 1) g h (by omega) (by omega) rfl) (hop (i := 1) (v := 2) g h (by omega) (by omega) rfl) (hop (i := 2) (v := 3) g h (by omega) (by omega) rfl) (hop (i := 3) (v := 4) g h (by omega) (by omega) rfl) (hop (i := 4) (v := 0) g h (by omega) (by omega) rfl))
    · exact Or.inr (less5 T0 rfl c (hop (i := 0) (v := 1) g h (by omega) (by omega) rfl) (hop (i := 1) (v := 2) g h (by omega) (by omega) rfl) (hop (i := 2) (v := 3) g h (by omega) (by omega) rfl) (hop (i := 3) (v := 4) g h (by omega) (by omega) rfl) (hop (i := 4) (v := 0) g h (by omega) (by omega) rfl))
/-- The size of what is nearly in balance. -/
theorem size_near (hn : 1 ≤ n) (h5 : n ≤ 5) (T0 : 0 ≤ T) : sm (fun k => rab (y k)) n ≤ rab (sm y n) + 2328 * T := by
  have e := pos_neg n y
  have p := pos0 n y
  have b := rab_bd (sm y n)
  rcases masses g h hn h5 T0 with c | c <;> grind
/-- Nearly in balance, and not near nothing: none is far below 0. -/
theorem none_low (hn : 1 ≤ n) (h5 : n ≤ 5) (T0 : 0 ≤ T) (hs : 1164 * T < sm y n) : negP n y ≤ 4 * T ∧ (∀ i, i < n → -(4 * T) ≤ y i) ∧ sm (fun k => rab (y k)) n ≤ sm y n + 8 * T := by
  have e := pos_neg n y
  have p := pos0 n y
  have hN : negP n y ≤ 4 * T := by
    rcases masses g h hn h5 T0 with c | c
    · grind
    · exact c
  refine ⟨hN, fun i hi => ?_, by grind⟩
  have := sm_one (f := fun k => if y k < 0 then -y k else 0) (m := n) (fun k _ => by split <;> grind) i hi
  unfold negP at hN
  by_cases c : y i < 0
  · simp only [c, if_true] at this; grind
  · grind
end

/-! ## Ch4 -/
/-- The value of a number. -/
def vl (x : Option Nat) : Rat := match x with
  | some b => (fv FloatKind.f32.format b : Rat) / (unit .f32 : Nat)
  | none => 0
theorem RV.vl {x : Option Nat} {r : Rat} (h : RV .f32 x r) : vl x = r := by
  obtain ⟨v, ⟨b, rfl, _, rfl⟩, e⟩ := h
  show (fv FloatKind.f32.format b : Rat) / (unit .f32 : Nat) = r
  rw [e]
  have := unit_pos .f32
  have h2 := Rat.div_mul_cancel (a := r * (unit .f32 : Nat)) (b := (unit .f32 : Nat)) (by grind)
  grind
theorem RV.own {x : Option Nat} {r : Rat} (h : RV .f32 x r) : RV .f32 x (Go.Proofs.Ytkaeohlakeliiaa.vl x) := by rw [h.vl]; exact h
theorem abs_rv {x : Option Nat} {r : Rat} (h : RV .f32 x r) : RV .f32 (absM x) (rab r) := by
  obtain ⟨v, hv, e⟩ := h
  have hu := unit_pos .f32
  have ho := opp_isV hv
  have s1 : 0 ≤ v ↔ 0 ≤ r := by
    constructor
    · intro h
      have h2 := intr_le h
      rw [e, show ((0 : Int) : Rat) = 0 from rfl] at h2
      exact Rat.le_of_mul_le_mul_right (c := (unit .f32 : Nat)) (by grind) hu
    · intro h
      rw [← Rat.intCast_le_intCast, e, show ((0 : Int) : Rat) = 0 from rfl]
      exact Rat.mul_nonneg h (Rat.le_of_lt hu)
  rcases Int.lt_trichotomy v 0 with c | c | c
  · refine ⟨-v, ?_, ?_⟩
    · unfold absM fmax
      rw [ford_lt hv ho (by omega)]
      exact ho
    · rw [Rat.intCast_neg, e, show rab r = -r from if_neg (fun x => by have := s1.2 x; omega)]; grind
  · subst c
    refine ⟨0, ?_, ?_⟩
    · unfold absM fmax
      rw [ford_eq hv ho (by omega)]
      simp only
      split
      · simpa using ho
      · exact hv
    · rw [show rab r = r from if_pos (s1.1 (by omega))]; exact e
  · refine ⟨v, ?_, ?_⟩
    · unfold absM fmax
      rw [ford_gt hv ho (by omega)]
      exact hv
    · rw [show rab r = r from if_pos (s1.1 (by omega))]; exact e

/-! ### The greatest number of a column -/
theorem bst_top {A : Mat} {k m : Nat} (hm : 1 ≤ m) (h : ∀ t, t < m → RV .f32 (A (k + t) k) (vl (A (k + t) k))) : ∃ d, d < m ∧ bst A k m = k + d ∧ ∀ t, t < m → rab (vl (A (k + t) k)) ≤ rab (vl (A (k + d) k)) := by
  induction m with
  | zero => omega
  | succ m ih =>
    by_cases h0 : m = 0
    · subst h0
      refine ⟨0, by omega, ?_, fun t ht => ?_⟩
      · rw [bst_one]; omega
      · obtain rfl : t = 0 := by omega
        exact Rat.le_refl
    · obtain ⟨d, hd, e, hmax⟩ := ih (by omega) (fun t ht => h t (by omega))
      have r1 := abs_rv (h m (by omega))
      have r2 := abs_rv (h d (by omega))
      have hb : bst A k (m + 1) = if gtX A (k + m) (bst A k m) k then k + m else bst A k m := rfl
      rw [hb, e]
      by_cases c : rab (vl (A (k + d) k)) < rab (vl (A (k + m) k))
      · have hg : gtX A (k + m) (k + d) k = true := by unfold gtX; rw [rv_gt r1 r2 c]; rfl
        rw [if_pos hg]
        refine ⟨m, by omega, rfl, fun t ht => ?_⟩
        by_cases ct : t = m
        · subst ct; exact Rat.le_refl
        · have := hmax t (by omega); grind
      · have hg : gtX A (k + m) (k + d) k = false := by
          unfold gtX
          by_cases c2 : rab (vl (A (k + m) k)) < rab (vl (A (k + d) k))
          · rw [rv_lt r1 r2 c2]; rfl
          · rw [rv_eq r1 r2 (by grind)]; rfl
        rw [hg]
        refine ⟨d, by omega, by simp, fun t ht => ?_⟩
        by_cases ct : t = m
        · subst ct; grind
        · exact hmax t (by omega)

/-! ### Residuals at a stage -/
/-- The residual of row i, its numbers from column k on; the right side is column n, s of it. -/
def row (A : Mat) (x : Nat → Rat) (s : Rat) (n k i : Nat) : Rat := sm (fun t => vl (A i (k + t)) * x (k + t)) (n - k) - s * vl (A i n)
def tot (A : Mat) (x : Nat → Rat) (s : Rat) (n k : Nat) : Rat := sm (fun t => rab (row A x s n k (k + t))) (n - k)
structure Act (n k : Nat) (A : Mat) (M b : Rat) : Prop where
  rv : ∀ i j, k ≤ i → i < n → k ≤ j → j ≤ n → RV .f32 (A i j) (vl (A i j))
  bd : ∀ i j, k ≤ i → i < n → k ≤ j → j < n → rab (vl (A i j)) ≤ M
  rhs : ∀ i, k ≤ i → i < n → rab (vl (A i n)) ≤ b
theorem sm_swap {f : Nat → Rat} {m a b : Nat} (ha : a < m) (hb : b < m) : sm (fun t => f (if t = b then a else if t = a then b else t)) m = sm f m := by
  by_cases e : a = b
  · subst e
    refine sm_congr fun t _ => ?_
    by_cases c : t = a <;> simp [c]
  · rw [sm_upd (g := fun t => if t = a then f b else f t) (a := b) hb (fun t _ ht => by
      by_cases c : t = a
      · subst c; simp [e]
      · simp [c, ht])]
    rw [sm_upd (f := fun t => if t = a then f b else f t) (g := f) (a := a) ha (fun t _ ht => by simp [ht])]
    have e' : ¬ b = a := fun x => e x.symm
    simp only [if_true, e', if_false]
    grind
theorem Act.swap {n k d : Nat} {A : Mat} {M b : Rat} (h : Act n k A M b) (hd : k + d < n) : Act n k (swp A k (k + d)) M b := by
  have pick : ∀ i, k ≤ i → i < n → ∃ i', k ≤ i' ∧ i' < n ∧ ∀ j, swp A k (k + d) i j = A i' j := by
    intro i h1 h2
    by_cases c1 : i = k + d
    · exact ⟨k, by omega, by omega, fun j => by unfold swp; rw [if_pos c1]⟩
    · by_cases c2 : i = k
      · exact ⟨k + d, by omega, by omega, fun j => by unfold swp; rw [if_neg c1, if_pos c2]⟩
      · exact ⟨i, h1, h2, fun j => by unfold swp; rw [if_neg c1, if_neg c2]⟩
  refine ⟨fun i j h1 h2 h3 h4 => ?_, fun i j h1 h2 h3 h4 => ?_, fun i h1 h2 => ?_⟩
  · obtain ⟨i', p1, p2, p3⟩ := pick i h1 h2
    rw [p3]; exact h.rv i' j p1 p2 h3 h4
  · obtain ⟨i', p1, p2, p3⟩ := pick i h1 h2
    rw [p3]; exact h.bd i' j p1 p2 h3 h4
  · obtain ⟨i', p1, p2, p3⟩ := pick i h1 h2
    rw [p3]; exact h.rhs i' p1 p2
theorem tot_swap (A : Mat) (x : Nat → Rat) (s : Rat) {n k d : Nat} (hd : k + d < n) : tot (swp A k (k + d)) x s n k = tot A x s n k := by
  unfold tot
  rw [← sm_swap (f := fun t => rab (row A x s n k (k + t))) (a := 0) (b := d) (m := n - k) (by omega) (by omega)]
  refine sm_congr fun t ht => ?_
  congr 1
  unfold row swp
  by_cases c1 : t = d
  · subst c1; simp
  · by_cases c2 : t = 0
    · subst c2
      have c3 : ¬ d = 0 := fun x => c1 x.symm
      simp only [c1, c3, if_false, if_true, Nat.add_zero]
      simp [c3]
    · simp [c1, c2]

/-! ## Ch5 -/
def uu : Rat := 1 / 16777216
theorem uu_eq : uu = 1 / 16777216 := rfl
theorem sm_front (f : Nat → Rat) (m : Nat) : sm f (m + 1) = f 0 + sm (fun t => f (t + 1)) m := by
  induction m with
  | zero => show (0 : Rat) + f 0 = f 0 + 0; grind
  | succ m ih => rw [sm_next, ih, sm_next]; grind
theorem sm_tail {f : Nat → Rat} {n : Nat} (h : ∀ i, i < n → 0 ≤ f i) (k : Nat) (hk : k ≤ n) : sm (fun t => f (k + t)) (n - k) ≤ sm f n := by
  induction k with
  | zero =>
    rw [show sm (fun t => f (0 + t)) (n - 0) = sm f n from by rw [Nat.sub_zero]; exact sm_congr fun i _ => by rw [Nat.zero_add]]
    exact Rat.le_refl
  | succ k ih =>
    have h1 := ih (by omega)
    rw [show n - k = (n - (k + 1)) + 1 by omega, sm_front] at h1
    rw [show sm (fun t => f (k + 1 + t)) (n - (k + 1)) = sm (fun t => f (k + (t + 1))) (n - (k + 1)) from sm_congr fun t _ => by rw [show k + 1 + t = k + (t + 1) by omega]]
    have h2 := h k (by omega)
    rw [Nat.add_zero] at h1
    grind
def S1 (x : Nat → Rat) (n : Nat) : Rat := sm (fun t => rab (x t)) n
theorem s1_tail (x : Nat → Rat) (n k : Nat) (hk : k ≤ n) : sm (fun t => rab (x (k + t))) (n - k) ≤ S1 x n :=
  sm_tail (f := fun t => rab (x t)) (fun i _ => (rab_bd _).2.2) k hk
theorem s1_pos (x : Nat → Rat) (n : Nat) : 0 ≤ S1 x n := sm_nonneg fun i _ => (rab_bd _).2.2
def p2 (e : Nat) : Rat := ((2 ^ e : Nat) : Rat)
theorem p2_succ (e : Nat) : p2 (e + 1) = 2 * p2 e := by
  unfold p2
  rw [Nat.pow_succ, Rat.natCast_mul]
  show _ * (2 : Rat) = _
  grind
theorem p2_pos (e : Nat) : 1 ≤ p2 e := by
  induction e with
  | zero => unfold p2; decide
  | succ e ih => rw [p2_succ]; grind
/-- One quotient. -/
theorem quo_one {a b : Option Nat} (ha : RV .f32 a (vl a)) (hb : RV .f32 b (vl b)) (h : rab (vl a) ≤ rab (vl b)) (h0 : vl b ≠ 0) : RV .f32 (fop .quo .f32 a b) (vl (fop .quo .f32 a b)) ∧ rab (vl (fop .quo .f32 a b)) ≤ 1 ∧ rab (vl a - vl (fop .quo .f32 a b) * vl b) ≤ uu * rab (vl b) := by
  have hw : Wn .f32 (fop .quo .f32 a b) (vl a / vl b) := by
    by_cases c : 0 < vl b
    · exact wn_div ha hb c
    · exact wn_divn ha hb (by grind)
  have e : vl a / vl b * vl b = vl a := Rat.div_mul_cancel h0
  have b1 := rab_bd (vl a)
  have b2 := rab_bd (vl b)
  have hz : -1 ≤ vl a / vl b ∧ vl a / vl b ≤ 1 := by
    by_cases c : 0 < vl b
    · have e2 : rab (vl b) = vl b := if_pos (by grind)
      refine ⟨Rat.le_of_mul_le_mul_right (c := vl b) (by rw [e]; grind) c, Rat.le_of_mul_le_mul_right (c := vl b) (by rw [e]; grind) c⟩
    · have c2 : 0 < -vl b := by grind
      have e2 : rab (vl b) = -vl b := if_neg (by grind)
      refine ⟨Rat.le_of_mul_le_mul_right (c := -vl b) (by grind) c2, Rat.le_of_mul_le_mul_right (c := -vl b) (by grind) c2⟩
  obtain ⟨r, hr, r1, r2, r3, r4⟩ := near_p hw 0 (by omega) (by rw [show ((2 ^ 0 : Nat) : Rat) = 1 from rfl]; exact hz.1) (by rw [show ((2 ^ 0 : Nat) : Rat) = 1 from rfl]; exact hz.2)
  rw [show ((2 ^ 0 : Nat) : Rat) = 1 from rfl] at r1 r2 r3 r4
  rw [hr.vl]
  refine ⟨hr, rab_of r4 (by grind), ?_⟩
  have e3 : vl a - r * vl b = (vl a / vl b - r) * vl b := by grind
  rw [e3]
  refine Rat.le_trans (rab_mul _ _) ?_
  exact Rat.mul_le_mul_of_nonneg_right (rab_of (by rw [uu_eq]; grind) (by rw [uu_eq]; grind)) b2.2.2
/-- One number less a multiple of another one. -/
theorem sub_one {a l c : Option Nat} (e : Nat) (he : e ≤ 30) (ha : RV .f32 a (vl a)) (hl : RV .f32 l (vl l)) (hc : RV .f32 c (vl c)) (l1 : rab (vl l) ≤ 1) (h1 : rab (vl a) ≤ p2 e) (h2 : rab (vl c) ≤ p2 e) :
    RV .f32 (fop .sub .f32 a (fop .mul .f32 l c)) (vl (fop .sub .f32 a (fop .mul .f32 l c))) ∧ rab (vl (fop .sub .f32 a (fop .mul .f32 l c))) ≤ p2 (e + 1) ∧ rab (vl (fop .sub .f32 a (fop .mul .f32 l c)) - (vl a - vl l * vl c)) ≤ 3 * uu * p2 e := by
  have hp := p2_pos e
  have m1 := rab_mul (vl l) (vl c)
  have b1 := rab_bd (vl l)
  have b2 := rab_bd (vl c)
  have b3 := rab_bd (vl l * vl c)
  have b4 := rab_bd (vl a)
  have q := Rat.mul_nonneg (show 0 ≤ 1 - rab (vl l) by grind) b2.2.2
  obtain ⟨r, hr, r1, r2, r3, r4⟩ := near_p (wn_mul hl hc) e (by omega) (by show -p2 e ≤ _; grind) (by show _ ≤ p2 e; grind)
  change r ≤ _ + p2 e / 16777216 at r1
  change _ ≤ r + p2 e / 16777216 at r2
  change -p2 e ≤ r at r3
  change r ≤ p2 e at r4
  have hs := p2_succ e
  obtain ⟨t, ht, t1, t2, t3, t4⟩ := near_p (wn_sub ha hr) (e + 1) (by omega) (by show -p2 (e + 1) ≤ _; grind) (by show _ ≤ p2 (e + 1); grind)
  change t ≤ _ + p2 (e + 1) / 16777216 at t1
  change _ ≤ t + p2 (e + 1) / 16777216 at t2
  change -p2 (e + 1) ≤ t at t3
  change t ≤ p2 (e + 1) at t4
  rw [ht.vl]
  refine ⟨ht, rab_of t4 (by grind), ?_⟩
  rw [hs] at t1 t2
  rw [uu_eq]
  exact rab_of (by grind) (by grind)
theorem elim_in {A : Mat} {k n i j : Nat} (hi : k < i) (hn : i < n) (hj : k < j) : elim A k n (k + 1) i j = fop .sub .f32 (A i j) (fop .mul .f32 (fop .quo .f32 (A i k) (A k k)) (A k j)) := by
  unfold elim
  rw [if_pos (by omega)]
theorem elim_above {A : Mat} {k n i j : Nat} (hi : i ≤ k) : elim A k n (k + 1) i j = A i j := by
  unfold elim
  rw [if_neg (by omega)]
/-- What a stage adds. -/
def eta (M b : Rat) (x : Nat → Rat) (s : Rat) (n : Nat) : Rat := 3 * uu * (M * S1 x n + b * rab s)
section
variable {n k e f : Nat} {A : Mat} (h : Act n k A (p2 e) (p2 f)) (hk : k < n) (he : e ≤ 30) (hf : f ≤ 30) (hmax : ∀ i, k ≤ i → i < n → rab (vl (A i k)) ≤ rab (vl (A k k))) (h0 : vl (A k k) ≠ 0)
include h hk he hf hmax h0
theorem elim_act : Act n (k + 1) (elim A k n (k + 1)) (p2 (e + 1)) (p2 (f + 1)) := by
  refine ⟨fun i j h1 h2 h3 h4 => ?_, fun i j h1 h2 h3 h4 => ?_, fun i h1 h2 => ?_⟩
  · obtain ⟨q1, q2, q3⟩ := quo_one (h.rv i k (by omega) h2 (by omega) (by omega)) (h.rv k k (by omega) hk (by omega) (by omega)) (hmax i (by omega) h2) h0
    rw [elim_in (by omega) h2 (by omega)]
    by_cases c : j < n
    · exact (sub_one e he (h.rv i j (by omega) h2 (by omega) h4) q1 (h.rv k j (by omega) hk (by omega) h4) q2 (h.bd i j (by omega) h2 (by omega) c) (h.bd k j (by omega) hk (by omega) c)).1
    · obtain rfl : j = n := by omega
      exact (sub_one f hf (h.rv i j (by omega) h2 (by omega) h4) q1 (h.rv k j (by omega) hk (by omega) h4) q2 (h.rhs i (by omega) h2) (h.rhs k (by omega) hk)).1
  · obtain ⟨q1, q2, q3⟩ := quo_one (h.rv i k (by omega) h2 (by omega) (by omega)) (h.rv k k (by omega) hk (by omega) (by omega)) (hmax i (by omega) h2) h0
    rw [elim_in (by omega) h2 (by omega)]
    exact (sub_one e he (h.rv i j (by omega) h2 (by omega) (by omega)) q1 (h.rv k j (by omega) hk (by omega) (by omega)) q2 (h.bd i j (by omega) h2 (by omega) h4) (h.bd k j (by omega) hk (by omega) h4)).2.1
  · obtain ⟨q1, q2, q3⟩ := quo_one (h.rv i k (by omega) h2 (by omega) (by omega)) (h.rv k k (by omega) hk (by omega) (by omega)) (hmax i (by omega) h2) h0
    rw [elim_in (by omega) h2 (by omega)]
    exact (sub_one f hf (h.rv i n (by omega) h2 (by omega) (by omega)) q1 (h.rv k n (by omega) hk (by omega) (by omega)) q2 (h.rhs i (by omega) h2) (h.rhs k (by omega) hk)).2.1
/-- A row's residual before and behind. -/
theorem elim_row_le (x : Nat → Rat) (s : Rat) {i : Nat} (hi : k < i) (hn : i < n) : rab (row A x s n k i) ≤ rab (row (elim A k n (k + 1)) x s n (k + 1) i) + rab (row A x s n k k) + eta (p2 e) (p2 f) x s n := by
  obtain ⟨q1, q2, q3⟩ := quo_one (h.rv i k (by omega) hn (by omega) (by omega)) (h.rv k k (by omega) hk (by omega) (by omega)) (hmax i (by omega) hn) h0
  have hu : 0 < uu := by rw [uu_eq]; grind
  have hm : n - k = (n - (k + 1)) + 1 := by omega
  have hP := p2_pos e
  have hQ := p2_pos f
  -- the sums apart
  have split1 : ∀ r, row A x s n k r = vl (A r k) * x k + sm (fun t => vl (A r (k + 1 + t)) * x (k + 1 + t)) (n - (k + 1)) - s * vl (A r n) := by
    intro r
    unfold row
    rw [hm, sm_front]
    rw [show sm (fun t => vl (A r (k + (t + 1))) * x (k + (t + 1))) (n - (k + 1)) = sm (fun t => vl (A r (k + 1 + t)) * x (k + 1 + t)) (n - (k + 1)) from sm_congr fun t _ => by rw [show k + (t + 1) = k + 1 + t by omega]]
    rw [Nat.add_zero]
  -- what the numbers turn
  have d0 : rab ((vl (A i k) - vl (fop .quo .f32 (A i k) (A k k)) * vl (A k k)) * x k) ≤ 3 * uu * p2 e * rab (x k) := by
    refine Rat.le_trans (rab_mul _ _) ?_
    refine Rat.mul_le_mul_of_nonneg_right ?_ (rab_bd _).2.2
    have b := h.bd k k (by omega) hk (by omega) hk
    have := Rat.mul_nonneg (Rat.le_of_lt hu) (show 0 ≤ p2 e - rab (vl (A k k)) by grind)
    have := Rat.mul_nonneg (Rat.le_of_lt hu) (show 0 ≤ p2 e by grind)
    grind
  have dj : ∀ j, k < j → j < n → rab ((vl (A i j) - vl (fop .quo .f32 (A i k) (A k k)) * vl (A k j) - vl (elim A k n (k + 1) i j)) * x j) ≤ 3 * uu * p2 e * rab (x j) := by
    intro j h1 h2
    refine Rat.le_trans (rab_mul _ _) ?_
    refine Rat.mul_le_mul_of_nonneg_right ?_ (rab_bd _).2.2
    have t := (sub_one e he (h.rv i j (by omega) hn (by omega) (by omega)) q1 (h.rv k j (by omega) hk (by omega) (by omega)) q2 (h.bd i j (by omega) hn (by omega) h2) (h.bd k j (by omega) hk (by omega) h2)).2.2
    rw [elim_in hi hn h1]
    have b := rab_bd (vl (fop .sub .f32 (A i j) (fop .mul .f32 (fop .quo .f32 (A i k) (A k k)) (A k j))) - (vl (A i j) - vl (fop .quo .f32 (A i k) (A k k)) * vl (A k j)))
    exact rab_of (by grind) (by grind)
  have dn : rab (s * (vl (A i n) - vl (fop .quo .f32 (A i k) (A k k)) * vl (A k n) - vl (elim A k n (k + 1) i n))) ≤ 3 * uu * p2 f * rab s := by
    refine Rat.le_trans (rab_mul _ _) ?_
    rw [show 3 * uu * p2 f * rab s = rab s * (3 * uu * p2 f) by grind]
    refine Rat.mul_le_mul_of_nonneg_left ?_ (rab_bd _).2.2
    have t := (sub_one f hf (h.rv i n (by omega) hn (by omega) (by omega)) q1 (h.rv k n (by omega) hk (by omega) (by omega)) q2 (h.rhs i (by omega) hn) (h.rhs k (by omega) hk)).2.2
    rw [elim_in hi hn (by omega)]
    have b := rab_bd (vl (fop .sub .f32 (A i n) (fop .mul .f32 (fop .quo .f32 (A i k) (A k k)) (A k n))) - (vl (A i n) - vl (fop .quo .f32 (A i k) (A k k)) * vl (A k n)))
    exact rab_of (by grind) (by grind)
  generalize hl : vl (fop .quo .f32 (A i k) (A k k)) = l at *
  have ds : rab (sm (fun t => vl (A i (k + 1 + t)) * x (k + 1 + t)) (n - (k + 1)) - l * sm (fun t => vl (A k (k + 1 + t)) * x (k + 1 + t)) (n - (k + 1)) - sm (fun t => vl (elim A k n (k + 1) i (k + 1 + t)) * x (k + 1 + t)) (n - (k + 1))) ≤ 3 * uu * p2 e * sm (fun t => rab (x (k + 1 + t))) (n - (k + 1)) := by
    rw [← sm_mul, ← sm_sub, ← sm_sub, ← sm_mul]
    refine Rat.le_trans (rab_sm _ _) (sm_le fun t ht => ?_)
    have := dj (k + 1 + t) (by omega) (by omega)
    rw [show vl (A i (k + 1 + t)) * x (k + 1 + t) - l * (vl (A k (k + 1 + t)) * x (k + 1 + t)) - vl (elim A k n (k + 1) i (k + 1 + t)) * x (k + 1 + t) = (vl (A i (k + 1 + t)) - l * vl (A k (k + 1 + t)) - vl (elim A k n (k + 1) i (k + 1 + t))) * x (k + 1 + t) by grind]
    exact this
  have hS : rab (x k) + sm (fun t => rab (x (k + 1 + t))) (n - (k + 1)) ≤ S1 x n := by
    have := s1_tail x n k (by omega)
    rw [hm, sm_front] at this
    rw [show sm (fun t => rab (x (k + (t + 1)))) (n - (k + 1)) = sm (fun t => rab (x (k + 1 + t))) (n - (k + 1)) from sm_congr fun t _ => by rw [show k + (t + 1) = k + 1 + t by omega]] at this
    rwa [Nat.add_zero] at this
  have hlk : rab (l * row A x s n k k) ≤ rab (row A x s n k k) := by
    refine Rat.le_trans (rab_mul _ _) ?_
    have := Rat.mul_nonneg (show 0 ≤ 1 - rab l by grind) (rab_bd (row A x s n k k)).2.2
    grind
  have e1 := split1 i
  have e2 := split1 k
  have e3 : row (elim A k n (k + 1)) x s n (k + 1) i = sm (fun t => vl (elim A k n (k + 1) i (k + 1 + t)) * x (k + 1 + t)) (n - (k + 1)) - s * vl (elim A k n (k + 1) i n) := rfl
  generalize hB1 : row A x s n k i = ri at *
  generalize hB2 : row A x s n k k = rk at *
  generalize hB3 : row (elim A k n (k + 1)) x s n (k + 1) i = r' at *
  generalize sm (fun t => vl (A i (k + 1 + t)) * x (k + 1 + t)) (n - (k + 1)) = si at *
  generalize sm (fun t => vl (A k (k + 1 + t)) * x (k + 1 + t)) (n - (k + 1)) = sk at *
  generalize sm (fun t => vl (elim A k n (k + 1) i (k + 1 + t)) * x (k + 1 + t)) (n - (k + 1)) = se at *
  generalize sm (fun t => rab (x (k + 1 + t))) (n - (k + 1)) = sx at *
  have key : ri = r' + l * rk + ((vl (A i k) - l * vl (A k k)) * x k) + (si - l * sk - se) - (s * (vl (A i n) - l * vl (A k n) - vl (elim A k n (k + 1) i n))) := by
    rw [e1, e2, e3]; grind
  generalize (vl (A i k) - l * vl (A k k)) * x k = g1 at *
  generalize si - l * sk - se = g2 at *
  generalize s * (vl (A i n) - l * vl (A k n) - vl (elim A k n (k + 1) i n)) = g3 at *
  have hS2 := Rat.mul_le_mul_of_nonneg_left hS (show 0 ≤ 3 * uu * p2 e by
    have := Rat.mul_nonneg (Rat.le_of_lt hu) (show 0 ≤ p2 e by grind)
    grind)
  have a1 := rab_bd r'
  have a2 := rab_bd (l * rk)
  have a3 := rab_bd g1
  have a4 := rab_bd g2
  have a5 := rab_bd g3
  unfold eta
  subst key
  exact rab_of (by grind) (by grind)
end

/-! ## Ch6 -/
/-- A row that is done. -/
structure Top (n k : Nat) (B : Mat) : Prop where
  rv : ∀ j, k ≤ j → j ≤ n → RV .f32 (B k j) (vl (B k j))
  bd : ∀ j, k ≤ j → j < n → rab (vl (B k j)) ≤ p2 (k + 3)
  rhs : rab (vl (B k n)) ≤ p2 k
  piv : vl (B k k) ≠ 0
theorem row_congr {A B : Mat} {x : Nat → Rat} {s : Rat} {n k i : Nat} (h : ∀ j, A i j = B i j) : row A x s n k i = row B x s n k i := by
  unfold row
  rw [h n]
  congr 1
  exact sm_congr fun t _ => by rw [h]
theorem tot_elim {n k e f : Nat} {A : Mat} (h : Act n k A (p2 e) (p2 f)) (hk : k < n) (he : e ≤ 30) (hf : f ≤ 30) (hmax : ∀ i, k ≤ i → i < n → rab (vl (A i k)) ≤ rab (vl (A k k))) (h0 : vl (A k k) ≠ 0) (x : Nat → Rat) (s : Rat) :
    tot A x s n k ≤ ((n - k : Nat) : Rat) * rab (row A x s n k k) + ((n - (k + 1) : Nat) : Rat) * eta (p2 e) (p2 f) x s n + tot (elim A k n (k + 1)) x s n (k + 1) := by
  have hm : n - k = (n - (k + 1)) + 1 := by omega
  have hc : ((n - k : Nat) : Rat) = ((n - (k + 1) : Nat) : Rat) + 1 := by rw [hm, Rat.natCast_add]; rfl
  unfold tot
  rw [hc, hm, sm_front, Nat.add_zero]
  have cst : ∀ c : Rat, ∀ m : Nat, sm (fun _ => c) m = (m : Rat) * c := by
    intro c m
    induction m with
    | zero => show (0 : Rat) = ((0 : Nat) : Rat) * c; rw [show ((0 : Nat) : Rat) = 0 from rfl]; grind
    | succ m ih => rw [sm_next, ih, Rat.natCast_add, show ((1 : Nat) : Rat) = 1 from rfl]; grind
  have hle : sm (fun t => rab (row A x s n k (k + (t + 1)))) (n - (k + 1)) ≤ sm (fun t => rab (row (elim A k n (k + 1)) x s n (k + 1) (k + 1 + t)) + (rab (row A x s n k k) + eta (p2 e) (p2 f) x s n)) (n - (k + 1)) := by
    refine sm_le fun t ht => ?_
    have := elim_row_le h hk he hf hmax h0 x s (i := k + 1 + t) (by omega) (by omega)
    rw [show k + (t + 1) = k + 1 + t by omega]
    grind
  rw [sm_add, cst] at hle
  grind
/-- One stage, with the exchange of rows. -/
theorem step_all {n k : Nat} {A : Mat} (h : Act n k A (p2 (k + 3)) (p2 k)) (hk : k < n) (hn : n ≤ 20) :
    ((∀ i, k ≤ i → i < n → vl (A i k) = 0) ∧ stepM n A k = none) ∨
    ∃ B, stepM n A k = some B ∧ Act n (k + 1) B (p2 (k + 4)) (p2 (k + 1)) ∧ Top n k B ∧ (∀ i, i < k → ∀ j, B i j = A i j) ∧
      ∀ x s, tot A x s n k ≤ ((n - k : Nat) : Rat) * rab (row B x s n k k) + ((n - (k + 1) : Nat) : Rat) * eta (p2 (k + 3)) (p2 k) x s n + tot B x s n (k + 1) := by
  obtain ⟨d, hd, eb, hmax⟩ := bst_top (A := A) (k := k) (m := n - k) (by omega) (fun t ht => h.rv (k + t) k (by omega) (by omega) (by omega) (by omega))
  have hs := h.swap (d := d) (by omega)
  have top : ∀ j, swp A k (k + d) k j = A (k + d) j := by
    intro j
    unfold swp
    by_cases c : k = k + d
    · rw [if_pos c, ← c]
    · rw [if_neg c, if_pos rfl]
  have hm2 : ∀ i, k ≤ i → i < n → rab (vl (swp A k (k + d) i k)) ≤ rab (vl (swp A k (k + d) k k)) := by
    intro i h1 h2
    rw [top k]
    unfold swp
    by_cases c1 : i = k + d
    · rw [if_pos c1]; have := hmax 0 (by omega); rwa [Nat.add_zero] at this
    · rw [if_neg c1]
      by_cases c2 : i = k
      · rw [if_pos c2]; exact Rat.le_refl
      · rw [if_neg c2]
        have := hmax (i - k) (by omega)
        rwa [show k + (i - k) = i by omega] at this
  have hp := hs.rv k k (by omega) hk (by omega) (by omega)
  unfold stepM
  rw [eb]
  by_cases h0 : vl (swp A k (k + d) k k) = 0
  · left
    refine ⟨fun i h1 h2 => ?_, ?_⟩
    · have m1 := hmax (i - k) (by omega)
      rw [show k + (i - k) = i by omega, ← top k, h0] at m1
      have b := rab_bd (vl (A i k))
      have z : rab 0 ≤ 0 := rab_of (Rat.le_refl) (by grind)
      grind
    · rw [rv_eq hp (⟨0, isV_zero .f32, by rw [show ((0 : Int) : Rat) = 0 from rfl]; grind⟩ : RV .f32 (some 0) 0) h0]
      rfl
  · right
    have hne : (ford .f32 (swp A k (k + d) k k) (some 0) == some .eq) = false := by
      have hz : RV .f32 (some 0) 0 := ⟨0, isV_zero .f32, by rw [show ((0 : Int) : Rat) = 0 from rfl]; grind⟩
      by_cases c : vl (swp A k (k + d) k k) < 0
      · rw [rv_lt hp hz c]; rfl
      · rw [rv_gt hp hz (by grind)]; rfl
    rw [hne]
    refine ⟨_, rfl, elim_act hs hk (by omega) (by omega) hm2 h0, ⟨fun j h1 h2 => ?_, fun j h1 h2 => ?_, ?_, ?_⟩, fun i hi j => ?_, fun x s => ?_⟩
    · rw [elim_above (Nat.le_refl k)]; exact hs.rv k j (by omega) hk h1 h2
    · rw [elim_above (Nat.le_refl k)]; exact hs.bd k j (by omega) hk h1 h2
    · rw [elim_above (Nat.le_refl k)]; exact hs.rhs k (by omega) hk
    · rw [elim_above (Nat.le_refl k)]; exact h0
    · rw [elim_above (by omega)]
      unfold swp
      rw [if_neg (by omega), if_neg (by omega)]
    · rw [← tot_swap A x s (d := d) (by omega)]
      have := tot_elim hs hk (by omega) (by omega) hm2 h0 x s
      rw [row_congr (A := elim (swp A k (k + d)) k n (k + 1)) (B := swp A k (k + d)) (i := k) (fun j => elim_above (Nat.le_refl k))]
      exact this
/-- What the rows that are done add. -/
def bud (B : Mat) (x : Nat → Rat) (s : Rat) (n m : Nat) : Rat := sm (fun k => ((n - k : Nat) : Rat) * rab (row B x s n k k) + ((n - (k + 1) : Nat) : Rat) * eta (p2 (k + 3)) (p2 k) x s n) m
structure Run (n m : Nat) (A B : Mat) : Prop where
  act : Act n m B (p2 (m + 3)) (p2 m)
  top : ∀ i, i < m → Top n i B
  le : ∀ x s, tot A x s n 0 ≤ bud B x s n m + tot B x s n m
theorem run_all {n : Nat} {A : Mat} (h : Act n 0 A (p2 3) (p2 0)) (hn : n ≤ 20) (m : Nat) (hm : m ≤ n) :
    (∃ k B, k < m ∧ runM n A k = some B ∧ Run n k A B ∧ (∀ i, k ≤ i → i < n → vl (B i k) = 0)) ∨ ∃ B, runM n A m = some B ∧ Run n m A B := by
  induction m with
  | zero => exact Or.inr ⟨A, rfl, h, fun i hi => absurd hi (Nat.not_lt_zero i), fun x s => by show _ ≤ (0 : Rat) + _; grind⟩
  | succ m ih =>
    rcases ih (by omega) with ⟨k, B, h1, h2, h3, h4⟩ | ⟨B, h2, h3⟩
    · exact Or.inl ⟨k, B, by omega, h2, h3, h4⟩
    · rcases step_all h3.act (by omega) hn with ⟨z, _⟩ | ⟨C, c1, c2, c3, c4, c5⟩
      · exact Or.inl ⟨m, B, by omega, h2, h3, z⟩
      · right
        refine ⟨C, ?_, c2, fun i hi => ?_, fun x s => ?_⟩
        · show (runM n A m).bind _ = _
          rw [h2]; exact c1
        · by_cases e : i = m
          · subst e; exact c3
          · have t := h3.top i (by omega)
            refine ⟨fun j a b => ?_, fun j a b => ?_, ?_, ?_⟩
            · rw [c4 i (by omega)]; exact t.rv j a b
            · rw [c4 i (by omega)]; exact t.bd j a b
            · rw [c4 i (by omega)]; exact t.rhs
            · rw [c4 i (by omega)]; exact t.piv
        · have a := h3.le x s
          have b := c5 x s
          unfold bud at a ⊢
          rw [sm_next]
          have e : sm (fun k => ((n - k : Nat) : Rat) * rab (row C x s n k k) + ((n - (k + 1) : Nat) : Rat) * eta (p2 (k + 3)) (p2 k) x s n) m = sm (fun k => ((n - k : Nat) : Rat) * rab (row B x s n k k) + ((n - (k + 1) : Nat) : Rat) * eta (p2 (k + 3)) (p2 k) x s n) m :=
            sm_congr fun k hk => by rw [row_congr (A := C) (B := B) (c4 k hk)]
          rw [e]
          grind
/-- The rows above, solved. -/
theorem solve_up {n k : Nat} {B : Mat} (hk : k ≤ n) (ht : ∀ i, i < k → vl (B i i) ≠ 0) (y : Nat → Rat) (s : Rat) (d : Nat) (hd : d ≤ k) : ∃ x : Nat → Rat, (∀ j, k ≤ j → x j = y j) ∧ ∀ i, k - d ≤ i → i < k → row B x s n i i = 0 := by
  induction d with
  | zero => exact ⟨y, fun _ _ => rfl, fun i h1 h2 => by omega⟩
  | succ d ih =>
    obtain ⟨x, h1, h2⟩ := ih (by omega)
    obtain ⟨i, hi⟩ : ∃ i, i = k - (d + 1) := ⟨_, rfl⟩
    have rest : ∀ z : Nat → Rat, row B z s n i i = vl (B i i) * z i + sm (fun t => vl (B i (i + 1 + t)) * z (i + 1 + t)) (n - (i + 1)) - s * vl (B i n) := by
      intro z
      unfold row
      rw [show n - i = (n - (i + 1)) + 1 by omega, sm_front, Nat.add_zero]
      rw [show sm (fun t => vl (B i (i + (t + 1))) * z (i + (t + 1))) (n - (i + 1)) = sm (fun t => vl (B i (i + 1 + t)) * z (i + 1 + t)) (n - (i + 1)) from sm_congr fun t _ => by rw [show i + (t + 1) = i + 1 + t by omega]]
    obtain ⟨v, hv⟩ : ∃ v, v = (s * vl (B i n) - sm (fun t => vl (B i (i + 1 + t)) * x (i + 1 + t)) (n - (i + 1))) / vl (B i i) := ⟨_, rfl⟩
    have hne := ht i (by omega)
    have hvm : v * vl (B i i) = s * vl (B i n) - sm (fun t => vl (B i (i + 1 + t)) * x (i + 1 + t)) (n - (i + 1)) := by rw [hv]; exact Rat.div_mul_cancel hne
    refine ⟨fun j => if j = i then v else x j, fun j hj => ?_, fun r a b => ?_⟩
    · rw [show (fun j => if j = i then v else x j) j = (if j = i then v else x j) from rfl, if_neg (by omega)]; exact h1 j hj
    · by_cases e : r = i
      · subst e
        rw [rest]
        rw [show sm (fun t => vl (B r (r + 1 + t)) * (if r + 1 + t = r then v else x (r + 1 + t))) (n - (r + 1)) = sm (fun t => vl (B r (r + 1 + t)) * x (r + 1 + t)) (n - (r + 1)) from sm_congr fun t _ => by rw [if_neg (by omega)]]
        simp only [if_true]
        grind
      · rw [← h2 r (by omega) b]
        unfold row
        congr 1
        refine sm_congr fun t _ => ?_
        show _ * (if r + t = i then v else x (r + t)) = _
        rw [if_neg (by omega)]

/-! ## Ch7 -/
/-- The equations are those of a chain, the last one says that all shares make 1. -/
def Lk (n : Nat) (q : Nat → Nat → Rat) (A : Mat) : Prop := ∀ (x : Nat → Rat) (s : Rat), (∀ i, i + 1 < n → row A x s n 0 i = bal n q x i) ∧ row A x s n 0 (n - 1) = sm x n - s
theorem sm_part {f : Nat → Rat} {c : Nat → Rat} {m : Nat} (hc : ∀ k, c k = 0 ∨ c k = 1) : sm (fun k => c k * f k) m ≤ sm (fun k => rab (f k)) m ∧ -sm (fun k => rab (f k)) m ≤ sm (fun k => c k * f k) m := by
  induction m with
  | zero => exact ⟨Rat.le_refl, by show -(0 : Rat) ≤ 0; grind⟩
  | succ m ih =>
    rw [sm_next, sm_next]
    have b := rab_bd (f m)
    rcases hc m with e | e <;> rw [e] <;> constructor <;> grind
theorem link_set {n : Nat} {q : Nat → Nat → Rat} {A : Mat} (hn : 1 ≤ n) (h : Lk n q A) (x : Nat → Rat) (s : Rat) : SetBd n q x (tot A x s n 0) ∧ rab (sm x n - s) ≤ tot A x s n 0 := by
  obtain ⟨h1, h2⟩ := h x s
  have e : n = (n - 1) + 1 := by omega
  have ht : tot A x s n 0 = sm (fun k => rab (bal n q x k)) (n - 1) + rab (sm x n - s) := by
    unfold tot
    rw [Nat.sub_zero]
    rw [show sm (fun t => rab (row A x s n 0 (0 + t))) n = sm (fun t => rab (row A x s n 0 t)) n from sm_congr fun t _ => by rw [Nat.zero_add]]
    have : sm (fun t => rab (row A x s n 0 t)) n = sm (fun t => rab (row A x s n 0 t)) (n - 1) + rab (row A x s n 0 (n - 1)) := by
      have := sm_next (fun t => rab (row A x s n 0 t)) (n - 1)
      rwa [← e] at this
    rw [this, h2]
    congr 1
    exact sm_congr fun t ht => by rw [h1 t (by omega)]
  have p0 : 0 ≤ sm (fun k => rab (bal n q x k)) (n - 1) := sm_nonneg fun k _ => (rab_bd _).2.2
  have p1 := (rab_bd (sm x n - s)).2.2
  refine ⟨fun c hc => ?_, by grind⟩
  have hall := bal_all n q x
  have last : ∀ f : Nat → Rat, sm f n = sm f (n - 1) + f (n - 1) := fun f => by
    have := sm_next f (n - 1)
    rwa [← e] at this
  rcases hc (n - 1) with e0 | e0
  · have a := sm_part (f := bal n q x) (m := n - 1) hc
    rw [last, e0]
    constructor <;> grind
  · have hc' : ∀ k, (fun k => 1 - c k) k = 0 ∨ (fun k => 1 - c k) k = 1 := fun k => by
      rcases hc k with e | e
      · right; show 1 - c k = 1; rw [e]; grind
      · left; show 1 - c k = 0; rw [e]; grind
    have a := sm_part (f := bal n q x) (c := fun k => 1 - c k) (m := n - 1) hc'
    have d : sm (fun k => c k * bal n q x k) n = sm (bal n q x) n - sm (fun k => (1 - c k) * bal n q x k) n := by
      rw [← sm_sub]; exact sm_congr fun k _ => by grind
    rw [d, hall, last (fun k => (1 - c k) * bal n q x k), e0]
    constructor <;> grind
/-- The coefficient of what the stages add. -/
def etaC (n m : Nat) : Rat := sm (fun k => ((n - (k + 1) : Nat) : Rat) * 3 * p2 k) m
theorem eta_eq (k : Nat) (x : Nat → Rat) (s : Rat) (n : Nat) : eta (p2 (k + 3)) (p2 k) x s n = 3 * uu * p2 k * (8 * S1 x n + rab s) := by
  unfold eta
  rw [show k + 3 = (k + 2) + 1 from rfl, p2_succ, p2_succ, p2_succ]
  grind
theorem etaC_le : ∀ n, n ≤ 5 → ∀ m, m ≤ n → etaC n m ≤ 78 := by decide +kernel
/-- No pivot is nothing. -/
theorem no_stop {n : Nat} {q : Nat → Nat → Rat} {A B : Mat} {k : Nat} (hn : 1 ≤ n) (h5 : n ≤ 5) (g : Gen n q) (hl : Lk n q A) (hk : k < n) (hr : Run n k A B) (hz : ∀ i, k ≤ i → i < n → vl (B i k) = 0) : False := by
  obtain ⟨x, x1, x2⟩ := solve_up (n := n) (k := k) (B := B) (by omega) (fun i hi => (hr.top i hi).piv) (fun j => if j = k then 1 else 0) 0 k (Nat.le_refl k)
  have ht := hr.le x 0
  have e1 : tot B x 0 n k = 0 := by
    unfold tot
    refine (sm_congr (g := fun _ => 0) fun t ht => ?_).trans (sm_zero _)
    have : row B x 0 n k (k + t) = 0 := by
      unfold row
      have : sm (fun r => vl (B (k + t) (k + r)) * x (k + r)) (n - k) = sm (fun _ => 0) (n - k) := sm_congr fun r _ => by
        rw [x1 (k + r) (by omega)]
        by_cases c : r = 0
        · subst c
          rw [Nat.add_zero, hz (k + t) (by omega) (by omega)]; grind
        · rw [if_neg (by omega)]; grind
      rw [this, sm_zero]; grind
    rw [this]; unfold rab; simp
  have e2 : bud B x 0 n k ≤ etaC n k * (uu * (8 * S1 x n)) := by
    unfold bud etaC
    rw [show sm (fun k => ((n - (k + 1) : Nat) : Rat) * 3 * p2 k) k * (uu * (8 * S1 x n)) = sm (fun k => (uu * (8 * S1 x n)) * (((n - (k + 1) : Nat) : Rat) * 3 * p2 k)) k by rw [sm_mul]; grind]
    refine sm_le fun i hi => ?_
    rw [x2 i (by omega) hi, eta_eq]
    have z : rab 0 = 0 := by unfold rab; simp
    rw [z]
    grind
  have hc := etaC_le n h5 k (by omega)
  have hS := s1_pos x n
  have hS1 : 1 ≤ S1 x n := by
    have := sm_one (f := fun t => rab (x t)) (m := n) (fun i _ => (rab_bd _).2.2) k hk
    rw [x1 k (Nat.le_refl k)] at this
    simp only [if_true] at this
    have := (rab_bd 1).1
    unfold S1
    grind
  obtain ⟨l1, l2⟩ := link_set hn hl x 0
  have hT0 : 0 ≤ tot A x 0 n 0 := sm_nonneg fun i _ => (rab_bd _).2.2
  have sz := size_near g l1 hn h5 hT0
  have e3 : rab (sm x n) ≤ tot A x 0 n 0 := by rw [show sm x n = sm x n - 0 by grind]; exact l2
  have hp : 0 ≤ uu * (8 * S1 x n) := Rat.mul_nonneg (by rw [uu_eq]; grind) (by grind)
  have := Rat.mul_nonneg (show 0 ≤ 78 - etaC n k by grind) hp
  change S1 x n ≤ _ at sz
  rw [uu_eq] at *
  grind

/-! ## Ch8 -/
/-- What a row of the way back is off, in units. -/
def cRow (n k : Nat) : Rat := 2 * ((n - k : Nat) : Rat) * (1002 / 1000) + (if n - (k + 1) = 0 then 0 else 2)
def backC (n : Nat) : Rat := sm (fun k => ((n - k : Nat) : Rat) * (cRow n k * p2 k) + ((n - (k + 1) : Nat) : Rat) * 3 * p2 k) n
theorem backC_le : ∀ n, n ≤ 5 → backC n ≤ 443 := by decide +kernel
def tailS (x : Nat → Rat) (n k : Nat) : Rat := sm (fun t => rab (x (k + t))) (n - k)
theorem tail_pos (x : Nat → Rat) (n k : Nat) : 0 ≤ tailS x n k := sm_nonneg fun i _ => (rab_bd _).2.2
theorem tail_front (x : Nat → Rat) {n k : Nat} (hk : k < n) : tailS x n k = rab (x k) + tailS x n (k + 1) := by
  unfold tailS
  rw [show n - k = (n - (k + 1)) + 1 by omega, sm_front, Nat.add_zero]
  congr 1
  exact sm_congr fun t _ => by rw [show k + (t + 1) = k + 1 + t by omega]
theorem tail_eq {x y : Nat → Rat} {n k : Nat} (h : ∀ j, k ≤ j → x j = y j) : tailS x n k = tailS y n k := sm_congr fun t _ => by rw [h _ (by omega)]
theorem row_eq {B : Mat} {x y : Nat → Rat} {s : Rat} {n k i : Nat} (h : ∀ j, k ≤ j → x j = y j) : row B x s n k i = row B y s n k i := by
  unfold row
  congr 1
  exact sm_congr fun t _ => by rw [h _ (by omega)]
theorem row_front {B : Mat} {x : Nat → Rat} {s : Rat} {n k : Nat} (hk : k < n) : row B x s n k k = vl (B k k) * x k + sm (fun t => vl (B k (k + 1 + t)) * x (k + 1 + t)) (n - (k + 1)) - s * vl (B k n) := by
  unfold row
  rw [show n - k = (n - (k + 1)) + 1 by omega, sm_front, Nat.add_zero]
  rw [show sm (fun t => vl (B k (k + (t + 1))) * x (k + (t + 1))) (n - (k + 1)) = sm (fun t => vl (B k (k + 1 + t)) * x (k + 1 + t)) (n - (k + 1)) from sm_congr fun t _ => by rw [show k + (t + 1) = k + 1 + t by omega]]
theorem p2_eight (k : Nat) : p2 (k + 3) = 8 * p2 k := by
  rw [show k + 3 = (k + 2) + 1 from rfl, p2_succ, p2_succ, p2_succ]; grind
theorem sm_pre {f : Nat → Rat} {m n : Nat} (h : ∀ i, i < n → 0 ≤ f i) (hm : m ≤ n) : sm f m ≤ sm f n := by
  induction n with
  | zero => rw [show m = 0 by omega]; exact Rat.le_refl
  | succ n ih =>
    by_cases e : m = n + 1
    · subst e; exact Rat.le_refl
    · have := ih (fun i hi => h i (by omega)) (by omega)
      have := h n (by omega)
      rw [sm_next]; grind
/-- The sum of a row. -/
theorem back_sum {n k : Nat} {B : Mat} {o : Nat → Option Nat} {X : Nat → Rat} (hk : k < n) (h5 : n ≤ 5) (ht : Top n k B) (hX : ∀ j, k < j → j < n → RV .f32 (o j) (X j) ∧ rab (X j) ≤ 2) (m : Nat) (hm : m ≤ n - (k + 1)) :
    ∃ σ, RV .f32 (backS B o n k m) σ ∧ rab (σ - (vl (B k n) - sm (fun t => vl (B k (k + 1 + t)) * X (k + 1 + t)) m)) ≤ 2 * uu * (8 * p2 k) * sm (fun t => rab (X (k + 1 + t))) m + (m : Rat) * (2 * uu * (p2 k * (8 * tailS X n (k + 1) + 1)) * (1002 / 1000)) := by
  have hP := p2_pos k
  have hP16 : p2 k ≤ 16 := by
    unfold p2
    have : 2 ^ k ≤ 16 := Nat.le_trans (Nat.pow_le_pow_right (by omega) (show k ≤ 4 by omega)) (by decide)
    have := Rat.natCast_le_natCast.2 this
    exact this
  have hT0 := tail_pos X n (k + 1)
  have hT8 : tailS X n (k + 1) ≤ 8 := by
    have : tailS X n (k + 1) ≤ sm (fun _ => 2) (n - (k + 1)) := sm_le fun t ht => (hX (k + 1 + t) (by omega) (by omega)).2
    have h2 := sm_pre (f := fun _ => (2 : Rat)) (m := n - (k + 1)) (n := 4) (fun _ _ => by grind) (by omega)
    have h3 : sm (fun _ => (2 : Rat)) 4 = 8 := by decide +kernel
    grind
  obtain ⟨W, hW⟩ : ∃ W, W = p2 k * (8 * tailS X n (k + 1) + 1) := ⟨_, rfl⟩
  have w1 := Rat.mul_nonneg (show 0 ≤ p2 k by grind) hT0
  have w2 := Rat.mul_nonneg (show 0 ≤ p2 k by grind) (show 0 ≤ 8 - tailS X n (k + 1) by grind)
  have W1 : 1 ≤ W := by rw [hW]; grind
  have W2 : W ≤ 1100 := by rw [hW]; grind
  have hb := ht.bd
  rw [p2_eight] at hb
  rw [← hW]
  induction m with
  | zero =>
    refine ⟨vl (B k n), ht.rv n (by omega) (by omega), ?_⟩
    rw [show sm (fun t => vl (B k (k + 1 + t)) * X (k + 1 + t)) 0 = 0 from rfl, show sm (fun t => rab (X (k + 1 + t))) 0 = 0 from rfl, show ((0 : Nat) : Rat) = 0 from rfl]
    exact rab_of (by grind) (by grind)
  | succ m ih =>
    obtain ⟨σ, hσ, e1⟩ := ih (by omega)
    obtain ⟨hx, hx2⟩ := hX (k + 1 + m) (by omega) (by omega)
    have hv := ht.rv (k + 1 + m) (by omega) (by omega)
    have hbd := hb (k + 1 + m) (by omega) (by omega)
    have g1 := rab_mul (vl (B k (k + 1 + m))) (X (k + 1 + m))
    have x0 := rab_bd (X (k + 1 + m))
    have g2 := Rat.mul_le_mul_of_nonneg_right hbd x0.2.2
    -- what stays of the ideal sum
    have ideal : rab (vl (B k n) - sm (fun t => vl (B k (k + 1 + t)) * X (k + 1 + t)) (m + 1)) ≤ W := by
      have h1 := ht.rhs
      have h2 : rab (sm (fun t => vl (B k (k + 1 + t)) * X (k + 1 + t)) (m + 1)) ≤ 8 * p2 k * tailS X n (k + 1) := by
        refine Rat.le_trans (rab_sm _ _) ?_
        refine Rat.le_trans (sm_pre (n := n - (k + 1)) (fun i _ => (rab_bd _).2.2) (by omega)) ?_
        unfold tailS
        rw [← sm_mul]
        refine sm_le fun t ht' => ?_
        refine Rat.le_trans (rab_mul _ _) ?_
        exact Rat.mul_le_mul_of_nonneg_right (hb (k + 1 + t) (by omega) (by omega)) (rab_bd _).2.2
      have b1 := rab_bd (vl (B k n))
      have b2 := rab_bd (sm (fun t => vl (B k (k + 1 + t)) * X (k + 1 + t)) (m + 1))
      rw [hW]
      exact rab_of (by grind) (by grind)
    have part : sm (fun t => rab (X (k + 1 + t))) (m + 1) ≤ tailS X n (k + 1) := sm_pre (fun i _ => (rab_bd _).2.2) (by omega)
    have hm4 : (m : Rat) ≤ 4 := by
      have := Rat.natCast_le_natCast.2 (show m ≤ 4 by omega)
      exact this
    have hm0 : (0 : Rat) ≤ (m : Rat) := by
      have := Rat.natCast_le_natCast.2 (show 0 ≤ m by omega)
      exact this
    rw [sm_next] at part ideal
    have cast : ((m + 1 : Nat) : Rat) = (m : Rat) + 1 := by rw [Rat.natCast_add]; rfl
    rw [sm_next, sm_next, cast]
    have ps := sm_nonneg (f := fun t => rab (X (k + 1 + t))) (m := m) (fun i _ => (rab_bd _).2.2)
    generalize sm (fun t => vl (B k (k + 1 + t)) * X (k + 1 + t)) m = I at *
    generalize sm (fun t => rab (X (k + 1 + t))) m = Q at *
    have hz := wn_mul hv hx
    generalize hpz : vl (B k (k + 1 + m)) * X (k + 1 + m) = z at *
    generalize rab (X (k + 1 + m)) = x at *
    have zb := rab_bd z
    have zx : rab z ≤ 8 * p2 k * x := by grind
    have px := Rat.mul_nonneg (show 0 ≤ p2 k by grind) (show 0 ≤ 2 - x by grind)
    have pq := Rat.mul_nonneg (show 0 ≤ p2 k by grind) ps
    have pq2 := Rat.mul_nonneg (show 0 ≤ p2 k by grind) (show 0 ≤ tailS X n (k + 1) - (Q + x) by grind)
    have mw := Rat.mul_nonneg (show 0 ≤ 4 - (m : Rat) by grind) (show 0 ≤ W by grind)
    have mw0 := Rat.mul_nonneg hm0 (show 0 ≤ W by grind)
    obtain ⟨p, hp, -, -, p1, p2'⟩ := near32 hz (8 * p2 k * x) (by grind) (by grind) (by grind)
    have s0 := rab_bd (σ - (vl (B k n) - I))
    have i0 := rab_bd (vl (B k n) - (I + z))
    rw [tiny_eq] at p1 p2'
    rw [uu_eq] at *
    have er : 2 * (1 / 16777216) * (8 * p2 k) * Q + (m : Rat) * (2 * (1 / 16777216) * W * (1002 / 1000)) + (8 * p2 k * x / 8388608 + 1 / 1000000000000000000000000000000) ≤ W / 1000 := by
      rw [hW] at *; grind
    obtain ⟨τ, hτ, -, -, t1, t2⟩ := near32 (wn_sub hσ hp) (W * (1001 / 1000)) (by grind) (by grind) (by grind)
    rw [tiny_eq] at t1 t2
    refine ⟨τ, hτ, rab_of (by grind) (by grind)⟩

/-! ## Ch9 -/
def Near (n : Nat) (B : Mat) (x : Nat → Rat) : Prop := ∀ k, k < n → rab (row B x 1 n k k) ≤ uu * (cRow n k * p2 k) * (8 * S1 x n + 1)
theorem tot_near {n : Nat} {A B : Mat} {x : Nat → Rat} (hr : Run n n A B) (h5 : n ≤ 5) (hN : Near n B x) : tot A x 1 n 0 ≤ 443 * (uu * (8 * S1 x n + 1)) := by
  have h := hr.le x 1
  have e0 : tot B x 1 n n = 0 := by unfold tot; rw [Nat.sub_self]; rfl
  have e1 : bud B x 1 n n ≤ backC n * (uu * (8 * S1 x n + 1)) := by
    unfold bud backC
    rw [show sm (fun k => ((n - k : Nat) : Rat) * (cRow n k * p2 k) + ((n - (k + 1) : Nat) : Rat) * 3 * p2 k) n * (uu * (8 * S1 x n + 1)) = sm (fun k => (uu * (8 * S1 x n + 1)) * (((n - k : Nat) : Rat) * (cRow n k * p2 k) + ((n - (k + 1) : Nat) : Rat) * 3 * p2 k)) n by rw [sm_mul]; grind]
    refine sm_le fun k hk => ?_
    have a := hN k hk
    rw [eta_eq]
    have z : rab 1 = 1 := by unfold rab; decide
    rw [z]
    have b : (0 : Rat) ≤ ((n - k : Nat) : Rat) := Rat.natCast_nonneg
    have c := Rat.mul_le_mul_of_nonneg_left a b
    grind
  have c := backC_le n h5
  have hS := s1_pos x n
  have hp : 0 ≤ uu * (8 * S1 x n + 1) := Rat.mul_nonneg (by rw [uu_eq]; grind) (by grind)
  have := Rat.mul_nonneg (show 0 ≤ 443 - backC n by grind) hp
  grind
/-- What the shares of a chain are worth. -/
structure Told (n : Nat) (q : Nat → Nat → Rat) (x : Nat → Rat) (T : Rat) : Prop where
  pos : 0 ≤ T
  le : T ≤ 239 / 1000000
  set : SetBd n q x T
  sum : rab (sm x n - 1) ≤ T
  neg : negP n x ≤ 4 * T
  low : ∀ i, i < n → -(4 * T) ≤ x i
  size : S1 x n ≤ 1 + 9 * T
theorem told {n : Nat} {q : Nat → Nat → Rat} {A B : Mat} {x : Nat → Rat} (hn : 1 ≤ n) (h5 : n ≤ 5) (g : Gen n q) (hl : Lk n q A) (hr : Run n n A B) (hN : Near n B x) : ∃ T, Told n q x T := by
  have ht := tot_near hr h5 hN
  obtain ⟨l1, l2⟩ := link_set hn hl x 1
  have hT0 : 0 ≤ tot A x 1 n 0 := sm_nonneg fun i _ => (rab_bd _).2.2
  have sz := size_near g l1 hn h5 hT0
  have hS := s1_pos x n
  have b1 := rab_bd (sm x n - 1)
  have b2 := rab_bd (sm x n)
  have b3 : rab (sm x n) ≤ 1 + rab (sm x n - 1) := rab_of (by grind) (by grind)
  change S1 x n ≤ _ at sz
  rw [uu_eq] at ht
  generalize hT : tot A x 1 n 0 = T at *
  have s1 : S1 x n ≤ 21 / 10 := by grind
  obtain ⟨n1, n2, n3⟩ := none_low g l1 hn h5 hT0 (by grind)
  change S1 x n ≤ _ at n3
  exact ⟨T, hT0, by grind, l1, l2, n1, n2, by grind⟩
/-- The shares, from the last one on. -/
theorem back_all {n : Nat} {q : Nat → Nat → Rat} {A B : Mat} (hn : 1 ≤ n) (h5 : n ≤ 5) (g : Gen n q) (hl : Lk n q A) (hr : Run n n A B) (m : Nat) (hm : m ≤ n) :
    ∃ X : Nat → Rat, (∀ j, n - m ≤ j → j < n → RV .f32 (backO B n m j) (X j) ∧ rab (X j) ≤ 2) ∧ ∀ k, n - m ≤ k → k < n → rab (row B X 1 n k k) ≤ uu * (cRow n k * p2 k) * (8 * tailS X n k + 1) := by
  induction m with
  | zero => exact ⟨fun _ => 0, fun j h1 h2 => by omega, fun j h1 h2 => by omega⟩
  | succ m ih =>
    obtain ⟨X, hX, hR⟩ := ih (by omega)
    obtain ⟨k, hk⟩ : ∃ k, k = n - 1 - m := ⟨_, rfl⟩
    have hkn : k < n := by omega
    have hmk : m = n - (k + 1) := by omega
    have top := hr.top k hkn
    obtain ⟨σ, hσ, e1⟩ := back_sum hkn h5 top (fun j h1 h2 => hX j (by omega) h2) m (by omega)
    have hpiv := top.piv
    have hpr := top.rv k (by omega) (by omega)
    have hpb := top.bd k (by omega) hkn
    rw [p2_eight] at hpb
    obtain ⟨z, hz⟩ : ∃ z, z = σ / vl (B k k) := ⟨_, rfl⟩
    have hzm : z * vl (B k k) = σ := by rw [hz]; exact Rat.div_mul_cancel hpiv
    have hP := p2_pos k
    have hT0 := tail_pos X n (k + 1)
    have hmr : (m : Rat) = ((n - (k + 1) : Nat) : Rat) := by rw [hmk]
    have hm1 : ((n - k : Nat) : Rat) = (m : Rat) + 1 := by
      rw [show n - k = m + 1 by omega, Rat.natCast_add]; rfl
    have hmn : (0 : Rat) ≤ (m : Rat) := Rat.natCast_nonneg
    have hc2 : 2 * ((m : Rat) + 1) * (1002 / 1000) ≤ cRow n k := by
      unfold cRow
      rw [hm1]
      split <;> grind
    have hsm : sm (fun t => rab (X (k + 1 + t))) m = tailS X n (k + 1) := by unfold tailS; rw [hmk]
    rw [hsm] at e1
    -- the sum's own error, in the row's units
    have e2 : ∀ S : Rat, tailS X n (k + 1) ≤ S → rab (σ - (vl (B k n) - sm (fun t => vl (B k (k + 1 + t)) * X (k + 1 + t)) m)) ≤ uu * (cRow n k * p2 k) * (8 * S + 1) - 2 * uu * p2 k * (2 / 1000 * (8 * S + 1) + 8 * (S - tailS X n (k + 1))) := by
      intro S hS
      have a1 := Rat.mul_nonneg (Rat.mul_nonneg hmn (show 0 ≤ p2 k by grind)) (show 0 ≤ S - tailS X n (k + 1) by grind)
      have a2 := Rat.mul_nonneg (Rat.mul_nonneg (show 0 ≤ cRow n k - 2 * ((m : Rat) + 1) * (1002 / 1000) by grind) (show 0 ≤ p2 k by grind)) (show 0 ≤ 8 * S + 1 by grind)
      have a3 := Rat.mul_nonneg (show 0 ≤ p2 k by grind) (show 0 ≤ S - tailS X n (k + 1) by grind)
      refine Rat.le_trans e1 ?_
      rw [uu_eq]
      generalize tailS X n (k + 1) = t at *
      generalize cRow n k = c at *
      generalize (m : Rat) = μ at *
      generalize p2 k = P at *
      grind
    -- the exact vector
    obtain ⟨y, y1, y2⟩ := solve_up (n := n) (k := k) (B := B) (by omega) (fun i hi => (hr.top i (by omega)).piv) (fun j => if j = k then z else X j) 1 k (Nat.le_refl k)
    have yk : y k = z := by rw [y1 k (Nat.le_refl k)]; simp
    have yj : ∀ j, k + 1 ≤ j → y j = X j := fun j hj => by rw [y1 j (by omega), if_neg (by omega)]
    have hyr : row B y 1 n k k = σ - (vl (B k n) - sm (fun t => vl (B k (k + 1 + t)) * X (k + 1 + t)) m) := by
      rw [row_front hkn, yk, ← hmk]
      rw [show sm (fun t => vl (B k (k + 1 + t)) * y (k + 1 + t)) m = sm (fun t => vl (B k (k + 1 + t)) * X (k + 1 + t)) m from sm_congr fun t _ => by rw [yj _ (by omega)]]
      grind
    have tl : ∀ i, i ≤ n → tailS y n i ≤ S1 y n := fun i hi => s1_tail y n i hi
    have hcn : ∀ i, 0 ≤ cRow n i := by
      intro i
      have : (0 : Rat) ≤ ((n - i : Nat) : Rat) := Rat.natCast_nonneg
      unfold cRow
      split <;> grind
    have hN : Near n B y := by
      intro i hi
      have hPi := p2_pos i
      have hu : 0 < uu := by rw [uu_eq]; grind
      have hcp := Rat.mul_nonneg (Rat.le_of_lt hu) (Rat.mul_nonneg (hcn i) (show 0 ≤ p2 i by grind))
      by_cases c1 : i < k
      · rw [y2 i (by omega) c1]
        have z0 : rab 0 = 0 := by unfold rab; simp
        rw [z0]
        exact Rat.mul_nonneg hcp (by have := s1_pos y n; grind)
      · by_cases c2 : i = k
        · subst c2
          rw [hyr]
          have t1 : tailS X n (i + 1) = tailS y n (i + 1) := tail_eq fun j hj => (yj j hj).symm
          have t2 := tl (i + 1) (by omega)
          have := e2 (S1 y n) (by rw [t1]; exact t2)
          have b := Rat.mul_nonneg (Rat.mul_nonneg (Rat.le_of_lt hu) (show 0 ≤ p2 i by grind)) (show 0 ≤ 2 / 1000 * (8 * S1 y n + 1) + 8 * (S1 y n - tailS X n (i + 1)) by rw [t1]; have := s1_pos y n; grind)
          grind
        · rw [row_eq (x := y) (y := X) (fun j hj => yj j (by omega))]
          refine Rat.le_trans (hR i (by omega) hi) ?_
          refine Rat.mul_le_mul_of_nonneg_left ?_ hcp
          have t1 : tailS X n i = tailS y n i := tail_eq fun j hj => (yj j (by omega)).symm
          have t2 := tl i (by omega)
          rw [t1]; grind
    obtain ⟨T, hT⟩ := told hn h5 g hl hr hN
    have hz1 : rab z ≤ 101 / 100 := by
      have a := sm_one (f := fun t => rab (y t)) (m := n) (fun i _ => (rab_bd _).2.2) k hkn
      have b := hT.size
      have c := hT.le
      unfold S1 at b
      rw [← yk]
      grind
    have zb := rab_bd z
    have hw : Wn .f32 (backO B n (m + 1) k) z := by
      have : backO B n (m + 1) k = fop .quo .f32 (backS B (backO B n m) n k m) (B k k) := by
        show (if k = n - 1 - m then _ else _) = _
        rw [if_pos hk, ← hk]
      rw [this, hz]
      by_cases c : 0 < vl (B k k)
      · exact wn_div hσ hpr c
      · exact wn_divn hσ hpr (by grind)
    obtain ⟨r, hrv, -, -, r1, r2⟩ := near32 hw (rab z) (by grind) (by grind) (by grind)
    rw [tiny_eq] at r1 r2
    have rb := rab_bd r
    refine ⟨fun j => if j = k then r else X j, fun j h1 h2 => ?_, fun i h1 h2 => ?_⟩
    · by_cases c : j = k
      · subst c
        refine ⟨by simpa using hrv, ?_⟩
        simp only [if_true]
        exact rab_of (by grind) (by grind)
      · have : backO B n (m + 1) j = backO B n m j := by
          show (if j = n - 1 - m then _ else _) = _
          rw [if_neg (by omega)]
        rw [this]
        simp only [c, if_false]
        exact hX j (by omega) h2
    · by_cases c : i = k
      · subst c
        obtain ⟨Y, hY⟩ : ∃ Y : Nat → Rat, Y = fun j => if j = i then r else X j := ⟨_, rfl⟩
        rw [← hY]
        have Yi : Y i = r := by rw [hY]; simp
        have Yj : ∀ j, i + 1 ≤ j → Y j = X j := fun j hj => by rw [hY]; simp only; rw [if_neg (by omega)]
        have t1 : tailS Y n (i + 1) = tailS X n (i + 1) := tail_eq fun j hj => Yj j hj
        rw [row_front hkn, tail_front Y hkn, t1, Yi, ← hmk]
        rw [show sm (fun t => vl (B i (i + 1 + t)) * Y (i + 1 + t)) m = sm (fun t => vl (B i (i + 1 + t)) * X (i + 1 + t)) m from sm_congr fun t _ => by rw [Yj _ (by omega)]]
        have a := e2 (rab r + tailS X n (i + 1)) (by grind)
        have q1 := rab_mul (vl (B i i)) (r - z)
        have q2 : rab (r - z) ≤ rab z / 8388608 + 1 / 1000000000000000000000000000000 := rab_of (by grind) (by grind)
        have q3 : rab z ≤ rab r + (rab z / 8388608 + 1 / 1000000000000000000000000000000) := rab_of (by grind) (by grind)
        have q4 := Rat.mul_le_mul_of_nonneg_right hpb (rab_bd (r - z)).2.2
        have q5 := Rat.mul_nonneg (show 0 ≤ p2 i by grind) (show 0 ≤ rab z / 8388608 + 1 / 1000000000000000000000000000000 - rab (r - z) by grind)
        have q6 := Rat.mul_nonneg (show 0 ≤ p2 i by grind) (show 0 ≤ rab r + (rab z / 8388608 + 1 / 1000000000000000000000000000000) - rab z by grind)
        have q7 := Rat.mul_nonneg (show 0 ≤ p2 i by grind) (show 0 ≤ 101 / 100 - rab z by grind)
        have q8 := Rat.mul_nonneg (show 0 ≤ p2 i by grind) (show 0 ≤ rab r by grind)
        have q9 := Rat.mul_nonneg (show 0 ≤ p2 i by grind) hT0
        have q10 := Rat.mul_nonneg (show 0 ≤ p2 i by grind) (show 0 ≤ rab z by grind)
        have w1 := rab_bd (σ - (vl (B i n) - sm (fun t => vl (B i (i + 1 + t)) * X (i + 1 + t)) m))
        have w2 := rab_bd (vl (B i i) * (r - z))
        have key : vl (B i i) * r + sm (fun t => vl (B i (i + 1 + t)) * X (i + 1 + t)) m - 1 * vl (B i n) = (σ - (vl (B i n) - sm (fun t => vl (B i (i + 1 + t)) * X (i + 1 + t)) m)) + vl (B i i) * (r - z) := by grind
        rw [key]
        have fin : rab (vl (B i i) * (r - z)) ≤ 2 * uu * p2 i * (2 / 1000 * (8 * (rab r + tailS X n (i + 1)) + 1) + 8 * (rab r + tailS X n (i + 1) - tailS X n (i + 1))) := by
          rw [uu_eq]
          generalize tailS X n (i + 1) = t at *
          generalize p2 i = P at *
          generalize rab (vl (B i i) * (r - z)) = g1 at *
          generalize rab (vl (B i i)) = g2 at *
          generalize rab (r - z) = g3 at *
          generalize rab r = g4 at *
          generalize rab z = g5 at *
          clear e2 e1 a key w1 w2 hN hT hR hX hc2
          grind
        have := rab_add (σ - (vl (B i n) - sm (fun t => vl (B i (i + 1 + t)) * X (i + 1 + t)) m)) (vl (B i i) * (r - z))
        grind
      · rw [row_eq (x := fun j => if j = k then r else X j) (y := X) (fun j hj => if_neg (by omega)), tail_eq (x := fun j => if j = k then r else X j) (y := X) (fun j hj => if_neg (by omega))]
        exact hR i (by omega) h2
/-- All of it: there are shares, and what they are worth. -/
theorem bal_told {n : Nat} {q : Nat → Nat → Rat} {A : Mat} (hn : 1 ≤ n) (h5 : n ≤ 5) (g : Gen n q) (hl : Lk n q A) (h : Act n 0 A (p2 3) (p2 0)) :
    ∃ B X T, runM n A n = some B ∧ (∀ j, j < n → RV .f32 (backO B n n j) (X j)) ∧ Told n q X T := by
  rcases run_all h (by omega) n (Nat.le_refl n) with ⟨k, B, h1, h2, h3, h4⟩ | ⟨B, h1, h2⟩
  · exact (no_stop hn h5 g hl h1 h3 h4).elim
  · obtain ⟨X, x1, x2⟩ := back_all hn h5 g hl h2 n (Nat.le_refl n)
    have hN : Near n B X := by
      intro i hi
      refine Rat.le_trans (x2 i (by omega) hi) ?_
      have hc : 0 ≤ cRow n i := by
        have : (0 : Rat) ≤ ((n - i : Nat) : Rat) := Rat.natCast_nonneg
        unfold cRow
        split <;> grind
      have hPi := p2_pos i
      refine Rat.mul_le_mul_of_nonneg_left ?_ (Rat.mul_nonneg (by rw [uu_eq]; grind) (Rat.mul_nonneg hc (by grind)))
      have := s1_tail X n i (by omega)
      unfold tailS
      grind
    obtain ⟨T, hT⟩ := told hn h5 g hl h2 hN
    exact ⟨B, X, T, h1, fun j hj => (x1 j (by omega) hj).1, hT⟩
end Go.Proofs.Ytkaeohlakeliiaa
