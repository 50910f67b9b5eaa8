/- FnPaths: the sums of a line's fit as rational numbers. No program in sight. -/
import Derived.Test.YtkaeohlakeliiaaRat
import Derived.Test.YtkaeohlakeliiaaLine
namespace Go.Proofs.Ytkaeohlakeliiaa
open Go.RowKit

/-! ## Ln1 -/
theorem natr_le {a b : Nat} (h : a ≤ b) : (a : Rat) ≤ (b : Rat) := Rat.natCast_le_natCast.2 h
theorem rvz (k : FloatKind) : RV k (some 0) 0 := ⟨0, isV_zero k, by grind⟩
/-- Sixteenths are exact. -/
theorem ex16 {x : Option Nat} {z : Rat} (m : Int) (h : Wn .f32 x z) (hm : m.natAbs < 16777216) (e : z = (m : Rat) / 16) : RV .f32 x z := by
  refine wn_exact h (m * ((2 ^ 145 : Nat) : Int)) (rep_bin .f32 m 145 (by rw [show FloatKind.f32.format.binade = 8388608 from by decide]; omega) (by decide)) ?_
  have h1 : ((2 ^ 145 : Nat) : Rat) * 16 = (unit .f32 : Nat) := by
    rw [unit32_rat, show (2 ^ 145 : Nat) = 44601490397061246283071436545296723011960832 from by decide, show ((44601490397061246283071436545296723011960832 : Nat) : Rat) = 44601490397061246283071436545296723011960832 from rfl]; grind
  rw [Rat.intCast_mul, Rat.intCast_natCast, e, ← h1]
  grind
def sumI (f : Nat → Int) : Nat → Int
  | 0 => 0
  | k + 1 => sumI f k + f k
theorem sumI_next (f : Nat → Int) (k : Nat) : sumI f (k + 1) = sumI f k + f k := rfl
theorem sumI_bd {f : Nat → Int} {n : Nat} {B : Nat} (h : ∀ k, k < n → (f k).natAbs ≤ B) (k : Nat) (hk : k ≤ n) : (sumI f k).natAbs ≤ k * B := by
  induction k with
  | zero => simp [sumI]
  | succ k ih =>
    have h1 := ih (by omega)
    have h2 := h k (by omega)
    rw [sumI_next, Nat.succ_mul]
    omega
/-- A list of whole sixteenths. -/
def Six (xs : List Nat) (n : Nat) (X : Nat → Int) (B : Nat) : Prop := ∀ k, k < n → RV .f32 (atX xs k) ((X k : Rat) / 16) ∧ (X k).natAbs ≤ B
theorem sum_six {xs : List Nat} {n : Nat} {X : Nat → Int} {B : Nat} (h : Six xs n X B) (hn : n ≤ 16) (hB : B ≤ 100000) (k : Nat) (hk : k ≤ n) : RV .f32 (sumX xs k) ((sumI X k : Rat) / 16) := by
  induction k with
  | zero => exact (rvz .f32).eq (by show (0 : Rat) = ((0 : Int) : Rat) / 16; rw [show ((0 : Int) : Rat) = 0 from rfl]; grind)
  | succ k ih =>
    have h1 := ih (by omega)
    obtain ⟨h2, h3⟩ := h k (by omega)
    have hb := sumI_bd (fun k hk => (h k hk).2) k (by omega)
    rw [sumX_next, sumI_next]
    have e : ((sumI X k : Int) : Rat) / 16 + ((X k : Int) : Rat) / 16 = ((sumI X k + X k : Int) : Rat) / 16 := by rw [Rat.intCast_add]; grind
    have hw := wn_add h1 h2
    rw [e] at hw
    refine ex16 _ hw ?_ rfl
    have : k * B ≤ 16 * 100000 := Nat.mul_le_mul (by omega) hB
    omega
/-- The sum of squares about a point of rising sixteenths is not small. -/
def sqQ (u : Nat → Rat) : Nat → Rat
  | 0 => 0
  | k + 1 => sqQ u k + u k * u k
theorem sqQ_next (u : Nat → Rat) (k : Nat) : sqQ u (k + 1) = sqQ u k + u k * u k := rfl
theorem sq_nonneg (a : Rat) : 0 ≤ a * a := by
  rcases Rat.le_total (a := 0) (b := a) with h | h
  · exact Rat.mul_nonneg h h
  · have := Rat.mul_nonneg (show 0 ≤ -a by grind) (show 0 ≤ -a by grind)
    grind
theorem sqQ_mono (u : Nat → Rat) (k : Nat) : 0 ≤ sqQ u k ∧ sqQ u k ≤ sqQ u (k + 1) := by
  induction k with
  | zero => exact ⟨by show (0 : Rat) ≤ 0; grind, by rw [sqQ_next]; have := sq_nonneg (u 0); grind⟩
  | succ k ih =>
    have h1 := sq_nonneg (u (k + 1))
    exact ⟨by grind, by rw [sqQ_next u (k + 1)]; grind⟩
theorem pair_sq (a b : Rat) (h : 1 / 4 ≤ b - a) : 1 / 32 ≤ a * a + b * b := by
  have h1 := sq_nonneg (a + b)
  have h2 := Rat.mul_nonneg (show 0 ≤ b - a - 1 / 4 by grind) (show 0 ≤ b - a + 1 / 4 by grind)
  grind
theorem sq_pairs {u : Nat → Rat} {n : Nat} (h : ∀ k, k + 1 < n → 1 / 4 ≤ u (k + 1) - u k) (m : Nat) (hm : 2 * m ≤ n) : (m : Rat) / 32 ≤ sqQ u (2 * m) := by
  induction m with
  | zero => show ((0 : Nat) : Rat) / 32 ≤ 0; rw [show ((0 : Nat) : Rat) = 0 from rfl]; grind
  | succ m ih =>
    have h1 := ih (by omega)
    have h2 := pair_sq _ _ (h (2 * m) (by omega))
    rw [show 2 * (m + 1) = 2 * m + 1 + 1 by omega, sqQ_next, sqQ_next, Rat.natCast_add, show ((1 : Nat) : Rat) = 1 from rfl]
    grind
theorem sq_least {u : Nat → Rat} {n : Nat} (h : ∀ k, k + 1 < n → 1 / 4 ≤ u (k + 1) - u k) (hn : 2 ≤ n) : (n : Rat) / 96 ≤ sqQ u n := by
  obtain ⟨m, hm⟩ : ∃ m, n = 2 * m ∨ n = 2 * m + 1 := ⟨n / 2, by omega⟩
  have h1 := sq_pairs h m (by omega)
  have hm1 := natr_le (show 1 ≤ m by omega)
  rw [show ((1 : Nat) : Rat) = 1 from rfl] at hm1
  rcases hm with rfl | rfl
  · rw [Rat.natCast_mul, show ((2 : Nat) : Rat) = 2 from rfl]; grind
  · have h2 := (sqQ_mono u (2 * m)).2
    rw [Rat.natCast_add, Rat.natCast_mul, show ((2 : Nat) : Rat) = 2 from rfl, show ((1 : Nat) : Rat) = 1 from rfl]
    grind
/-- The computed sum of squares. -/
theorem dn_near {xs : List Nat} {T : Option Nat} {u : Nat → Rat} {n : Nat} (hn : n ≤ 16) (h : ∀ k, k < n → ∃ v, RV .f32 (fop .sub .f32 (atX xs k) T) v ∧ v ≤ u k + 3 / 1000000 ∧ u k ≤ v + 3 / 1000000 ∧ -20 ≤ u k ∧ u k ≤ 20) (k : Nat) (hk : k ≤ n) :
    ∃ d, RV .f32 (lnDn T xs k) d ∧ d ≤ sqQ u k + (sqQ u k * (6 / 100000 + (k : Rat) / 1000000) + (k : Rat) * (5 / 10000000)) ∧ sqQ u k ≤ d + (sqQ u k * (6 / 100000 + (k : Rat) / 1000000) + (k : Rat) * (5 / 10000000)) ∧ sqQ u k ≤ (k : Rat) * 400 ∧ 0 ≤ d := by
  induction k with
  | zero => exact ⟨0, rvz _, by show (0 : Rat) ≤ 0 + (0 * _ + ((0 : Nat) : Rat) * _); rw [show ((0 : Nat) : Rat) = 0 from rfl]; grind, by show (0 : Rat) ≤ 0 + (0 * _ + ((0 : Nat) : Rat) * _); rw [show ((0 : Nat) : Rat) = 0 from rfl]; grind, by show (0 : Rat) ≤ ((0 : Nat) : Rat) * 400; rw [show ((0 : Nat) : Rat) = 0 from rfl]; grind, by grind⟩
  | succ k ih =>
    obtain ⟨d, hd, d1, d2, d3, d0⟩ := ih (by omega)
    obtain ⟨v, hv, v1, v2, u1, u2⟩ := h k (by omega)
    have hS := (sqQ_mono u k).1
    have hk16 := natr_le (show k ≤ 15 by omega)
    rw [show ((15 : Nat) : Rat) = 15 from rfl] at hk16
    have hk0 := natr_le (Nat.zero_le k)
    rw [show ((0 : Nat) : Rat) = 0 from rfl] at hk0
    rw [lnDn_next, sqQ_next]
    have e : ((k + 1 : Nat) : Rat) = (k : Rat) + 1 := by rw [Rat.natCast_add]; rfl
    rw [e]
    generalize sqQ u k = D at *
    generalize (k : Rat) = K at *
    generalize u k = x at *
    have hxx := sq_nonneg x
    have hx4 : x * x ≤ 400 := by have := (abs_mul_le (a := x) (b := x) (α := 20) (β := 20) (by grind) (by grind) (by grind) (by grind)).2; grind
    have hvv := sq_nonneg v
    have c1 := sq_nonneg (x - 1 / 16)
    have c2 := sq_nonneg (x + 1 / 16)
    have c3 := abs_mul_le (a := v - x) (b := v - x) (α := 3 / 1000000) (β := 3 / 1000000) (by grind) (by grind) (by grind) (by grind)
    have c4 := abs_mul_le (a := v - x) (b := 1) (α := 3 / 1000000) (β := 1) (by grind) (by grind) (by grind) (by grind)
    -- |v * v - x * x| = |(v - x) * (v + x)|
    have q1 : v * v ≤ x * x + (x * x * (48 / 1000000) + 2 / 10000000) := by
      have p1 := Rat.mul_nonneg (show 0 ≤ 3 / 1000000 - (v - x) by grind) (show 0 ≤ 8 * (x * x) + 1 / 32 - x by grind)
      have p2 := Rat.mul_nonneg (show 0 ≤ 3 / 1000000 + (v - x) by grind) (show 0 ≤ 8 * (x * x) + 1 / 32 + x by grind)
      have p3 := Rat.mul_nonneg (show 0 ≤ 3 / 1000000 - (v - x) by grind) (show 0 ≤ 8 * (x * x) + 1 / 32 + x by grind)
      have p4 := Rat.mul_nonneg (show 0 ≤ 3 / 1000000 + (v - x) by grind) (show 0 ≤ 8 * (x * x) + 1 / 32 - x by grind)
      grind
    have q2 : x * x ≤ v * v + (x * x * (48 / 1000000) + 2 / 10000000) := by
      have p1 := Rat.mul_nonneg (show 0 ≤ 3 / 1000000 - (v - x) by grind) (show 0 ≤ 8 * (x * x) + 1 / 32 - x by grind)
      have p2 := Rat.mul_nonneg (show 0 ≤ 3 / 1000000 + (v - x) by grind) (show 0 ≤ 8 * (x * x) + 1 / 32 + x by grind)
      have p3 := Rat.mul_nonneg (show 0 ≤ 3 / 1000000 - (v - x) by grind) (show 0 ≤ 8 * (x * x) + 1 / 32 + x by grind)
      have p4 := Rat.mul_nonneg (show 0 ≤ 3 / 1000000 + (v - x) by grind) (show 0 ≤ 8 * (x * x) + 1 / 32 - x by grind)
      grind
    obtain ⟨s, hs, -, s0, s1, s2⟩ := near32 (wn_mul hv hv) (v * v) (by grind) (by grind) (by grind)
    have s0 := s0 hvv
    rw [tiny_eq] at *
    generalize x * x = Y at *
    generalize v * v = Z at *
    have kk := Rat.mul_nonneg hk0 hS
    have kY := Rat.mul_nonneg hk0 hxx
    have kD := Rat.mul_nonneg (show 0 ≤ 15 - K by grind) hS
    obtain ⟨r, hr, -, r0, r1, r2⟩ := near32 (wn_add hd hs) (d + s) (by grind) (by grind) (by grind)
    have r0 := r0 (by grind)
    rw [tiny_eq] at *
    exact ⟨r, hr, by grind, by grind, by grind, r0⟩

/-! ## Ln2 -/
def mu (X : Nat → Int) (n : Nat) : Rat := (sumI X n : Rat) / 16 / (n : Rat)
theorem mu_mul (X : Nat → Int) {n : Nat} (hn : 1 ≤ n) : mu X n * (n : Rat) = (sumI X n : Rat) / 16 := by
  have h := natr_le hn
  rw [show ((1 : Nat) : Rat) = 1 from rfl] at h
  exact Rat.div_mul_cancel (by grind)
theorem sumI_nonneg {X : Nat → Int} {n : Nat} (h : ∀ k, k < n → 0 ≤ X k) (k : Nat) (hk : k ≤ n) : 0 ≤ sumI X k := by
  induction k with
  | zero => simp [sumI]
  | succ k ih => have h1 := ih (by omega); have h2 := h k (by omega); rw [sumI_next]; omega
theorem intr_le {a b : Int} (h : a ≤ b) : (a : Rat) ≤ (b : Rat) := Rat.intCast_le_intCast.2 h
theorem mu_bd {X : Nat → Int} {n : Nat} {B : Nat} (hn : 1 ≤ n) (h : ∀ k, k < n → (X k).natAbs ≤ B) : -((B : Rat) / 16) ≤ mu X n ∧ mu X n ≤ (B : Rat) / 16 := by
  have h1 := sumI_bd h n (Nat.le_refl n)
  have e := mu_mul X hn
  have hp := natr_le hn
  rw [show ((1 : Nat) : Rat) = 1 from rfl] at hp
  have hi : ((n * B : Nat) : Rat) = (n : Rat) * (B : Rat) := Rat.natCast_mul ..
  have h2 := intr_le (show sumI X n ≤ ((n * B : Nat) : Int) by omega)
  have h3 := intr_le (show -((n * B : Nat) : Int) ≤ sumI X n by omega)
  rw [Rat.intCast_neg] at h3
  rw [Rat.intCast_natCast, hi] at h2 h3
  have hp0 : (0 : Rat) < (n : Rat) := by grind
  constructor
  · refine Rat.le_of_mul_le_mul_right (c := (n : Rat)) ?_ hp0
    rw [e]; grind
  · refine Rat.le_of_mul_le_mul_right (c := (n : Rat)) ?_ hp0
    rw [e]; grind
theorem mu_nonneg {X : Nat → Int} {n : Nat} (hn : 1 ≤ n) (h : ∀ k, k < n → 0 ≤ X k) : 0 ≤ mu X n := by
  have h1 := intr_le (sumI_nonneg h n (Nat.le_refl n))
  rw [show ((0 : Int) : Rat) = 0 from rfl] at h1
  have e := mu_mul X hn
  have hp := natr_le hn
  rw [show ((1 : Nat) : Rat) = 1 from rfl] at hp
  refine Rat.le_of_mul_le_mul_right (c := (n : Rat)) ?_ (by grind)
  rw [e]; grind
theorem six_rat {m : Int} {B : Nat} (h : m.natAbs ≤ B) : -((B : Rat) / 16) ≤ (m : Rat) / 16 ∧ (m : Rat) / 16 ≤ (B : Rat) / 16 := by
  have h2 := intr_le (show m ≤ ((B : Nat) : Int) by omega)
  have h3 := intr_le (show -((B : Nat) : Int) ≤ m by omega)
  rw [Rat.intCast_neg] at h3
  rw [Rat.intCast_natCast] at h2 h3
  constructor <;> grind
theorem mean_near {zs : List Nat} {n : Nat} {Z : Nat → Int} {B : Nat} (h : Six zs n Z B) (hn1 : 1 ≤ n) (hn : n ≤ 16) (hB : B ≤ 400) :
    ∃ m, RV .f32 (fop .quo .f32 (sumX zs n) (some (floatOfInt .f32 (n : Int)))) m ∧ m ≤ mu Z n + ((B : Rat) / 16 / 8388608 + tiny) ∧ mu Z n ≤ m + ((B : Rat) / 16 / 8388608 + tiny) := by
  have h1 := sum_six h hn (by omega) n (Nat.le_refl n)
  have h2 := rv_ofInt32 (n : Int) (by omega)
  have hp := natr_le hn1
  have hBr := natr_le hB
  rw [show ((1 : Nat) : Rat) = 1 from rfl] at hp
  rw [show ((400 : Nat) : Rat) = 400 from rfl] at hBr
  have hw := wn_div h1 h2 (by rw [Rat.intCast_natCast]; grind)
  rw [Rat.intCast_natCast, show (sumI Z n : Rat) / 16 / (n : Rat) = mu Z n from rfl] at hw
  obtain ⟨b1, b2⟩ := mu_bd hn1 (fun k hk => (h k hk).2)
  obtain ⟨m, hm, -, -, m1, m2⟩ := near32 hw ((B : Rat) / 16) (by grind) b1 b2
  exact ⟨m, hm, m1, m2⟩
/-- Rising times. -/
structure Tms (xs : List Nat) (n : Nat) (X : Nat → Int) : Prop where
  len : xs.length = n
  lo : 2 ≤ n
  hi : n ≤ 11
  six : Six xs n X 176
  nn : ∀ k, k < n → 0 ≤ X k
  up : ∀ k, k + 1 < n → 4 ≤ X (k + 1) - X k
def uOf (X : Nat → Int) (n : Nat) (k : Nat) : Rat := (X k : Rat) / 16 - mu X n
section
variable {xs : List Nat} {n : Nat} {X : Nat → Int} (h : Tms xs n X)
include h
theorem Tms.mean : ∃ T, RV .f32 (lnT xs) T ∧ T ≤ mu X n + 14 / 10000000 ∧ mu X n ≤ T + 14 / 10000000 ∧ 0 ≤ mu X n ∧ mu X n ≤ 11 := by
  obtain ⟨m, hm, m1, m2⟩ := mean_near h.six (by have := h.lo; omega) (by have := h.hi; omega) (by decide)
  have h0 := mu_nonneg (by have := h.lo; omega) h.nn
  have h1 := (mu_bd (B := 176) (by have := h.lo; omega) (fun k hk => (h.six k hk).2)).2
  rw [show ((176 : Nat) : Rat) = 176 from rfl] at m1 m2 h1
  rw [tiny_eq] at m1 m2
  refine ⟨m, ?_, by grind, by grind, h0, by grind⟩
  unfold lnT lnN
  rw [h.len]; exact hm
theorem Tms.at (k : Nat) (hk : k < n) : RV .f32 (atX xs k) ((X k : Rat) / 16) ∧ 0 ≤ (X k : Rat) / 16 ∧ (X k : Rat) / 16 ≤ 11 := by
  have h1 := h.six k hk
  have h2 := (six_rat h1.2).2
  have h3 := intr_le (h.nn k hk)
  rw [show ((0 : Int) : Rat) = 0 from rfl] at h3
  rw [show ((176 : Nat) : Rat) = 176 from rfl] at h2
  exact ⟨h1.1, by grind, by grind⟩
theorem Tms.dev (k : Nat) (hk : k < n) : ∃ v, RV .f32 (fop .sub .f32 (atX xs k) (lnT xs)) v ∧ v ≤ uOf X n k + 3 / 1000000 ∧ uOf X n k ≤ v + 3 / 1000000 ∧ -11 ≤ uOf X n k ∧ uOf X n k ≤ 11 := by
  obtain ⟨T, hT, t1, t2, t3, t4⟩ := h.mean
  obtain ⟨hx, x0, x1⟩ := h.at k hk
  obtain ⟨v, hv, -, -, v1, v2⟩ := near32 (wn_sub hx hT) (11 + 1 / 100) (by grind) (by grind) (by grind)
  rw [tiny_eq] at v1 v2
  exact ⟨v, hv, by unfold uOf; grind, by unfold uOf; grind, by unfold uOf; grind, by unfold uOf; grind⟩
theorem Tms.rise (k : Nat) (hk : k + 1 < n) : 1 / 4 ≤ uOf X n (k + 1) - uOf X n k := by
  have h1 := intr_le (h.up k hk)
  rw [Rat.intCast_sub, show ((4 : Int) : Rat) = 4 from rfl] at h1
  unfold uOf; grind
theorem Tms.nrat : 2 ≤ (n : Rat) ∧ (n : Rat) ≤ 11 := ⟨natr_le h.lo, natr_le h.hi⟩
/-- The sum of squares that the program divides by. -/
theorem Tms.den : ∃ d, RV .f32 (lnD xs) d ∧ d ≤ sqQ (uOf X n) n * (1 + 12 / 100000) ∧ sqQ (uOf X n) n * (1 - 12 / 100000) ≤ d ∧ (n : Rat) / 96 ≤ sqQ (uOf X n) n ∧ sqQ (uOf X n) n ≤ 4400 := by
  have h1 := sq_least h.rise h.lo
  obtain ⟨d, hd, d1, d2, d3, d4⟩ := dn_near (T := lnT xs) (u := uOf X n) (n := n) (by have := h.hi; omega) (fun k hk => by obtain ⟨v, a, b, c, d, e⟩ := h.dev k hk; exact ⟨v, a, b, c, by grind, by grind⟩) n (Nat.le_refl n)
  obtain ⟨n1, n2⟩ := h.nrat
  have p := Rat.mul_nonneg (show 0 ≤ 11 - (n : Rat) by grind) (show 0 ≤ sqQ (uOf X n) n by grind)
  refine ⟨d, by unfold lnD; rw [h.len]; exact hd, by grind, by grind, h1, by grind⟩
end
/-- A sum of products near a multiple of the sum of squares. -/
theorem up_near {xs ys : List Nat} {T V : Option Nat} {u : Nat → Rat} {s : Rat} {n : Nat} (hs0 : 0 ≤ s) (hs2 : s ≤ 2) (hn : n ≤ 16)
    (h : ∀ k, k < n → ∃ v, RV .f32 (fop .sub .f32 (atX xs k) T) v ∧ v ≤ u k + 3 / 1000000 ∧ u k ≤ v + 3 / 1000000 ∧ -11 ≤ u k ∧ u k ≤ 11)
    (g : ∀ k, k < n → ∃ v, RV .f32 (fop .sub .f32 (atX ys k) V) v ∧ v ≤ s * u k + 6 / 1000000 ∧ s * u k ≤ v + 6 / 1000000) (k : Nat) (hk : k ≤ n) :
    ∃ p, RV .f32 (lnUp T V xs ys k) p ∧ p ≤ s * sqQ u k + (sqQ u k * (1 / 10000 + (k : Rat) / 1000000) + (k : Rat) * (5 / 10000000)) ∧ s * sqQ u k ≤ p + (sqQ u k * (1 / 10000 + (k : Rat) / 1000000) + (k : Rat) * (5 / 10000000)) ∧ sqQ u k ≤ (k : Rat) * 400 := by
  induction k with
  | zero => exact ⟨0, rvz _, by show (0 : Rat) ≤ s * 0 + (0 * _ + ((0 : Nat) : Rat) * _); rw [show ((0 : Nat) : Rat) = 0 from rfl]; grind, by show s * (0 : Rat) ≤ 0 + (0 * _ + ((0 : Nat) : Rat) * _); rw [show ((0 : Nat) : Rat) = 0 from rfl]; grind, by show (0 : Rat) ≤ ((0 : Nat) : Rat) * 400; rw [show ((0 : Nat) : Rat) = 0 from rfl]; grind⟩
  | succ k ih =>
    obtain ⟨p, hp, p1, p2, p3⟩ := ih (by omega)
    obtain ⟨v, hv, v1, v2, u1, u2⟩ := h k (by omega)
    obtain ⟨w, hw, w1, w2⟩ := g k (by omega)
    have hS := (sqQ_mono u k).1
    have hk16 := natr_le (show k ≤ 15 by omega)
    rw [show ((15 : Nat) : Rat) = 15 from rfl] at hk16
    have hk0 := natr_le (Nat.zero_le k)
    rw [show ((0 : Nat) : Rat) = 0 from rfl] at hk0
    rw [lnUp_next, sqQ_next]
    have e : ((k + 1 : Nat) : Rat) = (k : Rat) + 1 := by rw [Rat.natCast_add]; rfl
    rw [e]
    generalize sqQ u k = D at *
    generalize (k : Rat) = K at *
    generalize u k = x at *
    obtain ⟨a, rfl⟩ : ∃ a, v = x + a := ⟨v - x, by grind⟩
    obtain ⟨c, rfl⟩ : ∃ c, w = s * x + c := ⟨w - s * x, by grind⟩
    have a1 : -(3 / 1000000) ≤ a := by grind
    have a2 : a ≤ 3 / 1000000 := by grind
    have c1 : -(6 / 1000000) ≤ c := by grind
    have c2 : c ≤ 6 / 1000000 := by grind
    have hxx := sq_nonneg x
    have hx4 : x * x ≤ 400 := by have := (abs_mul_le (a := x) (b := x) (α := 11) (β := 11) (by grind) (by grind) (by grind) (by grind)).2; grind
    have y1 : x ≤ 8 * (x * x) + 1 / 32 := by have := sq_nonneg (x - 1 / 16); grind
    have y2 : -x ≤ 8 * (x * x) + 1 / 32 := by have := sq_nonneg (x + 1 / 16); grind
    obtain ⟨z1, z2⟩ := abs_mul_le (a := c) (b := x) (α := 6 / 1000000) (β := 8 * (x * x) + 1 / 32) (by grind) (by grind) (by grind) (by grind)
    obtain ⟨as1, as2⟩ := abs_mul_le (a := a) (b := s) (α := 3 / 1000000) (β := 2) (by grind) (by grind) (by grind) (by grind)
    obtain ⟨z3, z4⟩ := abs_mul_le (a := a * s) (b := x) (α := 6 / 1000000) (β := 8 * (x * x) + 1 / 32) (by grind) (by grind) (by grind) (by grind)
    obtain ⟨z5, z6⟩ := abs_mul_le (a := a) (b := c) (α := 3 / 1000000) (β := 6 / 1000000) (by grind) (by grind) (by grind) (by grind)
    have e2 : (x + a) * (s * x + c) = s * (x * x) + c * x + a * s * x + a * c := by grind
    have hsx := Rat.mul_nonneg hs0 hxx
    have hsx2 : s * (x * x) ≤ 2 * (x * x) := by have := Rat.mul_nonneg (show 0 ≤ 2 - s by grind) hxx; grind
    have hsD := Rat.mul_nonneg hs0 hS
    have hsD2 : s * D ≤ 2 * D := by have := Rat.mul_nonneg (show 0 ≤ 2 - s by grind) hS; grind
    have e3 : s * (D + x * x) = s * D + s * (x * x) := by grind
    have hwm := wn_mul hv hw
    rw [e2] at hwm
    rw [e3]
    generalize x * x = Y at *
    generalize s * Y = sY at *
    generalize s * D = sD at *
    generalize c * x = q1 at *
    generalize a * s * x = q2 at *
    generalize a * c = q3 at *
    clear h g ih
    obtain ⟨m, hm, -, -, m1, m2⟩ := near32 hwm (2 * Y + (Y / 1000 + 1 / 1000)) (by grind) (by grind) (by grind)
    rw [tiny_eq] at *
    have kk := Rat.mul_nonneg hk0 hS
    have kY := Rat.mul_nonneg hk0 hxx
    have kD := Rat.mul_nonneg (show 0 ≤ 15 - K by grind) hS
    obtain ⟨r, hr, -, -, r1, r2⟩ := near32 (wn_add hp hm) (2 * (D + Y) + ((D + Y) / 1000 + 1 / 100)) (by grind) (by grind) (by grind)
    rw [tiny_eq] at *
    exact ⟨r, hr, by grind, by grind, by grind⟩

/-! ## Ln3 -/
/-- The points of a line. -/
structure Lin (xs ys : List Nat) (n : Nat) (X Y : Nat → Int) (b s : Rat) : Prop where
  t : Tms xs n X
  len : ys.length = n
  six : Six ys n Y 384
  eq : ∀ k, k < n → (Y k : Rat) / 16 = b + s * ((X k : Rat) / 16)
  b0 : -2 ≤ b
  b2 : b ≤ 2
  s0 : 1 / 4 ≤ s
  s2 : s ≤ 2
section
variable {xs ys : List Nat} {n : Nat} {X Y : Nat → Int} {b s : Rat} (h : Lin xs ys n X Y b s)
include h
theorem Lin.sum (k : Nat) (hk : k ≤ n) : (sumI Y k : Rat) / 16 = (k : Rat) * b + s * ((sumI X k : Rat) / 16) := by
  induction k with
  | zero =>
    show ((0 : Int) : Rat) / 16 = ((0 : Nat) : Rat) * b + s * (((0 : Int) : Rat) / 16)
    rw [show ((0 : Int) : Rat) = 0 from rfl, show ((0 : Nat) : Rat) = 0 from rfl]; grind
  | succ k ih =>
    have h1 := ih (by omega)
    have h2 := h.eq k (by omega)
    rw [sumI_next, sumI_next, Rat.intCast_add, Rat.intCast_add, Rat.natCast_add, show ((1 : Nat) : Rat) = 1 from rfl]
    grind
theorem Lin.muY : mu Y n = b + s * mu X n := by
  have h1 := h.sum n (Nat.le_refl n)
  obtain ⟨n1, _⟩ := h.t.nrat
  have e1 := mu_mul X (n := n) (by have := h.t.lo; omega)
  have e2 := mu_mul Y (n := n) (by have := h.t.lo; omega)
  rw [← e1, ← e2] at h1
  have hp : (0 : Rat) < (n : Rat) := by grind
  refine Rat.le_antisymm ?_ ?_
  · refine Rat.le_of_mul_le_mul_right (c := (n : Rat)) ?_ hp
    rw [h1]; grind
  · refine Rat.le_of_mul_le_mul_right (c := (n : Rat)) ?_ hp
    rw [h1]; grind
theorem Lin.mean : ∃ V, RV .f32 (lnV xs ys) V ∧ V ≤ mu Y n + 29 / 10000000 ∧ mu Y n ≤ V + 29 / 10000000 := by
  obtain ⟨m, hm, m1, m2⟩ := mean_near h.six (by have := h.t.lo; omega) (by have := h.t.hi; omega) (by decide)
  rw [show ((384 : Nat) : Rat) = 384 from rfl] at m1 m2
  rw [tiny_eq] at m1 m2
  refine ⟨m, ?_, by grind, by grind⟩
  unfold lnV lnN
  rw [h.t.len]; exact hm
theorem Lin.dev (k : Nat) (hk : k < n) : ∃ v, RV .f32 (fop .sub .f32 (atX ys k) (lnV xs ys)) v ∧ v ≤ s * uOf X n k + 6 / 1000000 ∧ s * uOf X n k ≤ v + 6 / 1000000 := by
  obtain ⟨V, hV, t1, t2⟩ := h.mean
  obtain ⟨_, _, _, _, u1, u2⟩ := h.t.dev k hk
  have hy := (h.six k hk).1
  have hs0 := h.s0
  have hs2 := h.s2
  obtain ⟨a1, a2⟩ := abs_mul_le (a := s) (b := uOf X n k) (α := 2) (β := 11) (by grind) (by grind) u1 u2
  have e : (Y k : Rat) / 16 - mu Y n = s * uOf X n k := by rw [h.eq k hk, h.muY]; unfold uOf; grind
  rw [show (Y k : Rat) / 16 = s * uOf X n k + mu Y n by grind] at hy
  generalize s * uOf X n k = z at *
  obtain ⟨v, hv, -, -, v1, v2⟩ := near32 (wn_sub hy hV) (22 + 1 / 100) (by grind) (by grind) (by grind)
  rw [tiny_eq] at v1 v2
  exact ⟨v, hv, by grind, by grind⟩
theorem Lin.slope : ∃ S, RV .f32 (lnS xs ys) S ∧ S ≤ s + 42 / 100000 ∧ s ≤ S + 42 / 100000 := by
  obtain ⟨d, hd, d1, d2, d3, d4⟩ := h.t.den
  have hs0 := h.s0
  have hs2 := h.s2
  obtain ⟨p, hp, p1, p2, -⟩ := up_near (T := lnT xs) (V := lnV xs ys) (u := uOf X n) (s := s) (n := n) (by grind) hs2 (by have := h.t.hi; omega) h.t.dev h.dev n (Nat.le_refl n)
  obtain ⟨n1, n2⟩ := h.t.nrat
  have q := Rat.mul_nonneg (show 0 ≤ 11 - (n : Rat) by grind) (show 0 ≤ sqQ (uOf X n) n by grind)
  rw [show lnUp (lnT xs) (lnV xs ys) xs ys n = lnUp (lnT xs) (lnV xs ys) xs ys xs.length by rw [h.t.len]] at hp
  generalize sqQ (uOf X n) n = D at *
  generalize (n : Rat) = N at *
  have hd0 : 0 < d := by grind
  have hsd : -(D * (12 / 100000) * 2) ≤ s * (d - D) ∧ s * (d - D) ≤ D * (12 / 100000) * 2 := by
    have := abs_mul_le (a := s) (b := d - D) (α := 2) (β := D * (12 / 100000)) (by grind) (by grind) (by grind) (by grind)
    grind
  have e : p / d * d = p := Rat.div_mul_cancel (by grind)
  have q1 : p / d ≤ s + 41 / 100000 := Rat.le_of_mul_le_mul_right (c := d) (by rw [e]; grind) hd0
  have q2 : s - 41 / 100000 ≤ p / d := Rat.le_of_mul_le_mul_right (c := d) (by rw [e]; grind) hd0
  obtain ⟨S, hS, -, -, S1, S2⟩ := near32 (wn_div hp hd hd0) (2 + 1 / 100) (by grind) (by grind) (by grind)
  rw [tiny_eq] at S1 S2
  exact ⟨S, hS, by grind, by grind⟩
theorem Lin.base : ∃ S B, RV .f32 (lnS xs ys) S ∧ S ≤ s + 42 / 100000 ∧ s ≤ S + 42 / 100000 ∧ RV .f32 (lnB xs ys) B ∧ B ≤ b + 5 / 1000 ∧ b ≤ B + 5 / 1000 := by
  obtain ⟨S, hS, S1, S2⟩ := h.slope
  obtain ⟨T, hT, t1, t2, t3, t4⟩ := h.t.mean
  obtain ⟨V, hV, v1, v2⟩ := h.mean
  rw [h.muY] at v1 v2
  have hs0 := h.s0
  have hs2 := h.s2
  have hb0 := h.b0
  have hb2 := h.b2
  generalize mu X n = t at *
  obtain ⟨m1, m2⟩ := abs_mul_le (a := S - s) (b := T) (α := 42 / 100000) (β := 11 + 1 / 1000) (by grind) (by grind) (by grind) (by grind)
  obtain ⟨m3, m4⟩ := abs_mul_le (a := s) (b := T - t) (α := 2) (β := 14 / 10000000) (by grind) (by grind) (by grind) (by grind)
  obtain ⟨m5, m6⟩ := abs_mul_le (a := s) (b := t) (α := 2) (β := 11) (by grind) (by grind) (by grind) (by grind)
  have e : S * T = (S - s) * T + s * (T - t) + s * t := by grind
  have hw := wn_mul hS hT
  rw [e] at hw
  generalize (S - s) * T = z1 at *
  generalize s * (T - t) = z2 at *
  generalize s * t = z3 at *
  obtain ⟨m, hm, -, -, r1, r2⟩ := near32 hw (22 + 1 / 100) (by grind) (by grind) (by grind)
  rw [tiny_eq] at r1 r2
  obtain ⟨B, hB, -, -, B1, B2⟩ := near32 (wn_sub hV hm) (2 + 1 / 100) (by grind) (by grind) (by grind)
  rw [tiny_eq] at B1 B2
  exact ⟨S, B, hS, S1, S2, hB, by grind, by grind⟩
theorem Lin.leftAt {S B : Rat} (hS : RV .f32 (lnS xs ys) S) (S1 : S ≤ s + 42 / 100000) (S2 : s ≤ S + 42 / 100000) (hB : RV .f32 (lnB xs ys) B) (B1 : B ≤ b + 5 / 1000) (B2 : b ≤ B + 5 / 1000) (k : Nat) (hk : k < n) :
    ∃ l, RV .f32 (lnLf (lnB xs ys) (lnS xs ys) xs ys k) l ∧ -(97 / 10000) ≤ l ∧ l ≤ 97 / 10000 := by
  obtain ⟨hx, x0, x1⟩ := h.t.at k hk
  have hy := (h.six k hk).1
  rw [h.eq k hk] at hy
  have hs0 := h.s0
  have hs2 := h.s2
  have hb0 := h.b0
  have hb2 := h.b2
  generalize (X k : Rat) / 16 = x at *
  obtain ⟨m1, m2⟩ := abs_mul_le (a := S - s) (b := x) (α := 42 / 100000) (β := 11) (by grind) (by grind) (by grind) (by grind)
  obtain ⟨m5, m6⟩ := abs_mul_le (a := s) (b := x) (α := 2) (β := 11) (by grind) (by grind) (by grind) (by grind)
  have e : S * x = (S - s) * x + s * x := by grind
  have hw := wn_mul hS hx
  rw [e] at hw
  generalize (S - s) * x = z1 at *
  generalize s * x = z3 at *
  obtain ⟨m, hm, -, -, r1, r2⟩ := near32 hw (22 + 1 / 100) (by grind) (by grind) (by grind)
  obtain ⟨p, hp, -, -, p1, p2⟩ := near32 (wn_sub hy hB) (22 + 1 / 100) (by grind) (by grind) (by grind)
  rw [tiny_eq] at r1 r2 p1 p2
  obtain ⟨l, hl, -, -, l1, l2⟩ := near32 (wn_sub hp hm) 1 (by grind) (by grind) (by grind)
  rw [tiny_eq] at l1 l2
  exact ⟨l, hl, by grind, by grind⟩
theorem Lin.sq {S B : Rat} (hS : RV .f32 (lnS xs ys) S) (S1 : S ≤ s + 42 / 100000) (S2 : s ≤ S + 42 / 100000) (hB : RV .f32 (lnB xs ys) B) (B1 : B ≤ b + 5 / 1000) (B2 : b ≤ B + 5 / 1000) (k : Nat) (hk : k ≤ n) :
    ∃ q, RV .f32 (lnSq (lnB xs ys) (lnS xs ys) xs ys k) q ∧ 0 ≤ q ∧ q ≤ (k : Rat) / 10000 := by
  induction k with
  | zero => exact ⟨0, rvz _, by grind, by rw [show ((0 : Nat) : Rat) = 0 from rfl]; grind⟩
  | succ k ih =>
    obtain ⟨q, hq, q0, q1⟩ := ih (by omega)
    obtain ⟨l, hl, l1, l2⟩ := h.leftAt hS S1 S2 hB B1 B2 k (by omega)
    have hk16 := natr_le (show k ≤ 15 by have := h.t.hi; omega)
    rw [show ((15 : Nat) : Rat) = 15 from rfl] at hk16
    have hk0 := natr_le (Nat.zero_le k)
    rw [show ((0 : Nat) : Rat) = 0 from rfl] at hk0
    have e : ((k + 1 : Nat) : Rat) = (k : Rat) + 1 := by rw [Rat.natCast_add]; rfl
    rw [e, show lnSq (lnB xs ys) (lnS xs ys) xs ys (k + 1) = fop .add .f32 (lnSq (lnB xs ys) (lnS xs ys) xs ys k) (fop .mul .f32 (lnLf (lnB xs ys) (lnS xs ys) xs ys k) (lnLf (lnB xs ys) (lnS xs ys) xs ys k)) from rfl]
    generalize (k : Rat) = K at *
    have ll := sq_nonneg l
    have l3 := (abs_mul_le (a := l) (b := l) (α := 97 / 10000) (β := 97 / 10000) (by grind) (by grind) (by grind) (by grind)).2
    obtain ⟨m, hm, -, m0, r1, r2⟩ := near32 (wn_mul hl hl) 1 (by grind) (by grind) (by grind)
    have m0 := m0 ll
    rw [tiny_eq] at *
    generalize l * l = Z at *
    obtain ⟨r, hr, -, r0, r3, r4⟩ := near32 (wn_add hq hm) 1 (by grind) (by grind) (by grind)
    have r0 := r0 (by grind)
    rw [tiny_eq] at *
    exact ⟨r, hr, r0, by grind⟩
theorem Lin.all : ∃ S B Q, RV .f32 (lnS xs ys) S ∧ S ≤ s + 42 / 100000 ∧ s ≤ S + 42 / 100000 ∧ RV .f32 (lnB xs ys) B ∧ B ≤ b + 5 / 1000 ∧ b ≤ B + 5 / 1000 ∧ RV .f32 (lnQ xs ys) Q ∧ 0 ≤ Q ∧ Q ≤ 1 / 5000 := by
  obtain ⟨S, B, hS, S1, S2, hB, B1, B2⟩ := h.base
  obtain ⟨q, hq, q0, q1⟩ := h.sq hS S1 S2 hB B1 B2 n (Nat.le_refl n)
  obtain ⟨n1, n2⟩ := h.t.nrat
  have hn := rv_ofInt32 (n : Int) (by have := h.t.hi; omega)
  rw [Rat.intCast_natCast] at hn
  have hN0 : (0 : Rat) < (n : Rat) := by grind
  have e : q / (n : Rat) * (n : Rat) = q := Rat.div_mul_cancel (by grind)
  have q2 : q / (n : Rat) ≤ 1 / 10000 := Rat.le_of_mul_le_mul_right (c := (n : Rat)) (by rw [e]; grind) hN0
  have q3 : 0 ≤ q / (n : Rat) := Rat.le_of_mul_le_mul_right (c := (n : Rat)) (by rw [e]; grind) hN0
  obtain ⟨Q, hQ, -, Q0, Q1, Q2⟩ := near32 (wn_div hq hn hN0) 1 (by grind) (by grind) (by grind)
  have Q0 := Q0 q3
  rw [tiny_eq] at *
  refine ⟨S, B, Q, hS, S1, S2, hB, B1, B2, ?_, Q0, by grind⟩
  unfold lnQ lnN
  rw [h.t.len]; exact hQ
end

/-! ## Ln4 -/
theorem fin_lnM {xs ys : List Nat} {n : Nat} (hx : xs.length = n) (hy : ys.length = n) (lo : 2 ≤ n) (hi : n ≤ 48) (fx : ∀ k, k < n → ∃ r, RV .f32 (atX xs k) r) (fy : ∀ k, k < n → ∃ r, RV .f32 (atX ys k) r)
    {d B S Q : Rat} (hd : RV .f32 (lnD xs) d) (d0 : 0 < d) (hB : RV .f32 (lnB xs ys) B) (hS : RV .f32 (lnS xs ys) S) (hQ : RV .f32 (lnQ xs ys) Q) :
    lnM xs ys = ((lnB xs ys, lnS xs ys, lnQ xs ys), true) ∧ lnRaw xs ys = ((lnB xs ys, lnS xs ys, lnQ xs ys), true) := by
  have hp : pathB xs ys = true := by
    simp only [pathB, Bool.and_eq_true, decide_eq_true_eq, List.all_eq_true]
    refine ⟨⟨⟨⟨by omega, by omega⟩, by omega⟩, fun b hb => ?_⟩, fun b hb => ?_⟩
    · obtain ⟨k, hk, rfl⟩ := List.getElem_of_mem hb
      obtain ⟨r, hr⟩ := fx k (by omega)
      rw [atX_get hk] at hr
      exact hr.fin
    · obtain ⟨k, hk, rfl⟩ := List.getElem_of_mem hb
      obtain ⟨r, hr⟩ := fy k (by omega)
      rw [atX_get hk] at hr
      exact hr.fin
  have ho : lnOk xs ys = true := by
    rw [lnOk, hp, rv_gt hd (rvz .f32) d0]; rfl
  have hf : lnFin xs ys = true := by
    have h1 : finite32 (lnB xs ys) = true := hB.fin
    have h2 : finite32 (lnS xs ys) = true := hS.fin
    have h3 : finite32 (lnQ xs ys) = true := hQ.fin
    rw [lnFin, h1, h2, h3]; rfl
  have hr := lnRaw_yes ho
  rw [hf] at hr
  exact ⟨(lnM_yes (by rw [hr])).trans hr, hr⟩
theorem Lin.told {xs ys : List Nat} {n : Nat} {X Y : Nat → Int} {b s : Rat} (h : Lin xs ys n X Y b s) :
    ∃ S B Q, lnM xs ys = ((lnB xs ys, lnS xs ys, lnQ xs ys), true) ∧ RV .f32 (lnS xs ys) S ∧ S ≤ s + 42 / 100000 ∧ s ≤ S + 42 / 100000 ∧ RV .f32 (lnB xs ys) B ∧ B ≤ b + 5 / 1000 ∧ b ≤ B + 5 / 1000 ∧ RV .f32 (lnQ xs ys) Q ∧ 0 ≤ Q ∧ Q ≤ 1 / 5000 := by
  obtain ⟨S, B, Q, hS, S1, S2, hB, B1, B2, hQ, Q0, Q1⟩ := h.all
  obtain ⟨d, hd, d1, d2, d3, d4⟩ := h.t.den
  obtain ⟨n1, n2⟩ := h.t.nrat
  refine ⟨S, B, Q, (fin_lnM h.t.len h.len h.t.lo (by have := h.t.hi; omega) (fun k hk => ⟨_, (h.t.six k hk).1⟩) (fun k hk => ⟨_, (h.six k hk).1⟩) hd (by grind) hB hS hQ).1, hS, S1, S2, hB, B1, B2, hQ, Q0, Q1⟩
/-- Any small values. -/
structure Sml (xs ys : List Nat) (n : Nat) (X Y : Nat → Int) : Prop where
  t : Tms xs n X
  len : ys.length = n
  six : Six ys n Y 64
section
variable {xs ys : List Nat} {n : Nat} {X Y : Nat → Int} (h : Sml xs ys n X Y)
include h
theorem Sml.mean : ∃ V, RV .f32 (lnV xs ys) V ∧ -(4 + 1 / 1000) ≤ V ∧ V ≤ 4 + 1 / 1000 := by
  obtain ⟨m, hm, m1, m2⟩ := mean_near h.six (by have := h.t.lo; omega) (by have := h.t.hi; omega) (by decide)
  obtain ⟨b1, b2⟩ := mu_bd (by have := h.t.lo; omega) (fun k hk => (h.six k hk).2)
  rw [show ((64 : Nat) : Rat) = 64 from rfl] at m1 m2 b1 b2
  rw [tiny_eq] at m1 m2
  refine ⟨m, ?_, by grind, by grind⟩
  unfold lnV lnN
  rw [h.t.len]; exact hm
theorem Sml.at (k : Nat) (hk : k < n) : ∃ y, RV .f32 (atX ys k) y ∧ -4 ≤ y ∧ y ≤ 4 := by
  have h1 := h.six k hk
  have h2 := six_rat h1.2
  rw [show ((64 : Nat) : Rat) = 64 from rfl] at h2
  exact ⟨_, h1.1, by grind, by grind⟩
theorem Sml.dev (k : Nat) (hk : k < n) : ∃ v, RV .f32 (fop .sub .f32 (atX ys k) (lnV xs ys)) v ∧ -(8 + 1 / 100) ≤ v ∧ v ≤ 8 + 1 / 100 := by
  obtain ⟨V, hV, t1, t2⟩ := h.mean
  obtain ⟨y, hy, y1, y2⟩ := h.at k hk
  obtain ⟨v, hv, -, -, v1, v2⟩ := near32 (wn_sub hy hV) (8 + 1 / 1000) (by grind) (by grind) (by grind)
  rw [tiny_eq] at v1 v2
  exact ⟨v, hv, by grind, by grind⟩
theorem Sml.sum (k : Nat) (hk : k ≤ n) : ∃ p, RV .f32 (lnUp (lnT xs) (lnV xs ys) xs ys k) p ∧ -((k : Rat) * 90) ≤ p ∧ p ≤ (k : Rat) * 90 := by
  induction k with
  | zero => exact ⟨0, rvz _, by rw [show ((0 : Nat) : Rat) = 0 from rfl]; grind, by rw [show ((0 : Nat) : Rat) = 0 from rfl]; grind⟩
  | succ k ih =>
    obtain ⟨p, hp, p1, p2⟩ := ih (by omega)
    obtain ⟨v, hv, v1, v2, u1, u2⟩ := h.t.dev k (by omega)
    obtain ⟨w, hw, w1, w2⟩ := h.dev k (by omega)
    have hk16 := natr_le (show k ≤ 15 by have := h.t.hi; omega)
    rw [show ((15 : Nat) : Rat) = 15 from rfl] at hk16
    have hk0 := natr_le (Nat.zero_le k)
    rw [show ((0 : Nat) : Rat) = 0 from rfl] at hk0
    rw [lnUp_next]
    have e : ((k + 1 : Nat) : Rat) = (k : Rat) + 1 := by rw [Rat.natCast_add]; rfl
    rw [e]
    generalize (k : Rat) = K at *
    obtain ⟨a1, a2⟩ := abs_mul_le (a := v) (b := w) (α := 11 + 1 / 1000) (β := 8 + 1 / 100) (by grind) (by grind) (by grind) (by grind)
    obtain ⟨m, hm, -, -, m1, m2⟩ := near32 (wn_mul hv hw) 89 (by grind) (by grind) (by grind)
    rw [tiny_eq] at m1 m2
    generalize v * w = z at *
    obtain ⟨r, hr, -, -, r1, r2⟩ := near32 (wn_add hp hm) 1500 (by grind) (by grind) (by grind)
    rw [tiny_eq] at r1 r2
    exact ⟨r, hr, by grind, by grind⟩
theorem Sml.slope : ∃ S, RV .f32 (lnS xs ys) S ∧ -8700 ≤ S ∧ S ≤ 8700 := by
  obtain ⟨d, hd, d1, d2, d3, d4⟩ := h.t.den
  obtain ⟨p, hp, p1, p2⟩ := h.sum n (Nat.le_refl n)
  obtain ⟨n1, n2⟩ := h.t.nrat
  rw [show lnUp (lnT xs) (lnV xs ys) xs ys n = lnUp (lnT xs) (lnV xs ys) xs ys xs.length by rw [h.t.len]] at hp
  generalize sqQ (uOf X n) n = D at *
  generalize (n : Rat) = N at *
  have hd0 : 0 < d := by grind
  have e : p / d * d = p := Rat.div_mul_cancel (by grind)
  have q1 : p / d ≤ 8650 := Rat.le_of_mul_le_mul_right (c := d) (by rw [e]; grind) hd0
  have q2 : -8650 ≤ p / d := Rat.le_of_mul_le_mul_right (c := d) (by rw [e]; grind) hd0
  obtain ⟨S, hS, -, -, S1, S2⟩ := near32 (wn_div hp hd hd0) 8650 (by grind) (by grind) (by grind)
  rw [tiny_eq] at S1 S2
  exact ⟨S, hS, by grind, by grind⟩
theorem Sml.base : ∃ S B, RV .f32 (lnS xs ys) S ∧ -8700 ≤ S ∧ S ≤ 8700 ∧ RV .f32 (lnB xs ys) B ∧ -96000 ≤ B ∧ B ≤ 96000 := by
  obtain ⟨S, hS, S1, S2⟩ := h.slope
  obtain ⟨T, hT, t1, t2, t3, t4⟩ := h.t.mean
  obtain ⟨V, hV, v1, v2⟩ := h.mean
  obtain ⟨m1, m2⟩ := abs_mul_le (a := S) (b := T) (α := 8700) (β := 11 + 1 / 1000) (by grind) (by grind) (by grind) (by grind)
  obtain ⟨m, hm, -, -, r1, r2⟩ := near32 (wn_mul hS hT) 95800 (by grind) (by grind) (by grind)
  rw [tiny_eq] at r1 r2
  generalize S * T = z at *
  obtain ⟨B, hB, -, -, B1, B2⟩ := near32 (wn_sub hV hm) 95900 (by grind) (by grind) (by grind)
  rw [tiny_eq] at B1 B2
  exact ⟨S, B, hS, S1, S2, hB, by grind, by grind⟩
theorem Sml.leftAt {S B : Rat} (hS : RV .f32 (lnS xs ys) S) (S1 : -8700 ≤ S) (S2 : S ≤ 8700) (hB : RV .f32 (lnB xs ys) B) (B1 : -96000 ≤ B) (B2 : B ≤ 96000) (k : Nat) (hk : k < n) :
    ∃ l, RV .f32 (lnLf (lnB xs ys) (lnS xs ys) xs ys k) l ∧ -192000 ≤ l ∧ l ≤ 192000 := by
  obtain ⟨hx, x0, x1⟩ := h.t.at k hk
  obtain ⟨y, hy, y1, y2⟩ := h.at k hk
  generalize (X k : Rat) / 16 = x at *
  obtain ⟨m5, m6⟩ := abs_mul_le (a := S) (b := x) (α := 8700) (β := 11) (by grind) (by grind) (by grind) (by grind)
  obtain ⟨m, hm, -, -, r1, r2⟩ := near32 (wn_mul hS hx) 95700 (by grind) (by grind) (by grind)
  obtain ⟨p, hp, -, -, p1, p2⟩ := near32 (wn_sub hy hB) 96004 (by grind) (by grind) (by grind)
  rw [tiny_eq] at r1 r2 p1 p2
  generalize S * x = z at *
  obtain ⟨l, hl, -, -, l1, l2⟩ := near32 (wn_sub hp hm) 191900 (by grind) (by grind) (by grind)
  rw [tiny_eq] at l1 l2
  exact ⟨l, hl, by grind, by grind⟩
theorem Sml.sq {S B : Rat} (hS : RV .f32 (lnS xs ys) S) (S1 : -8700 ≤ S) (S2 : S ≤ 8700) (hB : RV .f32 (lnB xs ys) B) (B1 : -96000 ≤ B) (B2 : B ≤ 96000) (k : Nat) (hk : k ≤ n) :
    ∃ q, RV .f32 (lnSq (lnB xs ys) (lnS xs ys) xs ys k) q ∧ 0 ≤ q ∧ q ≤ (k : Rat) * 37000000000 := by
  induction k with
  | zero => exact ⟨0, rvz _, by grind, by rw [show ((0 : Nat) : Rat) = 0 from rfl]; grind⟩
  | succ k ih =>
    obtain ⟨q, hq, q0, q1⟩ := ih (by omega)
    obtain ⟨l, hl, l1, l2⟩ := h.leftAt hS S1 S2 hB B1 B2 k (by omega)
    have hk16 := natr_le (show k ≤ 15 by have := h.t.hi; omega)
    rw [show ((15 : Nat) : Rat) = 15 from rfl] at hk16
    have hk0 := natr_le (Nat.zero_le k)
    rw [show ((0 : Nat) : Rat) = 0 from rfl] at hk0
    have e : ((k + 1 : Nat) : Rat) = (k : Rat) + 1 := by rw [Rat.natCast_add]; rfl
    rw [e, show lnSq (lnB xs ys) (lnS xs ys) xs ys (k + 1) = fop .add .f32 (lnSq (lnB xs ys) (lnS xs ys) xs ys k) (fop .mul .f32 (lnLf (lnB xs ys) (lnS xs ys) xs ys k) (lnLf (lnB xs ys) (lnS xs ys) xs ys k)) from rfl]
    generalize (k : Rat) = K at *
    have ll := sq_nonneg l
    have l3 := (abs_mul_le (a := l) (b := l) (α := 192000) (β := 192000) (by grind) (by grind) (by grind) (by grind)).2
    obtain ⟨m, hm, -, m0, r1, r2⟩ := near32 (wn_mul hl hl) 36864000000 (by grind) (by grind) (by grind)
    have m0 := m0 ll
    rw [tiny_eq] at r1 r2
    generalize l * l = Z at *
    obtain ⟨r, hr, -, r0, r3, r4⟩ := near32 (wn_add hq hm) (37000000000 * 16) (by grind) (by grind) (by grind)
    have r0 := r0 (by grind)
    rw [tiny_eq] at r3 r4
    exact ⟨r, hr, r0, by grind⟩
theorem Sml.told : ∃ S B Q, lnM xs ys = ((lnB xs ys, lnS xs ys, lnQ xs ys), true) ∧ lnRaw xs ys = ((lnB xs ys, lnS xs ys, lnQ xs ys), true) ∧ RV .f32 (lnS xs ys) S ∧ RV .f32 (lnB xs ys) B ∧ RV .f32 (lnQ xs ys) Q := by
  obtain ⟨S, B, hS, S1, S2, hB, B1, B2⟩ := h.base
  obtain ⟨q, hq, q0, q1⟩ := h.sq hS S1 S2 hB B1 B2 n (Nat.le_refl n)
  obtain ⟨n1, n2⟩ := h.t.nrat
  obtain ⟨d, hd, d1, d2, d3, d4⟩ := h.t.den
  have hn := rv_ofInt32 (n : Int) (by have := h.t.hi; omega)
  rw [Rat.intCast_natCast] at hn
  have hN0 : (0 : Rat) < (n : Rat) := by grind
  have e : q / (n : Rat) * (n : Rat) = q := Rat.div_mul_cancel (by grind)
  have q2 : q / (n : Rat) ≤ 37000000000 := Rat.le_of_mul_le_mul_right (c := (n : Rat)) (by rw [e]; grind) hN0
  have q3 : 0 ≤ q / (n : Rat) := Rat.le_of_mul_le_mul_right (c := (n : Rat)) (by rw [e]; grind) hN0
  obtain ⟨Q, hQ, -, Q0, Q1, Q2⟩ := near32 (wn_div hq hn hN0) 37000000000 (by grind) (by grind) (by grind)
  have hQ2 : RV .f32 (lnQ xs ys) Q := by unfold lnQ lnN; rw [h.t.len]; exact hQ
  obtain ⟨e1, e2⟩ := fin_lnM h.t.len h.len h.t.lo (by have := h.t.hi; omega) (fun k hk => ⟨_, (h.t.six k hk).1⟩) (fun k hk => ⟨_, (h.six k hk).1⟩) hd (by grind) hB hS hQ2
  exact ⟨S, B, Q, e1, e2, hS, hB, hQ2⟩
end
end Go.Proofs.Ytkaeohlakeliiaa
