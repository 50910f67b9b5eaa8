/- The weights of particles as rational numbers. No program in sight. -/
import Derived.Test.YtdldlfefbeflcaaRat
import Derived.Test.YtdldlfefbeflcaaWeigh
namespace Go.Proofs.Ytdldlfefbeflcaa
open Go.RowKit

/-! ## WgR -/
def c8 : Nat := 1090519040
theorem wgBy_two : wgBy (some 1073741824) = some c8 := by decide
theorem rv_c8 : RV .f32 (some c8) 8 := by
  have := rv_ofInt32 8 (by decide)
  rwa [show floatOfInt .f32 8 = c8 from by decide] at this
theorem rv_zero (k : FloatKind) : RV k (some 0) 0 := ⟨0, isV_zero k, by grind⟩
theorem rv_neg {k : FloatKind} {x : Option Nat} {g : Rat} (h : RV k x g) : RV k (fop .sub k (some 0) x) (-g) := by
  obtain ⟨v, hv, e⟩ := h
  have hw := wn_sub (rv_zero k) ⟨v, hv, e⟩
  rw [show (0 : Rat) - g = -g by grind] at hw
  exact wn_exact hw (-v) (rep_neg _ hv.rep) (by rw [Rat.intCast_neg, e]; grind)
/-- The exponential of a number from -4 to 0, in 32 bits. -/
theorem exX_near {x : Option Nat} {y : Rat} (hx : RV .f32 x y) (h1 : -4 ≤ y) (h2 : y ≤ 0) : ∃ e τ, RV .f32 (exX x) e ∧ -(1 / 32) ≤ τ ∧ τ ≤ 0 ∧ τ ≤ y / 256 + e1 ∧ y / 256 ≤ τ + e1 ∧ e ≤ expR τ + 1 / 7000000 ∧ expR τ ≤ e + 1 / 7000000 := by
  have h200 : RV .f32 (some 3276275712) (-200 : Int) := by
    have := rv_ofInt32 (-200) (by decide)
    rwa [show floatOfInt .f32 (-200) = 3276275712 from by decide] at this
  have hlt : (ford .f32 x (some 3276275712) == some .lt) = false := by
    rw [rv_gt hx h200 (by rw [show ((-200 : Int) : Rat) = -200 from rfl]; grind)]; rfl
  rw [show exX x = nar (exM (wid x)) by rw [exX, if_neg (by simp [hlt])]]
  obtain ⟨v, τ, hv, t1, t2, t3, t4, v1, v2⟩ := exM_near (rv_wid hx) h1 h2
  have hb := sqn_bd (q := expT τ 12) (by have := expT_bd t1 t2 12 (by omega); grind) (expT_bd t1 t2 12 (by omega)).2 8
  have hr : expR τ = sqn (expT τ 12) 8 := rfl
  rw [← hr] at hb
  unfold e2 at v1 v2
  obtain ⟨e, he, -, -, g1, g2⟩ := near32 (wn_nar hv) (101 / 100) (by grind) (by grind) (by grind)
  rw [tiny_eq] at *
  exact ⟨e, τ, he, t1, t2, t3, t4, by grind, by grind⟩
/-- What a distance makes: D is the rounded difference, Q its square, G an eighth of that. -/
def DistOk (d G : Rat) : Prop := ∃ D Q : Rat, D ≤ d + 1 / 1600000 ∧ d ≤ D + 1 / 1600000 ∧ 0 ≤ Q ∧ Q ≤ D * D + (D * D / 8388608 + tiny) ∧ D * D ≤ Q + (D * D / 8388608 + tiny) ∧ G ≤ Q / 8 + (Q / 8 / 8388608 + tiny) ∧ Q / 8 ≤ G + (Q / 8 / 8388608 + tiny)
theorem dist_near {p x : Option Nat} {P X : Rat} (hp : RV .f32 p P) (hx : RV .f32 x X) (p1 : -2 ≤ P) (p2 : P ≤ 3) (x1 : -2 ≤ X) (x2 : X ≤ 2) :
    ∃ G, RV .f32 (wgArg p x (some c8)) (-G) ∧ 0 ≤ G ∧ G ≤ 16 / 5 ∧ DistOk (X - P) G := by
  obtain ⟨D, hD, -, -, d1, d2⟩ := near32 (wn_sub hx hp) 5 (by grind) (by grind) (by grind)
  rw [tiny_eq] at d1 d2
  obtain ⟨b1, b2⟩ := abs_mul_le (a := D) (b := D) (α := 5001 / 1000) (β := 5001 / 1000) (by grind) (by grind) (by grind) (by grind)
  have hDD : 0 ≤ D * D := by
    rcases Rat.le_total (a := 0) (b := D) with h | h
    · exact Rat.mul_nonneg h h
    · have := Rat.mul_nonneg (show 0 ≤ -D by grind) (show 0 ≤ -D by grind)
      grind
  obtain ⟨Q, hQ, -, q0, q1, q2⟩ := near32 (wn_mul hD hD) (D * D) (by grind) (by grind) (by grind)
  have q0 := q0 hDD
  have q8 : 0 ≤ Q / 8 := by grind
  obtain ⟨G, hG, -, g0, g1, g2⟩ := near32 (wn_div hQ rv_c8 (by grind)) (Q / 8) (by rw [tiny_eq] at *; grind) (by grind) (by grind)
  have g0 := g0 q8
  refine ⟨G, rv_neg hG, g0, by rw [tiny_eq] at *; grind, D, Q, by grind, by grind, q0, q1, q2, g1, g2⟩
/-- The nearer one has the less. -/
theorem dist_mono {d d' N N' G G' : Rat} (h : DistOk d G) (h' : DistOk d' G') (hN : 0 ≤ N) (hd : d = N ∨ d = -N) (hd' : d' = N' ∨ d' = -N') (hlt : N + 8 / 10000 ≤ N') (h5 : N' ≤ 5) : G ≤ G' := by
  obtain ⟨D, Q, a1, a2, q0, q1, q2, g1, g2⟩ := h
  obtain ⟨D', Q', a1', a2', q0', q1', q2', g1', g2'⟩ := h'
  rw [tiny_eq] at *
  obtain ⟨a, ha⟩ : ∃ a, a = N + 1 / 1600000 := ⟨_, rfl⟩
  obtain ⟨b, hb⟩ : ∃ b, b = N' - 1 / 1600000 := ⟨_, rfl⟩
  have u1 : D * D ≤ a * a := (abs_mul_le (a := D) (b := D) (α := a) (β := a) (by grind) (by grind) (by grind) (by grind)).2
  have u2 : D' * D' ≤ (b + 1 / 800000) * (b + 1 / 800000) := (abs_mul_le (a := D') (b := D') (α := b + 1 / 800000) (β := b + 1 / 800000) (by grind) (by grind) (by grind) (by grind)).2
  have u3 : b * b ≤ D' * D' := by
    rcases hd' with e | e
    · have := Rat.mul_nonneg (show 0 ≤ D' - b by grind) (show 0 ≤ D' + b by grind)
      grind
    · have := Rat.mul_nonneg (show 0 ≤ -D' - b by grind) (show 0 ≤ -D' + b by grind)
      grind
  have s1 := Rat.mul_nonneg (show 0 ≤ b - a - 7 / 10000 by grind) (show 0 ≤ b + a by grind)
  have s2 := Rat.mul_nonneg (show 0 ≤ b by grind) (show 0 ≤ 501 / 100 - b by grind)
  have s3 := Rat.mul_nonneg (show 0 ≤ a by grind) (show 0 ≤ b by grind)
  generalize D * D = DD at *
  generalize D' * D' = DD' at *
  have hb7 : 7 / 10000 ≤ b := by grind
  have k1 : Q + 5 / 10000 * b ≤ Q' := by grind
  have k2 : Q' ≤ 6 * b := by grind
  grind

/-! ## WgS -/
/-- The value of a float, 0 where there is none. -/
def valR (k : FloatKind) (x : Option Nat) : Rat := match x with
  | none => 0
  | some b => ((fv k.format b : Int) : Rat) / (unit k : Nat)
theorem RV.valR {k : FloatKind} {x : Option Nat} {r : Rat} (h : RV k x r) : valR k x = r := by
  obtain ⟨v, ⟨b, rfl, _, hv⟩, e⟩ := h
  show ((fv k.format b : Int) : Rat) / (unit k : Nat) = r
  have hu := unit_pos k
  rw [hv, e, Rat.mul_div_cancel (by grind)]
theorem rv_valR {k : FloatKind} {x : Option Nat} {r : Rat} (h : RV k x r) : RV k x (valR k x) := by rw [h.valR]; exact h
def sumQ (f : Nat → Rat) : Nat → Rat
  | 0 => 0
  | k + 1 => sumQ f k + f k
theorem sumQ_next (f : Nat → Rat) (k : Nat) : sumQ f (k + 1) = sumQ f k + f k := rfl
theorem sumQ_between {f : Nat → Rat} {n : Nat} {a b : Rat} (h : ∀ k, k < n → a ≤ f k ∧ f k ≤ b) (k : Nat) (hk : k ≤ n) : (k : Rat) * a ≤ sumQ f k ∧ sumQ f k ≤ (k : Rat) * b := by
  induction k with
  | zero => constructor <;> (show _ ≤ _; simp [sumQ])
  | succ k ih =>
    obtain ⟨i1, i2⟩ := ih (by omega)
    obtain ⟨h1, h2⟩ := h k (by omega)
    rw [sumQ_next, Rat.natCast_add]
    have : ((1 : Nat) : Rat) = 1 := rfl
    constructor <;> grind
theorem sumQ_term {f : Nat → Rat} {n : Nat} (h : ∀ k, k < n → 0 ≤ f k) {j : Nat} (hj : j < n) : f j ≤ sumQ f n := by
  have key : ∀ k, k ≤ n → 0 ≤ sumQ f k ∧ (j < k → f j ≤ sumQ f k) := by
    intro k
    induction k with
    | zero => intro _; exact ⟨by show (0 : Rat) ≤ 0; grind, by omega⟩
    | succ k ih =>
      intro hk
      obtain ⟨i1, i2⟩ := ih (by omega)
      have := h k (by omega)
      rw [sumQ_next]
      refine ⟨by grind, fun hj2 => ?_⟩
      by_cases e : j = k
      · subst e; grind
      · have := i2 (by omega); grind
  exact (key n (Nat.le_refl _)).2 hj
theorem sumQ_scale {f g : Nat → Rat} {n : Nat} {s c : Rat} (h : ∀ k, k < n → g k ≤ f k * s + c ∧ f k * s ≤ g k + c) (k : Nat) (hk : k ≤ n) : sumQ g k ≤ sumQ f k * s + (k : Rat) * c ∧ sumQ f k * s ≤ sumQ g k + (k : Rat) * c := by
  induction k with
  | zero => constructor <;> (show _ ≤ _; simp [sumQ]; grind)
  | succ k ih =>
    obtain ⟨i1, i2⟩ := ih (by omega)
    obtain ⟨h1, h2⟩ := h k (by omega)
    rw [sumQ_next, sumQ_next, Rat.natCast_add]
    have : ((1 : Nat) : Rat) = 1 := rfl
    constructor <;> grind
theorem nat_le_rat {a b : Nat} (h : a ≤ b) : (a : Rat) ≤ (b : Rat) := Rat.natCast_le_natCast.2 h

def chalf : Nat := 1056964608
def ctwo : Nat := 1073741824
theorem rv_half : RV .f32 (ab .f32 chalf) (1 / 2) := by
  refine ⟨fv FloatKind.f32.format chalf, ⟨chalf, by decide, by decide, rfl⟩, ?_⟩
  rw [unit32_rat, show fv FloatKind.f32.format chalf = 356811923176489970264571492362373784095686656 from by decide]
  grind
section
variable (xs : List Nat) (x : Option Nat) (n : Nat)
/-- One weight. -/
def wX (k : Nat) : Option Nat := wgX xs (List.replicate n chalf) x (some c8) k
def wQ (k : Nat) : Rat := valR .f32 (wX xs x n k)
def wT : Option Nat := wgSum xs (List.replicate n chalf) x (some c8) n
def uX (k : Nat) : Option Nat := fop .quo .f32 (wX xs x n k) (wT xs x n)
def uQ (k : Nat) : Rat := valR .f32 (uX xs x n k)
/-- What is known of the particles and of the measured place. -/
structure Cloud (X : Rat) : Prop where
  len : xs.length = n
  lo : 1 ≤ n
  hi : n ≤ 16
  part : ∀ k, k < n → ∃ P, RV .f32 (ab .f32 (xs.getD k 0)) P ∧ -2 ≤ P ∧ P ≤ 3
  at_ : RV .f32 x X
  x1 : -2 ≤ X
  x2 : X ≤ 2
end
section
variable {xs : List Nat} {x : Option Nat} {n : Nat} {X : Rat}
theorem Cloud.one (h : Cloud xs x n X) {k : Nat} (hk : k < n) {P : Rat} (hP : RV .f32 (ab .f32 (xs.getD k 0)) P) : ∃ τ G, RV .f32 (wX xs x n k) (wQ xs x n k) ∧ 1 / 56 ≤ wQ xs x n k ∧ wQ xs x n k ≤ 52 / 100 ∧ wQ xs x n k ≤ expR τ / 2 + 1 / 7000000 ∧ expR τ / 2 ≤ wQ xs x n k + 1 / 7000000 ∧ DistOk (X - P) G ∧ -(1 / 32) ≤ τ ∧ τ ≤ 0 ∧ τ ≤ -G / 256 + e1 ∧ -G / 256 ≤ τ + e1 := by
  obtain ⟨P', hP', p1, p2⟩ := h.part k hk
  obtain rfl := hP'.val hP
  obtain ⟨G, hG, g0, g1, hD⟩ := dist_near hP h.at_ p1 p2 h.x1 h.x2
  obtain ⟨e, τ, he, t1, t2, t3, t4, v1, v2⟩ := exX_near hG (by grind) (by grind)
  have hb := expR_bd (τ := τ) (by rw [e1_eq] at t4; grind) t2
  have hw : Wn .f32 (wX xs x n k) (1 / 2 * e) := by
    unfold wX wgX
    rw [show (List.replicate n chalf).getD k 0 = chalf by simp [List.getD, hk]]
    exact wn_mul rv_half he
  obtain ⟨w, hw, -, -, w1, w2⟩ := near32 hw (51 / 100) (by grind) (by grind) (by grind)
  have hv : wQ xs x n k = w := hw.valR
  rw [hv]
  rw [tiny_eq] at *
  exact ⟨τ, G, hw, by grind, by grind, by grind, by grind, hD, t1, t2, t3, t4⟩
theorem Cloud.w (h : Cloud xs x n X) {k : Nat} (hk : k < n) : RV .f32 (wX xs x n k) (wQ xs x n k) ∧ 1 / 56 ≤ wQ xs x n k ∧ wQ xs x n k ≤ 52 / 100 := by
  obtain ⟨P, hP, _⟩ := h.part k hk
  obtain ⟨_, _, a, b, c, _⟩ := h.one hk hP
  exact ⟨a, b, c⟩
theorem Cloud.sums (h : Cloud xs x n X) (k : Nat) (hk : k ≤ n) : ∃ S, RV .f32 (wgSum xs (List.replicate n chalf) x (some c8) k) S ∧ S ≤ sumQ (wQ xs x n) k + (k : Rat) * (11 / 10000000) ∧ sumQ (wQ xs x n) k ≤ S + (k : Rat) * (11 / 10000000) := by
  induction k with
  | zero => exact ⟨0, rv_zero _, by show (0 : Rat) ≤ 0 + _; simp; grind, by show (0 : Rat) ≤ 0 + _; simp; grind⟩
  | succ k ih =>
    obtain ⟨S, hS, s1, s2⟩ := ih (by omega)
    obtain ⟨hw, w1, w2⟩ := h.w (k := k) (by omega)
    have hb := sumQ_between (fun k hk => (h.w (k := k) hk).2) k (by omega)
    have hk16 := nat_le_rat (show k ≤ 15 by have := h.hi; omega)
    have h15 : ((15 : Nat) : Rat) = 15 := rfl
    have hk0 := nat_le_rat (Nat.zero_le k)
    have h0 : ((0 : Nat) : Rat) = 0 := rfl
    rw [wgSum_next, sumQ_next, Rat.natCast_add]
    have h1 : ((1 : Nat) : Rat) = 1 := rfl
    obtain ⟨R, hR, -, -, r1, r2⟩ := near32 (wn_add hS hw) 9 (by grind) (by grind) (by grind)
    rw [tiny_eq] at *
    exact ⟨R, hR, by grind, by grind⟩
theorem Cloud.tot (h : Cloud xs x n X) : ∃ S, RV .f32 (wT xs x n) S ∧ (n : Rat) / 57 ≤ S ∧ S ≤ sumQ (wQ xs x n) n * (10001 / 10000) ∧ sumQ (wQ xs x n) n ≤ S * (10001 / 10000) := by
  obtain ⟨S, hS, s1, s2⟩ := h.sums n (Nat.le_refl _)
  have hb := (sumQ_between (fun k hk => (h.w (k := k) hk).2) n (Nat.le_refl _)).1
  have hn := nat_le_rat h.lo
  have h1 : ((1 : Nat) : Rat) = 1 := rfl
  exact ⟨S, hS, by grind, by grind, by grind⟩
theorem Cloud.u (h : Cloud xs x n X) {k : Nat} (hk : k < n) {S : Rat} (hS : RV .f32 (wT xs x n) S) : RV .f32 (uX xs x n k) (uQ xs x n k) ∧ 0 ≤ uQ xs x n k ∧ uQ xs x n k ≤ 1001 / 1000 ∧ uQ xs x n k ≤ wQ xs x n k / S + 1 / 7000000 ∧ wQ xs x n k / S ≤ uQ xs x n k + 1 / 7000000 := by
  obtain ⟨S', hS', s1, s2, s3⟩ := h.tot
  obtain rfl := hS'.val hS
  obtain ⟨hw, w1, w2⟩ := h.w hk
  have hn := nat_le_rat h.lo
  have h1 : ((1 : Nat) : Rat) = 1 := rfl
  have ht := sumQ_term (f := wQ xs x n) (fun k hk => by have := (h.w hk).2.1; grind) hk
  have hSp : 0 < S' := by grind
  have hq := Rat.div_mul_cancel (a := wQ xs x n k) (b := S') (by grind)
  have q0 : 0 ≤ wQ xs x n k / S' := Rat.le_of_mul_le_mul_right (c := S') (by rw [hq]; grind) hSp
  have q1 : wQ xs x n k / S' ≤ 10001 / 10000 := Rat.le_of_mul_le_mul_right (c := S') (by rw [hq]; grind) hSp
  obtain ⟨u, hu, -, u0, u1, u2⟩ := near32 (wn_div hw hS hSp) (10001 / 10000) (by grind) (by grind) q1
  have hv : uQ xs x n k = u := hu.valR
  rw [hv]
  rw [tiny_eq] at *
  exact ⟨hu, u0 q0, by grind, by grind, by grind⟩
/-- The nearer weigh no less, nearly. -/
theorem Cloud.mono (h : Cloud xs x n X) {i k : Nat} (hi : i < n) (hk : k < n) {P Q N M : Rat} (hP : RV .f32 (ab .f32 (xs.getD i 0)) P) (hQ : RV .f32 (ab .f32 (xs.getD k 0)) Q) (hN : 0 ≤ N) (e : X - P = N ∨ X - P = -N) (e' : X - Q = M ∨ X - Q = -M) (hlt : N + 8 / 10000 ≤ M) (hM : M ≤ 5) : uQ xs x n k ≤ uQ xs x n i + 9 / 100000 := by
  obtain ⟨S, hS, s1, s2, s3⟩ := h.tot
  obtain ⟨τ, G, hw, w1, w2, w3, w4, hD, t1, t2, t3, t4⟩ := h.one hi hP
  obtain ⟨σ, H, hw', w1', w2', w3', w4', hD', t1', t2', t3', t4'⟩ := h.one hk hQ
  have hG := dist_mono hD hD' hN e e' hlt hM
  rw [e1_eq] at *
  have hE := expR_near (σ := σ) (τ := τ) (c := 1 / 500000000000000) t1' t2' t1 t2 (by grind) (by grind)
  have hn := nat_le_rat h.lo
  have h1 : ((1 : Nat) : Rat) = 1 := rfl
  have hSp : 0 < S := by grind
  obtain ⟨-, -, -, u1, u2⟩ := h.u hi hS
  obtain ⟨-, -, -, u1', u2'⟩ := h.u hk hS
  have hq := Rat.div_mul_cancel (a := wQ xs x n i) (b := S) (by grind)
  have hq' := Rat.div_mul_cancel (a := wQ xs x n k) (b := S) (by grind)
  have : wQ xs x n k / S ≤ wQ xs x n i / S + 8 / 100000 := Rat.le_of_mul_le_mul_right (c := S) (by
    rw [Rat.add_mul, hq, hq']
    grind) hSp
  grind
def sum64 (xs : List Nat) (x : Option Nat) (n : Nat) : Nat → Option Nat
  | 0 => some 0
  | k + 1 => fop .add .f64 (sum64 xs x n k) (wid (uX xs x n k))
theorem sum64_next (xs : List Nat) (x : Option Nat) (n k : Nat) : sum64 xs x n (k + 1) = fop .add .f64 (sum64 xs x n k) (wid (uX xs x n k)) := rfl
theorem Cloud.sums64 (h : Cloud xs x n X) (k : Nat) (hk : k ≤ n) : ∃ S, RV .f64 (sum64 xs x n k) S ∧ S ≤ sumQ (uQ xs x n) k + (k : Rat) * (1 / 10000000) ∧ sumQ (uQ xs x n) k ≤ S + (k : Rat) * (1 / 10000000) := by
  obtain ⟨T, hT, _⟩ := h.tot
  induction k with
  | zero => exact ⟨0, rv_zero _, by show (0 : Rat) ≤ 0 + _; simp; grind, by show (0 : Rat) ≤ 0 + _; simp; grind⟩
  | succ k ih =>
    obtain ⟨S, hS, s1, s2⟩ := ih (by omega)
    obtain ⟨hw, w1, w2, _⟩ := h.u (k := k) (by omega) hT
    have hb := sumQ_between (f := uQ xs x n) (n := n) (a := 0) (b := 1001 / 1000) (fun k hk => ⟨(h.u (k := k) hk hT).2.1, (h.u (k := k) hk hT).2.2.1⟩) k (by omega)
    have hk16 := nat_le_rat (show k ≤ 15 by have := h.hi; omega)
    have h15 : ((15 : Nat) : Rat) = 15 := rfl
    have hk0 := nat_le_rat (Nat.zero_le k)
    have h0 : ((0 : Nat) : Rat) = 0 := rfl
    rw [sum64_next, sumQ_next, Rat.natCast_add]
    have h1 : ((1 : Nat) : Rat) = 1 := rfl
    obtain ⟨R, hR, -, -, r1, r2⟩ := near64 (wn_add hS (rv_wid hw)) 18 (by grind) (by grind) (by grind)
    rw [tiny_eq] at *
    exact ⟨R, hR, by grind, by grind⟩
theorem Cloud.total (h : Cloud xs x n X) : ∃ S, RV .f64 (sum64 xs x n n) S ∧ S ≤ 1 + 5 / 10000 ∧ 1 - 5 / 10000 ≤ S := by
  obtain ⟨T, hT, a1, a2, a3⟩ := h.tot
  obtain ⟨S, hS, s1, s2⟩ := h.sums64 n (Nat.le_refl _)
  have hn := nat_le_rat h.lo
  have hn16 := nat_le_rat h.hi
  have h1 : ((1 : Nat) : Rat) = 1 := rfl
  have h16 : ((16 : Nat) : Rat) = 16 := rfl
  have hTp : 0 < T := by grind
  obtain ⟨b1, b2⟩ := sumQ_scale (f := wQ xs x n) (g := uQ xs x n) (n := n) (s := T⁻¹) (c := 1 / 7000000) (fun k hk => by
    obtain ⟨-, -, -, u1, u2⟩ := h.u hk hT
    rw [Rat.div_def] at u1 u2
    exact ⟨u1, u2⟩) n (Nat.le_refl _)
  have hb := (sumQ_between (fun k hk => (h.w (k := k) hk).2) n (Nat.le_refl _)).1
  have hq := Rat.mul_inv_cancel T (by grind)
  have hi : 0 < T⁻¹ := Rat.inv_pos.2 hTp
  have c1 := Rat.mul_le_mul_of_nonneg_right a2 (Rat.le_of_lt hi)
  have c2 := Rat.mul_le_mul_of_nonneg_right a3 (Rat.le_of_lt hi)
  exact ⟨S, hS, by grind, by grind⟩
end
end Go.Proofs.Ytdldlfefbeflcaa
