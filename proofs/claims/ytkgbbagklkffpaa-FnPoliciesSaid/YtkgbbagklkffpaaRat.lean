/- Finite floats as rational numbers; how far an operation's result lies from the exact one. No program in sight. -/
import Derived.Test.YtkgbbagklkffpaaExp
namespace Go.Proofs.Ytkgbbagklkffpaa
open Go.RowKit

/-! ## Rat -/
theorem unit_pos (k : FloatKind) : (0 : Rat) < (unit k : Nat) := Rat.natCast_pos.2 (Nat.two_pow_pos _)
/-- A finite number and its value. -/
def RV (k : FloatKind) (x : Option Nat) (r : Rat) : Prop := ∃ v : Int, IsV k x v ∧ (v : Rat) = r * (unit k : Nat)
theorem RV.val {k : FloatKind} {x : Option Nat} {r s : Rat} (h : RV k x r) (h' : RV k x s) : r = s := by
  obtain ⟨v, hv, e⟩ := h
  obtain ⟨u, hu, e'⟩ := h'
  obtain rfl := hv.val hu
  have hp := unit_pos k
  rw [e] at e'
  have h1 : r ≤ s := Rat.le_of_mul_le_mul_right (c := (unit k : Nat)) (by rw [e']; exact Rat.le_refl) hp
  have h2 : s ≤ r := Rat.le_of_mul_le_mul_right (c := (unit k : Nat)) (by rw [e']; exact Rat.le_refl) hp
  exact Rat.le_antisymm h1 h2
theorem RV.of {k : FloatKind} {x : Option Nat} {v : Int} (h : IsV k x v) : RV k x ((v : Rat) / (unit k : Nat)) := by
  refine ⟨v, h, ?_⟩
  have hp := unit_pos k
  exact (Rat.div_mul_cancel (by grind)).symm
theorem RV.eq {k : FloatKind} {x : Option Nat} {r s : Rat} (h : RV k x r) (e : r = s) : RV k x s := e ▸ h
theorem RV.fin {k : FloatKind} {x : Option Nat} {r : Rat} (h : RV k x r) : fin k x = true := by
  obtain ⟨v, hv, _⟩ := h; exact fin_of_isV hv
theorem rv_of_fin {k : FloatKind} {b : Nat} (h : fin k (ab k b) = true) : ∃ r, RV k (ab k b) r := by
  obtain ⟨v, hv⟩ := isV_of_fin h
  exact ⟨_, RV.of hv⟩
theorem rv_int {k : FloatKind} {x : Option Nat} {n : Int} (h : IsV k x (n * (unit k : Int))) : RV k x (n : Rat) := ⟨_, h, by rw [Rat.intCast_mul, Rat.intCast_natCast]⟩
theorem rv_ofInt32 (n : Int) (hn : n.natAbs < 16777216) : RV .f32 (some (floatOfInt .f32 n)) (n : Rat) := rv_int (isV_ofInt32 n hn)
theorem rv_ofInt64 (n : Int) (hn : n.natAbs < 9007199254740992) : RV .f64 (some (floatOfInt .f64 n)) (n : Rat) := rv_int (isV_ofInt64 n hn)
/-- Order. -/
theorem RV.le_iff {k : FloatKind} {x y : Option Nat} {a b : Rat} {u v : Int} (hx : (u : Rat) = a * (unit k : Nat)) (hy : (v : Rat) = b * (unit k : Nat)) : u ≤ v ↔ a ≤ b := by
  have hp := unit_pos k
  rw [← Rat.intCast_le_intCast, hx, hy]
  constructor
  · intro h; exact Rat.le_of_mul_le_mul_right h hp
  · intro h; exact Rat.mul_le_mul_of_nonneg_right h (Rat.le_of_lt hp)
theorem rv_lt {k : FloatKind} {x y : Option Nat} {a b : Rat} (hx : RV k x a) (hy : RV k y b) (h : a < b) : ford k x y = some .lt := by
  obtain ⟨u, hu, e⟩ := hx
  obtain ⟨v, hv, e'⟩ := hy
  refine ford_lt hu hv ?_
  rcases Int.lt_or_le u v with c | c
  · exact c
  · have := (RV.le_iff (x := x) (y := y) e' e).1 c
    grind
theorem rv_gt {k : FloatKind} {x y : Option Nat} {a b : Rat} (hx : RV k x a) (hy : RV k y b) (h : b < a) : ford k x y = some .gt := by
  obtain ⟨u, hu, e⟩ := hx
  obtain ⟨v, hv, e'⟩ := hy
  refine ford_gt hu hv ?_
  rcases Int.lt_or_le v u with c | c
  · exact c
  · have := (RV.le_iff (x := x) (y := y) e e').1 c
    grind
theorem rv_eq {k : FloatKind} {x y : Option Nat} {a b : Rat} (hx : RV k x a) (hy : RV k y b) (h : a = b) : ford k x y = some .eq := by
  obtain ⟨u, hu, e⟩ := hx
  obtain ⟨v, hv, e'⟩ := hy
  refine ford_eq hu hv ?_
  have h1 := (RV.le_iff (x := x) (y := y) e e').2 (by grind)
  have h2 := (RV.le_iff (x := x) (y := y) e' e).2 (by grind)
  omega
/-- Whatever lies between two numbers that the format has is rounded between them. -/
def Wn (k : FloatKind) (x : Option Nat) (z : Rat) : Prop := ∀ L H : Int, Rep k.format L → Rep k.format H → (L : Rat) ≤ z * (unit k : Nat) → z * (unit k : Nat) ≤ (H : Rat) → ∃ v, IsV k x v ∧ L ≤ v ∧ v ≤ H
section
variable {k : FloatKind} {x y : Option Nat} {a b : Rat}
theorem wn_add (hx : RV k x a) (hy : RV k y b) : Wn k (fop .add k x y) (a + b) := by
  obtain ⟨u, hu, e⟩ := hx
  obtain ⟨v, hv, e'⟩ := hy
  intro L H hL hH h1 h2
  refine add_within hu hv hL hH ?_ ?_
  · rw [← Rat.intCast_le_intCast, Rat.intCast_add, e, e']; grind
  · rw [← Rat.intCast_le_intCast, Rat.intCast_add, e, e']; grind
theorem wn_sub (hx : RV k x a) (hy : RV k y b) : Wn k (fop .sub k x y) (a - b) := by
  obtain ⟨u, hu, e⟩ := hx
  obtain ⟨v, hv, e'⟩ := hy
  intro L H hL hH h1 h2
  refine sub_within hu hv hL hH ?_ ?_
  · rw [← Rat.intCast_le_intCast, Rat.intCast_sub, e, e']; grind
  · rw [← Rat.intCast_le_intCast, Rat.intCast_sub, e, e']; grind
theorem wn_mul (hx : RV k x a) (hy : RV k y b) : Wn k (fop .mul k x y) (a * b) := by
  obtain ⟨u, hu, e⟩ := hx
  obtain ⟨v, hv, e'⟩ := hy
  have hp := unit_pos k
  intro L H hL hH h1 h2
  refine mul_within hu hv hL hH ?_ ?_
  · rw [← Rat.intCast_le_intCast, Rat.intCast_mul, Rat.intCast_mul, e, e', Rat.intCast_natCast]
    have := Rat.mul_le_mul_of_nonneg_right h1 (Rat.le_of_lt hp)
    grind
  · rw [← Rat.intCast_le_intCast, Rat.intCast_mul, Rat.intCast_mul, e, e', Rat.intCast_natCast]
    have := Rat.mul_le_mul_of_nonneg_right h2 (Rat.le_of_lt hp)
    grind
theorem wn_div (hx : RV k x a) (hy : RV k y b) (hb : 0 < b) : Wn k (fop .quo k x y) (a / b) := by
  obtain ⟨u, hu, e⟩ := hx
  obtain ⟨v, hv, e'⟩ := hy
  have hp := unit_pos k
  have hbu : 0 < b * (unit k : Nat) := Rat.mul_pos hb hp
  have hq : a / b * b = a := Rat.div_mul_cancel (by grind)
  intro L H hL hH h1 h2
  refine div_within hu hv ?_ hL hH ?_ ?_
  · rw [← Rat.intCast_lt_intCast, e']; exact hbu
  · rw [← Rat.intCast_le_intCast, Rat.intCast_mul, Rat.intCast_mul, e, e', Rat.intCast_natCast]
    have := Rat.mul_le_mul_of_nonneg_right h1 (Rat.le_of_lt hbu)
    generalize (unit k : Rat) = U at *
    generalize a / b = q at *
    subst hq
    grind
  · rw [← Rat.intCast_le_intCast, Rat.intCast_mul, Rat.intCast_mul, e, e', Rat.intCast_natCast]
    have := Rat.mul_le_mul_of_nonneg_right h2 (Rat.le_of_lt hbu)
    generalize (unit k : Rat) = U at *
    generalize a / b = q at *
    subst hq
    grind
end
theorem unit_wide : (unit .f64 : Rat) = (unit .f32 : Nat) * (w925 : Nat) := by
  rw [← Rat.natCast_mul, unit64, unit32, w925_pw, pw_1074]
theorem rv_wid {x : Option Nat} {a : Rat} (hx : RV .f32 x a) : RV .f64 (wid x) a := by
  obtain ⟨u, hu, e⟩ := hx
  refine ⟨_, wid_isV hu, ?_⟩
  rw [Rat.intCast_mul, e, unit_wide, Rat.intCast_natCast]
  grind
theorem wn_nar {x : Option Nat} {a : Rat} (hx : RV .f64 x a) : Wn .f32 (nar x) a := by
  obtain ⟨u, hu, e⟩ := hx
  have hp : (0 : Rat) < (w925 : Nat) := Rat.natCast_pos.2 w925_pos
  rw [unit_wide] at e
  intro L H hL hH h1 h2
  refine nar_within hu hL hH ?_ ?_
  · rw [← Rat.intCast_le_intCast, Rat.intCast_mul, e, Rat.intCast_natCast]
    have := Rat.mul_le_mul_of_nonneg_right h1 (Rat.le_of_lt hp)
    grind
  · rw [← Rat.intCast_le_intCast, Rat.intCast_mul, e, Rat.intCast_natCast]
    have := Rat.mul_le_mul_of_nonneg_right h2 (Rat.le_of_lt hp)
    grind

/-! ### How far -/
theorem pickj (M : Rat) (B : Nat) (J : Nat) (h : M ≤ 2 * (B : Nat) * ((2 ^ J : Nat) : Rat)) : ∃ j, j ≤ J ∧ M ≤ 2 * (B : Nat) * ((2 ^ j : Nat) : Rat) ∧ (j = 0 ∨ (B : Nat) * ((2 ^ j : Nat) : Rat) ≤ M) := by
  induction J with
  | zero => exact ⟨0, Nat.le_refl _, h, Or.inl rfl⟩
  | succ J ih =>
    by_cases c : M ≤ 2 * (B : Nat) * ((2 ^ J : Nat) : Rat)
    · obtain ⟨j, h1, h2⟩ := ih c
      exact ⟨j, by omega, h2⟩
    · refine ⟨J + 1, Nat.le_refl _, h, Or.inr ?_⟩
      rw [show (2 ^ (J + 1) : Nat) = 2 ^ J * 2 from Nat.pow_succ .., Rat.natCast_mul]
      have : ((2 : Nat) : Rat) = 2 := rfl
      grind
theorem rep_bin (k : FloatKind) (K : Int) (j : Nat) (hK : K.natAbs ≤ 2 * k.format.binade) (hj : j + 4 ≤ 2 ^ k.format.exponentBits) : Rep k.format (K * ((2 ^ j : Nat) : Int)) := by
  have hb := bnd_pos k.format
  have key : ∀ n : Nat, n ≤ 2 * k.format.binade → Rep k.format ((n * 2 ^ j : Nat) : Int) := by
    intro n hn
    by_cases e : n = 2 * k.format.binade
    · have := rep_of k.format (fb_pos k) k.format.binade (j + 1) (by omega) (by omega)
      rw [show n * 2 ^ j = k.format.binade * 2 ^ (j + 1) by rw [e, Nat.pow_succ]; ac_rfl]
      exact this
    · exact rep_of k.format (fb_pos k) n j (by omega) (by omega)
  have h := key K.natAbs hK
  rw [Int.natCast_mul] at h
  rcases Int.natAbs_eq K with hs | hs
  · rw [hs]; exact h
  · rw [hs, Int.neg_mul]; exact rep_neg _ h
theorem near {k : FloatKind} {x : Option Nat} {z : Rat} (h : Wn k x z) (M : Rat) (J : Nat) (hJ : J + 4 ≤ 2 ^ k.format.exponentBits) (hM : M * (unit k : Nat) ≤ 2 * (k.format.binade : Nat) * ((2 ^ J : Nat) : Rat)) (h1 : -M ≤ z) (h2 : z ≤ M) :
    ∃ r, RV k x r ∧ (z ≤ 0 → r ≤ 0) ∧ (0 ≤ z → 0 ≤ r) ∧ (r - z) * (k.format.binade : Nat) * (unit k : Nat) ≤ M * (unit k : Nat) + (k.format.binade : Nat) ∧ (z - r) * (k.format.binade : Nat) * (unit k : Nat) ≤ M * (unit k : Nat) + (k.format.binade : Nat) := by
  have hu := unit_pos k
  have hB : (0 : Rat) < (k.format.binade : Nat) := Rat.natCast_pos.2 (bnd_pos _)
  obtain ⟨j, hj, h3, h4⟩ := pickj (M * (unit k : Nat)) k.format.binade J hM
  have hP : (0 : Rat) < ((2 ^ j : Nat) : Rat) := Rat.natCast_pos.2 (Nat.two_pow_pos j)
  have hP1 : (2 ^ j : Nat) = 1 ∨ (k.format.binade : Nat) * ((2 ^ j : Nat) : Rat) ≤ M * (unit k : Nat) := by
    rcases h4 with rfl | h4
    · exact Or.inl rfl
    · exact Or.inr h4
  have hz1 : -(M * (unit k : Nat)) ≤ z * (unit k : Nat) := by
    have := Rat.mul_le_mul_of_nonneg_right h1 (Rat.le_of_lt hu)
    grind
  have hz2 : z * (unit k : Nat) ≤ M * (unit k : Nat) := Rat.mul_le_mul_of_nonneg_right h2 (Rat.le_of_lt hu)
  have hj4 : j + 4 ≤ 2 ^ k.format.exponentBits := by omega
  have hrep := fun K hK => rep_bin k K j hK hj4
  generalize hPe : (2 ^ j : Nat) = P at *
  generalize hBe : k.format.binade = B at *
  generalize hZ : z * (unit k : Nat) = Z at *
  -- the place below
  have hd : Z / (P : Rat) * (P : Rat) = Z := Rat.div_mul_cancel (by grind)
  have q1 : -(2 * (B : Rat)) ≤ Z / (P : Rat) := Rat.le_of_mul_le_mul_right (c := (P : Rat)) (by rw [hd]; grind) hP
  have q2 : Z / (P : Rat) ≤ 2 * (B : Rat) := Rat.le_of_mul_le_mul_right (c := (P : Rat)) (by rw [hd]; grind) hP
  have f1 := Rat.floor_le (Z / (P : Rat))
  have f2 := Rat.lt_floor_add_one (Z / (P : Rat))
  have f3 : -(2 * (B : Int)) ≤ (Z / (P : Rat)).floor := by
    rw [Rat.le_floor_iff]
    have : ((-(2 * (B : Int)) : Int) : Rat) = -(2 * (B : Rat)) := by
      rw [Rat.intCast_neg, Rat.intCast_mul, Rat.intCast_natCast]; rfl
    rw [this]; exact q1
  have f4 : (Z / (P : Rat)).floor ≤ 2 * (B : Int) := by
    rw [← Rat.intCast_le_intCast]
    have : (((2 * (B : Int)) : Int) : Rat) = (2 * (B : Rat)) := by
      rw [Rat.intCast_mul, Rat.intCast_natCast]; rfl
    rw [this]; exact Rat.le_trans f1 q2
  rw [Rat.intCast_add] at f2
  generalize hq : Z / (P : Rat) = q at *
  generalize hF : q.floor = F at *
  have hBpos : 0 < B := by rw [← hBe]; exact bnd_pos _
  have hone : ((1 : Int) : Rat) = 1 := rfl
  obtain ⟨K, k1, k2, k3, k4⟩ : ∃ K : Int, K.natAbs ≤ 2 * B ∧ (K + 1).natAbs ≤ 2 * B ∧ (K : Rat) ≤ q ∧ q ≤ (K : Rat) + 1 := by
    by_cases c : F = 2 * (B : Int)
    · refine ⟨F - 1, by omega, by omega, ?_, ?_⟩
      · rw [Rat.intCast_sub]; grind
      · have : (F : Rat) = 2 * (B : Rat) := by rw [c, Rat.intCast_mul, Rat.intCast_natCast]; rfl
        rw [Rat.intCast_sub]; grind
    · exact ⟨F, by omega, by omega, f1, by grind⟩
  have e1 : ((K * (P : Int) : Int) : Rat) = (K : Rat) * (P : Rat) := by rw [Rat.intCast_mul, Rat.intCast_natCast]
  have e2 : (((K + 1) * (P : Int) : Int) : Rat) = ((K : Rat) + 1) * (P : Rat) := by rw [Rat.intCast_mul, Rat.intCast_natCast, Rat.intCast_add]; rfl
  have g1 := Rat.mul_le_mul_of_nonneg_right k3 (Rat.le_of_lt hP)
  have g2 := Rat.mul_le_mul_of_nonneg_right k4 (Rat.le_of_lt hP)
  rw [hd] at g1 g2
  obtain ⟨v, hv, v1, v2⟩ := h _ _ (hrep K k1) (hrep (K + 1) k2) (by rw [e1, hZ]; exact g1) (by rw [e2, hZ]; exact g2)
  have s1 : Z ≤ 0 → v ≤ 0 := fun hz => by
    obtain ⟨u, hu1, _, hu2⟩ := h _ 0 (hrep K k1) (rep_zero k) (by rw [e1, hZ]; exact g1) (by rw [hZ]; exact hz)
    obtain rfl := hu1.val hv
    exact hu2
  have s2 : 0 ≤ Z → 0 ≤ v := fun hz => by
    obtain ⟨u, hu1, hu2, _⟩ := h 0 _ (rep_zero k) (hrep (K + 1) k2) (by rw [hZ]; exact hz) (by rw [e2, hZ]; exact g2)
    obtain rfl := hu1.val hv
    exact hu2
  rw [← Rat.intCast_le_intCast] at s1 s2
  rw [← Rat.intCast_le_intCast, e1] at v1
  rw [← Rat.intCast_le_intCast, e2] at v2
  have hr := RV.of hv
  have hc : (v : Rat) / (unit k : Nat) * (unit k : Nat) = (v : Rat) := Rat.div_mul_cancel (by grind)
  refine ⟨_, hr, ?_⟩
  generalize (v : Rat) / (unit k : Nat) = r at *
  generalize (v : Rat) = V at *
  have d1 : V - Z ≤ (P : Rat) := by grind
  have d2 : Z - V ≤ (P : Rat) := by grind
  have d3 := Rat.mul_le_mul_of_nonneg_right d1 (Rat.le_of_lt hB)
  have d4 := Rat.mul_le_mul_of_nonneg_right d2 (Rat.le_of_lt hB)
  have d5 : (B : Rat) * (P : Rat) ≤ M * (unit k : Nat) + B := by
    have hMu : 0 ≤ M * (unit k : Nat) := by grind
    rcases hP1 with hP1 | hP1
    · subst hP1
      have : ((1 : Nat) : Rat) = 1 := rfl
      grind
    · grind
  have z0 : ((0 : Int) : Rat) = 0 := rfl
  rw [z0] at s1 s2
  refine ⟨fun hz => ?_, fun hz => ?_, ?_, ?_⟩
  · have := Rat.mul_le_mul_of_nonneg_right hz (Rat.le_of_lt hu)
    have := s1 (by grind)
    exact Rat.le_of_mul_le_mul_right (c := (unit k : Nat)) (by grind) hu
  · have := Rat.mul_le_mul_of_nonneg_right hz (Rat.le_of_lt hu)
    have := s2 (by grind)
    exact Rat.le_of_mul_le_mul_right (c := (unit k : Nat)) (by grind) hu
  · have : (r - z) * (B : Rat) * (unit k : Nat) = (V - Z) * (B : Rat) := by rw [← hc, ← hZ]; grind
    rw [this]; grind
  · have : (z - r) * (B : Rat) * (unit k : Nat) = (Z - V) * (B : Rat) := by rw [← hc, ← hZ]; grind
    rw [this]; grind

/-! ## Near -/
def tiny : Rat := 1 / 1000000000000000000000000000000
theorem tiny_eq : tiny = 1 / 1000000000000000000000000000000 := rfl
theorem unit32_rat : ((unit .f32 : Nat) : Rat) = 713623846352979940529142984724747568191373312 := by
  rw [show unit .f32 = 713623846352979940529142984724747568191373312 from by decide]; rfl
theorem binade32_rat : ((FloatKind.f32.format.binade : Nat) : Rat) = 8388608 := by
  rw [show FloatKind.f32.format.binade = 8388608 from by decide]; rfl
theorem binade64_rat : ((FloatKind.f64.format.binade : Nat) : Rat) = 4503599627370496 := by
  rw [show FloatKind.f64.format.binade = 4503599627370496 from by decide]; rfl
theorem near_of {k : FloatKind} {x : Option Nat} {z : Rat} (h : Wn k x z) (M : Rat) (U B : Rat) (J : Nat) (hU : ((unit k : Nat) : Rat) = U) (hB : ((k.format.binade : Nat) : Rat) = B) (hJ : J + 4 ≤ 2 ^ k.format.exponentBits) (hM : M * U ≤ 2 * B * ((2 ^ J : Nat) : Rat)) (hu : 0 < U) (hb : 0 < B) (ht : 1 ≤ tiny * U) (h1 : -M ≤ z) (h2 : z ≤ M) :
    ∃ r, RV k x r ∧ (z ≤ 0 → r ≤ 0) ∧ (0 ≤ z → 0 ≤ r) ∧ r ≤ z + (M / B + tiny) ∧ z ≤ r + (M / B + tiny) := by
  obtain ⟨r, hr, s1, s2, e1, e2⟩ := near h M J hJ (by rw [hU, hB]; exact hM) h1 h2
  rw [hU, hB] at e1 e2
  have hq : M / B * B = M := Rat.div_mul_cancel (by grind)
  have hBU : 0 < B * U := Rat.mul_pos hb hu
  have ht2 : B ≤ tiny * (B * U) := by
    have := Rat.mul_le_mul_of_nonneg_left ht (Rat.le_of_lt hb)
    grind
  generalize M / B = Q at *
  generalize tiny = T at *
  refine ⟨r, hr, s1, s2, ?_, ?_⟩
  · refine Rat.le_of_mul_le_mul_right (c := B * U) ?_ hBU
    subst hq
    grind
  · refine Rat.le_of_mul_le_mul_right (c := B * U) ?_ hBU
    subst hq
    grind
theorem near32 {x : Option Nat} {z : Rat} (h : Wn .f32 x z) (M : Rat) (hM : M ≤ 1000000000000) (h1 : -M ≤ z) (h2 : z ≤ M) :
    ∃ r, RV .f32 x r ∧ (z ≤ 0 → r ≤ 0) ∧ (0 ≤ z → 0 ≤ r) ∧ r ≤ z + (M / 8388608 + tiny) ∧ z ≤ r + (M / 8388608 + tiny) :=
  near_of h M _ _ 170 unit32_rat binade32_rat (by decide) (by
    have : ((2 ^ 170 : Nat) : Rat) = 1496577676626844588240573268701473812127674924007424 := by rw [show (2 ^ 170 : Nat) = 1496577676626844588240573268701473812127674924007424 from by decide]; rfl
    rw [this]; grind) (by grind) (by grind) (by rw [tiny_eq]; grind) h1 h2
def U64 : Nat := unit .f64
theorem near64 {x : Option Nat} {z : Rat} (h : Wn .f64 x z) (M : Rat) (hM : M ≤ 1000000000000) (h1 : -M ≤ z) (h2 : z ≤ M) :
    ∃ r, RV .f64 x r ∧ (z ≤ 0 → r ≤ 0) ∧ (0 ≤ z → 0 ≤ r) ∧ r ≤ z + (M / 4503599627370496 + tiny) ∧ z ≤ r + (M / 4503599627370496 + tiny) := by
  have hw : (1 : Rat) ≤ (w925 : Nat) := by
    have : 1 ≤ w925 := w925_pos
    have := Rat.natCast_le_natCast.2 this
    exact this
  have hU : ((unit .f64 : Nat) : Rat) = 713623846352979940529142984724747568191373312 * (w925 : Nat) := by rw [unit_wide, unit32_rat]
  obtain ⟨J, hJ⟩ : ∃ J, J = e925 + 170 := ⟨_, rfl⟩
  have hP : ((2 ^ J : Nat) : Rat) = (w925 : Nat) * 1496577676626844588240573268701473812127674924007424 := by
    rw [hJ, Nat.pow_add, Rat.natCast_mul, show (2 ^ 170 : Nat) = 1496577676626844588240573268701473812127674924007424 from by decide]; rfl
  have hJ4 : J + 4 ≤ 2 ^ FloatKind.f64.format.exponentBits := by
    rw [show 2 ^ FloatKind.f64.format.exponentBits = 2048 from by decide, hJ, ← e925_eq]; decide
  clear hJ
  refine near_of h M _ _ J hU binade64_rat hJ4 (by
    rw [hP]
    have := Rat.mul_le_mul_of_nonneg_right hM (show (0 : Rat) ≤ (w925 : Nat) by grind)
    generalize ((w925 : Nat) : Rat) = W at *
    grind) (by grind) (by grind) (by
    rw [tiny_eq]
    generalize ((w925 : Nat) : Rat) = W at *
    grind) h1 h2
/-- Between whole numbers. -/
theorem rep_whole (k : FloatKind) (n : Int) (hn : n.natAbs < 16777216) : Rep k.format (n * (unit k : Int)) := by
  cases k with
  | f32 => exact (isV_ofInt32 n hn).rep
  | f64 => exact (isV_ofInt64 n (by omega)).rep
theorem wn_between {k : FloatKind} {x : Option Nat} {z : Rat} (h : Wn k x z) (n m : Int) (hn : n.natAbs < 16777216) (hm : m.natAbs < 16777216) (h1 : (n : Rat) ≤ z) (h2 : z ≤ (m : Rat)) : ∃ r, RV k x r ∧ (n : Rat) ≤ r ∧ r ≤ (m : Rat) := by
  have hu := unit_pos k
  have e1 : ((n * (unit k : Int) : Int) : Rat) = (n : Rat) * (unit k : Nat) := by rw [Rat.intCast_mul, Rat.intCast_natCast]
  have e2 : ((m * (unit k : Int) : Int) : Rat) = (m : Rat) * (unit k : Nat) := by rw [Rat.intCast_mul, Rat.intCast_natCast]
  obtain ⟨v, hv, v1, v2⟩ := h _ _ (rep_whole k n hn) (rep_whole k m hm) (by rw [e1]; exact Rat.mul_le_mul_of_nonneg_right h1 (Rat.le_of_lt hu)) (by rw [e2]; exact Rat.mul_le_mul_of_nonneg_right h2 (Rat.le_of_lt hu))
  rw [← Rat.intCast_le_intCast, e1] at v1
  rw [← Rat.intCast_le_intCast, e2] at v2
  have hc : (v : Rat) / (unit k : Nat) * (unit k : Nat) = (v : Rat) := Rat.div_mul_cancel (by grind)
  refine ⟨_, RV.of hv, ?_, ?_⟩
  · exact Rat.le_of_mul_le_mul_right (c := (unit k : Nat)) (by rw [hc]; exact v1) hu
  · exact Rat.le_of_mul_le_mul_right (c := (unit k : Nat)) (by rw [hc]; exact v2) hu
/-- An exact number is not rounded. -/
theorem wn_exact {k : FloatKind} {x : Option Nat} {z : Rat} (h : Wn k x z) (V : Int) (hV : Rep k.format V) (e : (V : Rat) = z * (unit k : Nat)) : RV k x z := by
  obtain ⟨v, hv, v1, v2⟩ := h V V hV hV (by rw [e]; exact Rat.le_refl) (by rw [e]; exact Rat.le_refl)
  obtain rfl : v = V := by omega
  exact ⟨v, hv, e⟩
/-- What has the value of one that the format has. -/
theorem wn_same {k : FloatKind} {x y : Option Nat} {z : Rat} (h : Wn k x z) (hy : RV k y z) : RV k x z := by
  obtain ⟨v, hv, e⟩ := hy
  exact wn_exact h v hv.rep e

/-! ## ExpR -/
/-! ### Small laws on rationals -/
theorem abs_mul_le {a b α β : Rat} (a1 : -α ≤ a) (a2 : a ≤ α) (b1 : -β ≤ b) (b2 : b ≤ β) : -(α * β) ≤ a * b ∧ a * b ≤ α * β := by
  have p1 := Rat.mul_nonneg (show 0 ≤ α - a by grind) (show 0 ≤ β + b by grind)
  have p2 := Rat.mul_nonneg (show 0 ≤ α + a by grind) (show 0 ≤ β - b by grind)
  have p3 := Rat.mul_nonneg (show 0 ≤ α - a by grind) (show 0 ≤ β - b by grind)
  have p4 := Rat.mul_nonneg (show 0 ≤ α + a by grind) (show 0 ≤ β + b by grind)
  constructor <;> grind
theorem le_of_mul_ge_one {x k c : Rat} (hk : 1 ≤ k) (hc : 0 ≤ c) (h : x * k ≤ c) : x ≤ c := by
  by_cases hx : x ≤ 0
  · grind
  · have := Rat.mul_nonneg (show 0 ≤ x by grind) (show 0 ≤ k - 1 by grind)
    grind
theorem div_le_c {m k c : Rat} (hk : 1 ≤ k) (hc : 0 ≤ c) (h : m ≤ c) : m / k ≤ c :=
  le_of_mul_ge_one hk hc (by rw [Rat.div_mul_cancel (by grind)]; exact h)
theorem div_ge_c {m k c : Rat} (hk : 1 ≤ k) (hc : 0 ≤ c) (h : -c ≤ m) : -c ≤ m / k := by
  have : -(m / k) ≤ c := le_of_mul_ge_one hk hc (by
    have := Rat.div_mul_cancel (a := m) (b := k) (by grind)
    grind)
  grind
theorem div_nonpos {m k : Rat} (hk : 1 ≤ k) (h : m ≤ 0) : m / k ≤ 0 := div_le_c hk (by grind) h
theorem div_nonneg {m k : Rat} (hk : 1 ≤ k) (h : 0 ≤ m) : 0 ≤ m / k := by
  have := div_ge_c (m := m) (c := 0) hk (by grind) (by grind)
  grind
/-! ### The series -/
def expT (τ : Rat) : Nat → Rat
  | 0 => 1
  | j + 1 => 1 + τ * expT τ j / ((12 - (j : Int) : Int) : Rat)
theorem expT_next (τ : Rat) (j : Nat) : expT τ (j + 1) = 1 + τ * expT τ j / ((12 - (j : Int) : Int) : Rat) := rfl
theorem cnt_one (j : Nat) (hj : j < 12) : (1 : Rat) ≤ ((12 - (j : Int) : Int) : Rat) := by
  have : (1 : Int) ≤ 12 - (j : Int) := by omega
  have := Rat.intCast_le_intCast.2 this
  exact this
theorem expT_bd {τ : Rat} (h1 : -(1 / 32) ≤ τ) (h2 : τ ≤ 0) (j : Nat) (hj : j ≤ 12) : 1 + τ ≤ expT τ j ∧ expT τ j ≤ 1 := by
  induction j with
  | zero => exact ⟨by show 1 + τ ≤ 1; grind, by show (1 : Rat) ≤ 1; grind⟩
  | succ j ih =>
    obtain ⟨i1, i2⟩ := ih (by omega)
    have hk := cnt_one j (by omega)
    rw [expT_next]
    have p1 := Rat.mul_nonneg (show 0 ≤ -τ by grind) (show 0 ≤ expT τ j by grind)
    have p2 := Rat.mul_nonneg (show 0 ≤ -τ by grind) (show 0 ≤ 1 - expT τ j by grind)
    have q1 := div_nonpos (m := τ * expT τ j) hk (by grind)
    have q2 := div_ge_c (m := τ * expT τ j) (c := -τ) hk (by grind) (by grind)
    generalize τ * expT τ j / ((12 - (j : Int) : Int) : Rat) = q at *
    constructor <;> grind
/-- It rises, and no faster than its argument. -/
theorem expT_mono {σ τ : Rat} (h1 : -(1 / 32) ≤ σ) (h2 : σ ≤ τ) (h3 : τ ≤ 0) (j : Nat) (hj : j ≤ 12) : expT σ j ≤ expT τ j ∧ expT τ j ≤ expT σ j + (τ - σ) := by
  induction j with
  | zero => exact ⟨by show (1 : Rat) ≤ 1; grind, by show (1 : Rat) ≤ 1 + _; grind⟩
  | succ j ih =>
    obtain ⟨i1, i2⟩ := ih (by omega)
    obtain ⟨t1, t2⟩ := expT_bd (τ := τ) (by grind) h3 j (by omega)
    have hk := cnt_one j (by omega)
    rw [expT_next, expT_next]
    have e : τ * expT τ j - σ * expT σ j = (τ - σ) * expT τ j + σ * (expT τ j - expT σ j) := by grind
    have p1 := Rat.mul_nonneg (show 0 ≤ τ - σ by grind) (show 0 ≤ 1 - expT τ j by grind)
    have p2 := Rat.mul_nonneg (show 0 ≤ τ - σ by grind) (show 0 ≤ expT τ j - 31 / 32 by grind)
    have p3 := Rat.mul_nonneg (show 0 ≤ -σ by grind) (show 0 ≤ expT τ j - expT σ j by grind)
    have p4 := Rat.mul_nonneg (show 0 ≤ σ + 1 / 32 by grind) (show 0 ≤ expT τ j - expT σ j by grind)
    have q1 := div_nonneg (m := τ * expT τ j - σ * expT σ j) hk (by rw [e]; grind)
    have q2 := div_le_c (m := τ * expT τ j - σ * expT σ j) (c := τ - σ) hk (by grind) (by rw [e]; grind)
    have s : (τ * expT τ j - σ * expT σ j) / ((12 - (j : Int) : Int) : Rat) = τ * expT τ j / ((12 - (j : Int) : Int) : Rat) - σ * expT σ j / ((12 - (j : Int) : Int) : Rat) := by
      rw [Rat.div_def, Rat.div_def, Rat.div_def]; grind
    rw [s] at q1 q2
    generalize τ * expT τ j / ((12 - (j : Int) : Int) : Rat) = x at *
    generalize σ * expT σ j / ((12 - (j : Int) : Int) : Rat) = y at *
    constructor <;> grind
theorem expT_near {σ τ c : Rat} (h1 : -(1 / 32) ≤ σ) (h2 : σ ≤ 0) (h3 : -(1 / 32) ≤ τ) (h4 : τ ≤ 0) (hc : 0 ≤ c) (h : σ ≤ τ + c) : expT σ 12 ≤ expT τ 12 + c := by
  by_cases h5 : σ ≤ τ
  · have := (expT_mono h1 h5 h4 12 (by omega)).1
    grind
  · have := (expT_mono h3 (show τ ≤ σ by grind) h2 12 (by omega)).2
    grind
def sqn (q : Rat) : Nat → Rat
  | 0 => q
  | j + 1 => sqn q j * sqn q j
theorem sqn_next (q : Rat) (j : Nat) : sqn q (j + 1) = sqn q j * sqn q j := rfl
theorem sqn_bd {q : Rat} (h0 : 0 ≤ q) (h1 : q ≤ 1) (j : Nat) : 0 ≤ sqn q j ∧ sqn q j ≤ 1 := by
  induction j with
  | zero => exact ⟨h0, h1⟩
  | succ j ih =>
    rw [sqn_next]
    have p1 := Rat.mul_nonneg ih.1 ih.1
    have p2 := Rat.mul_nonneg ih.1 (show 0 ≤ 1 - sqn q j by grind)
    constructor <;> grind
theorem sq_near {p q c : Rat} (p0 : 0 ≤ p) (p1 : p ≤ 1) (q0 : 0 ≤ q) (q1 : q ≤ 1) (hc : 0 ≤ c) (h : p ≤ q + c) : p * p ≤ q * q + 2 * c := by
  by_cases h2 : p ≤ q
  · have a1 := Rat.mul_nonneg (show 0 ≤ q - p by grind) (show 0 ≤ q + p by grind)
    grind
  · have a1 := Rat.mul_nonneg (show 0 ≤ p - q by grind) (show 0 ≤ 2 - (p + q) by grind)
    grind
theorem sqn_near {p q c : Rat} (p0 : 0 ≤ p) (p1 : p ≤ 1) (q0 : 0 ≤ q) (q1 : q ≤ 1) (hc : 0 ≤ c) (h : p ≤ q + c) : sqn p 8 ≤ sqn q 8 + 256 * c := by
  have st : ∀ j d, 0 ≤ d → sqn p j ≤ sqn q j + d → sqn p (j + 1) ≤ sqn q (j + 1) + 2 * d := fun j d hd hh =>
    sq_near (sqn_bd p0 p1 j).1 (sqn_bd p0 p1 j).2 (sqn_bd q0 q1 j).1 (sqn_bd q0 q1 j).2 hd hh
  have a0 : sqn p 0 ≤ sqn q 0 + c := h
  have a1 := st 0 _ hc a0
  have a2 := st 1 _ (by grind) a1
  have a3 := st 2 _ (by grind) a2
  have a4 := st 3 _ (by grind) a3
  have a5 := st 4 _ (by grind) a4
  have a6 := st 5 _ (by grind) a5
  have a7 := st 6 _ (by grind) a6
  have a8 := st 7 _ (by grind) a7
  have : 2 * (2 * (2 * (2 * (2 * (2 * (2 * (2 * c))))))) = 256 * c := by grind
  rw [this] at a8
  exact a8
theorem sqn_mono {p q : Rat} (p0 : 0 ≤ p) (h : p ≤ q) (j : Nat) : 0 ≤ sqn p j ∧ sqn p j ≤ sqn q j := by
  induction j with
  | zero => exact ⟨p0, h⟩
  | succ j ih =>
    rw [sqn_next, sqn_next]
    have p1 := Rat.mul_nonneg ih.1 ih.1
    have p2 := Rat.mul_nonneg (show 0 ≤ sqn q j - sqn p j by grind) (show 0 ≤ sqn q j + sqn p j by grind)
    constructor <;> grind
theorem sqn_least : (1 : Rat) / 27 ≤ sqn (78 / 79) 8 := by decide +kernel
/-! ### The floats -/
def e1 : Rat := 1 / 1125899906842624
theorem e1_eq : e1 = 1 / 1125899906842624 := rfl
theorem rv_one64 : RV .f64 (some 4607182418800017408) 1 := by
  have := rv_ofInt64 1 (by decide)
  rwa [show floatOfInt .f64 1 = 4607182418800017408 from by decide] at this
theorem rv_k64 (n : Int) (h : n.natAbs < 9007199254740992) : RV .f64 (k64 n) (n : Rat) := rv_ofInt64 n h
theorem exP_near {t : Option Nat} {τ : Rat} (ht : RV .f64 t τ) (h1 : -(1 / 32) ≤ τ) (h2 : τ ≤ 0) (j : Nat) (hj : j ≤ 12) : ∃ P, RV .f64 (exP t j) P ∧ P ≤ expT τ j + e1 ∧ expT τ j ≤ P + e1 := by
  induction j with
  | zero => exact ⟨1, rv_one64, by show (1 : Rat) ≤ 1 + e1; rw [e1_eq]; grind, by show (1 : Rat) ≤ 1 + e1; rw [e1_eq]; grind⟩
  | succ j ih =>
    obtain ⟨P, hP, i1, i2⟩ := ih (by omega)
    obtain ⟨t1, t2⟩ := expT_bd h1 h2 j (by omega)
    have hk := cnt_one j (by omega)
    rw [exP_next, expT_next]
    generalize expT τ j = T at *
    have hke := rv_k64 (12 - (j : Int)) (by omega)
    generalize hkk : ((12 - (j : Int) : Int) : Rat) = k at *
    rw [e1_eq] at *
    obtain ⟨b1, b2⟩ := abs_mul_le (a := τ) (b := P) (α := 1 / 32) (β := 2) (by grind) (by grind) (by grind) (by grind)
    obtain ⟨m, hm, -, -, m1, m2⟩ := near64 (wn_mul ht hP) (1 / 16) (by grind) (by grind) (by grind)
    rw [tiny_eq] at *
    have d1 := div_ge_c (m := m) (c := 1 / 8) hk (by grind) (by grind)
    have d2 := div_le_c (m := m) (c := 1 / 8) hk (by grind) (by grind)
    obtain ⟨δ, hδ, -, -, e1', e2'⟩ := near64 (wn_div hm hke (by grind)) (1 / 8) (by grind) d1 d2
    obtain ⟨r, hr, -, -, r1, r2⟩ := near64 (wn_add rv_one64 hδ) 2 (by grind) (by rw [tiny_eq] at *; grind) (by rw [tiny_eq] at *; grind)
    rw [tiny_eq] at *
    obtain ⟨c1, c2⟩ := abs_mul_le (a := τ) (b := P - T) (α := 1 / 32) (β := 1 / 1125899906842624) (by grind) (by grind) (by grind) (by grind)
    have g1 := div_le_c (m := m - τ * T) (c := 1 / 16000000000000000) hk (by grind) (by grind)
    have g2 := div_ge_c (m := m - τ * T) (c := 1 / 16000000000000000) hk (by grind) (by grind)
    have s : (m - τ * T) / k = m / k - τ * T / k := by rw [Rat.div_def, Rat.div_def, Rat.div_def]; grind
    rw [s] at g1 g2
    refine ⟨r, hr, ?_, ?_⟩
    · generalize τ * T / k = x at *
      generalize m / k = y at *
      grind
    · generalize τ * T / k = x at *
      generalize m / k = y at *
      grind
def eS : Nat → Rat
  | 0 => e1
  | j + 1 => 3 * eS j
theorem eS_bd : ∀ j, j < 9 → e1 ≤ eS j ∧ eS j ≤ 1 / 100000000000 := by decide +kernel
theorem exS_near {p : Option Nat} {v Q : Rat} (hp : RV .f64 p v) (h1 : v ≤ Q + e1) (h2 : Q ≤ v + e1) (q0 : 0 ≤ Q) (q1 : Q ≤ 1) (j : Nat) (hj : j ≤ 8) : ∃ u, RV .f64 (exS p j) u ∧ u ≤ sqn Q j + eS j ∧ sqn Q j ≤ u + eS j := by
  induction j with
  | zero => exact ⟨v, hp, h1, h2⟩
  | succ j ih =>
    obtain ⟨u, hu, u1, u2⟩ := ih (by omega)
    obtain ⟨s0, s1⟩ := sqn_bd q0 q1 j
    have hb := eS_bd j (by omega)
    rw [exS_next, sqn_next, show eS (j + 1) = 3 * eS j from rfl]
    generalize sqn Q j = S at *
    generalize eS j = ε at *
    rw [e1_eq] at hb
    obtain ⟨b1, b2⟩ := abs_mul_le (a := u) (b := u) (α := 5 / 4) (β := 5 / 4) (by grind) (by grind) (by grind) (by grind)
    obtain ⟨r, hr, -, -, r1, r2⟩ := near64 (wn_mul hu hu) 2 (by grind) (by grind) (by grind)
    rw [tiny_eq] at *
    obtain ⟨c1, c2⟩ := abs_mul_le (a := u - S) (b := u + S) (α := ε) (β := 2 + 1 / 4) (by grind) (by grind) (by grind) (by grind)
    exact ⟨r, hr, by grind, by grind⟩
def expR (τ : Rat) : Rat := sqn (expT τ 12) 8
def e2 : Rat := 1 / 100000000000
theorem rv_c256 : RV .f64 (some 4643211215818981376) 256 := by
  have := rv_ofInt64 256 (by decide)
  rwa [show floatOfInt .f64 256 = 4643211215818981376 from by decide] at this
/-- The computed exponential in 64 bits. -/
theorem exM_near {y : Option Nat} {η : Rat} (hy : RV .f64 y η) (h1 : -4 ≤ η) (h2 : η ≤ 0) : ∃ v τ, RV .f64 (exM y) v ∧ -(1 / 32) ≤ τ ∧ τ ≤ 0 ∧ τ ≤ η / 256 + e1 ∧ η / 256 ≤ τ + e1 ∧ v ≤ expR τ + e2 ∧ expR τ ≤ v + e2 := by
  obtain ⟨τ, hτ, n0, -, t1, t2⟩ := near64 (wn_div hy rv_c256 (by grind)) (1 / 64) (by grind) (by grind) (by grind)
  have hτ0 := n0 (by grind)
  rw [tiny_eq] at *
  have hl : -(1 / 32) ≤ τ := by grind
  obtain ⟨P, hP, p1, p2⟩ := exP_near hτ hl hτ0 12 (by omega)
  obtain ⟨b1, b2⟩ := expT_bd hl hτ0 12 (by omega)
  obtain ⟨u, hu, u1, u2⟩ := exS_near hP p1 p2 (by grind) b2 8 (by omega)
  have hb := (eS_bd 8 (by omega)).2
  refine ⟨u, τ, hu, hl, hτ0, by rw [e1_eq]; grind, by rw [e1_eq]; grind, ?_, ?_⟩
  · unfold expR e2; grind
  · unfold expR e2; grind
theorem expR_bd {τ : Rat} (h1 : -(1 / 79) ≤ τ) (h2 : τ ≤ 0) : 1 / 27 ≤ expR τ ∧ expR τ ≤ 1 := by
  obtain ⟨b1, b2⟩ := expT_bd (τ := τ) (by grind) h2 12 (by omega)
  have := (sqn_mono (p := 78 / 79) (q := expT τ 12) (by grind) (by grind) 8).2
  exact ⟨Rat.le_trans sqn_least this, (sqn_bd (by grind) b2 8).2⟩
theorem expR_near {σ τ c : Rat} (h1 : -(1 / 32) ≤ σ) (h2 : σ ≤ 0) (h3 : -(1 / 32) ≤ τ) (h4 : τ ≤ 0) (hc : 0 ≤ c) (h : σ ≤ τ + c) : expR σ ≤ expR τ + 256 * c := by
  have a := expT_bd h1 h2 12 (by omega)
  have b := expT_bd h3 h4 12 (by omega)
  exact sqn_near (by grind) a.2 (by grind) b.2 hc (expT_near h1 h2 h3 h4 hc h)
end Go.Proofs.Ytkgbbagklkffpaa
