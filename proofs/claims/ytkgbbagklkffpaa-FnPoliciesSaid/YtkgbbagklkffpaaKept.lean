/- How likely one survives: the model; it lies from 0 to 1, and never rises on a grid. No program in sight. -/
import Derived.Test.YtkgbbagklkffpaaLgB
import Derived.Test.YtkgbbagklkffpaaExpG
namespace Go.Proofs.Ytkgbbagklkffpaa
open Go.RowKit

theorem rv_one32 : RV .f32 (some 1065353216) 1 := by
  have := rv_ofInt32 1 (by decide)
  rwa [show floatOfInt .f32 1 = 1065353216 from by decide] at this
theorem rv_z0 (k : FloatKind) : RV k (some 0) 0 := ⟨0, isV_zero k, by grind⟩
theorem fits_rv {x : Option Nat} {r : Rat} (h : RV .f64 x r) (h1 : -1000000000000 ≤ r) (h2 : r ≤ 1000000000000) : Fits x := by
  obtain ⟨u, hu, e⟩ := h
  intro v hv
  obtain rfl := hv.val hu
  have hp : (0 : Rat) < (unit .f64 : Nat) := unit_pos .f64
  have a1 : (v : Rat) ≤ ((1000000000000 * (unit .f64 : Int) : Int) : Rat) := by
    rw [Rat.intCast_mul, Rat.intCast_natCast, e]
    exact Rat.mul_le_mul_of_nonneg_right h2 (Rat.le_of_lt hp)
  have a2 : ((-(1000000000000 * (unit .f64 : Int)) : Int) : Rat) ≤ (v : Rat) := by
    rw [Rat.intCast_neg, Rat.intCast_mul, Rat.intCast_natCast, e]
    have := Rat.mul_le_mul_of_nonneg_right h1 (Rat.le_of_lt hp)
    have e2 : ((1000000000000 : Int) : Rat) = 1000000000000 := rfl
    rw [e2]
    grind
  rw [Rat.intCast_le_intCast] at a1 a2
  have e3 : pw 1178 = pw 104 * pw 1074 := pw_add 104 1074
  have e4 : pw 104 = 20282409603651670423947251286016 := by decide
  rw [e3, e4, ← unit64]
  omega

/-! ### Powers -/
def pwY (x P : Option Nat) : Option Nat := fop .mul .f32 P (lg32 x)
def pwX (x P : Option Nat) : Option Nat := if (ford .f32 x (some 0) == some .eq) = true then some 0 else nar (exM (wid (pwY x P)))
theorem pwX_zero {x P : Option Nat} (h : RV .f32 x 0) : pwX x P = some 0 := by
  unfold pwX
  rw [rv_eq h (rv_z0 .f32) rfl]; rfl
theorem pwX_pos {x P : Option Nat} {r : Rat} (h : RV .f32 x r) (h0 : 0 < r) : pwX x P = nar (exM (wid (pwY x P))) := by
  unfold pwX
  rw [rv_gt h (rv_z0 .f32) h0]; rfl
/-- What is multiplied. -/
theorem pwY_near {x P : Option Nat} {r ρ L ζ s : Rat} (h : LgV x r L ζ s) (hP : RV .f32 P ρ) (p1 : 1 / 2 ≤ ρ) (p2 : ρ ≤ 3) : ∃ η, RV .f32 (pwY x P) η ∧ η ≤ ρ * L + 8 / 1000000 ∧ ρ * L ≤ η + 8 / 1000000 ∧ -33 ≤ η ∧ η ≤ 20 ∧ (1 / 400 ≤ r → -(199 / 10) ≤ η) ∧ RV .f64 (wid (pwY x P)) η := by
  obtain ⟨b1, b2, b3⟩ := h.range
  obtain ⟨l, hl, -, -, l1, l2⟩ := near32 (wn_nar h.rv) 11 (by grind) (by grind) (by grind)
  rw [tiny_eq] at *
  obtain ⟨c1, c2⟩ := abs_mul_le (a := ρ) (b := l) (α := 3) (β := 11) (by grind) (by grind) (by grind) (by grind)
  obtain ⟨η, hη, -, -, e1, e2⟩ := near32 (wn_mul hP (show RV .f32 (lg32 x) l from hl)) 33 (by grind) (by grind) (by grind)
  rw [tiny_eq] at *
  have d1 := Rat.mul_nonneg (show 0 ≤ ρ by grind) (show 0 ≤ L + (11 / 8388608 + 1 / 1000000000000000000000000000000) - l by grind)
  have d2 := Rat.mul_nonneg (show 0 ≤ ρ by grind) (show 0 ≤ l + (11 / 8388608 + 1 / 1000000000000000000000000000000) - L by grind)
  have d3 := Rat.mul_nonneg (show 0 ≤ ρ by grind) (show 0 ≤ 6645 / 1000 - L by grind)
  have d4 := Rat.mul_nonneg (show 0 ≤ ρ by grind) (show 0 ≤ L + 1069 / 100 by grind)
  refine ⟨η, hη, by grind, by grind, by grind, by grind, fun hr => ?_, rv_wid hη⟩
  have := b3 hr
  have d5 := Rat.mul_nonneg (show 0 ≤ ρ by grind) (show 0 ≤ L + 6528 / 1000 by grind)
  grind
theorem pw_ex {x P : Option Nat} {r ρ : Rat} (hx : RV .f32 x r) (h0 : 1 / 20000 ≤ r) (h1 : r ≤ 400) (hP : RV .f32 P ρ) (p1 : 1 / 2 ≤ ρ) (p2 : ρ ≤ 3) : ∃ η p, RV .f32 (pwY x P) η ∧ -200 ≤ η ∧ η ≤ 200 ∧ Fits (exM (wid (pwY x P))) ∧ RV .f32 (pwX x P) p ∧ 0 ≤ p ∧ p ≤ 2100000000 := by
  obtain ⟨L, ζ, s, h⟩ := lg_told hx h0 h1
  obtain ⟨η, hη, -, -, e1, e2, -, hw⟩ := pwY_near h hP p1 p2
  obtain ⟨v, hv, v1, v2⟩ := exM_ex hw (by grind) e2
  obtain ⟨p, hp, -, s1, g1, g2⟩ := near32 (wn_nar hv) 2000000000 (by grind) (by grind) v2
  rw [tiny_eq] at *
  exact ⟨η, p, hη, by grind, by grind, fits_rv hv (by grind) (by grind), by rw [pwX_pos hx (by grind)]; exact hp, s1 v1, by grind⟩
/-- Powers of numbers that differ by a ratio. -/
theorem pw_ratio {x y P : Option Nat} {r r' ρ p p' : Rat} (hx : RV .f32 x r) (hy : RV .f32 y r') (h0 : 1 / 400 ≤ r) (hr : r * (108 / 100) ≤ r') (h1 : r' ≤ 400) (hP : RV .f32 P ρ) (p1 : 1 / 2 ≤ ρ) (p2 : ρ ≤ 3) (hp : RV .f32 (pwX x P) p) (hq : RV .f32 (pwX y P) p') : 499 / 1000000000000 ≤ p ∧ p * (1007 / 1000) ≤ p' := by
  obtain ⟨L, ζ, s, h⟩ := lg_told hx (by grind) (by grind)
  obtain ⟨L', ζ', s', h'⟩ := lg_told hy (by grind) h1
  have g := h.gap h' hr
  obtain ⟨η, -, a1, a2, -, -, a5, hw⟩ := pwY_near h hP p1 p2
  obtain ⟨θ, -, b1, b2, -, b4, -, hw'⟩ := pwY_near h' hP p1 p2
  have m := Rat.mul_nonneg (show 0 ≤ ρ - 1 / 2 by grind) (show 0 ≤ L' - L by grind)
  obtain ⟨v, hv, v1, v2⟩ := exM_ex hw (by have := a5 h0; grind) (by grind)
  obtain ⟨v', hv', v1', v2'⟩ := exM_ex hw' (by grind) b4
  obtain ⟨k1, k2⟩ := exM_ratio hw hw' (a5 h0) b4 (by grind) hv hv'
  obtain ⟨c, hc, -, -, c1, c2⟩ := near32 (wn_nar hv) v (by grind) (by grind) (by grind)
  obtain ⟨c', hc', -, -, c1', c2'⟩ := near32 (wn_nar hv') v' (by grind) (by grind) (by grind)
  rw [pwX_pos hx (by grind)] at hp
  rw [pwX_pos hy (by grind)] at hq
  obtain rfl := hp.val hc
  obtain rfl := hq.val hc'
  rw [tiny_eq] at *
  constructor <;> grind

/-! ### Exponentials of numbers not above 0 -/
theorem exM_un {y : Option Nat} {η : Rat} (hy : RV .f64 y η) (h1 : -200 ≤ η) (h2 : η ≤ 0) : ∃ v, RV .f64 (exM y) v ∧ 0 ≤ v ∧ v ≤ 1 := by
  obtain ⟨τ, hτ, n0, -, t1, t2⟩ := near64 (wn_div hy rv_c256 (by grind)) 1 (by grind) (by grind) (by grind)
  have hτ0 := n0 (by grind)
  rw [tiny_eq] at *
  have hu := unit_pos .f64
  obtain ⟨t, ht, et⟩ := hτ
  have q1 : t ≤ 0 := by
    rw [← Rat.intCast_le_intCast, et]
    have := Rat.mul_nonneg (show 0 ≤ -τ by grind) (Rat.le_of_lt hu)
    rw [show ((0 : Int) : Rat) = 0 from rfl]
    grind
  have q2 : -(pw 1074 : Int) ≤ t := by
    rw [← Rat.intCast_le_intCast, et, Rat.intCast_neg, Rat.intCast_natCast, ← unit64]
    have := Rat.mul_nonneg (show 0 ≤ 1 + τ by grind) (Rat.le_of_lt hu)
    grind
  obtain ⟨v, hv, v0, v1⟩ := exS_un (exP_un ⟨t, ht, q2, q1⟩ 12 (by omega)) 8
  have hr := RV.of hv
  refine ⟨_, hr, ?_, ?_⟩
  · rw [Rat.div_def]
    refine Rat.mul_nonneg ?_ (Rat.le_of_lt (Rat.inv_pos.2 hu))
    have := Rat.intCast_le_intCast.2 v0; exact this
  · refine Rat.le_of_mul_le_mul_right (c := (unit .f64 : Nat)) ?_ hu
    rw [Rat.div_mul_cancel (by grind), Rat.one_mul]
    rw [← unit64] at v1
    have := Rat.intCast_le_intCast.2 v1
    rwa [Rat.intCast_natCast] at this
theorem exX_rv {x : Option Nat} {y : Rat} (hx : RV .f32 x y) (h : y ≤ 0) : ∃ v, RV .f32 (exX x) v ∧ 0 ≤ v ∧ v ≤ 1 := by
  by_cases hl : y < -200
  · rw [exX_lt (by rw [rv_lt hx rv_m200 hl]; rfl)]
    exact ⟨0, rv_z0 _, by grind, by grind⟩
  · rw [exX_ge (rv_not_lt hx rv_m200 (by grind))]
    obtain ⟨v, hv, v0, v1⟩ := exM_un (rv_wid hx) (by grind) h
    exact wn_between (wn_nar hv) 0 1 (by decide) (by decide) v0 v1
theorem exX_mono {x x' : Option Nat} {y y' v v' : Rat} (hx : RV .f32 x y) (hx' : RV .f32 x' y') (h : y ≤ 0) (hg : y' + 3 / 100000000000 ≤ y ∨ (-25 ≤ y' ∧ y' + 31 / 10000000000000 ≤ y)) (hv : RV .f32 (exX x) v) (hv' : RV .f32 (exX x') v') : v' ≤ v := by
  obtain ⟨w, hw, w0, -⟩ := exX_rv hx h
  obtain rfl := hv.val hw
  have hyy : y' ≤ y := by rcases hg with hg | ⟨-, hg⟩ <;> grind
  by_cases hl : y' < -200
  · rw [exX_lt (by rw [rv_lt hx' rv_m200 hl]; rfl)] at hv'
    rw [hv'.val (rv_z0 _)]; exact w0
  · rw [exX_ge (rv_not_lt hx' rv_m200 (by grind))] at hv'
    rw [exX_ge (rv_not_lt hx rv_m200 (by grind))] at hv
    obtain ⟨a, ha, a0, -⟩ := exM_un (rv_wid hx) (by grind) h
    obtain ⟨b, hb, b0, -⟩ := exM_un (rv_wid hx') (by grind) (by grind)
    have hab : b ≤ a := by
      rcases hg with hg | ⟨h25, hg⟩
      · exact exM_mono (rv_wid hx') (rv_wid hx) (by grind) (by grind) hg hb ha
      · exact exM_mono2 (rv_wid hx') (rv_wid hx) h25 (by grind) hg hb ha
    exact nr_mono (nr_nar hb b0 hv') (nr_nar ha a0 hv) hab hv' hv
theorem exM_zero {y : Option Nat} (hy : RV .f64 y 0) : RV .f64 (exM y) 1 := by
  have hτ : RV .f64 (fop .quo .f64 y (some 4643211215818981376)) 0 := by
    have h := wn_div hy rv_c256 (by grind)
    have e : (0 : Rat) / 256 = 0 := by grind
    rw [e] at h
    exact wn_same h (rv_z0 _)
  have hP : ∀ j, j ≤ 12 → RV .f64 (exP (fop .quo .f64 y (some 4643211215818981376)) j) 1 := by
    intro j hj
    induction j with
    | zero => exact rv_one64
    | succ j ih =>
      have hk := cnt_one j (by omega)
      have hke := rv_k64 (12 - (j : Int)) (by omega)
      rw [exP_next]
      generalize ((12 - (j : Int) : Int) : Rat) = k at *
      have m := wn_mul hτ (ih (by omega))
      rw [show (0 : Rat) * 1 = 0 from by grind] at m
      have d := wn_div (wn_same m (rv_z0 _)) hke (by grind)
      rw [show (0 : Rat) / k = 0 by rw [Rat.div_def]; grind] at d
      have a := wn_add rv_one64 (wn_same d (rv_z0 _))
      rw [show (1 : Rat) + 0 = 1 by grind] at a
      exact wn_same a rv_one64
  have hS : ∀ j, RV .f64 (exS (exP (fop .quo .f64 y (some 4643211215818981376)) 12) j) 1 := by
    intro j
    induction j with
    | zero => exact hP 12 (by omega)
    | succ j ih =>
      have m := wn_mul ih ih
      rw [show (1 : Rat) * 1 = 1 by grind] at m
      exact wn_same m rv_one64
  exact hS 8
theorem exX_zero {x : Option Nat} (hx : RV .f32 x 0) : RV .f32 (exX x) 1 := by
  rw [exX_ge (rv_not_lt hx rv_m200 (by grind))]
  exact wn_same (wn_nar (exM_zero (rv_wid hx))) rv_one32

/-! ### Lives -/
structure LawOk (k : Int) (P S : Option Nat) (ρ σ : Rat) : Prop where
  k0 : 0 ≤ k
  k3 : k ≤ 3
  P : RV .f32 P ρ
  p1 : 1 / 2 ≤ ρ
  p2 : ρ ≤ 3
  S : RV .f32 S σ
  s1 : 1 / 2 ≤ σ
  s2 : σ ≤ 16
def TimeOk (τ : Rat) : Prop := (τ = 0 ∨ 1 / 1000 ≤ τ) ∧ τ ≤ 150
def kpX (S t : Option Nat) : Option Nat := fop .quo .f32 t S
def ngX (x : Option Nat) : Option Nat := fop .sub .f32 (some 0) x
def survO (k : Int) (P S t : Option Nat) : Option Nat :=
  if k = 0 then exX (ngX (kpX S t))
  else if k = 1 then exX (ngX (pwX (kpX S t) P))
  else if k = 2 then fop .quo .f32 (some 1065353216) (fop .add .f32 (some 1065353216) (pwX (kpX S t) P))
  else if (ford .f32 (kpX S t) (some 1065353216) == some .gt) = true then some 0 else fop .sub .f32 (some 1065353216) (kpX S t)
theorem kpX_rv {S t : Option Nat} {σ τ : Rat} (hS : RV .f32 S σ) (s1 : 1 / 2 ≤ σ) (s2 : σ ≤ 16) (ht : RV .f32 t τ) (h : TimeOk τ) : ∃ r, RV .f32 (kpX S t) r ∧ (τ = 0 → r = 0) ∧ (r = 0 ∨ 1 / 20000 ≤ r) ∧ r ≤ 400 ∧ (τ ≠ 0 → 1 / 20000 ≤ r) ∧ r ≤ τ / σ + (τ / σ / 8388608 + tiny) ∧ τ / σ ≤ r + (τ / σ / 8388608 + tiny) ∧ τ / 16 ≤ τ / σ ∧ 0 ≤ τ / σ := by
  obtain ⟨h0, h1⟩ := h
  have hd := Rat.div_mul_cancel (a := τ) (b := σ) (by grind)
  have t0 : 0 ≤ τ := by rcases h0 with h0 | h0 <;> grind
  have w := wn_div ht hS (show 0 < σ by grind)
  generalize τ / σ = z at *
  have z0 : 0 ≤ z := Rat.le_of_mul_le_mul_right (c := σ) (by rw [hd]; grind) (by grind)
  have m1 := Rat.mul_nonneg z0 (show 0 ≤ σ - 1 / 2 by grind)
  have m2 := Rat.mul_nonneg z0 (show 0 ≤ 16 - σ by grind)
  obtain ⟨r, hr, n0, p0, r1, r2⟩ := near32 w z (by grind) (by grind) (by grind)
  have e0 : τ = 0 → r = 0 := fun e => by
    have : z = 0 := by grind
    subst this
    have := n0 (by grind); have := p0 (by grind); grind
  have e1 : τ ≠ 0 → 1 / 20000 ≤ r := fun e => by
    rw [tiny_eq] at *
    rcases h0 with h0 | h0
    · exact absurd h0 e
    · grind
  refine ⟨r, hr, e0, ?_, ?_, e1, r1, r2, by grind, z0⟩
  · by_cases e : τ = 0
    · exact Or.inl (e0 e)
    · exact Or.inr (e1 e)
  · rw [tiny_eq] at *; grind
theorem ng_rv {x : Option Nat} {r : Rat} (hx : RV .f32 x r) (h0 : 0 ≤ r) (h1 : r ≤ 1000000000000) : ∃ y, RV .f32 (ngX x) y ∧ y ≤ 0 ∧ (r = 0 → y = 0) ∧ y ≤ -r + (r / 8388608 + tiny) ∧ -r ≤ y + (r / 8388608 + tiny) := by
  have w := wn_sub (rv_z0 .f32) hx
  obtain ⟨y, hy, n0, p0, y1, y2⟩ := near32 w r h1 (by grind) (by grind)
  refine ⟨y, hy, n0 (by grind), fun e => ?_, by grind, by grind⟩
  have := n0 (by grind); have := p0 (by grind); grind
theorem pw_rv {x P : Option Nat} {r ρ : Rat} (hx : RV .f32 x r) (h0 : r = 0 ∨ 1 / 20000 ≤ r) (h1 : r ≤ 400) (hP : RV .f32 P ρ) (p1 : 1 / 2 ≤ ρ) (p2 : ρ ≤ 3) : ∃ p, RV .f32 (pwX x P) p ∧ 0 ≤ p ∧ p ≤ 2100000000 ∧ (r = 0 → p = 0) := by
  rcases h0 with rfl | h0
  · exact ⟨0, by rw [pwX_zero hx]; exact rv_z0 _, by grind, by grind, fun _ => rfl⟩
  · obtain ⟨_, p, -, -, -, -, hp, a, b⟩ := pw_ex hx h0 h1 hP p1 p2
    exact ⟨p, hp, a, b, fun e => by grind⟩
theorem one_quo {x : Option Nat} {p : Rat} (hx : RV .f32 x p) (h0 : 0 ≤ p) (h1 : p ≤ 2100000000) : ∃ d q, RV .f32 (fop .add .f32 (some 1065353216) x) d ∧ 1 ≤ d ∧ RV .f32 (fop .quo .f32 (some 1065353216) (fop .add .f32 (some 1065353216) x)) q ∧ 0 ≤ q ∧ q ≤ 1 ∧ (p = 0 → q = 1) := by
  have wa := wn_add rv_one32 hx
  obtain ⟨d, hd, -, -, -, -⟩ := near32 wa 3000000000 (by grind) (by grind) (by grind)
  have d1 : 1 ≤ d := by
    have a := nr_add rv_one32 hx (by grind) hd
    have e := wn_add rv_one32 (rv_z0 .f32)
    rw [show (1 : Rat) + 0 = 1 by grind] at e
    have e1 := wn_same e rv_one32
    have b := nr_add rv_one32 (rv_z0 .f32) (by grind) e1
    exact nr_mono b a (by grind) e1 hd
  have wq := wn_div rv_one32 hd (by grind)
  have i1 := inv_bd d1
  obtain ⟨q, hq, q0, q1⟩ := wn_between wq 0 1 (by decide) (by decide) i1.1 i1.2
  refine ⟨d, q, hd, d1, hq, q0, q1, fun e => ?_⟩
  subst e
  rw [show (1 : Rat) + 0 = 1 by grind] at wa
  have := (wn_same wa rv_one32).val hd
  subst this
  rw [show (1 : Rat) / 1 = 1 by grind] at wq
  exact hq.val (wn_same wq rv_one32)
theorem surv_ok {k : Int} {P S t : Option Nat} {ρ σ τ : Rat} (h : LawOk k P S ρ σ) (ht : RV .f32 t τ) (hτ : TimeOk τ) : ∃ κ, RV .f32 (survO k P S t) κ ∧ 0 ≤ κ ∧ κ ≤ 1 ∧ (τ = 0 → κ = 1) := by
  obtain ⟨r, hr, r0, r1, r2, -⟩ := kpX_rv h.S h.s1 h.s2 ht hτ
  obtain ⟨p, hp, p0, p1, p2⟩ := pw_rv hr r1 r2 h.P h.p1 h.p2
  have rp : 0 ≤ r := by rcases r1 with e | e <;> grind
  unfold survO
  by_cases k0 : k = 0
  · rw [if_pos k0]
    obtain ⟨y, hy, y0, yz, -, -⟩ := ng_rv hr rp (by grind)
    obtain ⟨v, hv, v0, v1⟩ := exX_rv hy y0
    refine ⟨v, hv, v0, v1, fun e => ?_⟩
    rw [yz (r0 e)] at hy
    exact hv.val (exX_zero hy)
  rw [if_neg k0]
  by_cases k1 : k = 1
  · rw [if_pos k1]
    obtain ⟨y, hy, y0, yz, -, -⟩ := ng_rv hp p0 (by grind)
    obtain ⟨v, hv, v0, v1⟩ := exX_rv hy y0
    refine ⟨v, hv, v0, v1, fun e => ?_⟩
    rw [yz (p2 (r0 e))] at hy
    exact hv.val (exX_zero hy)
  rw [if_neg k1]
  by_cases k2 : k = 2
  · rw [if_pos k2]
    obtain ⟨d, q, -, -, hq, q0, q1, qz⟩ := one_quo hp p0 p1
    exact ⟨q, hq, q0, q1, fun e => qz (p2 (r0 e))⟩
  rw [if_neg k2]
  by_cases hg : 1 < r
  · rw [rv_gt hr rv_one32 hg]
    exact ⟨0, rv_z0 _, by grind, by grind, fun e => by have := r0 e; grind⟩
  · rw [rv_not_gt hr rv_one32 (by grind), if_neg (by simp)]
    have w := wn_sub rv_one32 hr
    obtain ⟨q, hq, q0, q1⟩ := wn_between w 0 1 (by decide) (by decide) (show ((0 : Int) : Rat) ≤ _ by rw [show ((0 : Int) : Rat) = 0 from rfl]; grind) (show _ ≤ ((1 : Int) : Rat) by rw [show ((1 : Int) : Rat) = 1 from rfl]; grind)
    refine ⟨q, hq, q0, q1, fun e => ?_⟩
    rw [r0 e, show (1 : Rat) - 0 = 1 by grind] at w
    exact hq.val (wn_same w rv_one32)
/-- It never rises on a grid. -/
theorem surv_mono {k : Int} {P S t t' : Option Nat} {ρ σ τ τ' κ κ' : Rat} (h : LawOk k P S ρ σ) (ht : RV .f32 t τ) (ht' : RV .f32 t' τ') (hτ : TimeOk τ) (hτ' : TimeOk τ') (hc : τ = 0 ∨ (41 / 1000 ≤ τ ∧ τ * (1085 / 1000) ≤ τ')) (hκ : RV .f32 (survO k P S t) κ) (hκ' : RV .f32 (survO k P S t') κ') : κ' ≤ κ := by
  rcases hc with rfl | ⟨c1, c2⟩
  · obtain ⟨κ1, h1, -, -, e1⟩ := surv_ok h ht hτ
    obtain ⟨κ2, h2, -, e2, -⟩ := surv_ok h ht' hτ'
    obtain rfl := hκ.val h1
    obtain rfl := hκ'.val h2
    rw [e1 rfl]; exact e2
  obtain ⟨r, hr, -, -, r2, rn, ra, rb, rc, rd⟩ := kpX_rv h.S h.s1 h.s2 ht hτ
  obtain ⟨r', hr', -, -, r2', rn', ra', rb', rc', rd'⟩ := kpX_rv h.S h.s1 h.s2 ht' hτ'
  have rr : r * (108 / 100) ≤ r' ∧ 1 / 400 ≤ r := by
    have hz : τ / σ * (1085 / 1000) ≤ τ' / σ := by
      have e1 := Rat.div_mul_cancel (a := τ) (b := σ) (by have := h.s1; grind)
      have e2 := Rat.div_mul_cancel (a := τ') (b := σ) (by have := h.s1; grind)
      refine Rat.le_of_mul_le_mul_right (c := σ) ?_ (by have := h.s1; grind)
      generalize τ / σ = z at *
      generalize τ' / σ = z' at *
      rw [e2]
      have : z * (1085 / 1000) * σ = z * σ * (1085 / 1000) := by grind
      rw [this, e1]; exact c2
    rw [tiny_eq] at *
    generalize τ / σ = z at *
    generalize τ' / σ = z' at *
    constructor <;> grind
  obtain ⟨rr, r400⟩ := rr
  have hle : r ≤ r' := by grind
  obtain ⟨p, hp, p0, p1, -⟩ := pw_rv hr (Or.inr (rn (by grind))) r2 h.P h.p1 h.p2
  obtain ⟨p', hp', p0', p1', -⟩ := pw_rv hr' (Or.inr (by grind)) r2' h.P h.p1 h.p2
  obtain ⟨q1, q2⟩ := pw_ratio hr hr' r400 rr r2' h.P h.p1 h.p2 hp hp'
  unfold survO at hκ hκ'
  by_cases k0 : k = 0
  · rw [if_pos k0] at hκ hκ'
    obtain ⟨y, hy, y0, -, y1, y2⟩ := ng_rv hr (by grind) (by grind)
    obtain ⟨y', hy', y0', -, y1', y2'⟩ := ng_rv hr' (by grind) (by grind)
    rw [tiny_eq] at *
    exact exX_mono hy hy' y0 (Or.inl (by grind)) hκ hκ'
  rw [if_neg k0] at hκ hκ'
  by_cases k1 : k = 1
  · rw [if_pos k1] at hκ hκ'
    obtain ⟨y, hy, y0, -, y1, y2⟩ := ng_rv hp p0 (by grind)
    obtain ⟨y', hy', y0', -, y1', y2'⟩ := ng_rv hp' p0' (by grind)
    rw [tiny_eq] at *
    refine exX_mono hy hy' y0 ?_ hκ hκ'
    by_cases h25 : -25 ≤ y'
    · exact Or.inr ⟨h25, by grind⟩
    · exact Or.inl (by grind)
  rw [if_neg k1] at hκ hκ'
  by_cases k2 : k = 2
  · rw [if_pos k2] at hκ hκ'
    obtain ⟨d, q, hd, d1, hq, -, -, -⟩ := one_quo hp p0 p1
    obtain ⟨d', q', hd', d1', hq', -, -, -⟩ := one_quo hp' p0' p1'
    have hdd : d ≤ d' := nr_mono (nr_add rv_one32 hp (by grind) hd) (nr_add rv_one32 hp' (by grind) hd') (by grind) hd hd'
    refine nr_mono (nr_div rv_one32 hd' (by grind) (by grind) hκ') (nr_div rv_one32 hd (by grind) (by grind) hκ) ?_ hκ' hκ
    have e1 := Rat.div_mul_cancel (a := 1) (b := d) (by grind)
    have e2 := Rat.div_mul_cancel (a := 1) (b := d') (by grind)
    have i1 := inv_bd d1
    have i2 := inv_bd d1'
    generalize (1 : Rat) / d = a at *
    generalize (1 : Rat) / d' = b at *
    have m := Rat.mul_nonneg (Rat.mul_nonneg i1.1 i2.1) (show 0 ≤ d' - d by grind)
    have : a * b * (d' - d) = a * (b * d') - b * (a * d) := by grind
    rw [this, e1, e2] at m
    grind
  rw [if_neg k2] at hκ hκ'
  by_cases hg : 1 < r'
  · rw [rv_gt hr' rv_one32 hg] at hκ'
    rw [hκ'.val (rv_z0 _)]
    by_cases hg2 : 1 < r
    · rw [rv_gt hr rv_one32 hg2] at hκ
      rw [hκ.val (rv_z0 _)]; grind
    · rw [rv_not_gt hr rv_one32 (by grind), if_neg (by simp)] at hκ
      obtain ⟨q, hq, q0, q1⟩ := wn_between (wn_sub rv_one32 hr) 0 1 (by decide) (by decide) (show ((0 : Int) : Rat) ≤ _ by rw [show ((0 : Int) : Rat) = 0 from rfl]; grind) (show _ ≤ ((1 : Int) : Rat) by rw [show ((1 : Int) : Rat) = 1 from rfl]; grind)
      rw [hκ.val hq]; exact q0
  · rw [rv_not_gt hr' rv_one32 (by grind), if_neg (by simp)] at hκ'
    rw [rv_not_gt hr rv_one32 (by grind), if_neg (by simp)] at hκ
    exact nr_mono (nr_sub rv_one32 hr' (by grind) hκ') (nr_sub rv_one32 hr (by grind) hκ) (by grind) hκ' hκ
end Go.Proofs.Ytkgbbagklkffpaa
