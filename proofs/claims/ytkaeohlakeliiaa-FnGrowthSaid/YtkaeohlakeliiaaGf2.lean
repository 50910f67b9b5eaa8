/- FnGrowth: the exponential of a small number from 0 on; the fit's numbers. No program in sight. -/
import Derived.Test.YtkaeohlakeliiaaGf1
import Derived.Test.YtkaeohlakeliiaaFp
namespace Go.Proofs.Ytkaeohlakeliiaa
open Go.RowKit

theorem exP_up {t : Option Nat} {τ : Rat} (ht : RV .f64 t τ) (h1 : 0 ≤ τ) (h2 : τ ≤ 627 / 10000) (j : Nat) (hj : j ≤ 12) : ∃ P, RV .f64 (exP t j) P ∧ 1 - 1 / 1000000000 ≤ P ∧ P ≤ 1068 / 1000 := by
  induction j with
  | zero => exact ⟨1, rv_one64, by grind, by grind⟩
  | succ j ih =>
    obtain ⟨P, hP, i1, i2⟩ := ih (by omega)
    have hk := cnt_one j (by omega)
    rw [exP_next]
    have hke := rv_k64 (12 - (j : Int)) (by omega)
    generalize hkk : ((12 - (j : Int) : Int) : Rat) = k at *
    obtain ⟨b1, b2⟩ := abs_mul_le (a := τ) (b := P) (α := 627 / 10000) (β := 1068 / 1000) (by grind) (by grind) (by grind) (by grind)
    have b0 := Rat.mul_nonneg h1 (show 0 ≤ P by grind)
    obtain ⟨m, hm, -, m0, m1, m2⟩ := near64 (wn_mul ht hP) (67 / 1000) (by grind) (by grind) (by grind)
    have m0 := m0 b0
    rw [tiny_eq] at *
    have d0 := div_nonneg (m := m) hk m0
    have d2 := div_le_c (m := m) (c := 675 / 10000) hk (by grind) (by grind)
    obtain ⟨δ, hδ, -, s0, e1', e2'⟩ := near64 (wn_div hm hke (by grind)) (675 / 10000) (by grind) (by grind) d2
    have s0 := s0 d0
    rw [tiny_eq] at *
    obtain ⟨r, hr, -, -, r1, r2⟩ := near64 (wn_add rv_one64 hδ) 2 (by grind) (by grind) (by grind)
    rw [tiny_eq] at *
    exact ⟨r, hr, by grind, by grind⟩
theorem sq_up {p : Option Nat} {v : Rat} (a b A B : Rat) (hp : RV .f64 p v) (h1 : a ≤ v) (h2 : v ≤ b) (ha : 0 ≤ a) (hb : b ≤ 10000) (hA : A ≤ a * a - b * b / 1000000000 - 1 / 1000000000) (hB : b * b + b * b / 1000000000 + 1 / 1000000000 ≤ B) : ∃ u, RV .f64 (fop .mul .f64 p p) u ∧ A ≤ u ∧ u ≤ B := by
  obtain ⟨b1, b2⟩ := abs_mul_le (a := v) (b := v) (α := b) (β := b) (by grind) h2 (by grind) h2
  have c1 := Rat.mul_nonneg (show 0 ≤ v - a by grind) (show 0 ≤ v + a by grind)
  have hbb : b * b ≤ 100000000 := by
    have := (abs_mul_le (a := b) (b := b) (α := 10000) (β := 10000) (by grind) hb (by grind) hb).2
    grind
  obtain ⟨u, hu, -, -, u1, u2⟩ := near64 (wn_mul hp hp) (b * b) (by grind) b1 b2
  rw [tiny_eq] at *
  exact ⟨u, hu, by grind, by grind⟩
theorem exM_up {y : Option Nat} {η : Rat} (hy : RV .f64 y η) (h1 : 0 ≤ η) (h2 : η ≤ 16) : ∃ v, RV .f64 (exM y) v ∧ 9 / 10 ≤ v ∧ v ≤ 24000000 := by
  obtain ⟨τ, hτ, -, n0, t1, t2⟩ := near64 (wn_div hy rv_c256 (by grind)) (1 / 16) (by grind) (by grind) (by grind)
  have hτ0 := n0 (by grind)
  rw [tiny_eq] at *
  obtain ⟨P, hP, p1, p2⟩ := exP_up hτ hτ0 (by grind) 12 (by omega)
  obtain ⟨u1, hu1, a1, b1⟩ := sq_up (1 - 1 / 1000000000) (1068 / 1000) (1 - 1 / 100000000) (1141 / 1000) hP p1 p2 (by grind) (by grind) (by grind) (by grind)
  obtain ⟨u2, hu2, a2, b2⟩ := sq_up (1 - 1 / 100000000) (1141 / 1000) (1 - 1 / 10000000) (1302 / 1000) hu1 a1 b1 (by grind) (by grind) (by grind) (by grind)
  obtain ⟨u3, hu3, a3, b3⟩ := sq_up (1 - 1 / 10000000) (1302 / 1000) (1 - 1 / 1000000) (1696 / 1000) hu2 a2 b2 (by grind) (by grind) (by grind) (by grind)
  obtain ⟨u4, hu4, a4, b4⟩ := sq_up (1 - 1 / 1000000) (1696 / 1000) (1 - 1 / 100000) (2877 / 1000) hu3 a3 b3 (by grind) (by grind) (by grind) (by grind)
  obtain ⟨u5, hu5, a5, b5⟩ := sq_up (1 - 1 / 100000) (2877 / 1000) (1 - 1 / 10000) (8278 / 1000) hu4 a4 b4 (by grind) (by grind) (by grind) (by grind)
  obtain ⟨u6, hu6, a6, b6⟩ := sq_up (1 - 1 / 10000) (8278 / 1000) (1 - 1 / 1000) (68526 / 1000) hu5 a5 b5 (by grind) (by grind) (by grind) (by grind)
  obtain ⟨u7, hu7, a7, b7⟩ := sq_up (1 - 1 / 1000) (68526 / 1000) (1 - 1 / 100) 4696 hu6 a6 b6 (by grind) (by grind) (by grind) (by grind)
  obtain ⟨u8, hu8, a8, b8⟩ := sq_up (1 - 1 / 100) 4696 (9 / 10) 23000000 hu7 a7 b7 (by grind) (by grind) (by grind) (by grind)
  exact ⟨u8, hu8, a8, by grind⟩
theorem fits_rv {x : Option Nat} {r : Rat} (h : RV .f64 x r) (h1 : -1000000000000 ≤ r) (h2 : r ≤ 1000000000000) : Fits x := by
  obtain ⟨u, hu, e⟩ := h
  intro v hv
  obtain rfl := hv.val hu
  have hp : (0 : Rat) < (unit .f64 : Nat) := unit_pos .f64
  have a1 : (v : Rat) ≤ ((1000000000000 * (unit .f64 : Int) : Int) : Rat) := by
    rw [Rat.intCast_mul, Rat.intCast_natCast, e]
    exact Rat.mul_le_mul_of_nonneg_right h2 (Rat.le_of_lt hp)
  have a2 : ((-(1000000000000 * (unit .f64 : Int)) : Int) : Rat) ≤ (v : Rat) := by
    rw [Rat.intCast_neg, Rat.intCast_mul, Rat.intCast_natCast, e]
    have := Rat.mul_le_mul_of_nonneg_right h1 (Rat.le_of_lt hp)
    have e2 : ((1000000000000 : Int) : Rat) = 1000000000000 := rfl
    rw [e2]
    grind
  rw [Rat.intCast_le_intCast] at a1 a2
  have e3 : pw 1178 = pw 104 * pw 1074 := pw_add 104 1074
  have e4 : pw 104 = 20282409603651670423947251286016 := by decide
  rw [e3, e4, ← unit64]
  omega
theorem exp_up {x : Option Nat} {y : Rat} (hx : RV .f32 x y) (h1 : 0 ≤ y) (h2 : y ≤ 16) : ExpOk x ∧ ∃ e, RV .f32 (nar (exM (wid x))) e ∧ 8 / 10 ≤ e ∧ e ≤ 25000000 := by
  obtain ⟨v, hv, v1, v2⟩ := exM_up (rv_wid hx) h1 h2
  refine ⟨⟨⟨y, hx, by grind, by grind⟩, fits_rv hv (by grind) (by grind)⟩, ?_⟩
  obtain ⟨e, he, -, -, g1, g2⟩ := near32 (wn_nar hv) v (by grind) (by grind) (by grind)
  rw [tiny_eq] at *
  exact ⟨e, he, by grind, by grind⟩
theorem rv_z (k : FloatKind) : RV k (some 0) 0 := ⟨0, isV_zero k, by grind⟩
/-! ### The fit -/
def sL (Q : Nat) (qs : List Nat) : Nat → Option Nat
  | 0 => some 0
  | k + 1 => fop .add .f32 (sL Q qs k) (lgT Q (qs.getD k 0))
theorem sL_next (Q : Nat) (qs : List Nat) (k : Nat) : sL Q qs (k + 1) = fop .add .f32 (sL Q qs k) (lgT Q (qs.getD k 0)) := rfl
theorem rise_lt {qs : List Nat} {q : Nat} (h : Ris qs q) (hn : qs.length ≤ 8) {k : Nat} (hk : k < qs.length) : q + 4 < 37 ∧ qs.getD k 0 < q + 4 ∧ 0 < qs.getD k 0 := by
  have := h.rg k hk
  have := h.most
  omega
theorem sL_rv {qs : List Nat} {q : Nat} (h : Ris qs q) (hn : qs.length ≤ 8) (k : Nat) (hk : k ≤ qs.length) : ∃ s, RV .f32 (sL (q + 4) qs k) s ∧ (k : Rat) / 51 ≤ s ∧ s ≤ (k : Rat) * (401 / 100) := by
  induction k with
  | zero => exact ⟨0, rv_z _, by show ((0 : Nat) : Rat) / 51 ≤ 0; rw [show ((0 : Nat) : Rat) = 0 from rfl]; grind, by show (0 : Rat) ≤ ((0 : Nat) : Rat) * _; rw [show ((0 : Nat) : Rat) = 0 from rfl]; grind⟩
  | succ k ih =>
    obtain ⟨s, hs, s1, s2⟩ := ih (by omega)
    obtain ⟨a1, a2, a3⟩ := rise_lt h hn (k := k) (by omega)
    obtain ⟨l, hl, l1, l2⟩ := btw_of (lg_table (q + 4) a1 _ a2 a3)
    have hk8 : (k : Rat) ≤ (8 : Nat) := Rat.natCast_le_natCast.2 (by omega)
    have hk0 : ((0 : Nat) : Rat) ≤ (k : Rat) := Rat.natCast_le_natCast.2 (by omega)
    rw [show ((8 : Nat) : Rat) = 8 from rfl] at hk8
    rw [show ((0 : Nat) : Rat) = 0 from rfl] at hk0
    rw [show ((1 : Nat) : Rat) = 1 from rfl] at l1
    rw [show ((4 : Nat) : Rat) = 4 from rfl] at l2
    have e : ((k + 1 : Nat) : Rat) = (k : Rat) + 1 := by rw [Rat.natCast_add]; rfl
    obtain ⟨r, hr, -, -, r1, r2⟩ := near32 (wn_add hs hl) 40 (by grind) (by grind) (by grind)
    rw [sL_next, e]
    rw [tiny_eq] at *
    exact ⟨r, hr, by grind, by grind⟩
def shX (q : Nat) (qs : List Nat) : Option Nat := fop .quo .f32 (some (floatOfInt .f32 (qs.length : Int))) (sL (q + 4) qs qs.length)
def yX (q : Nat) (qs : List Nat) : Option Nat := fop .quo .f32 (lgN qs.length) (shX q qs)
def eX (q : Nat) (qs : List Nat) : Option Nat := nar (exM (wid (yX q qs)))
def scX (c q : Nat) (qs : List Nat) : Option Nat := fop .quo .f32 (some (fq (c * (q + 4)))) (eX q qs)
structure FitOk (q : Nat) (qs : List Nat) : Prop where
  sum : ∃ s, RV .f32 (sL (q + 4) qs qs.length) s ∧ 1 / 51 ≤ s
  shape : ∃ h, RV .f32 (shX q qs) h ∧ 19 / 100 ≤ h ∧ h ≤ 52
  exp : ExpOk (yX q qs)
  e : ∃ e, RV .f32 (eX q qs) e ∧ 8 / 10 ≤ e ∧ e ≤ 25000000
theorem fit_ok {qs : List Nat} {q : Nat} (h : Ris qs q) (hn : qs.length ≤ 8) (h1 : 1 ≤ qs.length) : FitOk q qs := by
  obtain ⟨s, hs, s1, s2⟩ := sL_rv h hn qs.length (Nat.le_refl _)
  have hN := rv_ofInt32 (qs.length : Int) (by omega)
  rw [Rat.intCast_natCast] at hN
  obtain ⟨l, hl, l1, l2⟩ := btw_of (lgN_table qs.length (by omega) h1)
  have hk8 : (qs.length : Rat) ≤ (8 : Nat) := Rat.natCast_le_natCast.2 (by omega)
  have hk1 : ((1 : Nat) : Rat) ≤ (qs.length : Rat) := Rat.natCast_le_natCast.2 h1
  rw [show ((8 : Nat) : Rat) = 8 from rfl] at hk8
  rw [show ((1 : Nat) : Rat) = 1 from rfl] at hk1
  rw [show ((0 : Nat) : Rat) = 0 from rfl] at l1
  rw [show ((3 : Nat) : Rat) = 3 from rfl] at l2
  have hsp : 0 < s := by grind
  have hq := Rat.div_mul_cancel (a := (qs.length : Rat)) (b := s) (by grind)
  have q1 : (qs.length : Rat) / s ≤ 51 := Rat.le_of_mul_le_mul_right (c := s) (by rw [hq]; grind) hsp
  have q2 : 24 / 100 ≤ (qs.length : Rat) / s := Rat.le_of_mul_le_mul_right (c := s) (by rw [hq]; grind) hsp
  obtain ⟨g, hg, -, -, g1, g2⟩ := near32 (wn_div hN hs hsp) 51 (by grind) (by grind) q1
  rw [tiny_eq] at *
  have hgp : 0 < g := by grind
  have hq2 := Rat.div_mul_cancel (a := l) (b := g) (by grind)
  have y0 : 0 ≤ l / g := Rat.le_of_mul_le_mul_right (c := g) (by rw [hq2]; grind) hgp
  have y1 : l / g ≤ 15 := Rat.le_of_mul_le_mul_right (c := g) (by rw [hq2]; grind) hgp
  obtain ⟨y, hy, -, z0, z1, z2⟩ := near32 (wn_div hl hg hgp) 15 (by grind) (by grind) y1
  have z0 := z0 y0
  rw [tiny_eq] at *
  obtain ⟨e1, e, he, e2, e3⟩ := exp_up (x := yX q qs) hy z0 (by grind)
  exact ⟨⟨s, hs, by grind⟩, ⟨g, hg, by grind, by grind⟩, e1, ⟨e, he, e2, e3⟩⟩
end Go.Proofs.Ytkaeohlakeliiaa
