/- FnGrowth: what the law asks of the fit. No program in sight. -/
import Derived.Test.YtkaeohlakeliiaaGf4
import Derived.Test.YtkaeohlakeliiaaGen
namespace Go.Proofs.Ytkaeohlakeliiaa
open Go.RowKit

theorem fit_law {qs : List Nat} {q : Nat} (h : FitOk q qs) (hq : q ≤ 32) : ∃ s1 s2 g, RV .f32 (scX 1 q qs) s1 ∧ RV .f32 (scX 2 q qs) s2 ∧ RV .f32 (shX q qs) g ∧ 19 / 100 ≤ g ∧ g ≤ 52 ∧ 3 / 100000000 ≤ s1 ∧ s1 ≤ 12 ∧ s2 ≤ 2 * s1 + 1 / 10000 ∧ 2 * s1 ≤ s2 + 1 / 10000 ∧ 0 ≤ s2 := by
  obtain ⟨e, he, e1, e2⟩ := h.e
  obtain ⟨g, hg, g1, g2⟩ := h.shape
  have t1 := rv_fq (q + 4) (by omega)
  have t2 := rv_fq (2 * (q + 4)) (by omega)
  rw [(fq_some (q + 4) (by omega)).2.1] at t1
  rw [(fq_some (2 * (q + 4)) (by omega)).2.1] at t2
  have c2 : ((2 * (q + 4) : Nat) : Rat) = 2 * ((q + 4 : Nat) : Rat) := by rw [Rat.natCast_mul]; rfl
  rw [c2] at t2
  have z1 := Rat.natCast_le_natCast.2 (show q + 4 ≤ 36 by omega)
  have z2 := Rat.natCast_le_natCast.2 (show 4 ≤ q + 4 by omega)
  rw [show ((36 : Nat) : Rat) = 36 from rfl] at z1
  rw [show ((4 : Nat) : Rat) = 4 from rfl] at z2
  generalize ((q + 4 : Nat) : Rat) = z at *
  have hep : 0 < e := by grind
  have hd := Rat.div_mul_cancel (a := z / 4) (b := e) (by grind)
  have d0 : 4 / 100000000 ≤ z / 4 / e := Rat.le_of_mul_le_mul_right (c := e) (by rw [hd]; grind) hep
  have d1 : z / 4 / e ≤ 1125 / 100 := Rat.le_of_mul_le_mul_right (c := e) (by rw [hd]; grind) hep
  have ed : 2 * z / 4 / e = 2 * (z / 4 / e) := by rw [Rat.div_def, Rat.div_def, Rat.div_def, Rat.div_def]; grind
  obtain ⟨s1, hs1, -, -, a1, a2⟩ := near32 (wn_div t1 he hep) (z / 4 / e) (by grind) (by grind) (by grind)
  obtain ⟨s2, hs2, -, n2, b1, b2⟩ := near32 (wn_div t2 he hep) (2 * z / 4 / e) (by grind) (by grind) (by grind)
  have n2 := n2 (by rw [ed]; grind)
  rw [ed] at b1 b2
  generalize z / 4 / e = x at *
  rw [tiny_eq] at *
  refine ⟨s1, s2, g, ?_, hs2, hg, g1, g2, by grind, by grind, by grind, by grind, n2⟩
  unfold scX
  rw [Nat.one_mul]
  exact hs1
def c001 : Nat := 4562254508917369340
def c01 : Nat := 4576918229304087675
def one64 : Nat := 4607182418800017408
def two64 : Nat := 4611686018427387904
theorem rv_c001 : ∃ r, RV .f64 (ab .f64 c001) r ∧ 999 / 1000000 ≤ r ∧ r ≤ 1001 / 1000000 := by
  rw [show ab .f64 c001 = some c001 from by decide]; exact rv_mil
theorem rv_c01 : ∃ r, RV .f64 (ab .f64 c01) r ∧ 99 / 10000 ≤ r ∧ r ≤ 101 / 10000 := by
  rw [show ab .f64 c01 = some c01 from by decide]
  exact ⟨_, RV.of (v := fv FloatKind.f64.format c01) ⟨c01, rfl, by decide, rfl⟩, by decide +kernel, by decide +kernel⟩
theorem rv_o64 : RV .f64 (ab .f64 one64) 1 := by rw [show ab .f64 one64 = some one64 from by decide]; exact rv_one64
theorem rv_t64 : RV .f64 (ab .f64 two64) 2 := by
  have := rv_ofInt64 2 (by decide)
  rwa [show floatOfInt .f64 2 = two64 from by decide, ← show ab .f64 two64 = some two64 from by decide] at this
theorem RV.bits {k : FloatKind} {x : Option Nat} {r : Rat} (h : RV k x r) : ∃ b, x = Option.some b ∧ RV k (ab k b) r := by
  obtain ⟨b, hb, hb2⟩ := h.some
  exact ⟨b, hb, by rw [hb2, ← hb]; exact h⟩
/-- The three comparisons of the fit. -/
theorem cond_law {p p2 s t u : Nat} {g s1 s2 R : Rat} (hp : RV .f64 (ab .f64 p) g) (hp2 : RV .f64 (ab .f64 p2) g) (hs : RV .f64 (ab .f64 s) s1) (ht : RV .f64 (ab .f64 t) s2) (hu : RV .f64 (ab .f64 u) R)
    (g1 : 19 / 100 ≤ g) (g2 : g ≤ 52) (a1 : 3 / 100000000 ≤ s1) (a2 : s1 ≤ 12) (b1 : s2 ≤ 2 * s1 + 1 / 10000) (b2 : 2 * s1 ≤ s2 + 1 / 10000) (b0 : 0 ≤ s2) (r1 : R * s1 ≤ g + 1 / 100000) (r2 : g ≤ R * s1 + 1 / 100000) :
    ∃ A1 A2 B1 B2 B3 D1 G1 G2 G3 : Nat, fop .add .f64 (ab .f64 one64) (ab .f64 p) = some A1 ∧ fop .mul .f64 (ab .f64 c001) (ab .f64 A1) = some A2 ∧ gapX (ab .f64 p) (ab .f64 p2) = some G1 ∧
      fop .mul .f64 (ab .f64 two64) (ab .f64 s) = some B1 ∧ gapX (ab .f64 t) (ab .f64 B1) = some G2 ∧ fop .add .f64 (ab .f64 one64) (ab .f64 s) = some B2 ∧ fop .mul .f64 (ab .f64 c01) (ab .f64 B2) = some B3 ∧
      fop .mul .f64 (ab .f64 u) (ab .f64 s) = some D1 ∧ gapX (ab .f64 D1) (ab .f64 p) = some G3 ∧
      (ford .f64 (ab .f64 G1) (ab .f64 A2) == some .gt) = false ∧ (ford .f64 (ab .f64 G2) (ab .f64 B3) == some .gt) = false ∧ (ford .f64 (ab .f64 G3) (ab .f64 A2) == some .gt) = false := by
  obtain ⟨k1, hk1, x1, x2⟩ := rv_c001
  obtain ⟨k2, hk2, y1, y2⟩ := rv_c01
  obtain ⟨v1, hv1, -, -, v11, v12⟩ := near64 (wn_add rv_o64 hp) 60 (by grind) (by grind) (by grind)
  obtain ⟨A1, eA1, hA1⟩ := hv1.bits
  rw [tiny_eq] at *
  obtain ⟨m1, m2⟩ := abs_mul_le (a := k1) (b := v1) (α := 1001 / 1000000) (β := 60) (by grind) (by grind) (by grind) (by grind)
  have m0 := Rat.mul_nonneg (show 0 ≤ k1 - 999 / 1000000 by grind) (show 0 ≤ v1 - 118 / 100 by grind)
  obtain ⟨v2, hv2, -, -, v21, v22⟩ := near64 (wn_mul hk1 hA1) 1 (by grind) (by grind) (by grind)
  obtain ⟨A2, eA2, hA2⟩ := hv2.bits
  rw [tiny_eq] at *
  have l2 : 117 / 100000 ≤ v2 := by grind
  obtain ⟨v3, hv3, -, -, v31, v32⟩ := near64 (wn_mul rv_t64 hs) 25 (by grind) (by grind) (by grind)
  obtain ⟨B1, eB1, hB1⟩ := hv3.bits
  obtain ⟨v4, hv4, -, -, v41, v42⟩ := near64 (wn_add rv_o64 hs) 25 (by grind) (by grind) (by grind)
  obtain ⟨B2, eB2, hB2⟩ := hv4.bits
  rw [tiny_eq] at *
  obtain ⟨n1, n2⟩ := abs_mul_le (a := k2) (b := v4) (α := 101 / 10000) (β := 25) (by grind) (by grind) (by grind) (by grind)
  have n0 := Rat.mul_nonneg (show 0 ≤ k2 - 99 / 10000 by grind) (show 0 ≤ v4 - 99 / 100 by grind)
  obtain ⟨v5, hv5, -, -, v51, v52⟩ := near64 (wn_mul hk2 hB2) 1 (by grind) (by grind) (by grind)
  obtain ⟨B3, eB3, hB3⟩ := hv5.bits
  obtain ⟨v6, hv6, -, -, v61, v62⟩ := near64 (wn_mul hu hs) 60 (by grind) (by grind) (by grind)
  obtain ⟨D1, eD1, hD1⟩ := hv6.bits
  rw [tiny_eq] at *
  obtain ⟨γ1, N1, hγ1, p0, pe, q1, q2⟩ := gap_near hp hp2 (by grind) (by grind)
  obtain ⟨γ2, N2, hγ2, p0', pe', q1', q2'⟩ := gap_near ht hB1 (by grind) (by grind)
  obtain ⟨γ3, N3, hγ3, p0'', pe'', q1'', q2''⟩ := gap_near hD1 hp (by grind) (by grind)
  obtain ⟨G1, eG1, hG1⟩ := hγ1.bits
  obtain ⟨G2, eG2, hG2⟩ := hγ2.bits
  obtain ⟨G3, eG3, hG3⟩ := hγ3.bits
  exact ⟨A1, A2, B1, B2, B3, D1, G1, G2, G3, eA1, eA2, eG1, eB1, eG2, eB2, eB3, eD1, eG3, not_gt_of hG1 hA2 (by grind), not_gt_of hG2 hB3 (by grind), not_gt_of hG3 hA2 (by grind)⟩
/-- The rate times the scale. -/
theorem rate_scale {R g s : Rat} (h1 : R ≤ g / s + (g / s / 8388608 + tiny)) (h2 : g / s ≤ R + (g / s / 8388608 + tiny)) (g1 : 0 ≤ g) (g2 : g ≤ 52) (s0 : 0 < s) (s1 : s ≤ 12) : R * s ≤ g + 1 / 100000 ∧ g ≤ R * s + 1 / 100000 := by
  have hd := Rat.div_mul_cancel (a := g) (b := s) (by grind)
  have a1 := Rat.mul_le_mul_of_nonneg_right h1 (Rat.le_of_lt s0)
  have a2 := Rat.mul_le_mul_of_nonneg_right h2 (Rat.le_of_lt s0)
  rw [tiny_eq] at *
  generalize g / s = x at *
  constructor <;> grind
end Go.Proofs.Ytkaeohlakeliiaa
