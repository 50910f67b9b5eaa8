/- FnPolicies: the numbers of its grids. No program in sight but its names. -/
import Derived.Test.YtkgbbagklkffpaaDrawL
namespace Go.Proofs.Ytkgbbagklkffpaa
open Go.RowKit

theorem ratn_pos {n : Nat} (h : 1 ≤ n) : (1 : Rat) ≤ ((n : Nat) : Rat) := by
  have := natr_le h
  rwa [show ((1 : Nat) : Rat) = 1 from rfl] at this
theorem ratn_0 (n : Nat) : (0 : Rat) ≤ ((n : Nat) : Rat) := by
  have := natr_le (Nat.zero_le n)
  rwa [show ((0 : Nat) : Rat) = 0 from rfl] at this
theorem ratn_12 {n : Nat} (h : n ≤ 12) : ((n : Nat) : Rat) ≤ 12 := by
  have := natr_le h
  rwa [show ((12 : Nat) : Rat) = 12 from rfl] at this
theorem ratn_next (n : Nat) : ((n + 1 : Nat) : Rat) = (n : Rat) + 1 := by rw [Rat.natCast_add]; rfl
theorem rv_kn (n : Nat) (h : n ≤ 1000) : RV .f32 (k32 (n : Int)) (n : Rat) := by
  have := rv_k32 (n : Int) (by omega)
  rwa [Rat.intCast_natCast] at this
/-- One step's length. -/
theorem step_ok {TO : Option Nat} {L : Rat} {n : Nat} (hL : RV .f32 TO L) (n1 : 1 ≤ n) (n2 : n ≤ 12) (l1 : 1 / 100 ≤ L) (l2 : L ≤ 121 / 10) : ∃ η, RV .f32 (fop .quo .f32 TO (k32 (n : Int))) η ∧ η ≤ L / n + L / n / 4000000 ∧ L / n ≤ η + L / n / 4000000 ∧ 0 < L / n ∧ L / n ≤ 121 / 10 ∧ L / n * n = L := by
  have hn := ratn_pos n1
  have hN := rv_kn n (by omega)
  have hd := Rat.div_mul_cancel (a := L) (b := (n : Rat)) (by grind)
  have hn12 := ratn_12 n2
  have w := wn_div hL hN (by grind)
  generalize L / n = z at *
  generalize ((n : Nat) : Rat) = N at *
  have z0 : 0 < z := by
    by_cases h : 0 < z
    · exact h
    · have := Rat.mul_nonneg (show 0 ≤ -z by grind) (show 0 ≤ N by grind)
      grind
  have m1 := Rat.mul_nonneg (show 0 ≤ z by grind) (show 0 ≤ N - 1 by grind)
  have m2 := Rat.mul_nonneg (show 0 ≤ z by grind) (show 0 ≤ 12 - N by grind)
  obtain ⟨η, hη, -, -, e1, e2⟩ := near32 w z (by grind) (by grind) (by grind)
  rw [tiny_eq] at *
  exact ⟨η, hη, by grind, by grind, z0, by grind, hd⟩
theorem grid_ok {TO : Option Nat} {L : Rat} {n : Nat} (hL : RV .f32 TO L) (n1 : 1 ≤ n) (n2 : n ≤ 12) (l1 : (n : Rat) * (415 / 10000) ≤ L) (l2 : L ≤ 121 / 10) (i : Nat) (hi : i ≤ n) :
    ∃ t, RV .f32 (tO TO n i) t ∧ TimeOk t ∧ (i = 0 → t = 0) ∧ (1 ≤ i → 41 / 1000 ≤ t) ∧ t ≤ i * (L / n) + i * (L / n) / 1000000 ∧ i * (L / n) ≤ t + i * (L / n) / 1000000 ∧ t ≤ L + L / 1000000 := by
  have hn := ratn_pos n1
  obtain ⟨η, hη, e1, e2, z0, z1, hd⟩ := step_ok hL n1 n2 (by grind) l2
  have hI := rv_kn i (by omega)
  have i0 := ratn_0 i
  have iN := natr_le hi
  have w := wn_mul hI hη
  have hzl : 415 / 10000 ≤ L / n := by
    refine Rat.le_of_mul_le_mul_right (c := (n : Rat)) ?_ (by grind)
    rw [hd]; grind
  have hn12 := ratn_12 n2
  by_cases h0 : i = 0
  · subst h0
    rw [show ((0 : Nat) : Rat) = 0 from rfl] at *
    rw [show (0 : Rat) * η = 0 by grind] at w
    exact ⟨0, wn_same w (rv_z0 _), ⟨Or.inl rfl, by grind⟩, fun _ => rfl, fun h => by omega, by grind, by grind, by grind⟩
  · have i1 := ratn_pos (show 1 ≤ i by omega)
    generalize L / n = z at *
    generalize ((n : Nat) : Rat) = N at *
    generalize ((i : Nat) : Rat) = I at *
    have m1 := Rat.mul_nonneg i0 (show 0 ≤ z + z / 4000000 - η by grind)
    have m2 := Rat.mul_nonneg i0 (show 0 ≤ η + z / 4000000 - z by grind)
    have m3 := Rat.mul_nonneg (show 0 ≤ z by grind) (show 0 ≤ N - I by grind)
    have m4 := Rat.mul_nonneg (show 0 ≤ z by grind) (show 0 ≤ I - 1 by grind)
    obtain ⟨t, ht, -, -, t1, t2⟩ := near32 w (I * η) (by grind) (by grind) (by grind)
    rw [tiny_eq] at *
    refine ⟨t, ht, ⟨Or.inr (by grind), by grind⟩, fun h => absurd h h0, fun _ => by grind, by grind, by grind, by grind⟩
theorem grid_ratio {L : Rat} {n i : Nat} {t t' : Rat} (n1 : 1 ≤ n) (n2 : n ≤ 12) (hi : i + 1 ≤ n) (hz : 0 < L / n) (h1 : t ≤ i * (L / n) + i * (L / n) / 1000000) (h2 : ((i + 1 : Nat) : Rat) * (L / n) ≤ t' + ((i + 1 : Nat) : Rat) * (L / n) / 1000000) : t * (1085 / 1000) ≤ t' := by
  rw [ratn_next] at h2
  have i0 := ratn_0 i
  have i11 : (i : Rat) ≤ 11 := by
    have := natr_le (show i ≤ 11 by omega)
    rwa [show ((11 : Nat) : Rat) = 11 from rfl] at this
  generalize L / n = z at *
  generalize ((i : Nat) : Rat) = I at *
  have m1 := Rat.mul_nonneg (show 0 ≤ 11 - I by grind) (show 0 ≤ z by grind)
  have m2 := Rat.mul_nonneg i0 (show 0 ≤ z by grind)
  grind
theorem up_ok {k : Int} {P S TO : Option Nat} {ρ σ L : Rat} {n : Nat} (h : LawOk k P S ρ σ) (hL : RV .f32 TO L) (n1 : 1 ≤ n) (n2 : n ≤ 12) (l1 : (n : Rat) * (415 / 10000) ≤ L) (l2 : L ≤ 121 / 10) : Up (fO k P S TO n) n := by
  have G := grid_ok hL n1 n2 l1 l2
  have hn := ratn_pos n1
  obtain ⟨-, -, -, -, z0, -, -⟩ := step_ok hL n1 n2 (by grind) l2
  have F : ∀ i, i ≤ n → ∃ κ φ, RV .f32 (survO k P S (tO TO n i)) κ ∧ 0 ≤ κ ∧ κ ≤ 1 ∧ RV .f32 (fO k P S TO n i) φ ∧ 0 ≤ φ ∧ φ ≤ 1 := by
    intro i hi
    obtain ⟨t, ht, tk, -⟩ := G i hi
    obtain ⟨κ, hκ, k0, k1, -⟩ := surv_ok h ht tk
    obtain ⟨φ, hφ, f0, f1⟩ := wn_between (wn_sub rv_one32 hκ) 0 1 (by decide) (by decide) (show ((0 : Int) : Rat) ≤ _ by rw [show ((0 : Int) : Rat) = 0 from rfl]; grind) (show _ ≤ ((1 : Int) : Rat) by rw [show ((1 : Int) : Rat) = 1 from rfl]; grind)
    exact ⟨κ, φ, hκ, k0, k1, hφ, f0, f1⟩
  refine ⟨fun i hi => ?_, fun i hi a b ha hb => ?_⟩
  · obtain ⟨κ, φ, -, -, -, hφ, f0, f1⟩ := F i hi
    exact ⟨φ, hφ, f0, f1⟩
  · obtain ⟨κ, -, hκ, k0, k1, -, -, -⟩ := F i (by omega)
    obtain ⟨κ', -, hκ', k0', k1', -, -, -⟩ := F (i + 1) (by omega)
    obtain ⟨t, ht, tk, tz, t41, tu, -, -⟩ := G i (by omega)
    obtain ⟨t', ht', tk', -, -, -, tl', -⟩ := G (i + 1) (by omega)
    have hm : κ' ≤ κ := by
      refine surv_mono h ht ht' tk tk' ?_ hκ hκ'
      by_cases h0 : i = 0
      · exact Or.inl (tz h0)
      · exact Or.inr ⟨t41 (by omega), grid_ratio n1 n2 (by omega) z0 tu tl'⟩
    exact nr_mono (nr_sub rv_one32 hκ (by grind) ha) (nr_sub rv_one32 hκ' (by grind) hb) (by grind) ha hb
theorem gr_ok {k : Int} {P S TO : Option Nat} {ρ σ L : Rat} {n : Nat} (h : LawOk k P S ρ σ) (hL : RV .f32 TO L) (n1 : 1 ≤ n) (n2 : n ≤ 12) (l1 : (n : Rat) * (415 / 10000) ≤ L) (l2 : L ≤ 121 / 10) : Gr k P S TO n := by
  have hn := ratn_pos n1
  refine ⟨⟨ρ, σ, h⟩, n1, by omega, ⟨L, hL, by grind⟩, fun i hi => ?_, fun i hi => ?_⟩
  · obtain ⟨t, ht, tk, -⟩ := grid_ok hL n1 n2 l1 l2 i hi
    exact ⟨t, ht, tk⟩
  · obtain ⟨μ, hμ⟩ := ren_bd (up_ok h hL n1 n2 l1 l2) n2 i hi
    exact hμ.rv.fin
theorem half_rv : RV .f32 (some 1056964608) (1 / 2) := by
  have h := rv_fq 2 (by decide)
  rw [show ab .f32 (fq 2) = some 1056964608 by decide +kernel] at h
  exact h.eq (by rw [show ((2 : Nat) : Rat) = 2 from rfl]; grind)
theorem mean_ok {k : Int} {P S TO : Option Nat} {ρ σ L : Rat} {n : Nat} (h : LawOk k P S ρ σ) (hL : RV .f32 TO L) (n1 : 1 ≤ n) (n2 : n ≤ 12) (l1 : 4 / 100 ≤ L) (l2 : L ≤ 121 / 10) : Mn k P S TO n ∧ ∃ μ, RV .f32 (meanS k P S TO n n) μ ∧ 0 ≤ μ ∧ μ ≤ L + L / 100000 := by
  have hn := ratn_pos n1
  have hn12 := ratn_12 n2
  obtain ⟨η, hη, e1, e2, z0, z1, hd⟩ := step_ok hL n1 n2 (by grind) l2
  have T : ∀ i, i < n → ∃ t, RV .f32 (hT TO n i) t ∧ TimeOk t := by
    intro i hi
    have hI := rv_kn i (by omega)
    have i0 := ratn_0 i
    have iN := natr_le (show i + 1 ≤ n by omega)
    rw [ratn_next] at iN
    obtain ⟨a, ha, -, -, a1, a2⟩ := near32 (wn_add hI half_rv) 13 (by grind) (by grind) (by grind)
    have hzl : 3 / 1000 ≤ L / n := by
      refine Rat.le_of_mul_le_mul_right (c := (n : Rat)) ?_ (by grind)
      rw [hd]; grind
    have w := wn_mul ha hη
    generalize L / n = z at *
    generalize ((n : Nat) : Rat) = N at *
    generalize ((i : Nat) : Rat) = I at *
    rw [tiny_eq] at *
    have b1 := Rat.mul_nonneg (show 0 ≤ a - 49 / 100 by grind) (show 0 ≤ η - 29 / 10000 by grind)
    have b2 := (abs_mul_le (a := a) (b := η) (α := 121 / 10) (β := 123 / 10) (by grind) (by grind) (by grind) (by grind)).2
    obtain ⟨t, ht, -, -, t1, t2⟩ := near32 w (a * η) (by grind) (by grind) (by grind)
    rw [tiny_eq] at *
    exact ⟨t, ht, Or.inr (by grind), by grind⟩
  have M : ∀ i, i ≤ n → ∃ s, RV .f32 (meanS k P S TO n i) s ∧ 0 ≤ s ∧ s ≤ (i : Rat) * η + (i : Rat) * (5 * L / 8388608) := by
    intro i
    induction i with
    | zero => exact fun _ => ⟨0, rv_z0 _, by grind, by rw [show ((0 : Nat) : Rat) = 0 from rfl]; grind⟩
    | succ i ih =>
      intro hi
      obtain ⟨s, hs, s0, s1⟩ := ih (by omega)
      obtain ⟨t, ht, tk⟩ := T i (by omega)
      obtain ⟨κ, hκ, k0, k1, -⟩ := surv_ok h ht tk
      have i0 := ratn_0 i
      have iN := natr_le hi
      rw [ratn_next] at *
      have w1 := wn_mul hκ hη
      rw [meanS_next]
      have q1 : (i : Rat) * (L / n) + L / n ≤ L := by
        have := Rat.mul_nonneg (show 0 ≤ L / n by grind) (show 0 ≤ (n : Rat) - ((i : Rat) + 1) by grind)
        have e : L / n * ((n : Rat) - ((i : Rat) + 1)) = L / n * n - ((i : Rat) * (L / n) + L / n) := by grind
        rw [e, hd] at this
        grind
      generalize L / n = z at *
      generalize ((n : Nat) : Rat) = N at *
      generalize ((i : Nat) : Rat) = I at *
      have m1 := Rat.mul_nonneg i0 (show 0 ≤ z + z / 4000000 - η by grind)
      have m2 := Rat.mul_nonneg k0 (show 0 ≤ η by grind)
      have m3 := Rat.mul_nonneg (show 0 ≤ 1 - κ by grind) (show 0 ≤ η by grind)
      have m4 := Rat.mul_nonneg (show 0 ≤ 12 - I by grind) (show 0 ≤ L by grind)
      obtain ⟨x, hx, -, x0, x1, x2⟩ := near32 w1 (2 * L) (by grind) (by grind) (by grind)
      have x0 := x0 m2
      rw [tiny_eq] at *
      obtain ⟨y, hy, -, y0, y1, y2⟩ := near32 (wn_add hs hx) (2 * L) (by grind) (by grind) (by grind)
      have y0 := y0 (by grind)
      rw [tiny_eq] at *
      exact ⟨y, hy, y0, by grind⟩
  obtain ⟨μ, hμ, m0, m1⟩ := M n (Nat.le_refl n)
  refine ⟨⟨⟨ρ, σ, h⟩, n1, by omega, ⟨L, hL, by grind, Or.inr (by grind), by grind⟩, T, ⟨μ, hμ, m0⟩⟩, μ, hμ, m0, ?_⟩
  have q := Rat.mul_nonneg (show 0 ≤ (n : Rat) by grind) (show 0 ≤ L / n + L / n / 4000000 - η by grind)
  have e : (n : Rat) * (L / n + L / n / 4000000 - η) = L / n * n + L / n * n / 4000000 - (n : Rat) * η := by grind
  rw [e, hd] at q
  have q2 := Rat.mul_nonneg (show 0 ≤ 12 - (n : Rat) by grind) (show 0 ≤ L by grind)
  generalize ((n : Nat) : Rat) * η = X at *
  grind
theorem look_ok {k : Int} {P S G : Option Nat} {ρ σ g : Rat} (h : LawOk k P S ρ σ) (hG : RV .f32 G g) (g1 : 4 / 100 ≤ g) (g2 : g ≤ 121 / 10) : Lk k P S G 12 := by
  have T : ∀ j : Nat, 1 ≤ j → j ≤ 12 → ∃ t, RV .f32 (inT G j) t ∧ (j : Rat) * g ≤ t + (j : Rat) * g / 1000000 ∧ t ≤ (j : Rat) * g + (j : Rat) * g / 1000000 ∧ g ≤ (j : Rat) * g ∧ (j : Rat) * g ≤ 12 * g ∧ (j = 1 → t = g) ∧ (j ≠ 1 → 2 * g ≤ (j : Rat) * g) := by
    intro j j1 j2
    have hJ := rv_kn j (by omega)
    have a := ratn_pos j1
    have b := ratn_12 j2
    have w := wn_mul hJ hG
    have c2 : j ≠ 1 → (2 : Rat) ≤ (j : Rat) := fun h => by
      have := natr_le (show 2 ≤ j by omega)
      rwa [show ((2 : Nat) : Rat) = 2 from rfl] at this
    by_cases h1 : j = 1
    · subst h1
      rw [show ((1 : Nat) : Rat) = 1 from rfl] at *
      rw [show (1 : Rat) * g = g by grind] at *
      exact ⟨g, wn_same w hG, by grind, by grind, by grind, by grind, fun _ => rfl, fun h => absurd rfl h⟩
    · have c2 := c2 h1
      generalize ((j : Nat) : Rat) = J at *
      have m1 := Rat.mul_nonneg (show 0 ≤ J - 2 by grind) (show 0 ≤ g by grind)
      have m2 := Rat.mul_nonneg (show 0 ≤ 12 - J by grind) (show 0 ≤ g by grind)
      obtain ⟨t, ht, -, -, t1, t2⟩ := near32 w (J * g) (by grind) (by grind) (by grind)
      rw [tiny_eq] at *
      exact ⟨t, ht, by grind, by grind, by grind, by grind, fun h => absurd h h1, fun _ => by grind⟩
  refine ⟨⟨ρ, σ, h⟩, by omega, by omega, ⟨g, hG, by grind⟩, fun j j1 j2 => ?_, fun j j1 j2 => ?_⟩
  · obtain ⟨t, ht, a, b, c, d, -, -⟩ := T j j1 j2
    exact ⟨t, ht, Or.inr (by grind), by grind⟩
  · obtain ⟨t, ht, a, b, c, d, e, f⟩ := T j j1 j2
    have w := wn_sub ht hG
    by_cases h1 : j = 1
    · have := e h1
      subst this
      rw [show t - t = 0 by grind] at w
      exact ⟨0, wn_same w (rv_z0 _), Or.inl rfl, by grind⟩
    · have f := f h1
      generalize ((j : Nat) : Rat) * g = X at *
      obtain ⟨u, hu, -, -, u1, u2⟩ := near32 w 200 (by grind) (by grind) (by grind)
      rw [tiny_eq] at *
      exact ⟨u, hu, Or.inr (by grind), by grind⟩
theorem grp_ok {k : Int} {P S TO pl fl : Option Nat} {ρ σ L α β : Rat} {n : Nat} (h : LawOk k P S ρ σ) (hL : RV .f32 TO L) (n1 : 1 ≤ n) (n2 : n ≤ 12) (l1 : (n : Rat) * (415 / 10000) ≤ L) (l2 : L ≤ 121 / 10) (hp : RV .f32 pl α) (a0 : 0 ≤ α) (a1 : α ≤ 10) (hf : RV .f32 fl β) (b0 : 0 ≤ β) (b1 : β ≤ 10) : ∃ c, RV .f32 (grpM k P S TO pl fl n).1 c ∧ (grpM k P S TO pl fl n).2 = true := by
  have hn := ratn_pos n1
  obtain ⟨μ, hμ, m0, m1⟩ := ren_bd (up_ok h hL n1 n2 l1 l2) n2 n (Nat.le_refl n)
  have m2 : μ ≤ 8192 := by
    have := natr_le (pN_le n (by omega))
    rw [show ((8192 : Nat) : Rat) = 8192 from rfl] at this
    grind
  have q := abs_mul_le (a := β) (b := μ) (α := 10) (β := 8192) (by grind) b1 (by grind) m2
  obtain ⟨x, hx, -, -, x1, x2⟩ := near32 (wn_mul hf hμ) 100000 (by grind) (by grind) (by grind)
  rw [tiny_eq] at *
  obtain ⟨y, hy, -, -, y1, y2⟩ := near32 (wn_add hp hx) 100000 (by grind) (by grind) (by grind)
  rw [tiny_eq] at *
  have hd := Rat.div_mul_cancel (a := y) (b := L) (by grind)
  have w := wn_div hy hL (by grind)
  generalize y / L = z at *
  have z1 : z ≤ 10000000 := Rat.le_of_mul_le_mul_right (c := L) (by rw [hd]; grind) (by grind)
  have z2 : -10000000 ≤ z := Rat.le_of_mul_le_mul_right (c := L) (by rw [hd]; grind) (by grind)
  obtain ⟨c, hc, -⟩ := near32 w 10000000 (by grind) (by grind) z1
  unfold grpM
  rw [ifFin_yes hc.fin]
  exact ⟨c, hc, rfl⟩
end Go.Proofs.Ytkgbbagklkffpaa
