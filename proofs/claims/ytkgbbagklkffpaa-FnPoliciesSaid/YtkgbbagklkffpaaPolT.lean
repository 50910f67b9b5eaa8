/- FnPolicies: all that the walk is told. -/
import Derived.Test.YtkgbbagklkffpaaPolL
namespace Go.Proofs.Ytkgbbagklkffpaa
open Go.RowKit
set_option linter.unusedVariables false

def mA (k : Int) (p s to pl fl n : Nat) (j : Nat) : Option Nat × Bool := ageM k (ab .f32 p) (ab .f32 s) (tO (ab .f32 to) n j) (ab .f32 pl) (ab .f32 fl) n
def mG (k : Int) (p s to pl fl n : Nat) (j : Nat) : Option Nat × Bool := grpM k (ab .f32 p) (ab .f32 s) (tO (ab .f32 to) n j) (ab .f32 pl) (ab .f32 fl) j
def mI (k : Int) (p s to pl fl n : Nat) (j : Nat) : Option Nat × Bool := inM k (ab .f32 p) (ab .f32 s) (tO (ab .f32 to) n j) (ab .f32 pl) (ab .f32 fl) 12
def fF (k : Int) (p s to n : Nat) : Nat → Option Nat := fO k (ab .f32 p) (ab .f32 s) (ab .f32 to) n
def sF (k : Int) (p s to n : Nat) (i : Nat) : Option Nat := survO k (ab .f32 p) (ab .f32 s) (tO (ab .f32 to) n i)
structure PolT (k : Int) (p s to pl fl pr n : Nat) (L π : Rat) : Prop where
  ren : ∀ w, Calls Try.prog 7 #[.agg #[.int .i64 k, .float .f32 p, .float .f32 s], .float .f32 to, .int .i64 n] w (RenPair (fF k p s to n) n w)
  sur : ∀ i t, i ≤ n → ab .f32 t = tO (ab .f32 to) n i → ∀ w, Calls Try.prog 8 #[.agg #[.int .i64 k, .float .f32 p, .float .f32 s], .float .f32 t] w (NumOk (sF k p s to n i, true) w)
  age : ∀ w, Calls Try.prog 9 #[.agg #[.int .i64 k, .float .f32 p, .float .f32 s], .float .f32 to, .float .f32 pl, .float .f32 fl, .int .i64 n] w (BestRes (tO (ab .f32 to) n) (mA k p s to pl fl n) n w)
  grp : ∀ w, Calls Try.prog 10 #[.agg #[.int .i64 k, .float .f32 p, .float .f32 s], .float .f32 to, .float .f32 pl, .float .f32 fl, .int .i64 n] w (BestRes (tO (ab .f32 to) n) (mG k p s to pl fl n) n w)
  gap : ∀ w, Calls Try.prog 11 #[.agg #[.int .i64 k, .float .f32 p, .float .f32 s], .float .f32 to, .float .f32 pl, .float .f32 fl, .int .i64 n, .int .i64 12] w (BestRes (tO (ab .f32 to) n) (mI k p s to pl fl n) n w)
  ac : ∀ j t, 1 ≤ j → j ≤ n → ab .f32 t = tO (ab .f32 to) n j → ∀ w, Calls Try.prog 12 #[.agg #[.int .i64 k, .float .f32 p, .float .f32 s], .float .f32 t, .float .f32 pl, .float .f32 fl, .int .i64 n] w (NumOk (mA k p s to pl fl n j) w)
  gc : ∀ j t, 1 ≤ j → j ≤ n → ab .f32 t = tO (ab .f32 to) n j → ∀ w, Calls Try.prog 13 #[.agg #[.int .i64 k, .float .f32 p, .float .f32 s], .float .f32 t, .float .f32 pl, .float .f32 fl, .int .i64 j] w (NumOk (mG k p s to pl fl n j) w)
  ic : ∀ j t, 1 ≤ j → j ≤ n → ab .f32 t = tO (ab .f32 to) n j → ∀ w, Calls Try.prog 14 #[.agg #[.int .i64 k, .float .f32 p, .float .f32 s], .float .f32 t, .float .f32 pl, .float .f32 fl, .int .i64 12] w (NumOk (mI k p s to pl fl n j) w)
  war : ∀ w, Calls Try.prog 15 #[.agg #[.int .i64 k, .float .f32 p, .float .f32 s], .float .f32 to, .float .f32 pr, .int .i64 n] w (NumOk (fop .mul .f32 (ab .f32 pr) (mX (fF k p s to n) n), true) w)
  par : ∀ w, Calls Try.prog 16 #[.agg #[.int .i64 k, .float .f32 p, .float .f32 s], .float .f32 to, .float .f32 pr, .int .i64 n] w fun e w' => ∃ r c, e = .returned (.tuple #[.float .f32 r, .bool true]) ∧ RV .f32 (ab .f32 r) c ∧ -(998 / 1000000) ≤ c ∧ c ≤ π + 1 / 10000 ∧ Below w.heap.size w w'
  shr : ∀ (wk : Int) (g : Nat) (w : World), inB wk 1 8 = true → TwoLaws w g k p s → Calls Try.prog 17 #[.slice (some ⟨g, 0, none⟩) 2 2, .float .f32 to, .float .f32 pl, .float .f32 fl, .int .i64 n, .int .i64 wk] w (AgesRes (tO (ab .f32 to) n) (mA k p s to pl fl n) n w)
  toV : RV .f32 (ab .f32 to) L
  l1 : 1 / 2 ≤ L
  l2 : L ≤ 12
  prV : RV .f32 (ab .f32 pr) π
  p0 : 0 ≤ π
  p1 : π ≤ 10
  times : ∀ j, 1 ≤ j → j ≤ n → ∃ t, RV .f32 (tO (ab .f32 to) n j) t ∧ 41 / 1000 ≤ t ∧ t ≤ L + 1 / 10000
  inj : ∀ i j, 1 ≤ i → i ≤ n → 1 ≤ j → j ≤ n → i ≠ j → ∀ a b, RV .f32 (tO (ab .f32 to) n i) a → RV .f32 (tO (ab .f32 to) n j) b → a ≠ b
  up : ∀ i, i < n → ∃ a b κ, RV .f32 (mX (fF k p s to n) i) a ∧ RV .f32 (mX (fF k p s to n) (i + 1)) b ∧ RV .f32 (sF k p s to n (i + 1)) κ ∧ 0 ≤ a ∧ a ≤ b ∧ b ≤ 10000 ∧ 0 ≤ κ ∧ κ ≤ 1 ∧ 1 - κ ≤ b + 1 / 1000000
  last : ∃ μ f, RV .f32 (mX (fF k p s to n) n) μ ∧ 0 ≤ μ ∧ μ ≤ 10000 ∧ RV .f32 (fop .mul .f32 (ab .f32 pr) (mX (fF k p s to n) n)) f ∧ 0 ≤ f ∧ f ≤ 1000000
  okG : okAll (mG k p s to pl fl n) n = true
  finG : ∀ j, 1 ≤ j → j ≤ n → ∃ c, RV .f32 (mG k p s to pl fl n j).1 c
theorem mono_lt {L : Rat} {n i j : Nat} {t t' : Rat} (n1 : 1 ≤ n) (n2 : n ≤ 12) (hij : i < j) (hj : j ≤ n) (hz : 0 < L / n) (h1 : t ≤ i * (L / n) + i * (L / n) / 1000000) (h2 : (j : Rat) * (L / n) ≤ t' + (j : Rat) * (L / n) / 1000000) : t < t' := by
  have i0 := ratn_0 i
  have ij := natr_le (show i + 1 ≤ j by omega)
  rw [ratn_next] at ij
  have j12 := ratn_12 (show j ≤ 12 by omega)
  generalize L / n = z at *
  generalize ((i : Nat) : Rat) = I at *
  generalize ((j : Nat) : Rat) = J at *
  have m1 := Rat.mul_nonneg (show 0 ≤ J - (I + 1) by grind) (show 0 ≤ z by grind)
  have m2 := Rat.mul_nonneg (show 0 ≤ 12 - J by grind) (show 0 ≤ z by grind)
  grind
theorem polT_of {K P Q A n B C D : Nat} (hK : K < 4) (hP : P < 11) (hQ : Q < 32) (hA : A < 24) (n1 : 1 ≤ n) (n2 : n ≤ 12) (hB : B < 8) (hC : C < 16) (hD : D < 10) :
    PolT (K : Int) (fq (2 + P)) (fq (2 * (1 + Q))) (fq (2 * (1 + A))) (fq (2 * (1 + B))) (fq (2 * (1 + C))) (floatOfInt .f32 ((1 + D : Nat) : Int)) n (((2 * (1 + A) : Nat) : Rat) / 4) (((1 + D : Nat) : Rat)) := by
  have hL := law_ok hK hP hQ
  have hTO := rv_fq (2 * (1 + A)) (by omega)
  have hPL := rv_fq (2 * (1 + B)) (by omega)
  have hFL := rv_fq (2 * (1 + C)) (by omega)
  have hPR : RV .f32 (ab .f32 (floatOfInt .f32 ((1 + D : Nat) : Int))) ((1 + D : Nat) : Rat) := by
    rw [ab_ofInt]; exact rv_kn (1 + D) (by omega)
  have q1 := natr_le (show 2 ≤ 2 * (1 + A) by omega)
  have q2 := natr_le (show 2 * (1 + A) ≤ 48 by omega)
  have q3 := ratn_0 (2 * (1 + B))
  have q4 := natr_le (show 2 * (1 + B) ≤ 40 by omega)
  have q5 := ratn_0 (2 * (1 + C))
  have q6 := natr_le (show 2 * (1 + C) ≤ 40 by omega)
  have q7 := ratn_0 (1 + D)
  have q8 := natr_le (show 1 + D ≤ 10 by omega)
  rw [show ((2 : Nat) : Rat) = 2 from rfl] at q1
  rw [show ((48 : Nat) : Rat) = 48 from rfl] at q2
  rw [show ((40 : Nat) : Rat) = 40 from rfl] at q4 q6
  rw [show ((10 : Nat) : Rat) = 10 from rfl] at q8
  have hn := ratn_pos n1
  have hn12 := ratn_12 n2
  generalize fq (2 + P) = p at *
  generalize fq (2 * (1 + Q)) = s at *
  generalize fq (2 * (1 + A)) = to at *
  generalize fq (2 * (1 + B)) = pl at *
  generalize fq (2 * (1 + C)) = fl at *
  generalize floatOfInt .f32 ((1 + D : Nat) : Int) = pr at *
  generalize ((2 + P : Nat) : Rat) / 4 = ρ at *
  generalize ((2 * (1 + Q) : Nat) : Rat) / 4 = σ at *
  obtain ⟨L, hLe⟩ : ∃ L, L = ((2 * (1 + A) : Nat) : Rat) / 4 := ⟨_, rfl⟩
  obtain ⟨α, hαe⟩ : ∃ α, α = ((2 * (1 + B) : Nat) : Rat) / 4 := ⟨_, rfl⟩
  obtain ⟨β, hβe⟩ : ∃ β, β = ((2 * (1 + C) : Nat) : Rat) / 4 := ⟨_, rfl⟩
  rw [← hLe] at hTO ⊢
  rw [← hαe] at hPL
  rw [← hβe] at hFL
  have l1 : 1 / 2 ≤ L := by grind
  have l2 : L ≤ 12 := by grind
  have a0 : 0 ≤ α := by grind
  have a1 : α ≤ 10 := by grind
  have b0 : 0 ≤ β := by grind
  have b1 : β ≤ 10 := by grind
  generalize ((1 + D : Nat) : Rat) = π at *
  clear hLe hαe hβe q1 q2 q3 q4 q5 q6
  have lg : (n : Rat) * (415 / 10000) ≤ L := by grind
  have l3 : L ≤ 121 / 10 := by grind
  have G := grid_ok hTO n1 n2 lg l3
  obtain ⟨-, -, -, -, z0, -, zd⟩ := step_ok hTO n1 n2 (by grind) l3
  have hU := up_ok hL hTO n1 n2 lg l3
  have TT : ∀ j, 1 ≤ j → j ≤ n → ∃ t, RV .f32 (tO (ab .f32 to) n j) t ∧ TimeOk t ∧ 41 / 1000 ≤ t ∧ t ≤ L + 1 / 10000 ∧ (j : Rat) * (415 / 10000) ≤ t := by
    intro j j1 j2
    obtain ⟨t, ht, tk, -, t41, tu, tl, tL⟩ := G j j2
    have hJ := ratn_pos j1
    have hzl : 416 / 10000 ≤ L / n := by
      refine Rat.le_of_mul_le_mul_right (c := (n : Rat)) ?_ (by grind)
      rw [zd]; grind
    refine ⟨t, ht, tk, t41 j1, by grind, ?_⟩
    generalize L / n = z at *
    generalize ((j : Nat) : Rat) = J at *
    have := Rat.mul_nonneg (show 0 ≤ J by grind) (show 0 ≤ z - 416 / 10000 by grind)
    grind
  have GJ : ∀ j, 1 ≤ j → j ≤ n → Gr (K : Int) (ab .f32 p) (ab .f32 s) (tO (ab .f32 to) n j) j := fun j j1 j2 => by
    obtain ⟨t, ht, -, t1, t2, t3⟩ := TT j j1 j2
    exact gr_ok hL ht j1 (by omega) t3 (by grind)
  have GC : ∀ j, 1 ≤ j → j ≤ n → ∃ c, RV .f32 (mG (K : Int) p s to pl fl n j).1 c ∧ (mG (K : Int) p s to pl fl n j).2 = true := fun j j1 j2 => by
    obtain ⟨t, ht, -, t1, t2, t3⟩ := TT j j1 j2
    exact grp_ok hL ht j1 (by omega) t3 (by grind) hPL a0 a1 hFL b0 b1
  have MJ : ∀ j, 1 ≤ j → j ≤ n → Mn (K : Int) (ab .f32 p) (ab .f32 s) (tO (ab .f32 to) n j) n := fun j j1 j2 => by
    obtain ⟨t, ht, -, t1, t2, t3⟩ := TT j j1 j2
    exact (mean_ok hL ht n1 n2 (by grind) (by grind)).1
  have LJ : ∀ j, 1 ≤ j → j ≤ n → Lk (K : Int) (ab .f32 p) (ab .f32 s) (tO (ab .f32 to) n j) 12 := fun j j1 j2 => by
    obtain ⟨t, ht, -, t1, t2, t3⟩ := TT j j1 j2
    exact look_ok hL ht (by grind) (by grind)
  have GR := gr_ok hL hTO n1 n2 lg l3
  have AGE := fun w => bestAge_any hL hTO (by grind) n1 (by omega) MJ hPL a0 hFL b0 w
  have M8 : ∀ i, i ≤ n → ∃ μ, RV .f32 (mX (fF (K : Int) p s to n) i) μ ∧ 0 ≤ μ ∧ μ ≤ 8192 := fun i hi => by
    obtain ⟨μ, hμ, m0, m1⟩ := ren_bd hU n2 i hi
    have := natr_le (pN_le i (by omega))
    rw [show ((8192 : Nat) : Rat) = 8192 from rfl] at this
    exact ⟨μ, hμ, m0, by grind⟩
  have LAST : ∃ μ f, RV .f32 (mX (fF (K : Int) p s to n) n) μ ∧ 0 ≤ μ ∧ μ ≤ 10000 ∧ RV .f32 (fop .mul .f32 (ab .f32 pr) (mX (fF (K : Int) p s to n) n)) f ∧ 0 ≤ f ∧ f ≤ 1000000 := by
    obtain ⟨μ, hμ, m0, m1⟩ := M8 n (Nat.le_refl n)
    have b := abs_mul_le (a := π) (b := μ) (α := 10) (β := 8192) (by grind) q8 (by grind) m1
    obtain ⟨f, hf, -, f0, f1, f2⟩ := near32 (wn_mul hPR hμ) 100000 (by grind) (by grind) (by grind)
    rw [tiny_eq] at *
    exact ⟨μ, f, hμ, m0, by grind, hf, f0 (Rat.mul_nonneg q7 m0), by grind⟩
  refine ⟨fun w => renSums_any GR w, fun i t hi ht w => ?_, AGE, fun w => bestGroup_any hL hTO (by grind) n1 (by omega) GJ hPL a0 hFL b0 w, fun w => bestGap_any (c0 := 12) hL hTO (by grind) n1 (by omega) LJ hPL a0 hFL b0 w, fun j t j1 j2 ht w => ?_, fun j t j1 j2 ht w => ?_, fun j t j1 j2 ht w => ?_, fun w => ?_, fun w => ?_, fun wk g w hwk hg => ages_any _ wk hwk w hg AGE, hTO, l1, l2, hPR, q7, q8, fun j j1 j2 => ?_, fun i j i1 i2 j1 j2 hij a b ha hb => ?_, fun i hi => ?_, LAST, ?_, fun j j1 j2 => ?_⟩
  · obtain ⟨τ, hτ, tk, -⟩ := G i hi
    have := lawSurvives_any (t := t) hL (by rw [ht]; exact hτ) tk w
    rw [ht] at this
    exact this
  · have := ageCost_any (k := (K : Int)) (p := p) (s := s) (n := n) (age := t) (by rw [ht]; exact MJ j j1 j2) hPL a0 hFL b0 w
    rw [ht] at this
    exact this
  · have := groupCost_any (k := (K : Int)) (p := p) (s := s) (n := j) (to := t) (by rw [ht]; exact GJ j j1 j2) hPL a0 hFL b0 w
    rw [ht] at this
    exact this
  · have := inspect_any (k := (K : Int)) (p := p) (s := s) (gap := t) (c := 12) (by rw [ht]; exact LJ j j1 j2) hPL a0 hFL b0 w
    rw [ht] at this
    exact this
  · obtain ⟨μ, f, -, -, -, hf, -⟩ := LAST
    have := warranty_any GR hPR q7 w
    rw [show warM (K : Int) (ab .f32 p) (ab .f32 s) (ab .f32 to) (ab .f32 pr) n = (fop .mul .f32 (ab .f32 pr) (mX (fF (K : Int) p s to n) n), true) from ifFin_yes hf.fin] at this
    exact this
  · obtain ⟨c, hc, c1, c2, c3⟩ := part_ok hL hTO n1 n2 (by grind) l3 hPR q7 q8
    refine (partWar_any (mean_ok hL hTO n1 n2 (by grind) l3).1 hPR q7 w).mono ?_
    rintro e w' ⟨r, rfl, hr, hb⟩
    exact ⟨r, c, by rw [c1], by rw [hr]; exact hc, c2, c3, hb⟩
  · obtain ⟨t, ht, -, t1, t2, -⟩ := TT j j1 j2
    exact ⟨t, ht, t1, t2⟩
  · obtain ⟨t, ht, -, -, -, tu, tl, -⟩ := G i i2
    obtain ⟨t', ht', -, -, -, tu', tl', -⟩ := G j j2
    obtain rfl := ha.val ht
    obtain rfl := hb.val ht'
    rcases Nat.lt_or_ge i j with h | h
    · have := mono_lt n1 n2 h j2 z0 tu tl'; grind
    · have := mono_lt n1 n2 (show j < i by omega) i2 z0 tu' tl; grind
  · obtain ⟨a, ha, a0, a1⟩ := M8 i (by omega)
    obtain ⟨b, hb, b0, b1⟩ := M8 (i + 1) (by omega)
    obtain ⟨τ, hτ, tk, -⟩ := G (i + 1) (by omega)
    obtain ⟨κ, hκ, k0, k1, -⟩ := surv_ok hL hτ tk
    obtain ⟨φ, hφ, -, -⟩ := hU.1 (i + 1) (by omega)
    have h1 := ren_up hU n2 i hi a b ha hb
    have h2 := ren_ge hU n2 hi hφ hb
    obtain ⟨φ', hφ', -, -, e1, e2⟩ := near32 (wn_sub rv_one32 hκ) 1 (by grind) (by grind) (by grind)
    obtain rfl := hφ.val hφ'
    rw [tiny_eq] at *
    exact ⟨a, b, κ, ha, hb, hκ, a0, h1, by grind, k0, k1, by grind⟩
  · exact okAll_yes fun i hi => by
      obtain ⟨c, -, hc⟩ := GC (i + 1) (by omega) (by omega)
      exact hc
  · obtain ⟨c, hc, -⟩ := GC j j1 j2
    exact ⟨c, hc⟩
end Go.Proofs.Ytkgbbagklkffpaa
