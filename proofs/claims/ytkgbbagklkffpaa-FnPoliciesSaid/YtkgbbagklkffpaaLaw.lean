/- Contracts: laws of life: valid ones, powers, how likely one survives. -/
import Derived.Test.YtkgbbagklkffpaaRen
import Derived.Test.YtkgbbagklkffpaaInt
namespace Go.Proofs.Ytkgbbagklkffpaa
open Go.RowKit
set_option linter.unusedVariables false

theorem rv_word {b : Nat} (h : b % FloatKind.f32.format.signWeight < FloatKind.f32.format.infRung) : RV .f32 (some b) (((fv FloatKind.f32.format b : Int) : Rat) / (unit .f32 : Nat)) := RV.of ⟨b, rfl, h, rfl⟩
theorem rv_c001 : ∃ c, RV .f32 (some 981668463) c ∧ 0 ≤ c ∧ c ≤ 1 / 100 := ⟨_, rv_word (by decide), by decide +kernel, by decide +kernel⟩
theorem rv_c1000 : RV .f32 (some 1148846080) 1000 := by
  have := rv_ofInt32 1000 (by decide)
  rwa [show floatOfInt .f32 1000 = 1148846080 from by decide] at this
@[go_sem] theorem ab_c001 : ab .f32 981668463 = some 981668463 := by decide
@[go_sem] theorem ab_c1000 : ab .f32 1148846080 = some 1148846080 := by decide
theorem rv_geB {x y : Option Nat} {a b : Rat} (hx : RV .f32 x a) (hy : RV .f32 y b) (h : b ≤ a) : (ford .f32 x y == some .gt || ford .f32 x y == some .eq) = true := by
  by_cases e : a = b
  · rw [rv_eq hx hy e]; rfl
  · rw [rv_gt hx hy (by grind)]; rfl
theorem rv_leB {x y : Option Nat} {a b : Rat} (hx : RV .f32 x a) (hy : RV .f32 y b) (h : a ≤ b) : (ford .f32 x y == some .lt || ford .f32 x y == some .eq) = true := by
  by_cases e : a = b
  · rw [rv_eq hx hy e]; rfl
  · rw [rv_lt hx hy (by grind)]; rfl
def lawV (k : Int) (p s : Nat) : Value := .agg #[.int .i64 k, .float .f32 p, .float .f32 s]
set_option maxRecDepth 100000 in
set_option maxHeartbeats 800000 in
theorem validLaw_any {k : Int} {p s : Nat} {ρ σ : Rat} (h : LawOk k (ab .f32 p) (ab .f32 s) ρ σ) (w : World) : Calls Try.prog 35 #[.agg #[.int .i64 k, .float .f32 p, .float .f32 s]] w fun e w' => e = .returned (.bool true) ∧ Below w.heap.size w w' := by
  obtain ⟨c, hc, c0, c1⟩ := rv_c001
  have G1 := hid (rv_geB h.P hc (by have := h.p1; grind))
  have G2 := hid (rv_leB h.P rv_c1000 (by have := h.p2; grind))
  have G3 := hid (rv_geB h.S hc (by have := h.s1; grind))
  have G4 := hid (rv_leB h.S rv_c1000 (by have := h.s2; grind))
  have HIN := hid (inB_mk h.k0 h.k3)
  clear h hc c0 c1
  have g1 := G1.out; have g2 := G2.out; have g3 := G3.out; have g4 := G4.out
  go_enter Try.func35, Try.ntmps35
  go_wp2_with (first | (go_at_call 37; (refine (within_same _ _ _ _).mono ?_); rw [HIN.out]; rintro e w' ⟨rfl, rfl⟩))
  go_ret
  exact ⟨rfl, by (repeat (first | (with_reducible assumption) | (with_reducible apply below_refl) | (with_reducible apply below_alloc1) | (with_reducible apply below_drewN1) | (with_reducible apply below_drew1)))⟩
theorem ngX_eq (x : Option Nat) : fop .sub .f32 (some 0) x = ngX x := rfl
theorem kpX_eq (t S : Option Nat) : fop .quo .f32 t S = kpX S t := rfl
set_option maxRecDepth 100000 in
set_option maxHeartbeats 800000 in
theorem powered_any (x y : Nat) {r ρ : Rat} (hx : RV .f32 (ab .f32 x) r) (h0 : r = 0 ∨ 1 / 20000 ≤ r) (h1 : r ≤ 400) (hP : RV .f32 (ab .f32 y) ρ) (p1 : 1 / 2 ≤ ρ) (p2 : ρ ≤ 3) (w : World) : Calls Try.prog 43 #[.float .f32 x, .float .f32 y] w (FltOk (pwX (ab .f32 x) (ab .f32 y)) w) := by
  rcases h0 with rfl | h0
  · have G := rv_eq hx (rv_z0 .f32) rfl
    have HZ := hid (pwX_zero (P := ab .f32 y) hx)
    clear hx hP h1
    go_enter Try.func43, Try.ntmps43
    go_wp2_with fail
    go_ret
    exact ⟨_, rfl, by rw [HZ.out]; exact ab_z32, by (repeat (first | (with_reducible assumption) | (with_reducible apply below_refl) | (with_reducible apply below_alloc1) | (with_reducible apply below_drewN1) | (with_reducible apply below_drew1)))⟩
  · have G := rv_gt hx (rv_z0 .f32) (by grind)
    have HG := hid G
    have HF := hid (show finite32 (ab .f32 x) = true from hx.fin)
    obtain ⟨η, p, e1, e2, e3, e4, -, -, -⟩ := pw_ex hx h0 h1 hP p1 p2
    have HE := hid (And.intro e1 (And.intro e2 (And.intro e3 e4)))
    have HZ := hid (pwX_pos (P := ab .f32 y) hx (by grind))
    clear hx hP h1 e1 e2 e3 e4
    go_enter Try.func43, Try.ntmps43
    go_wp2_with (first
      | (go_at_call 50; (refine (implLog_any _ HG.out _).mono ?_); rintro e w' ⟨l, rfl, hlg, hb⟩; have hB := below_trans (show Below w.heap.size w _ by (repeat (first | (with_reducible assumption) | (with_reducible apply below_refl) | (with_reducible apply below_alloc1) | (with_reducible apply below_drewN1) | (with_reducible apply below_drew1)))) hb; have hl2 := hid (hlg.1 HF.out).1; clear hb hlg)
      | (go_at_call 42; have hy2 := hid (show ab .f32 r = pwY (ab .f32 x) (ab .f32 y) by rw [hr, hl2.out]; rfl); (refine (implExp_rv r (by rw [hy2.out]; exact HE.out.1) HE.out.2.1 HE.out.2.2.1 (by rw [hy2.out]; exact HE.out.2.2.2) _).mono ?_); rintro e w' ⟨q, rfl, hq, hb⟩; have hB2 := below_trans (show Below w.heap.size w _ by (repeat (first | (with_reducible assumption) | (with_reducible apply below_refl) | (with_reducible apply below_alloc1) | (with_reducible apply below_drewN1) | (with_reducible apply below_drew1)))) hb; rw [hy2.out, ← HZ.out] at hq; clear hb)
      | (refine upon_float rfl ?_; intro r n hr; go_simp))
    go_ret
    exact ⟨_, rfl, hq, by (repeat (first | (with_reducible assumption) | (with_reducible apply below_refl) | (with_reducible apply below_alloc1) | (with_reducible apply below_drewN1) | (with_reducible apply below_drew1)))⟩
theorem neg_rv {x : Option Nat} {y : Rat} (h : RV .f32 x y) (h0 : y ≤ 0) : Neg x := by
  obtain ⟨v, hv, e⟩ := h
  refine Or.inr (Or.inl ⟨v, hv, ?_⟩)
  rw [← Rat.intCast_le_intCast, e, show ((0 : Int) : Rat) = 0 from rfl]
  have := Rat.mul_nonneg (show 0 ≤ -y by grind) (Rat.le_of_lt (unit_pos .f32))
  grind
theorem surv_0 (P S t : Option Nat) : survO 0 P S t = exX (ngX (kpX S t)) := rfl
theorem surv_1 (P S t : Option Nat) : survO 1 P S t = exX (ngX (pwX (kpX S t) P)) := rfl
theorem surv_2 (P S t : Option Nat) : survO 2 P S t = fop .quo .f32 (some 1065353216) (fop .add .f32 (some 1065353216) (pwX (kpX S t) P)) := rfl
theorem surv_3 (P S t : Option Nat) : survO 3 P S t = if (ford .f32 (kpX S t) (some 1065353216) == some .gt) = true then some 0 else fop .sub .f32 (some 1065353216) (kpX S t) := rfl
set_option maxRecDepth 100000 in
set_option maxHeartbeats 1600000 in
theorem survives_any {k : Int} {p s t : Nat} {ρ σ τ : Rat} (h : LawOk k (ab .f32 p) (ab .f32 s) ρ σ) (ht : RV .f32 (ab .f32 t) τ) (hτ : TimeOk τ) (w : World) : Calls Try.prog 26 #[.agg #[.int .i64 k, .float .f32 p, .float .f32 s], .float .f32 t] w (FltOk (survO k (ab .f32 p) (ab .f32 s) (ab .f32 t)) w) := by
  obtain ⟨r, hr, r0, r1, r2, -⟩ := kpX_rv h.S h.s1 h.s2 ht hτ
  obtain ⟨q, hq, q0, q1, q2⟩ := pw_rv hr r1 r2 h.P h.p1 h.p2
  have rp : 0 ≤ r := by rcases r1 with e | e <;> grind
  have k0 := h.k0; have k3 := h.k3
  have HR := hid (And.intro hr (And.intro r1 r2))
  have HP := hid (And.intro h.P (And.intro h.p1 h.p2))
  obtain ⟨y, hy, y0, -, -, -⟩ := ng_rv hr rp (by grind)
  have HY := hid (And.intro hy y0)
  obtain ⟨z, hz, z0, -, -, -⟩ := ng_rv hq q0 (by grind)
  have HZ := hid (And.intro hz z0)
  clear h ht hτ hr r0 r1 r2 hq q0 q1 q2 rp hy y0 hz z0
  have hk : k = 0 ∨ k = 1 ∨ k = 2 ∨ k = 3 := by omega
  clear k0 k3
  obtain ⟨X, hX⟩ : ∃ X, X = kpX (ab .f32 s) (ab .f32 t) := ⟨_, rfl⟩
  have HXX := hid hX
  rcases hk with rfl | rfl | rfl | rfl
  · rw [surv_0]
    rw [← hX] at HY ⊢
    obtain ⟨M, hM⟩ : ∃ M, M = X := ⟨_, rfl⟩
    have HN := hid HY.out
    rw [← hM] at HN
    have HMM := hid hM
    clear hX hM
    go_enter Try.func26, Try.ntmps26
    go_wp2_with (first
      | ((fail_if_success (have := hx1)); refine upon_float rfl ?_; intro x1 n1 hx1; go_simp; have HX1 := hid hx1)
      | ((go_at_call 42; have hy2 := hid (show ab .f32 r = ngX M by rw [hr, HMX.out]; rfl); (refine (implExp_any r (by rw [hy2.out]; exact neg_rv HN.out.1 HN.out.2) _).mono ?_); rintro e w' ⟨q, rfl, hq, hb⟩; have hB2 := below_trans (show Below w.heap.size w _ by (repeat (first | (with_reducible assumption) | (with_reducible apply below_refl) | (with_reducible apply below_alloc1) | (with_reducible apply below_drewN1) | (with_reducible apply below_drew1)))) hb; rw [hy2.out] at hq; clear hb))
      | (have HMX := hid (show ab .f32 x1 = M by rw [HX1.out, HMM.out, HXX.out]; rfl); (refine upon_float rfl ?_; intro r n hr; go_simp)))
    go_ret
    exact ⟨_, rfl, by rw [hq, HMM.out], by (repeat (first | (with_reducible assumption) | (with_reducible apply below_refl) | (with_reducible apply below_alloc1) | (with_reducible apply below_drewN1) | (with_reducible apply below_drew1)))⟩
  · rw [surv_1]
    rw [← hX] at HZ HR ⊢
    obtain ⟨M, hM⟩ : ∃ M, M = pwX X (ab .f32 p) := ⟨_, rfl⟩
    rw [← hM] at HZ ⊢
    have HN := hid HZ.out
    have HMM := hid hM
    clear hX hM
    go_enter Try.func26, Try.ntmps26
    go_wp2_with (first
      | ((fail_if_success (have := hx1)); refine upon_float rfl ?_; intro x1 n1 hx1; go_simp; have HX1 := hid hx1)
      | (go_at_call 43; have hx2 := hid (show ab .f32 x1 = X by rw [HX1.out, HXX.out]; rfl); (refine (powered_any x1 p (by rw [hx2.out]; exact HR.out.1) HR.out.2.1 HR.out.2.2 HP.out.1 HP.out.2.1 HP.out.2.2 _).mono ?_); rintro e w' ⟨v, rfl, hv, hb⟩; have hB1 := below_trans (show Below w.heap.size w _ by (repeat (first | (with_reducible assumption) | (with_reducible apply below_refl) | (with_reducible apply below_alloc1) | (with_reducible apply below_drewN1) | (with_reducible apply below_drew1)))) hb; rw [hx2.out, ← HMM.out] at hv; have HMX := hid hv; clear hb hv)
      | ((go_at_call 42; have hy2 := hid (show ab .f32 r = ngX M by rw [hr, HMX.out]; rfl); (refine (implExp_any r (by rw [hy2.out]; exact neg_rv HN.out.1 HN.out.2) _).mono ?_); rintro e w' ⟨q, rfl, hq, hb⟩; have hB2 := below_trans (show Below w.heap.size w _ by (repeat (first | (with_reducible assumption) | (with_reducible apply below_refl) | (with_reducible apply below_alloc1) | (with_reducible apply below_drewN1) | (with_reducible apply below_drew1)))) hb; rw [hy2.out] at hq; clear hb))
      | (refine upon_float rfl ?_; intro r n hr; go_simp))
    go_ret
    exact ⟨_, rfl, hq, by (repeat (first | (with_reducible assumption) | (with_reducible apply below_refl) | (with_reducible apply below_alloc1) | (with_reducible apply below_drewN1) | (with_reducible apply below_drew1)))⟩
  · rw [surv_2]
    rw [← hX] at HR ⊢
    obtain ⟨M, hM⟩ : ∃ M, M = pwX X (ab .f32 p) := ⟨_, rfl⟩
    rw [← hM]
    have HMM := hid hM
    clear hX hM
    go_enter Try.func26, Try.ntmps26
    go_wp2_with (first
      | ((fail_if_success (have := hx1)); refine upon_float rfl ?_; intro x1 n1 hx1; go_simp; have HX1 := hid hx1)
      | (go_at_call 43; have hx2 := hid (show ab .f32 x1 = X by rw [HX1.out, HXX.out]; rfl); (refine (powered_any x1 p (by rw [hx2.out]; exact HR.out.1) HR.out.2.1 HR.out.2.2 HP.out.1 HP.out.2.1 HP.out.2.2 _).mono ?_); rintro e w' ⟨v, rfl, hv, hb⟩; have hB1 := below_trans (show Below w.heap.size w _ by (repeat (first | (with_reducible assumption) | (with_reducible apply below_refl) | (with_reducible apply below_alloc1) | (with_reducible apply below_drewN1) | (with_reducible apply below_drew1)))) hb; rw [hx2.out, ← HMM.out] at hv; have HMX := hid hv; clear hb hv)
      | ((fail_if_success (have := hx5)); refine upon_float rfl ?_; intro x5 n5 hx5; go_simp; have HX5 := hid hx5)
      | (refine upon_float rfl ?_; intro r n hr; go_simp))
    go_ret
    exact ⟨_, rfl, by rw [hr, HX5.out, HMX.out, ab_one32], by (repeat (first | (with_reducible assumption) | (with_reducible apply below_refl) | (with_reducible apply below_alloc1) | (with_reducible apply below_drewN1) | (with_reducible apply below_drew1)))⟩
  · rw [surv_3]
    rw [← hX]
    cases hg : (ford .f32 X (some 1065353216) == some .gt)
    all_goals
      have HG := hid hg
      clear hX hg
      go_enter Try.func26, Try.ntmps26
      go_wp2_with (first
        | ((fail_if_success (have := HX1)); refine upon_float rfl ?_; intro x1 n1 hx1; go_simp; have HX1 := hid hx1; have HMX := hid (show ab .f32 x1 = X by rw [HX1.out, HXX.out]; rfl); have hgg := HG.out; rw [← HMX.out] at hgg; clear hx1)
        | (refine upon_float rfl ?_; intro r n hr; go_simp))
      go_ret
    · exact ⟨_, rfl, by rw [hr, HMX.out, ab_one32], by (repeat (first | (with_reducible assumption) | (with_reducible apply below_refl) | (with_reducible apply below_alloc1) | (with_reducible apply below_drewN1) | (with_reducible apply below_drew1)))⟩
    · exact ⟨_, rfl, by rw [ab_z32], by (repeat (first | (with_reducible assumption) | (with_reducible apply below_refl) | (with_reducible apply below_alloc1) | (with_reducible apply below_drewN1) | (with_reducible apply below_drew1)))⟩
set_option maxRecDepth 100000 in
set_option maxHeartbeats 800000 in
theorem kept_any {k : Int} {p s t : Nat} {ρ σ τ : Rat} (h : LawOk k (ab .f32 p) (ab .f32 s) ρ σ) (ht : RV .f32 (ab .f32 t) τ) (hτ : TimeOk τ) (w : World) : Calls Try.prog 33 #[.agg #[.int .i64 k, .float .f32 p, .float .f32 s], .float .f32 t] w (FltOk (survO k (ab .f32 p) (ab .f32 s) (ab .f32 t)) w) := by
  have HF := hid (show finite32 (ab .f32 t) = true from ht.fin)
  have HS := hid (fun w => survives_any h ht hτ w)
  clear h ht hτ
  go_enter Try.func33, Try.ntmps33
  go_wp2_with (first
    | (go_at_call 41; (refine (implFinite_any _ _).mono ?_); rw [HF.out]; rintro e wa ⟨rfl, hb⟩; have hcc := (bcell hb).1; have c0 : wa.cell? ⟨w.heap.size, 0, none⟩ = some (.int .i64 k) := (by rw [hcc _ _ (by simp)]; simp); have c1 : wa.cell? ⟨w.heap.size, 1, none⟩ = some (.float .f32 p) := (by rw [hcc _ _ (by simp)]; simp); have c2 : wa.cell? ⟨w.heap.size, 2, none⟩ = some (.float .f32 s) := (by rw [hcc _ _ (by simp)]; simp); have hBA : Below w.heap.size w wa := below_trans (by (repeat (first | (with_reducible assumption) | (with_reducible apply below_refl) | (with_reducible apply below_alloc1) | (with_reducible apply below_drewN1) | (with_reducible apply below_drew1)))) hb; clear hb hcc)
    | (go_at_call 26; (refine (HS.out _).mono ?_); rintro e w' ⟨q, rfl, hq, hb⟩; have hB2 := below_trans (show Below w.heap.size w _ by (repeat (first | (with_reducible assumption) | (with_reducible apply below_refl) | (with_reducible apply below_alloc1) | (with_reducible apply below_drewN1) | (with_reducible apply below_drew1)))) hb; clear hb))
  go_ret
  exact ⟨_, rfl, hq, by (repeat (first | (with_reducible assumption) | (with_reducible apply below_refl) | (with_reducible apply below_alloc1) | (with_reducible apply below_drewN1) | (with_reducible apply below_drew1)))⟩
theorem notLess_rv {x : Option Nat} {a : Rat} (h : RV .f32 x a) (h0 : 0 ≤ a) : notLessB x = true := by
  unfold notLessB
  rw [show finite32 x = true from h.fin, rv_geB h (rv_z0 .f32) h0]; rfl
theorem more_rv {x : Option Nat} {a : Rat} (h : RV .f32 x a) (h0 : 0 < a) : moreB x = true := by
  unfold moreB
  rw [show finite32 x = true from h.fin, rv_gt h (rv_z0 .f32) h0]; rfl
theorem all_one {f : Nat → Bool} {a : Nat} (h : f a = true) : ([a].all f) = true := by simp [h]
theorem all_two {f : Nat → Bool} {a b : Nat} (h : f a = true) (h' : f b = true) : ([a, b].all f) = true := by simp [h, h']
set_option maxRecDepth 100000 in
set_option maxHeartbeats 800000 in
theorem isTime_any {k : Int} {p s t : Nat} {ρ σ τ : Rat} (h : LawOk k (ab .f32 p) (ab .f32 s) ρ σ) (ht : RV .f32 (ab .f32 t) τ) (h0 : 0 ≤ τ) (w : World) : Calls Try.prog 24 #[.agg #[.int .i64 k, .float .f32 p, .float .f32 s], .float .f32 t] w fun e w' => e = .returned (.bool true) ∧ Below w.heap.size w w' := by
  have HV := hid (fun w => validLaw_any h w)
  have HN := hid (all_one (f := fun b => notLessB (ab .f32 b)) (a := t) (notLess_rv ht h0))
  clear h ht
  go_enter Try.func24, Try.ntmps24
  go_wp2_with (first
    | (go_at_call 35; (refine (HV.out _).mono ?_); rintro e wa ⟨rfl, hb⟩; have hBA : Below w.heap.size w wa := below_trans (by (repeat (first | (with_reducible assumption) | (with_reducible apply below_refl) | (with_reducible apply below_alloc1) | (with_reducible apply below_drewN1) | (with_reducible apply below_drew1)))) hb; clear hb)
    | (go_at_call 31; refine (areNotLess_any _ [t] _ (rowAt_alloc _ _ [.float .f32 t] (by simp [maxLen]))).mono ?_; rw [HN.out]; rintro e w' ⟨rfl, hb⟩; have hB : Below w.heap.size w w' := below_trans (by (repeat (first | (with_reducible assumption) | (with_reducible apply below_refl) | (with_reducible apply below_alloc1) | (with_reducible apply below_drewN1) | (with_reducible apply below_drew1)))) hb; have hC := (bcell hB).1; clear hb))
  go_ret
  exact ⟨rfl, by (repeat (first | (with_reducible assumption) | (with_reducible apply below_refl) | (with_reducible apply below_alloc1) | (with_reducible apply below_drewN1) | (with_reducible apply below_drew1)))⟩
set_option maxRecDepth 100000 in
set_option maxHeartbeats 800000 in
theorem lawSurvives_any {k : Int} {p s t : Nat} {ρ σ τ : Rat} (h : LawOk k (ab .f32 p) (ab .f32 s) ρ σ) (ht : RV .f32 (ab .f32 t) τ) (hτ : TimeOk τ) (w : World) : Calls Try.prog 8 #[.agg #[.int .i64 k, .float .f32 p, .float .f32 s], .float .f32 t] w (NumOk (survO k (ab .f32 p) (ab .f32 s) (ab .f32 t), true) w) := by
  have HT := hid (fun w => isTime_any h ht (by rcases hτ.1 with e | e <;> grind) w)
  have HS := hid (fun w => survives_any h ht hτ w)
  obtain ⟨κ, hκ, -, -, -⟩ := surv_ok h ht hτ
  have HFI := hid (ifFin_yes hκ.fin)
  clear h ht hτ hκ
  go_enter Try.func8, Try.ntmps8
  go_wp2_with (first
    | (go_at_call 24; (refine (HT.out _).mono ?_); rintro e wa ⟨rfl, hb⟩; have hcc := (bcell hb).1; have c0 : wa.cell? ⟨w.heap.size, 0, none⟩ = some (.int .i64 k) := (by rw [hcc _ _ (by simp)]; simp); have c1 : wa.cell? ⟨w.heap.size, 1, none⟩ = some (.float .f32 p) := (by rw [hcc _ _ (by simp)]; simp); have c2 : wa.cell? ⟨w.heap.size, 2, none⟩ = some (.float .f32 s) := (by rw [hcc _ _ (by simp)]; simp); have hBA : Below w.heap.size w wa := below_trans (by (repeat (first | (with_reducible assumption) | (with_reducible apply below_refl) | (with_reducible apply below_alloc1) | (with_reducible apply below_drewN1) | (with_reducible apply below_drew1)))) hb; clear hb hcc)
    | (go_at_call 26; (refine (HS.out _).mono ?_); rintro e w' ⟨q, rfl, hq, hb⟩; have hB2 := below_trans (show Below w.heap.size w _ by (repeat (first | (with_reducible assumption) | (with_reducible apply below_refl) | (with_reducible apply below_alloc1) | (with_reducible apply below_drewN1) | (with_reducible apply below_drew1)))) hb; clear hb)
    | (go_at_call 25; (refine (ifFinite_num _ _).mono ?_); rw [hq, HFI.out]; rintro e w'' ⟨q2, rfl, hq2, hb⟩; have hB3 := below_trans (show Below w.heap.size w _ by (repeat (first | (with_reducible assumption) | (with_reducible apply below_refl) | (with_reducible apply below_alloc1) | (with_reducible apply below_drewN1) | (with_reducible apply below_drew1)))) hb; clear hb))
  go_ret2
  exact ⟨_, rfl, hq2, by (repeat (first | (with_reducible assumption) | (with_reducible apply below_refl) | (with_reducible apply below_alloc1) | (with_reducible apply below_drewN1) | (with_reducible apply below_drew1)))⟩
set_option maxRecDepth 100000 in
set_option maxHeartbeats 800000 in
theorem isGrid_any {k : Int} {p s t : Nat} {ρ σ τ : Rat} {n : Nat} (h : LawOk k (ab .f32 p) (ab .f32 s) ρ σ) (ht : RV .f32 (ab .f32 t) τ) (h0 : 0 < τ) (n1 : 1 ≤ n) (n2 : n ≤ 256) (w : World) : Calls Try.prog 21 #[.agg #[.int .i64 k, .float .f32 p, .float .f32 s], .float .f32 t, .int .i64 n] w fun e w' => e = .returned (.bool true) ∧ Below w.heap.size w w' := by
  have HV := hid (fun w => validLaw_any h w)
  have HN := hid (all_one (f := fun b => moreB (ab .f32 b)) (a := t) (more_rv ht h0))
  have HIN := hid (show inB (n : Int) 1 256 = true from inB_mk (by omega) (by omega))
  clear h ht
  go_enter Try.func21, Try.ntmps21
  go_wp2_with (first
    | (go_at_call 35; (refine (HV.out _).mono ?_); rintro e wa ⟨rfl, hb⟩; have hBA : Below w.heap.size w wa := below_trans (by (repeat (first | (with_reducible assumption) | (with_reducible apply below_refl) | (with_reducible apply below_alloc1) | (with_reducible apply below_drewN1) | (with_reducible apply below_drew1)))) hb; clear hb)
    | (go_at_call 36; refine (areMore_any _ [t] _ (rowAt_alloc _ _ [.float .f32 t] (by simp [maxLen]))).mono ?_; rw [HN.out]; rintro e w' ⟨rfl, hb⟩; have hB : Below w.heap.size w w' := below_trans (by (repeat (first | (with_reducible assumption) | (with_reducible apply below_refl) | (with_reducible apply below_alloc1) | (with_reducible apply below_drewN1) | (with_reducible apply below_drew1)))) hb; have hC := (bcell hB).1; clear hb)
    | (go_at_call 37; refine (within_any _ _ _ _).mono ?_; rw [HIN.out]; rintro e w' ⟨rfl, hb⟩; have hB : Below w.heap.size w w' := below_trans (by (repeat (first | (with_reducible assumption) | (with_reducible apply below_refl) | (with_reducible apply below_alloc1) | (with_reducible apply below_drewN1) | (with_reducible apply below_drew1)))) hb; have hC := (bcell hB).1; clear hb))
  go_ret
  exact ⟨rfl, by (repeat (first | (with_reducible assumption) | (with_reducible apply below_refl) | (with_reducible apply below_alloc1) | (with_reducible apply below_drewN1) | (with_reducible apply below_drew1)))⟩
end Go.Proofs.Ytkgbbagklkffpaa
