/- The walk of laws.FnPolicies. -/
import Derived.Test.YtkgbbagklkffpaaPolT
import Derived.BigQuiet
import Derived.Deep.Cut
namespace Go.Proofs.Ytkgbbagklkffpaa
open Go.RowKit
set_option linter.unusedVariables false

theorem half_bits {q r : Nat} (hq : q < 40) (hr : ab .f32 r = fop .quo .f32 (ab .f32 (floatOfInt .f32 (1 + (q : Int)))) (ab .f32 1073741824)) (hq2 : q + 1 < 40) : fq (2 * (1 + q)) = r := by
  have h1 := half_some (1 + q) (by omega)
  rw [ab_ofInt, show ab .f32 1073741824 = some 1073741824 from by decide, show (1 : Int) + (q : Int) = ((1 + q : Nat) : Int) by omega, h1] at hr
  exact (ab_some hr).1
/-- The first loop's condition. -/
theorem cond15 {x1 x0 gn : Nat} {a b κ : Rat} (h0 : RV .f32 (ab .f32 x0) a) (h1 : RV .f32 (ab .f32 x1) b) (hg : RV .f32 (ab .f32 gn) κ) (a0 : 0 ≤ a) (a1 : a ≤ b) (b1 : b ≤ 10000) (k0 : 0 ≤ κ) (k1 : κ ≤ 1) (hk : 1 - κ ≤ b + 1 / 1000000) :
    ∃ y1 y0 yg M D M2 : Nat, (∀ w, (convert 24 34 (.float .f32 x1)).run Try.prog w = .ok (.float .f64 y1) w) ∧ (∀ w, (convert 24 34 (.float .f32 x0)).run Try.prog w = .ok (.float .f64 y0) w) ∧ (∀ w, (convert 24 34 (.float .f32 gn)).run Try.prog w = .ok (.float .f64 yg) w) ∧
      (∀ T w, (binOp .sub T (.float .f64 y0) (.float .f64 4562254508917369340)).run Try.prog w = .ok (.float .f64 M) w) ∧ (∀ T w, (binOp .sub T (.float .f64 4607182418800017408) (.float .f64 yg)).run Try.prog w = .ok (.float .f64 D) w) ∧ (∀ T w, (binOp .sub T (.float .f64 D) (.float .f64 4562254508917369340)).run Try.prog w = .ok (.float .f64 M2) w) ∧
      (ford .f64 (ab .f64 y1) (ab .f64 M) == some .lt) = false ∧ (ford .f64 (ab .f64 y1) (ab .f64 M2) == some .lt) = false := by
  obtain ⟨y1, c1, e1⟩ := det_conv (P := Try.prog) (src := 24) (dst := 34) rfl Try.underlying34 h1
  obtain ⟨y0, c0, e0⟩ := det_conv (P := Try.prog) (src := 24) (dst := 34) rfl Try.underlying34 h0
  obtain ⟨yg, cg, eg⟩ := det_conv (P := Try.prog) (src := 24) (dst := 34) rfl Try.underlying34 hg
  obtain ⟨M, m1, -, m3⟩ := rise_law h0 h1 a0 a1 b1
  obtain ⟨D, M2, d1, -, d3, -, d5⟩ := gone_law hg h1 k0 k1 hk
  exact ⟨y1, y0, yg, M, D, M2, c1, c0, cg, fun T w => det_op .sub (by rw [e0]; exact m1) T w, fun T w => det_op .sub (by rw [eg]; exact d1) T w, fun T w => det_op .sub d3 T w, by rw [e1]; exact m3, by rw [e1]; exact d5⟩
/-- Not more than the grid's end. -/
theorem most_bits {x y r1 r2 r3 : Nat} {a b : Rat} (hx : RV .f32 (ab .f32 x) a) (hy : RV .f32 (ab .f32 y) b) (b0 : 1 / 2 ≤ b) (b1 : b ≤ 12) (h : a ≤ b + 1 / 10000) (h1 : ab .f64 r1 = wid (ab .f32 x)) (h2 : ab .f64 r2 = wid (ab .f32 y)) (h3 : ab .f64 r3 = fop .add .f64 (ab .f64 r2) (ab .f64 4562254508917369340)) : (ford .f64 (ab .f64 r1) (ab .f64 r3) == some .gt) = false := by
  rw [h3, h2, h1, ab_mil]
  exact most_law hx hy (by grind) (by grind) h
theorem two_alloc (w : World) (T : TypeId) (k : Int) (p s : Nat) : TwoLaws (w.alloc (.cells #[.int .i64 k, .float .f32 p, .float .f32 s, .int .i64 k, .float .f32 p, .float .f32 s] T)) w.heap.size k p s := by
  refine ⟨?_, ?_, ?_, ?_, ?_, ?_⟩ <;> simp
/-- What the region with the ages leaves. -/
def AgCut (T : Nat → Option Nat) (MA : Nat → Option Nat × Bool) (n : Nat) (wm : World) (yv ev : Value) (wx : World) : Prop :=
  ∃ xs : List Nat, ev = .bool (okAll MA n) ∧ (okAll MA n = true → xs.map (ab .f32) = [(bst T MA n).1, (bst T MA n).1] ∧ wx.ownsRow wm.heap.size 24 1 yv (xs.map (Value.float .f32)).length (xs.map (Value.float .f32))) ∧ Below wm.heap.size wm wx
theorem le_big {a : Rat} (h : a ≤ 10) : a ≤ 10000 := by grind
theorem free_bits {free z1 γ z2 z3 z4 : Nat} {X : Option Nat} {f : Rat} (hX : RV .f32 X f) (f0 : 0 ≤ f) (f1 : f ≤ 1000000) (hf : ab .f32 free = X) (h1 : ab .f32 z1 = X) (hg : ab .f64 γ = gap8 (ab .f32 free) (ab .f32 z1)) (h2 : ab .f64 z2 = wid (ab .f32 free)) (h3 : ab .f64 z3 = fop .add .f64 (ab .f64 4607182418800017408) (ab .f64 z2)) (h4 : ab .f64 z4 = fop .mul .f64 (ab .f64 4562254508917369340) (ab .f64 z3)) : (ford .f64 (ab .f64 γ) (ab .f64 z4) == some .lt) = true := by
  rw [h4, h3, h2, hg, hf, h1, ab_mil, ab_one64']
  exact free_law hX hX hX f0 f1
theorem lt41 {t : Rat} (h : 41 / 1000 ≤ t) : 0 < t := by grind
theorem not_lt_least {M : Nat → Option Nat × Bool} {k k0 n a c : Nat} (E : ∀ j, 1 ≤ j → j ≤ n → ∃ r, RV .f32 (M j).1 r) (h : 1 ≤ k0 ∧ k0 ≤ n) (h4 : ∀ k, 1 ≤ k → k ≤ n → ∀ x y, RV .f32 (M k).1 x → RV .f32 (M k0).1 y → y ≤ x) (k1 : 1 ≤ k) (k2 : k ≤ n) (ha : ab .f32 a = (M k).1) (hc : ab .f32 c = (M k0).1) : (ford .f32 (ab .f32 a) (ab .f32 c) == some .lt) = false := by
  obtain ⟨x, hx⟩ := E k k1 k2
  obtain ⟨y, hy⟩ := E k0 h.1 h.2
  rw [ha, hc]
  exact rv_not_lt hx hy (h4 k k1 k2 x y hx hy)
/-- Where the times are one the costs are one. -/
theorem same_or {T : Nat → Option Nat} {M : Nat → Option Nat × Bool} {k k0 n a c x t : Nat} {L : Rat} (E : ∀ j, 1 ≤ j → j ≤ n → ∃ r, RV .f32 (M j).1 r) (TM : ∀ j, 1 ≤ j → j ≤ n → ∃ t, RV .f32 (T j) t ∧ 41 / 1000 ≤ t ∧ t ≤ L + 1 / 10000) (TI : ∀ i j, 1 ≤ i → i ≤ n → 1 ≤ j → j ≤ n → i ≠ j → ∀ a b, RV .f32 (T i) a → RV .f32 (T j) b → a ≠ b) (h : 1 ≤ k0 ∧ k0 ≤ n) (k1 : 1 ≤ k) (k2 : k ≤ n) (hx : ab .f32 x = T k) (ht : ab .f32 t = T k0) (ha : ab .f32 a = (M k).1) (hc : ab .f32 c = (M k0).1) :
    (ford .f32 (ab .f32 x) (ab .f32 t) == some .eq) = false ∨ ((ford .f32 (ab .f32 x) (ab .f32 t) == some .eq) = true ∧ (ford .f32 (ab .f32 a) (ab .f32 c) != some .eq) = false) := by
  obtain ⟨u, hu, -⟩ := TM k k1 k2
  obtain ⟨v, hv, -⟩ := TM k0 h.1 h.2
  by_cases e : k = k0
  · subst e
    obtain ⟨y, hy⟩ := E k k1 k2
    right
    rw [hx, ht, ha, hc, rv_eq hu hu rfl, rv_eq hy hy rfl]
    exact ⟨rfl, rfl⟩
  · left
    rw [hx, ht]
    have hne := TI k k0 k1 k2 h.1 h.2 e u v hu hv
    by_cases hl : u < v
    · rw [rv_lt hu hv hl]; rfl
    · rw [rv_gt hu hv (by grind)]; rfl
theorem miss_next {M : Nat → Option Nat × Bool} {j k : Nat} {m e6 : Bool} (hk : k = j + 1) (hm : m = !okAll M j) (he : e6 = (M k).2) : (m = true → Value.bool true = .bool (!okAll M k)) ∧ (m = false → Value.bool (!e6) = .bool (!okAll M k)) := by
  subst hk
  rw [okAll_next, ← he]
  constructor
  · intro h
    rw [hm] at h
    revert h
    cases okAll M j <;> simp
  · intro h
    rw [hm] at h
    revert h
    cases okAll M j <;> simp
set_option maxRecDepth 100000 in
set_option maxHeartbeats 60000000 in
theorem walk_FnPolicies (vc : Value) (cs : List Int) (vm : Value) (ms : List Int) (w : World) (hc : RowAt w vc (cs.map (Value.int .u8))) (hcb : ∀ b ∈ cs, 0 ≤ b ∧ b ≤ 255) (hm : RowAt w vm (ms.map (Value.int .u8))) (hmb : ∀ b ∈ ms, 0 ≤ b ∧ b ≤ 255) :
    Calls Try.prog 3 #[vc, vm] w fun e w' => e = .returned (.bool true) ∧ Below w.heap.size w w' := by
  have HC := hid hc; have HM := hid hm; have HCB := hid hcb; have HMB := hid hmb
  clear hc hm hcb hmb
  cases hl : (decide (48 < cs.length) || decide (48 < ms.length))
  rotate_left
  · have HL := hid hl; clear hl
    go_enter Try.func3, Try.ntmps3
    go_wp2_with (go_at_call 4; (with_reducible refine (r8Long_any _ _ cs ms _ (HC.out.below (by (repeat (first | (with_reducible assumption) | (with_reducible apply below_refl) | (with_reducible apply below_alloc1) | (with_reducible apply below_drewN1) | (with_reducible apply below_drew1))))) (HM.out.below (by (repeat (first | (with_reducible assumption) | (with_reducible apply below_refl) | (with_reducible apply below_alloc1) | (with_reducible apply below_drewN1) | (with_reducible apply below_drew1))))) true HL.out).mono ?_); rintro e w' ⟨rfl, hb⟩; have hB : Below w.heap.size w w' := below_trans (by (repeat (first | (with_reducible assumption) | (with_reducible apply below_refl) | (with_reducible apply below_alloc1) | (with_reducible apply below_drewN1) | (with_reducible apply below_drew1)))) hb; have hC := (bcell hB).1; clear hb)
    go_ret
    exact ⟨rfl, by assumption⟩
  have HL := hid hl; clear hl
  obtain ⟨A, hA⟩ : ∃ A : Nat, at8 ms 40 24 = (A : Int) := ⟨(at8 ms 40 24).toNat, by have := at8_bd ms 40 24 (by decide); omega⟩
  have bA := at8_bd ms 40 24 (by decide)
  obtain ⟨n, hN⟩ : ∃ n : Nat, at8 ms 41 12 = (n : Int) - 1 := ⟨(at8 ms 41 12 + 1).toNat, by have := at8_bd ms 41 12 (by decide); omega⟩
  have bN := at8_bd ms 41 12 (by decide)
  obtain ⟨B, hB⟩ : ∃ B : Nat, at8 ms 42 8 = (B : Int) := ⟨(at8 ms 42 8).toNat, by have := at8_bd ms 42 8 (by decide); omega⟩
  have bB := at8_bd ms 42 8 (by decide)
  obtain ⟨C, hC⟩ : ∃ C : Nat, at8 ms 43 16 = (C : Int) := ⟨(at8 ms 43 16).toNat, by have := at8_bd ms 43 16 (by decide); omega⟩
  have bC := at8_bd ms 43 16 (by decide)
  obtain ⟨D, hD⟩ : ∃ D : Nat, at8 ms 44 10 = (D : Int) := ⟨(at8 ms 44 10).toNat, by have := at8_bd ms 44 10 (by decide); omega⟩
  have bD := at8_bd ms 44 10 (by decide)
  obtain ⟨E, hE⟩ : ∃ E : Nat, at8 ms 45 8 = (E : Int) := ⟨(at8 ms 45 8).toNat, by have := at8_bd ms 45 8 (by decide); omega⟩
  have bE := at8_bd ms 45 8 (by decide)
  have A24 : A < 24 := by omega
  have B8 : B < 8 := by omega
  have C16 : C < 16 := by omega
  have D10 : D < 10 := by omega
  have E8 : E < 8 := by omega
  have n1 : 1 ≤ n := by omega
  have n12 : n ≤ 12 := by omega
  have HA := hid hA; have HN := hid hN; have HB := hid hB; have HCC := hid hC; have HD := hid hD; have HE := hid hE
  have WA : IntKind.i64.wrap (1 + (A : Int)) = 1 + (A : Int) := by rw [IntKind.wrap_i64]; omega
  have WB : IntKind.i64.wrap (1 + (B : Int)) = 1 + (B : Int) := by rw [IntKind.wrap_i64]; omega
  have WC : IntKind.i64.wrap (1 + (C : Int)) = 1 + (C : Int) := by rw [IntKind.wrap_i64]; omega
  have WD : IntKind.i64.wrap (1 + (D : Int)) = 1 + (D : Int) := by rw [IntKind.wrap_i64]; omega
  have WE : IntKind.i64.wrap (1 + (E : Int)) = 1 + (E : Int) := by rw [IntKind.wrap_i64]; omega
  have WN : IntKind.i64.wrap (1 + ((n : Int) - 1)) = (n : Int) := by rw [IntKind.wrap_i64]; omega
  have WN1 : IntKind.i64.wrap ((n : Int) + 1) = ((n + 1 : Nat) : Int) := by rw [IntKind.wrap_i64]; omega
  obtain ⟨to, hto⟩ : ∃ to, to = fq (2 * (1 + A)) := ⟨_, rfl⟩
  obtain ⟨pl, hpl⟩ : ∃ pl, pl = fq (2 * (1 + B)) := ⟨_, rfl⟩
  obtain ⟨fl, hfl⟩ : ∃ fl, fl = fq (2 * (1 + C)) := ⟨_, rfl⟩
  obtain ⟨pr, hpr⟩ : ∃ pr, pr = floatOfInt .f32 ((1 + D : Nat) : Int) := ⟨_, rfl⟩
  have HTO := hid hto; have HPL := hid hpl; have HFL := hid hfl; have HPR := hid hpr
  obtain ⟨L, hLL⟩ : ∃ L, L = ((2 * (1 + A) : Nat) : Rat) / 4 := ⟨_, rfl⟩
  obtain ⟨π, hππ⟩ : ∃ π, π = ((1 + D : Nat) : Rat) := ⟨_, rfl⟩
  have HTT := hid (show ∀ K P Q : Nat, K < 4 → P < 11 → Q < 32 → PolT (K : Int) (fq (2 + P)) (fq (2 * (1 + Q))) to pl fl pr n L π from fun K P Q h1 h2 h3 => by
    rw [hto, hpl, hfl, hpr, hLL, hππ]
    exact polT_of h1 h2 h3 A24 n1 n12 B8 C16 D10)
  clear hA hN hB hC hD hE bA bN bB bC bD bE hto hpl hfl hpr hLL hππ
  go_enter Try.func3, Try.ntmps3
  go_wp2_with (first
    | (go_at_call 4; (with_reducible refine (r8Long_any _ _ cs ms _ (HC.out.below (by (repeat (first | (with_reducible assumption) | (with_reducible apply below_refl) | (with_reducible apply below_alloc1) | (with_reducible apply below_drewN1) | (with_reducible apply below_drew1))))) (HM.out.below (by (repeat (first | (with_reducible assumption) | (with_reducible apply below_refl) | (with_reducible apply below_alloc1) | (with_reducible apply below_drewN1) | (with_reducible apply below_drew1))))) false HL.out).mono ?_); rintro e w' ⟨rfl, hb⟩; have hB : Below w.heap.size w w' := below_trans (by (repeat (first | (with_reducible assumption) | (with_reducible apply below_refl) | (with_reducible apply below_alloc1) | (with_reducible apply below_drewN1) | (with_reducible apply below_drew1)))) hb; have hC := (bcell hB).1; clear hb)
    | (go_at_call 5; (refine (r8Law_any _ cs _ (HC.out.below (by (repeat (first | (with_reducible assumption) | (with_reducible apply below_refl) | (with_reducible apply below_alloc1) | (with_reducible apply below_drewN1) | (with_reducible apply below_drew1))))) HCB.out).mono ?_); rintro e w1 ⟨K, P, Q, rfl, hK, hP, hQ, hb⟩; have HT := hid (HTT.out K P Q hK hP hQ); obtain ⟨p, hp⟩ : ∃ p, p = fq (2 + P) := ⟨_, rfl⟩; obtain ⟨s, hs⟩ : ∃ s, s = fq (2 * (1 + Q)) := ⟨_, rfl⟩; rw [← hp, ← hs] at HT ⊢; have HW1 := hid (below_trans (show Below w.heap.size w _ by (repeat (first | (with_reducible assumption) | (with_reducible apply below_refl) | (with_reducible apply below_alloc1) | (with_reducible apply below_drewN1) | (with_reducible apply below_drew1)))) hb); have HCELL := hid (law_cells (K : Int) p s 26 w1); have HBL := hid (below_trans HW1.out (below_alloc w1 (.cells #[.int .i64 K, .float .f32 p, .float .f32 s] 26))); clear hb hp hs hK hP hQ HTT)
    | (go_at_call 6; (with_reducible refine (r8At_any _ ms 40 24 _ (HM.out.below (below_trans HBL.out (by (repeat (first | (with_reducible assumption) | (with_reducible apply below_refl) | (with_reducible apply below_alloc1) | (with_reducible apply below_drewN1) | (with_reducible apply below_drew1)))))) HMB.out (by omega) (by omega)).mono ?_); rw [HA.out]; rintro e w2 ⟨rfl, hb⟩; have hB2 : Below (w1.alloc (.cells #[.int .i64 K, .float .f32 p, .float .f32 s] 26)).heap.size (w1.alloc (.cells #[.int .i64 K, .float .f32 p, .float .f32 s] 26)) w2 := below_trans (by (repeat (first | (with_reducible assumption) | (with_reducible apply below_refl) | (with_reducible apply below_alloc1) | (with_reducible apply below_drewN1) | (with_reducible apply below_drew1)))) hb; clear hb)
    | (go_at_call 6; (with_reducible refine (r8At_any _ ms 41 12 _ (HM.out.below (below_trans HBL.out (by (repeat (first | (with_reducible assumption) | (with_reducible apply below_refl) | (with_reducible apply below_alloc1) | (with_reducible apply below_drewN1) | (with_reducible apply below_drew1)))))) HMB.out (by omega) (by omega)).mono ?_); rw [HN.out]; rintro e w3 ⟨rfl, hb⟩; have hB3 : Below (w1.alloc (.cells #[.int .i64 K, .float .f32 p, .float .f32 s] 26)).heap.size (w1.alloc (.cells #[.int .i64 K, .float .f32 p, .float .f32 s] 26)) w3 := below_trans (by (repeat (first | (with_reducible assumption) | (with_reducible apply below_refl) | (with_reducible apply below_alloc1) | (with_reducible apply below_drewN1) | (with_reducible apply below_drew1)))) hb; clear hb)
    | (go_at_call 6; (with_reducible refine (r8At_any _ ms 42 8 _ (HM.out.below (below_trans HBL.out (by (repeat (first | (with_reducible assumption) | (with_reducible apply below_refl) | (with_reducible apply below_alloc1) | (with_reducible apply below_drewN1) | (with_reducible apply below_drew1)))))) HMB.out (by omega) (by omega)).mono ?_); rw [HB.out]; rintro e w4 ⟨rfl, hb⟩; have hB4 : Below (w1.alloc (.cells #[.int .i64 K, .float .f32 p, .float .f32 s] 26)).heap.size (w1.alloc (.cells #[.int .i64 K, .float .f32 p, .float .f32 s] 26)) w4 := below_trans (by (repeat (first | (with_reducible assumption) | (with_reducible apply below_refl) | (with_reducible apply below_alloc1) | (with_reducible apply below_drewN1) | (with_reducible apply below_drew1)))) hb; clear hb)
    | (go_at_call 6; (with_reducible refine (r8At_any _ ms 43 16 _ (HM.out.below (below_trans HBL.out (by (repeat (first | (with_reducible assumption) | (with_reducible apply below_refl) | (with_reducible apply below_alloc1) | (with_reducible apply below_drewN1) | (with_reducible apply below_drew1)))))) HMB.out (by omega) (by omega)).mono ?_); rw [HCC.out]; rintro e w5 ⟨rfl, hb⟩; have hB5 : Below (w1.alloc (.cells #[.int .i64 K, .float .f32 p, .float .f32 s] 26)).heap.size (w1.alloc (.cells #[.int .i64 K, .float .f32 p, .float .f32 s] 26)) w5 := below_trans (by (repeat (first | (with_reducible assumption) | (with_reducible apply below_refl) | (with_reducible apply below_alloc1) | (with_reducible apply below_drewN1) | (with_reducible apply below_drew1)))) hb; obtain ⟨c0, c1, c2⟩ := HCELL.out _ hB5; clear hb)
    | ((fail_if_success (have := HX1)); refine upon_float rfl ?_; intro x1 m1 hr; go_simp; (obtain rfl : to = x1 := HTO.out.trans (half_bits (by omega) hr (by omega))); have HX1 := hid trivial; clear hr)
    | ((fail_if_success (have := HX2)); refine upon_float rfl ?_; intro x2 m2 hr; go_simp; (obtain rfl : pl = x2 := HPL.out.trans (half_bits (by omega) hr (by omega))); have HX2 := hid trivial; clear hr)
    | ((fail_if_success (have := HX3)); refine upon_float rfl ?_; intro x3 m3 hr; go_simp; (obtain rfl : fl = x3 := HFL.out.trans (half_bits (by omega) hr (by omega))); have HX3 := hid trivial; clear hr)
    | (go_at_call 7; (refine (HT.out.ren _).mono ?_); rintro e wa ⟨y, ys, rfl, hys, ho, hb⟩; obtain ⟨hl, hv⟩ := map_get_ab hys; obtain ⟨g, c, e1, -, -, -, hgl⟩ := slice_of_own ho (by rw [List.length_map, hl]; omega); rw [List.length_map, hl] at e1 ho; subst e1; have HO := hid ho; have HYL := hid hl; have HYV := hid hv; have hBA : Below (w1.alloc (.cells #[.int .i64 K, .float .f32 p, .float .f32 s] 26)).heap.size (w1.alloc (.cells #[.int .i64 K, .float .f32 p, .float .f32 s] 26)) wa := below_trans (by (repeat (first | (with_reducible assumption) | (with_reducible apply below_refl) | (with_reducible apply below_alloc1) | (with_reducible apply below_drewN1) | (with_reducible apply below_drew1)))) hb; have HBA := hid hBA; obtain ⟨z0, hz0⟩ : ∃ z, wa.cell? ⟨g, 0, none⟩ = some (.float .f32 z) ∧ ab .f32 z = some 0 := ⟨ys[0], by rw [ho.cellAt 0 (by omega)]; simp, by rw [hv 0 (by omega)]; rfl⟩; obtain ⟨hz0, hz1⟩ := hz0; have hz2 : ford .f32 (ab .f32 z0) (some 0) = some .eq := (by rw [hz1]; decide); have HZ0 := hid hz1; clear hb hys ho hl hv hz1))
  have HYC := hid (show ∀ (wr : World), Below wa.heap.size wa wr → ∀ i, i ≤ n → ∃ x, wr.cell? ⟨g, i, none⟩ = some (.float .f32 x) ∧ ab .f32 x = mX (fF (K : Int) p s to n) i from fun wr hw i hi => by
    have ho := ownsRow_below HO.out hw
    have hix : i < ys.length := by rw [HYL.out]; omega
    exact ⟨ys[i], by rw [ho.cellAt i (by omega)]; simp [hix], HYV.out i hix⟩)
  go_loopw [12] (fun iv wr => ∃ i : Nat, 1 ≤ i ∧ i ≤ n + 1 ∧ iv = .int .i64 i ∧ Below wa.heap.size wa wr) (fun iv _ => n + 1 - (intOf iv).toNat)
  case atStart => exact ⟨1, by omega, by omega, rfl, below_refl _⟩
  case round =>
    obtain ⟨i, hi1, hi2, rfl, hw⟩ := hrel
    have W4 : IntKind.i64.wrap ((i : Int) + 1) = ((i + 1 : Nat) : Int) := by rw [IntKind.wrap_i64]; omega
    have hBW := below_trans HBA.out hw
    obtain ⟨c0, c1, c2⟩ := HCELL.out _ hBW
    by_cases hlt : i < n + 1
    · have hiI : (i : Int) ≤ (n : Int) := by omega
      obtain ⟨j, hj⟩ : ∃ j, j = i - 1 := ⟨_, rfl⟩
      have W5 : IntKind.i64.wrap ((i : Int) - 1) = (j : Int) := by rw [IntKind.wrap_i64]; omega
      have b1 : (0 : Int) ≤ (i : Int) := by omega
      have b2 : (0 : Int) ≤ (j : Int) := by omega
      have b3 : (i : Int) < ((n + 1 : Nat) : Int) := by omega
      have b4 : (j : Int) < ((n + 1 : Nat) : Int) := by omega
      have HJ := hid hj
      clear hj
      as_aux_lemma =>
        go_wp2_with (first
          | ((fail_if_success (have := HY1)); refine upon_float rfl ?_; intro y1 k1 hr; go_simp; have HY1 := hid hr; clear hr)
          | ((fail_if_success (have := HY2)); refine upon_float rfl ?_; intro y2 k2 hr; go_simp; have HY2 := hid (show ab .f32 y2 = tO (ab .f32 to) n i by rw [hr, HY1.out, ab_ofInt, ab_ofInt]; rfl); clear hr)
          | (go_at_call 8; (refine (HT.out.sur i y2 (by omega) HY2.out _).mono ?_); rintro e wb ⟨gn, rfl, hgn, hb⟩; have hBB : Below wa.heap.size wa wb := below_trans (below_trans hw (by (repeat (first | (with_reducible assumption) | (with_reducible apply below_refl) | (with_reducible apply below_alloc1) | (with_reducible apply below_drewN1) | (with_reducible apply below_drew1))))) hb; have HBB := hid hBB; obtain ⟨v1, e1, f1⟩ := HYC.out wb hBB i (by omega); obtain ⟨v0, e0, f0⟩ := HYC.out wb hBB j (by have := HJ.out; omega); obtain ⟨a, b, κ, ha, hb1, hκ, q1, q2, q3, q4, q5, q6⟩ := HT.out.up j (by have := HJ.out; omega); rw [show j + 1 = i by have := HJ.out; omega, ← f1] at hb1; rw [show j + 1 = i by have := HJ.out; omega, ← show ab .f32 gn = sF (K : Int) p s to n i from hgn] at hκ; rw [← f0] at ha; obtain ⟨z1, z0', zg, M, D', M2, r1, r2, r3, r4, r5, r6, r7, r8⟩ := cond15 ha hb1 hκ q1 q2 q3 q4 q5 q6; clear hb hgn f1 f0 ha hb1 hκ q1 q2 q3 q4 q5 q6 hBB)
          | go_quiet (fail))
        exact ⟨⟨i + 1, by omega, by omega, by go_num, below_drewN1 HBB.out⟩, by simp [intOf]; omega⟩
    · obtain rfl : i = n + 1 := by omega
      have hiI : ¬ (((n + 1 : Nat) : Int)) ≤ (n : Int) := by omega
      have hiI2 : ¬ (n : Int) + 1 ≤ (n : Int) := by omega
      clear W4
      obtain ⟨T, hT⟩ : ∃ T, T = tO (ab .f32 to) n := ⟨_, rfl⟩
      obtain ⟨MA, hMA⟩ : ∃ M, M = mA (K : Int) p s to pl fl n := ⟨_, rfl⟩
      obtain ⟨MG, hMG⟩ : ∃ M, M = mG (K : Int) p s to pl fl n := ⟨_, rfl⟩
      obtain ⟨MI, hMI⟩ : ∃ M, M = mI (K : Int) p s to pl fl n := ⟨_, rfl⟩
      have EMA := hid (show ∀ j, 1 ≤ j → j ≤ n → (MA j).2 = true → ∃ r, RV .f32 (MA j).1 r from fun j _ _ h => by rw [hMA] at h ⊢; exact ageM_rv h)
      have EMI := hid (show ∀ j, 1 ≤ j → j ≤ n → (MI j).2 = true → ∃ r, RV .f32 (MI j).1 r from fun j _ _ h => by rw [hMI] at h ⊢; exact inM_rv h)
      have EMG := hid (show ∀ j, 1 ≤ j → j ≤ n → ∃ r, RV .f32 (MG j).1 r from fun j h1 h2 => by rw [hMG]; exact HT.out.finG j h1 h2)
      have HOG := hid (show okAll MG n = true by rw [hMG]; exact HT.out.okG)
      have TAGE := hid HT.out.age
      have TGRP := hid HT.out.grp
      have TGAP := hid HT.out.gap
      have TAC := hid HT.out.ac
      have TGC := hid HT.out.gc
      have TIC := hid HT.out.ic
      have TSHR := hid HT.out.shr
      have TTM := hid HT.out.times
      have TINJ := hid HT.out.inj
      rw [← hT, ← hMA] at TAGE
      rw [← hT, ← hMG] at TGRP
      rw [← hT, ← hMI] at TGAP
      rw [← hT, ← hMA] at TAC
      rw [← hT, ← hMG] at TGC
      rw [← hT, ← hMI] at TIC
      rw [← hT, ← hMA] at TSHR
      rw [← hT] at TTM TINJ
      have HTQ := hid hT
      clear hT hMA hMG hMI
      obtain ⟨v3, hv3⟩ : ∃ v, v = okAll MA n := ⟨_, rfl⟩
      obtain ⟨v5, hv5⟩ : ∃ v, v = okAll MI n := ⟨_, rfl⟩
      have HV3 := hid hv3; have HV5 := hid hv5
      clear hv3 hv5
      obtain ⟨kG, g1, g2, g3, g4⟩ := bst_spec (T := T) (M := MG) n1 EMG.out
      have HKG := hid (And.intro g1 (And.intro g2 (And.intro g3 g4)))
      clear g1 g2 g3 g4
      obtain ⟨wd, hwd⟩ : ∃ wd, wd = wr := ⟨_, rfl⟩
      subst hwd
      cases v3
      · skip
        go_upto_region 22 with (first
          | (go_at_call 9; (refine (TAGE.out _).mono ?_); rintro e we ⟨age, cost, rfl, -, -, hb⟩; rw [← HV3.out]; have hBE := below_trans (show Below wd.heap.size wd _ by (repeat (first | (with_reducible assumption) | (with_reducible apply below_refl) | (with_reducible apply below_alloc1) | (with_reducible apply below_drewN1) | (with_reducible apply below_drew1)))) hb; obtain ⟨c0, c1, c2⟩ := HCELL.out _ (below_trans hBW hBE); clear hb)
          | (go_at_call 10; (refine (TGRP.out _).mono ?_); rintro e wf ⟨time, group, rfl, r1, -, hb⟩; rw [HOG.out]; have RT := hid (show ab .f32 time = T kG by rw [(r1 HOG.out).1, HKG.out.2.2.1]); have RG := hid (show ab .f32 group = (MG kG).1 by rw [(r1 HOG.out).2, HKG.out.2.2.1]); obtain ⟨tG, htG, t31, t32⟩ := TTM.out kG HKG.out.1 HKG.out.2.1; rw [← RT.out] at htG; have HTG := hid (And.intro htG (And.intro t31 t32)); have pG := pos_law htG (lt41 t31); have hBF := below_trans (show Below wd.heap.size wd _ by (repeat (first | (with_reducible assumption) | (with_reducible apply below_refl) | (with_reducible apply below_alloc1) | (with_reducible apply below_drewN1) | (with_reducible apply below_drew1)))) hb; obtain ⟨c0, c1, c2⟩ := HCELL.out _ (below_trans hBW hBF); clear hb r1 htG t31 t32)
          | (go_at_call 11; (refine (TGAP.out _).mono ?_); rintro e wg ⟨gap, look, rfl, r1, r2, hb⟩; rw [← HV5.out]; have RI := hid r1; have hBG := below_trans (show Below wd.heap.size wd _ by (repeat (first | (with_reducible assumption) | (with_reducible apply below_refl) | (with_reducible apply below_alloc1) | (with_reducible apply below_drewN1) | (with_reducible apply below_drew1)))) hb; obtain ⟨c0, c1, c2⟩ := HCELL.out _ (below_trans hBW hBG); clear hb r1 r2))
        refine upon_widen (by kernel_rfl) Try.underlying34 ?_; intro r4 m4 hr; go_simp; have HR4 := hid (show ab .f64 r4 = wid (ab .f32 time) from hr); clear hr
        go_upto_region 22 with (first
          | ((fail_if_success (have := HR5)); (have := HR4); refine upon_widen (by kernel_rfl) Try.underlying34 ?_; intro r5 m5 hr; go_simp; have HR5 := hid (show ab .f64 r5 = wid (ab .f32 to) from hr); clear hr)
          | ((fail_if_success (have := HR6)); (have := HR5); refine upon_float rfl ?_; intro r6 m6 hr; go_simp; have HR6 := hid trivial; have f2 := most_bits HTG.out.1 HT.out.toV HT.out.l1 HT.out.l2 HTG.out.2.2 HR4.out HR5.out hr; clear hr))
        have hBX := (show Below wd.heap.size wd _ by (repeat (first | (with_reducible assumption) | (with_reducible apply below_refl) | (with_reducible apply below_alloc1) | (with_reducible apply below_drewN1) | (with_reducible apply below_drew1))) : Below wd.heap.size wd (wg.drewN (m4 + m5 + m6)))
        go_loopw [24, 25] (fun mv kv wr => ∃ j : Nat, j ≤ n ∧ mv = .bool (!okAll MA j) ∧ kv = .int .i64 ((j + 1 : Nat) : Int) ∧ Below wd.heap.size wd wr) (fun _ kv _ => n + 1 - (intOf kv).toNat)
        case atStart => exact ⟨0, by omega, rfl, rfl, by (repeat (first | (with_reducible assumption) | (with_reducible apply below_refl) | (with_reducible apply below_alloc1) | (with_reducible apply below_drewN1) | (with_reducible apply below_drew1)))⟩
        case round =>
          obtain ⟨j, hj2, rfl, rfl, hw2⟩ := hrel
          obtain ⟨k, hk⟩ : ∃ k, k = j + 1 := ⟨_, rfl⟩
          obtain ⟨m, hm⟩ : ∃ m, m = !okAll MA j := ⟨_, rfl⟩
          rw [← hk, ← hm]
          have hk1 : 1 ≤ k := by omega
          have hk2 : k ≤ n + 1 := by omega
          have HKJ := hid hk; have HMM := hid hm
          have W4 : IntKind.i64.wrap ((k : Int) + 1) = ((k + 1 : Nat) : Int) := by rw [IntKind.wrap_i64]; omega
          clear c0 c1 c2
          obtain ⟨c0, c1, c2⟩ := HCELL.out _ (below_trans hBW hw2)
          by_cases hlt : k < n + 1
          · have hkI : (k : Int) ≤ (n : Int) := by omega
            have hkn : k ≤ n := by omega
            clear hk hm
            as_aux_lemma =>
              go_upto_region 30 with (first
                | ((fail_if_success (have := HY1)); refine upon_float rfl ?_; intro y1 j1 hr; go_simp; have HY1 := hid hr; clear hr)
                | ((fail_if_success (have := HY2)); refine upon_float rfl ?_; intro y2 j2 hr; go_simp; have HY2 := hid (show ab .f32 y2 = T k by rw [hr, HY1.out, HTQ.out, ab_ofInt, ab_ofInt]; rfl); clear hr)
                | (go_at_call 12; (refine (TAC.out k y2 hk1 hkn HY2.out _).mono ?_); rintro e wh ⟨a, rfl, ha, hb⟩; obtain ⟨e6, he6⟩ : ∃ e6, e6 = (MA k).2 := ⟨_, rfl⟩; rw [← he6]; have HE6 := hid he6; have hBH := below_trans (show Below wd.heap.size wd _ by (repeat (first | (with_reducible assumption) | (with_reducible apply below_refl) | (with_reducible apply below_alloc1) | (with_reducible apply below_drewN1) | (with_reducible apply below_drew1)))) hb; clear hb ha he6 c0 c1 c2; obtain ⟨c0, c1, c2⟩ := HCELL.out _ (below_trans hBW hBH))
                | (go_at_call 13; (refine (TGC.out k y2 hk1 hkn HY2.out _).mono ?_); rintro e wi ⟨b, rfl, hbb, hb⟩; rw [okAll_get HOG.out hk1 hkn]; have HBB2 := hid hbb; have hBI := below_trans (show Below wd.heap.size wd _ by (repeat (first | (with_reducible assumption) | (with_reducible apply below_refl) | (with_reducible apply below_alloc1) | (with_reducible apply below_drewN1) | (with_reducible apply below_drew1)))) hb; clear hb hbb c0 c1 c2; obtain ⟨c0, c1, c2⟩ := HCELL.out _ (below_trans hBW hBI))
                | (go_at_call 14; (refine (TIC.out k y2 hk1 hkn HY2.out _).mono ?_); rintro e wj ⟨q, rfl, hq, hb⟩; obtain ⟨e8, he8⟩ : ∃ e8, e8 = (MI k).2 := ⟨_, rfl⟩; rw [← he8]; have HE8 := hid he8; have HQQ := hid hq; have hBJ := below_trans (show Below wd.heap.size wd _ by (repeat (first | (with_reducible assumption) | (with_reducible apply below_refl) | (with_reducible apply below_alloc1) | (with_reducible apply below_drewN1) | (with_reducible apply below_drew1)))) hb; clear hb hq he8 c0 c1 c2; obtain ⟨c0, c1, c2⟩ := HCELL.out _ (below_trans hBW hBJ)))
              have fG := not_lt_least (n := n) EMG.out ⟨HKG.out.1, HKG.out.2.1⟩ HKG.out.2.2.2 hk1 hkn HBB2.out RG.out
              have sG := hid (same_or (n := n) (L := L) EMG.out TTM.out TINJ.out ⟨HKG.out.1, HKG.out.2.1⟩ hk1 hkn HY2.out RT.out HBB2.out RG.out)
              have HMN := hid (miss_next HKJ.out HMM.out HE6.out)
              cases v5
              · skip
                cases m
                · have HFIN : Hid ((∃ q : Nat, q ≤ n ∧ Value.bool (!e6) = .bool (!okAll MA q) ∧ Value.int .i64 ((k : Int) + 1) = .int .i64 ((q + 1 : Nat) : Int) ∧ Below wd.heap.size wd wj) ∧ n + 1 - (intOf (.int .i64 ((k : Int) + 1))).toNat < n + 1 - (intOf (.int .i64 (k : Int))).toNat) :=
                    hid ⟨⟨k, hkn, HMN.out.2 rfl, by go_num, hBJ⟩, by simp [intOf]; omega⟩
                  rcases sG.out with e3 | ⟨e3, e4⟩
                  all_goals as_aux_lemma =>
                    go_wp2_with fail
                    exact HFIN.out
                · have HFIN : Hid ((∃ q : Nat, q ≤ n ∧ Value.bool true = .bool (!okAll MA q) ∧ Value.int .i64 ((k : Int) + 1) = .int .i64 ((q + 1 : Nat) : Int) ∧ Below wd.heap.size wd wj) ∧ n + 1 - (intOf (.int .i64 ((k : Int) + 1))).toNat < n + 1 - (intOf (.int .i64 (k : Int))).toNat) :=
                    hid ⟨⟨k, hkn, HMN.out.1 rfl, by go_num, hBJ⟩, by simp [intOf]; omega⟩
                  rcases sG.out with e3 | ⟨e3, e4⟩
                  all_goals as_aux_lemma =>
                    go_wp2_with fail
                    exact HFIN.out
              · obtain ⟨k5, g1, g2, g3, g4⟩ := bst_spec (T := T) (M := MI) n1 (fun k h1 h2 => EMI.out k h1 h2 (okAll_get HV5.out.symm h1 h2))
                have R5 := RI.out HV5.out.symm
                rw [g3] at R5
                have he8 : e8 = true := by rw [HE8.out]; exact okAll_get HV5.out.symm hk1 hkn
                subst he8
                have f5 := not_lt_least (n := n) (fun j h1 h2 => EMI.out j h1 h2 (okAll_get HV5.out.symm h1 h2)) ⟨g1, g2⟩ g4 hk1 hkn HQQ.out R5.2
                have s5 := same_or (n := n) (L := L) (fun j h1 h2 => EMI.out j h1 h2 (okAll_get HV5.out.symm h1 h2)) TTM.out TINJ.out ⟨g1, g2⟩ hk1 hkn HY2.out R5.1 HQQ.out R5.2
                clear g1 g2 g3 g4 R5
                cases m
                · have HFIN : Hid ((∃ q : Nat, q ≤ n ∧ Value.bool (!e6) = .bool (!okAll MA q) ∧ Value.int .i64 ((k : Int) + 1) = .int .i64 ((q + 1 : Nat) : Int) ∧ Below wd.heap.size wd wj) ∧ n + 1 - (intOf (.int .i64 ((k : Int) + 1))).toNat < n + 1 - (intOf (.int .i64 (k : Int))).toNat) :=
                    hid ⟨⟨k, hkn, HMN.out.2 rfl, by go_num, hBJ⟩, by simp [intOf]; omega⟩
                  rcases sG.out with e3 | ⟨e3, e4⟩ <;> rcases s5 with e5 | ⟨e5, e6'⟩
                  all_goals as_aux_lemma =>
                    go_wp2_with fail
                    exact HFIN.out
                · have HFIN : Hid ((∃ q : Nat, q ≤ n ∧ Value.bool true = .bool (!okAll MA q) ∧ Value.int .i64 ((k : Int) + 1) = .int .i64 ((q + 1 : Nat) : Int) ∧ Below wd.heap.size wd wj) ∧ n + 1 - (intOf (.int .i64 ((k : Int) + 1))).toNat < n + 1 - (intOf (.int .i64 (k : Int))).toNat) :=
                    hid ⟨⟨k, hkn, HMN.out.1 rfl, by go_num, hBJ⟩, by simp [intOf]; omega⟩
                  rcases sG.out with e3 | ⟨e3, e4⟩ <;> rcases s5 with e5 | ⟨e5, e6'⟩
                  all_goals as_aux_lemma =>
                    go_wp2_with fail
                    exact HFIN.out
          · obtain rfl : k = n + 1 := by omega
            obtain rfl : n = j := by omega
            rw [← HV3.out] at hm
            subst hm
            have hkI : ¬ (((n + 1 : Nat) : Int)) ≤ (n : Int) := by omega
            have hkI2 : ¬ (n : Int) + 1 ≤ (n : Int) := by omega
            have hpr : floatOfInt .f32 (1 + (D : Int)) = pr := by rw [HPR.out, Int.natCast_add]; rfl
            have HB0 := hid (below_trans HBL.out (below_trans hBW hw2))
            go_upto_region 38 with (first
              | (go_at_call 6; (with_reducible refine (r8At_any _ ms 44 10 _ (HM.out.below (below_trans HB0.out (by (repeat (first | (with_reducible assumption) | (with_reducible apply below_refl) | (with_reducible apply below_alloc1) | (with_reducible apply below_drewN1) | (with_reducible apply below_drew1)))))) HMB.out (by omega) (by omega)).mono ?_); rw [HD.out]; rintro e wk ⟨rfl, hb⟩; have hBK := below_trans (show Below wd.heap.size wd _ by (repeat (first | (with_reducible assumption) | (with_reducible apply below_refl) | (with_reducible apply below_alloc1) | (with_reducible apply below_drewN1) | (with_reducible apply below_drew1)))) hb; clear hb c0 c1 c2; obtain ⟨c0, c1, c2⟩ := HCELL.out _ (below_trans hBW hBK))
              | (go_at_call 15; (refine (HT.out.war _).mono ?_); rintro e wl ⟨free, rfl, hfr, hb⟩; have HFR := hid hfr; have hBL2 := below_trans (show Below wd.heap.size wd _ by (repeat (first | (with_reducible assumption) | (with_reducible apply below_refl) | (with_reducible apply below_alloc1) | (with_reducible apply below_drewN1) | (with_reducible apply below_drew1)))) hb; clear hb hfr c0 c1 c2; obtain ⟨c0, c1, c2⟩ := HCELL.out _ (below_trans hBW hBL2))
              | (go_at_call 16; (refine (HT.out.par _).mono ?_); rintro e wm ⟨part, pc, rfl, hpt, p1, p2, hb⟩; have HPT := hid (And.intro hpt (And.intro p1 p2)); have hBM := below_trans (show Below wd.heap.size wd _ by (repeat (first | (with_reducible assumption) | (with_reducible apply below_refl) | (with_reducible apply below_alloc1) | (with_reducible apply below_drewN1) | (with_reducible apply below_drew1)))) hb; clear hb hpt p1 p2 c0 c1 c2; obtain ⟨c0, c1, c2⟩ := HCELL.out _ (below_trans hBW hBM)))
            have hBMW := below_trans hBW hBM
            have HBM9 := hid (below_trans HBL.out hBMW)
            have hwl : w1.heap.size < wm.heap.size := World.block_lt_of_cell? wm _ c0
            have hwk := hid (show inB (1 + (E : Int)) 1 8 = true from inB_mk (by omega) (by omega))
            go_cut [38, 39] from 394 (fun yv ev wx => AgCut T MA n wm yv ev wx)
            case first =>
              go_region_held (fun w' => Below wm.heap.size wm w' ∧ ∀ b o, b < wm.heap.size → w'.cell? ⟨b, o, none⟩ = wm.cell? ⟨b, o, none⟩) (first | exact keep_next ‹_› ‹_› | exact keep_start | exact keep_drew ‹_› | exact keep_of (by (repeat (first | (with_reducible assumption) | (with_reducible apply below_refl) | (with_reducible apply below_alloc1) | (with_reducible apply below_drewN1) | (with_reducible apply below_drew1))))) (first
                | (go_at_call 6; (with_reducible refine (r8At_any _ ms 45 8 _ (HM.out.below (below_trans HBM9.out (by (repeat (first | (with_reducible assumption) | (with_reducible apply below_refl) | (with_reducible apply below_alloc1) | (with_reducible apply below_drewN1) | (with_reducible apply below_drew1)))))) HMB.out (by omega) (by omega)).mono ?_); rw [HE.out]; rintro e wn ⟨rfl, hb⟩; have hbt : Below wm.heap.size wm wn := below_trans (show Below wm.heap.size wm _ by (repeat (first | (with_reducible assumption) | (with_reducible apply below_refl) | (with_reducible apply below_alloc1) | (with_reducible apply below_drewN1) | (with_reducible apply below_drew1)))) hb; have hbn := hb)
                | (go_at_call 17; (first | (refine (TSHR.out _ _ _ hwk.out (((two_alloc _ _ _ _ _).keep (below_drew _)).keep hbn)).mono ?_) | (refine (TSHR.out _ _ _ hwk.out (two_alloc _ _ _ _ _)).mono ?_) | (refine (TSHR.out _ _ _ hwk.out ((two_alloc _ _ _ _ _).keep hbn)).mono ?_)); rintro e wo ⟨ay, xs, rfl, a1, a2, hb⟩; have hbo : Below wm.heap.size wm wo := below_trans (show Below wm.heap.size wm _ by (repeat (first | (with_reducible assumption) | (with_reducible apply below_refl) | (with_reducible apply below_alloc1) | (with_reducible apply below_drewN1) | (with_reducible apply below_drew1)))) hb; have HAG := hid (show AgCut T MA n wm ay (.bool (okAll MA n)) wo from ⟨xs, rfl, fun h => ⟨(a1 h).1, ownsRow_low (a1 h).2 (Below.size (show Below wm.heap.size wm _ by (repeat (first | (with_reducible assumption) | (with_reducible apply below_refl) | (with_reducible apply below_alloc1) | (with_reducible apply below_drewN1) | (with_reducible apply below_drew1)))))⟩, hbo⟩); clear a1 a2 hb))
              all_goals
                go_wp2_with fail
                go_meet
                exact HAG.out
            case rest =>
              as_aux_lemma =>
                obtain ⟨xs, rfl, -, hbc⟩ := hcut
                rw [← HV3.out]
                obtain ⟨μ, fr, hμ, m0, m1, hfr, f0, f1'⟩ := HT.out.last
                have HLST := hid (And.intro hfr (And.intro f0 f1'))
                have hBC2 := hid (below_trans hw (below_trans hBM hbc))
                obtain ⟨xn, hxn, hxv⟩ := HYC.out wc hBC2.out n (Nat.le_refl n)
                have HXV := hid hxv
                have hnI : (0 : Int) ≤ (n : Int) := by omega
                have hnI2 : (n : Int) < ((n + 1 : Nat) : Int) := by omega
                have hnI3 : (n : Int) < (n : Int) + 1 := by omega
                clear hμ m0 m1 hfr f0 f1' hxv
                go_wp2_with (first
                  | ((fail_if_success (have := HZ1)); refine upon_float rfl ?_; intro z1 t1 hr; go_simp; have HZ1 := hid (show ab .f32 z1 = fop .mul .f32 (ab .f32 pr) (mX (fF (K : Int) p s to n) n) by rw [hr, HXV.out]); clear hr)
                  | (go_at_call 18; refine (r8Gap_any _ _ _).mono ?_; rintro e wv ⟨γ, rfl, hγ, hb⟩; have HGM := hid hγ; have hBV := below_trans (show Below wc.heap.size wc _ by (repeat (first | (with_reducible assumption) | (with_reducible apply below_refl) | (with_reducible apply below_alloc1) | (with_reducible apply below_drewN1) | (with_reducible apply below_drew1)))) hb; clear hb hγ)
                  | ((fail_if_success (have := HZ2)); (have := HGM); refine upon_widen (by kernel_rfl) Try.underlying34 ?_; intro z2 t2 hr; go_simp; have HZ2 := hid (show ab .f64 z2 = wid (ab .f32 free) from hr); clear hr)
                  | ((fail_if_success (have := HZ3)); (have := HZ2); refine upon_float rfl ?_; intro z3 t3 hr; go_simp; have HZ3 := hid hr; clear hr)
                  | ((fail_if_success (have := HZ4)); (have := HZ3); refine upon_float rfl ?_; intro z4 t4 hr; go_simp; have HZ4 := hid trivial; have k1 : (ford .f64 (ab .f64 γ) (ab .f64 z4) == some .lt) = true := free_bits HLST.out.1 HLST.out.2.1 HLST.out.2.2 HFR.out HZ1.out HGM.out HZ2.out HZ3.out hr; clear hr)
                  | ((fail_if_success (have := HZ5)); (have := HZ4); refine upon_widen (by kernel_rfl) Try.underlying34 ?_; intro z5 t5 hr; go_simp; have HZ5 := hid trivial; have k2 : (ford .f64 (ab .f64 z5) (ab .f64 13785626545772145148) == some .gt) = true := (by rw [show ab .f64 z5 = wid (ab .f32 part) from hr, ab_nmil]; exact part_low HPT.out.1 HPT.out.2.1); clear hr)
                  | ((fail_if_success (have := HZ6)); (have := HZ5); refine upon_widen (by kernel_rfl) Try.underlying34 ?_; intro z6 t6 hr; go_simp; have HZ6 := hid (show ab .f64 z6 = wid (ab .f32 part) from hr); clear hr)
                  | ((fail_if_success (have := HZ7)); (have := HZ6); refine upon_widen (by kernel_rfl) Try.underlying34 ?_; intro z7 t7 hr; go_simp; have HZ7 := hid (show ab .f64 z7 = wid (ab .f32 pr) from hr); clear hr)
                  | ((fail_if_success (have := HZ8)); (have := HZ7); refine upon_float rfl ?_; intro z8 t8 hr; go_simp; have HZ8 := hid trivial; have k3 : (ford .f64 (ab .f64 z6) (ab .f64 z8) == some .lt) = true := (by rw [hr, HZ6.out, HZ7.out, ab_mil]; exact part_high HPT.out.1 HT.out.prV HT.out.p0 (le_big HT.out.p1) HPT.out.2.2); clear hr))
                go_ret
                exact ⟨rfl, below_trans HBM9.out (below_trans hbc (by (repeat (first | (with_reducible assumption) | (with_reducible apply below_refl) | (with_reducible apply below_alloc1) | (with_reducible apply below_drewN1) | (with_reducible apply below_drew1)))))⟩
      · obtain ⟨k3, g1, g2, g3, g4⟩ := bst_spec (T := T) (M := MA) n1 (fun k h1 h2 => EMA.out k h1 h2 (okAll_get HV3.out.symm h1 h2))
        have HK3 := hid (And.intro g1 (And.intro g2 (And.intro g3 g4)))
        clear g1 g2 g3 g4
        go_upto_region 22 with (first
          | (go_at_call 9; (refine (TAGE.out _).mono ?_); rintro e we ⟨age, cost, rfl, r1, -, hb⟩; rw [← HV3.out]; have RA := hid (show ab .f32 age = T k3 by rw [(r1 HV3.out.symm).1, HK3.out.2.2.1]); have RC := hid (show ab .f32 cost = (MA k3).1 by rw [(r1 HV3.out.symm).2, HK3.out.2.2.1]); obtain ⟨t3, ht3, t31, t32⟩ := TTM.out k3 HK3.out.1 HK3.out.2.1; rw [← RA.out] at ht3; have HT3 := hid (And.intro ht3 (And.intro t31 t32)); have p3 := pos_law ht3 (lt41 t31); have hBE := below_trans (show Below wd.heap.size wd _ by (repeat (first | (with_reducible assumption) | (with_reducible apply below_refl) | (with_reducible apply below_alloc1) | (with_reducible apply below_drewN1) | (with_reducible apply below_drew1)))) hb; obtain ⟨c0, c1, c2⟩ := HCELL.out _ (below_trans hBW hBE); clear hb r1 ht3 t31 t32)
          | (go_at_call 10; (refine (TGRP.out _).mono ?_); rintro e wf ⟨time, group, rfl, r1, -, hb⟩; rw [HOG.out]; have RT := hid (show ab .f32 time = T kG by rw [(r1 HOG.out).1, HKG.out.2.2.1]); have RG := hid (show ab .f32 group = (MG kG).1 by rw [(r1 HOG.out).2, HKG.out.2.2.1]); obtain ⟨tG, htG, t31, t32⟩ := TTM.out kG HKG.out.1 HKG.out.2.1; rw [← RT.out] at htG; have HTG := hid (And.intro htG (And.intro t31 t32)); have pG := pos_law htG (lt41 t31); have hBF := below_trans (show Below wd.heap.size wd _ by (repeat (first | (with_reducible assumption) | (with_reducible apply below_refl) | (with_reducible apply below_alloc1) | (with_reducible apply below_drewN1) | (with_reducible apply below_drew1)))) hb; obtain ⟨c0, c1, c2⟩ := HCELL.out _ (below_trans hBW hBF); clear hb r1 htG t31 t32)
          | (go_at_call 11; (refine (TGAP.out _).mono ?_); rintro e wg ⟨gap, look, rfl, r1, r2, hb⟩; rw [← HV5.out]; have RI := hid r1; have hBG := below_trans (show Below wd.heap.size wd _ by (repeat (first | (with_reducible assumption) | (with_reducible apply below_refl) | (with_reducible apply below_alloc1) | (with_reducible apply below_drewN1) | (with_reducible apply below_drew1)))) hb; obtain ⟨c0, c1, c2⟩ := HCELL.out _ (below_trans hBW hBG); clear hb r1 r2)
          | ((fail_if_success (have := HR1)); (have := RI); refine upon_widen (by kernel_rfl) Try.underlying34 ?_; intro r1 m1 hr; go_simp; have HR1 := hid (show ab .f64 r1 = wid (ab .f32 age) from hr); clear hr)
          | ((fail_if_success (have := HR2)); (have := HR1); refine upon_widen (by kernel_rfl) Try.underlying34 ?_; intro r2 m2 hr; go_simp; have HR2 := hid (show ab .f64 r2 = wid (ab .f32 to) from hr); clear hr)
          | ((fail_if_success (have := HR3)); (have := HR2); refine upon_float rfl ?_; intro r3 m3 hr; go_simp; have HR3 := hid trivial; have f1 := most_bits HT3.out.1 HT.out.toV HT.out.l1 HT.out.l2 HT3.out.2.2 HR1.out HR2.out hr; clear hr)
          | ((fail_if_success (have := HR4)); (have := HR3); refine upon_widen (by kernel_rfl) Try.underlying34 ?_; intro r4 m4 hr; go_simp; have HR4 := hid (show ab .f64 r4 = wid (ab .f32 time) from hr); clear hr)
          | ((fail_if_success (have := HR5)); (have := HR4); refine upon_widen (by kernel_rfl) Try.underlying34 ?_; intro r5 m5 hr; go_simp; have HR5 := hid (show ab .f64 r5 = wid (ab .f32 to) from hr); clear hr)
          | ((fail_if_success (have := HR6)); (have := HR5); refine upon_float rfl ?_; intro r6 m6 hr; go_simp; have HR6 := hid trivial; have f2 := most_bits HTG.out.1 HT.out.toV HT.out.l1 HT.out.l2 HTG.out.2.2 HR4.out HR5.out hr; clear hr))
        have EA := hid (show ∀ j, 1 ≤ j → j ≤ n → ∃ r, RV .f32 (MA j).1 r from fun j h1 h2 => EMA.out j h1 h2 (okAll_get HV3.out.symm h1 h2))
        have hBX := (show Below wd.heap.size wd _ by (repeat (first | (with_reducible assumption) | (with_reducible apply below_refl) | (with_reducible apply below_alloc1) | (with_reducible apply below_drewN1) | (with_reducible apply below_drew1))) : Below wd.heap.size wd (wg.drewN (m1 + m2 + m3 + m4 + m5 + m6)))
        go_loopw [24, 25] (fun mv kv wr => ∃ k : Nat, 1 ≤ k ∧ k ≤ n + 1 ∧ mv = .bool false ∧ kv = .int .i64 k ∧ Below wd.heap.size wd wr) (fun _ kv _ => n + 1 - (intOf kv).toNat)
        case atStart => exact ⟨1, by omega, by omega, rfl, rfl, by (repeat (first | (with_reducible assumption) | (with_reducible apply below_refl) | (with_reducible apply below_alloc1) | (with_reducible apply below_drewN1) | (with_reducible apply below_drew1)))⟩
        case round =>
          obtain ⟨k, hk1, hk2, rfl, rfl, hw2⟩ := hrel
          have W4 : IntKind.i64.wrap ((k : Int) + 1) = ((k + 1 : Nat) : Int) := by rw [IntKind.wrap_i64]; omega
          clear c0 c1 c2
          obtain ⟨c0, c1, c2⟩ := HCELL.out _ (below_trans hBW hw2)
          by_cases hlt : k < n + 1
          · have hkI : (k : Int) ≤ (n : Int) := by omega
            have hkn : k ≤ n := by omega
            as_aux_lemma =>
              go_upto_region 31 with (first
                | ((fail_if_success (have := HY1)); refine upon_float rfl ?_; intro y1 j1 hr; go_simp; have HY1 := hid hr; clear hr)
                | ((fail_if_success (have := HY2)); refine upon_float rfl ?_; intro y2 j2 hr; go_simp; have HY2 := hid (show ab .f32 y2 = T k by rw [hr, HY1.out, HTQ.out, ab_ofInt, ab_ofInt]; rfl); clear hr)
                | (go_at_call 12; (refine (TAC.out k y2 hk1 hkn HY2.out _).mono ?_); rintro e wh ⟨a, rfl, ha, hb⟩; rw [okAll_get HV3.out.symm hk1 hkn]; have HAA := hid ha; have hBH := below_trans (show Below wd.heap.size wd _ by (repeat (first | (with_reducible assumption) | (with_reducible apply below_refl) | (with_reducible apply below_alloc1) | (with_reducible apply below_drewN1) | (with_reducible apply below_drew1)))) hb; clear hb ha c0 c1 c2; obtain ⟨c0, c1, c2⟩ := HCELL.out _ (below_trans hBW hBH))
                | (go_at_call 13; (refine (TGC.out k y2 hk1 hkn HY2.out _).mono ?_); rintro e wi ⟨b, rfl, hbb, hb⟩; rw [okAll_get HOG.out hk1 hkn]; have HBB2 := hid hbb; have hBI := below_trans (show Below wd.heap.size wd _ by (repeat (first | (with_reducible assumption) | (with_reducible apply below_refl) | (with_reducible apply below_alloc1) | (with_reducible apply below_drewN1) | (with_reducible apply below_drew1)))) hb; clear hb hbb c0 c1 c2; obtain ⟨c0, c1, c2⟩ := HCELL.out _ (below_trans hBW hBI))
                | (go_at_call 14; (refine (TIC.out k y2 hk1 hkn HY2.out _).mono ?_); rintro e wj ⟨q, rfl, hq, hb⟩; obtain ⟨e8, he8⟩ : ∃ e8, e8 = (MI k).2 := ⟨_, rfl⟩; rw [← he8]; have HE8 := hid he8; have HQQ := hid hq; have hBJ := below_trans (show Below wd.heap.size wd _ by (repeat (first | (with_reducible assumption) | (with_reducible apply below_refl) | (with_reducible apply below_alloc1) | (with_reducible apply below_drewN1) | (with_reducible apply below_drew1)))) hb; clear hb hq he8 c0 c1 c2; obtain ⟨c0, c1, c2⟩ := HCELL.out _ (below_trans hBW hBJ)))
              have f3 := not_lt_least (n := n) EA.out ⟨HK3.out.1, HK3.out.2.1⟩ HK3.out.2.2.2 hk1 hkn HAA.out RC.out
              have fG := not_lt_least (n := n) EMG.out ⟨HKG.out.1, HKG.out.2.1⟩ HKG.out.2.2.2 hk1 hkn HBB2.out RG.out
              have s3 := hid (same_or (n := n) (L := L) EA.out TTM.out TINJ.out ⟨HK3.out.1, HK3.out.2.1⟩ hk1 hkn HY2.out RA.out HAA.out RC.out)
              have sG := hid (same_or (n := n) (L := L) EMG.out TTM.out TINJ.out ⟨HKG.out.1, HKG.out.2.1⟩ hk1 hkn HY2.out RT.out HBB2.out RG.out)
              have HFIN : Hid ((∃ q : Nat, 1 ≤ q ∧ q ≤ n + 1 ∧ Value.bool false = .bool false ∧ Value.int .i64 ((k : Int) + 1) = .int .i64 q ∧ Below wd.heap.size wd wj) ∧ n + 1 - (intOf (.int .i64 ((k : Int) + 1))).toNat < n + 1 - (intOf (.int .i64 (k : Int))).toNat) :=
                hid ⟨⟨k + 1, by omega, by omega, rfl, by go_num, hBJ⟩, by simp [intOf]; omega⟩
              cases v5
              · rcases s3.out with e1 | ⟨e1, e2⟩ <;> rcases sG.out with e3 | ⟨e3, e4⟩
                all_goals as_aux_lemma =>
                  go_wp2_with fail
                  exact HFIN.out
              · obtain ⟨k5, g1, g2, g3, g4⟩ := bst_spec (T := T) (M := MI) n1 (fun k h1 h2 => EMI.out k h1 h2 (okAll_get HV5.out.symm h1 h2))
                have R5 := RI.out HV5.out.symm
                rw [g3] at R5
                have he8 : e8 = true := by rw [HE8.out]; exact okAll_get HV5.out.symm hk1 hkn
                subst he8
                have f5 := not_lt_least (n := n) (fun j h1 h2 => EMI.out j h1 h2 (okAll_get HV5.out.symm h1 h2)) ⟨g1, g2⟩ g4 hk1 hkn HQQ.out R5.2
                have s5 := same_or (n := n) (L := L) (fun j h1 h2 => EMI.out j h1 h2 (okAll_get HV5.out.symm h1 h2)) TTM.out TINJ.out ⟨g1, g2⟩ hk1 hkn HY2.out R5.1 HQQ.out R5.2
                clear g1 g2 g3 g4 R5
                rcases s3.out with e1 | ⟨e1, e2⟩ <;> rcases sG.out with e3 | ⟨e3, e4⟩ <;> rcases s5 with e5 | ⟨e5, e6⟩
                all_goals as_aux_lemma =>
                  go_wp2_with fail
                  exact HFIN.out
          · obtain rfl : k = n + 1 := by omega
            have hkI : ¬ (((n + 1 : Nat) : Int)) ≤ (n : Int) := by omega
            have hkI2 : ¬ (n : Int) + 1 ≤ (n : Int) := by omega
            have hpr : floatOfInt .f32 (1 + (D : Int)) = pr := by rw [HPR.out, Int.natCast_add]; rfl
            have HB0 := hid (below_trans HBL.out (below_trans hBW hw2))
            go_upto_region 38 with (first
              | (go_at_call 6; (with_reducible refine (r8At_any _ ms 44 10 _ (HM.out.below (below_trans HB0.out (by (repeat (first | (with_reducible assumption) | (with_reducible apply below_refl) | (with_reducible apply below_alloc1) | (with_reducible apply below_drewN1) | (with_reducible apply below_drew1)))))) HMB.out (by omega) (by omega)).mono ?_); rw [HD.out]; rintro e wk ⟨rfl, hb⟩; have hBK := below_trans (show Below wd.heap.size wd _ by (repeat (first | (with_reducible assumption) | (with_reducible apply below_refl) | (with_reducible apply below_alloc1) | (with_reducible apply below_drewN1) | (with_reducible apply below_drew1)))) hb; clear hb c0 c1 c2; obtain ⟨c0, c1, c2⟩ := HCELL.out _ (below_trans hBW hBK))
              | (go_at_call 15; (refine (HT.out.war _).mono ?_); rintro e wl ⟨free, rfl, hfr, hb⟩; have HFR := hid hfr; have hBL2 := below_trans (show Below wd.heap.size wd _ by (repeat (first | (with_reducible assumption) | (with_reducible apply below_refl) | (with_reducible apply below_alloc1) | (with_reducible apply below_drewN1) | (with_reducible apply below_drew1)))) hb; clear hb hfr c0 c1 c2; obtain ⟨c0, c1, c2⟩ := HCELL.out _ (below_trans hBW hBL2))
              | (go_at_call 16; (refine (HT.out.par _).mono ?_); rintro e wm ⟨part, pc, rfl, hpt, p1, p2, hb⟩; have HPT := hid (And.intro hpt (And.intro p1 p2)); have hBM := below_trans (show Below wd.heap.size wd _ by (repeat (first | (with_reducible assumption) | (with_reducible apply below_refl) | (with_reducible apply below_alloc1) | (with_reducible apply below_drewN1) | (with_reducible apply below_drew1)))) hb; clear hb hpt p1 p2 c0 c1 c2; obtain ⟨c0, c1, c2⟩ := HCELL.out _ (below_trans hBW hBM)))
            have hBMW := below_trans hBW hBM
            have HBM9 := hid (below_trans HBL.out hBMW)
            have hwl : w1.heap.size < wm.heap.size := World.block_lt_of_cell? wm _ c0
            have hwk := hid (show inB (1 + (E : Int)) 1 8 = true from inB_mk (by omega) (by omega))
            go_cut [38, 39] from 394 (fun yv ev wx => AgCut T MA n wm yv ev wx)
            case first =>
              go_region_held (fun w' => Below wm.heap.size wm w' ∧ ∀ b o, b < wm.heap.size → w'.cell? ⟨b, o, none⟩ = wm.cell? ⟨b, o, none⟩) (first | exact keep_next ‹_› ‹_› | exact keep_start | exact keep_drew ‹_› | exact keep_of (by (repeat (first | (with_reducible assumption) | (with_reducible apply below_refl) | (with_reducible apply below_alloc1) | (with_reducible apply below_drewN1) | (with_reducible apply below_drew1))))) (first
                | (go_at_call 6; (with_reducible refine (r8At_any _ ms 45 8 _ (HM.out.below (below_trans HBM9.out (by (repeat (first | (with_reducible assumption) | (with_reducible apply below_refl) | (with_reducible apply below_alloc1) | (with_reducible apply below_drewN1) | (with_reducible apply below_drew1)))))) HMB.out (by omega) (by omega)).mono ?_); rw [HE.out]; rintro e wn ⟨rfl, hb⟩; have hbt : Below wm.heap.size wm wn := below_trans (show Below wm.heap.size wm _ by (repeat (first | (with_reducible assumption) | (with_reducible apply below_refl) | (with_reducible apply below_alloc1) | (with_reducible apply below_drewN1) | (with_reducible apply below_drew1)))) hb; have hbn := hb)
                | (go_at_call 17; (first | (refine (TSHR.out _ _ _ hwk.out (((two_alloc _ _ _ _ _).keep (below_drew _)).keep hbn)).mono ?_) | (refine (TSHR.out _ _ _ hwk.out (two_alloc _ _ _ _ _)).mono ?_) | (refine (TSHR.out _ _ _ hwk.out ((two_alloc _ _ _ _ _).keep hbn)).mono ?_)); rintro e wo ⟨ay, xs, rfl, a1, a2, hb⟩; have hbo : Below wm.heap.size wm wo := below_trans (show Below wm.heap.size wm _ by (repeat (first | (with_reducible assumption) | (with_reducible apply below_refl) | (with_reducible apply below_alloc1) | (with_reducible apply below_drewN1) | (with_reducible apply below_drew1)))) hb; have HAG := hid (show AgCut T MA n wm ay (.bool (okAll MA n)) wo from ⟨xs, rfl, fun h => ⟨(a1 h).1, ownsRow_low (a1 h).2 (Below.size (show Below wm.heap.size wm _ by (repeat (first | (with_reducible assumption) | (with_reducible apply below_refl) | (with_reducible apply below_alloc1) | (with_reducible apply below_drewN1) | (with_reducible apply below_drew1)))))⟩, hbo⟩); clear a1 a2 hb))
              all_goals
                go_wp2_with fail
                go_meet
                exact HAG.out
            case rest =>
              as_aux_lemma =>
                obtain ⟨xs, rfl, hxs, hbc⟩ := hcut
                rw [← HV3.out]
                obtain ⟨hx1, hx2⟩ := hxs HV3.out.symm
                obtain ⟨u1, u2, rfl⟩ : ∃ u1 u2, xs = [u1, u2] := by
                  match xs, hx1 with
                  | [u1, u2], _ => exact ⟨u1, u2, rfl⟩
                  | [], h => simp at h
                  | [_], h => simp at h
                  | _ :: _ :: _ :: _, h => simp at h
                simp only [List.map_cons, List.map_nil, List.cons.injEq, and_true] at hx1
                obtain ⟨ga, ca, e1, -, -, -, hga⟩ := slice_of_own hx2 (by simp)
                replace e1 := e1.trans (show Value.slice (some ⟨ga, 0, none⟩) ([u1, u2].map (Value.float .f32)).length ca = .slice (some ⟨ga, 0, none⟩) 2 ca from rfl)
                subst e1
                have HX2 := hid (show ∀ wr, Below wc.heap.size wc wr → wr.cell? ⟨ga, 0, none⟩ = some (.float .f32 u1) ∧ wr.cell? ⟨ga, 1, none⟩ = some (.float .f32 u2) from fun wr hb => by
                  have ho := ownsRow_below hx2 hb
                  exact ⟨ho.cellAt 0 (by decide), ho.cellAt 1 (by decide)⟩)
                have q1 : (ford .f32 (ab .f32 u1) (ab .f32 age) == some .eq) = true := by
                  rw [hx1.1, RA.out, HK3.out.2.2.1, ← RA.out, rv_eq HT3.out.1 HT3.out.1 rfl]; rfl
                have q2 : (ford .f32 (ab .f32 u2) (ab .f32 age) == some .eq) = true := by
                  rw [hx1.2, RA.out, HK3.out.2.2.1, ← RA.out, rv_eq HT3.out.1 HT3.out.1 rfl]; rfl
                obtain ⟨μ, fr, hμ, m0, m1, hfr, f0, f1'⟩ := HT.out.last
                have HLST := hid (And.intro hfr (And.intro f0 f1'))
                have hBC2 := hid (below_trans hw (below_trans hBM hbc))
                obtain ⟨xn, hxn, hxv⟩ := HYC.out wc hBC2.out n (Nat.le_refl n)
                have HXV := hid hxv
                have hnI : (0 : Int) ≤ (n : Int) := by omega
                have hnI2 : (n : Int) < ((n + 1 : Nat) : Int) := by omega
                have hnI3 : (n : Int) < (n : Int) + 1 := by omega
                obtain ⟨a0, a1⟩ := HX2.out wc (below_refl wc)
                clear hx1 hx2 hxs hμ m0 m1 hfr f0 f1' hxv
                go_wp2_with (first
                  | ((fail_if_success (have := HZ1)); refine upon_float rfl ?_; intro z1 t1 hr; go_simp; have HZ1 := hid (show ab .f32 z1 = fop .mul .f32 (ab .f32 pr) (mX (fF (K : Int) p s to n) n) by rw [hr, HXV.out]); clear hr)
                  | (go_at_call 18; refine (r8Gap_any _ _ _).mono ?_; rintro e wv ⟨γ, rfl, hγ, hb⟩; have HGM := hid hγ; have hBV := below_trans (show Below wc.heap.size wc _ by (repeat (first | (with_reducible assumption) | (with_reducible apply below_refl) | (with_reducible apply below_alloc1) | (with_reducible apply below_drewN1) | (with_reducible apply below_drew1)))) hb; obtain ⟨a2, a3⟩ := HX2.out wv hBV; clear hb hγ)
                  | ((fail_if_success (have := HZ2)); (have := HGM); refine upon_widen (by kernel_rfl) Try.underlying34 ?_; intro z2 t2 hr; go_simp; have HZ2 := hid (show ab .f64 z2 = wid (ab .f32 free) from hr); clear hr)
                  | ((fail_if_success (have := HZ3)); (have := HZ2); refine upon_float rfl ?_; intro z3 t3 hr; go_simp; have HZ3 := hid hr; clear hr)
                  | ((fail_if_success (have := HZ4)); (have := HZ3); refine upon_float rfl ?_; intro z4 t4 hr; go_simp; have HZ4 := hid trivial; have k1 : (ford .f64 (ab .f64 γ) (ab .f64 z4) == some .lt) = true := free_bits HLST.out.1 HLST.out.2.1 HLST.out.2.2 HFR.out HZ1.out HGM.out HZ2.out HZ3.out hr; clear hr)
                  | ((fail_if_success (have := HZ5)); (have := HZ4); refine upon_widen (by kernel_rfl) Try.underlying34 ?_; intro z5 t5 hr; go_simp; have HZ5 := hid trivial; have k2 : (ford .f64 (ab .f64 z5) (ab .f64 13785626545772145148) == some .gt) = true := (by rw [show ab .f64 z5 = wid (ab .f32 part) from hr, ab_nmil]; exact part_low HPT.out.1 HPT.out.2.1); clear hr)
                  | ((fail_if_success (have := HZ6)); (have := HZ5); refine upon_widen (by kernel_rfl) Try.underlying34 ?_; intro z6 t6 hr; go_simp; have HZ6 := hid (show ab .f64 z6 = wid (ab .f32 part) from hr); clear hr)
                  | ((fail_if_success (have := HZ7)); (have := HZ6); refine upon_widen (by kernel_rfl) Try.underlying34 ?_; intro z7 t7 hr; go_simp; have HZ7 := hid (show ab .f64 z7 = wid (ab .f32 pr) from hr); clear hr)
                  | ((fail_if_success (have := HZ8)); (have := HZ7); refine upon_float rfl ?_; intro z8 t8 hr; go_simp; have HZ8 := hid trivial; have k3 : (ford .f64 (ab .f64 z6) (ab .f64 z8) == some .lt) = true := (by rw [hr, HZ6.out, HZ7.out, ab_mil]; exact part_high HPT.out.1 HT.out.prV HT.out.p0 (le_big HT.out.p1) HPT.out.2.2); clear hr))
                go_ret
                exact ⟨rfl, below_trans HBM9.out (below_trans hbc (by (repeat (first | (with_reducible assumption) | (with_reducible apply below_refl) | (with_reducible apply below_alloc1) | (with_reducible apply below_drewN1) | (with_reducible apply below_drew1)))))⟩
end Go.Proofs.Ytkgbbagklkffpaa
