/- FnPaths: the law's line and what is asked of it. No program in sight. -/
import Derived.Test.YtkaeohlakeliiaaLst
import Derived.Test.YtkaeohlakeliiaaStF
import Derived.Test.YtkaeohlakeliiaaSame2
namespace Go.Proofs.Ytkaeohlakeliiaa
open Go.RowKit

/-! ## Ln6 -/
/-- A point of the line whose base is (B - 16) / 4 and whose slope is S / 4. -/
def lineX (B S q : Nat) : Option Nat := fop .add .f32 (some (fz B)) (fop .mul .f32 (some (fq S)) (some (fq q)))
def lineB (B S q : Nat) : Nat := (lineX B S q).getD 0
def lineI (B S q : Nat) : Int := 4 * ((B : Int) - 16) + (S : Int) * (q : Int)
theorem line_bd {B S q : Nat} (hB : 8 ≤ B) (hB2 : B ≤ 24) (hS : S ≤ 8) (hq : q ≤ 44) : (lineI B S q).natAbs ≤ 384 := by
  have : S * q ≤ 8 * 44 := Nat.mul_le_mul hS hq
  have e : ((S * q : Nat) : Int) = (S : Int) * (q : Int) := Int.natCast_mul ..
  unfold lineI
  omega
theorem lineX_rv {B S q : Nat} (hB : 8 ≤ B) (hB2 : B ≤ 24) (hS : S ≤ 8) (hq : q ≤ 44) : RV .f32 (lineX B S q) ((lineI B S q : Rat) / 16) := by
  have h1 := rv_fz B (by omega)
  have h2 := rv_fq S (by omega)
  have h3 := rv_fq q (by omega)
  rw [(fz_some B (by omega)).2.1] at h1
  rw [(fq_some S (by omega)).2.1] at h2
  rw [(fq_some q (by omega)).2.1] at h3
  have hm : S * q ≤ 8 * 44 := Nat.mul_le_mul hS hq
  have e : (S : Rat) / 4 * ((q : Rat) / 4) = (((S * q : Nat) : Int) : Rat) / 16 := by
    rw [Rat.intCast_natCast, Rat.natCast_mul]; grind
  have h4 := wn_mul h2 h3
  rw [e] at h4
  have h5 := ex16 _ h4 (by omega) rfl
  have h6 := wn_add h1 h5
  have e2 : ((4 * ((B : Int) - 16) : Int) : Rat) / 16 + (((S * q : Nat) : Int) : Rat) / 16 = (lineI B S q : Rat) / 16 := by
    unfold lineI
    rw [Rat.intCast_add, ← Int.natCast_mul]; grind
  rw [e2] at h6
  have := line_bd hB hB2 hS hq
  exact ex16 _ h6 (by omega) rfl
theorem lineB_at {B S q : Nat} (hB : 8 ≤ B) (hB2 : B ≤ 24) (hS : S ≤ 8) (hq : q ≤ 44) : lineX B S q = some (lineB B S q) ∧ ab .f32 (lineB B S q) = some (lineB B S q) := by
  obtain ⟨b, h1, h2⟩ := (lineX_rv hB hB2 hS hq).some
  have : lineB B S q = b := by unfold lineB; rw [h1]; rfl
  rw [this]; exact ⟨h1, h2⟩
theorem line_lin {qs : List Nat} {q n B S : Nat} (h : Ris qs q) (hl : qs.length = n) (lo : 2 ≤ n) (hi : n ≤ 11) (hB : 8 ≤ B) (hB2 : B ≤ 24) (hS1 : 1 ≤ S) (hS : S ≤ 8) :
    Lin (qs.map fq) (qs.map (lineB B S)) n (fun k => 4 * ((qs.getD k 0 : Nat) : Int)) (fun k => lineI B S (qs.getD k 0)) (((B : Int) - 16 : Int) / 4) ((S : Rat) / 4) := by
  have hq := h.most
  have g1 := intr_le (show (8 : Int) - 16 ≤ (B : Int) - 16 by omega)
  have g2 := intr_le (show (B : Int) - 16 ≤ 24 - 16 by omega)
  have g3 := natr_le hS1
  have g4 := natr_le hS
  rw [show (((8 : Int) - 16 : Int) : Rat) = -8 from rfl] at g1
  rw [show (((24 : Int) - 16 : Int) : Rat) = 8 from rfl] at g2
  rw [show ((1 : Nat) : Rat) = 1 from rfl] at g3
  rw [show ((8 : Nat) : Rat) = 8 from rfl] at g4
  refine ⟨ris_tms h hl lo hi, by simp [hl], fun k hk => ?_, fun k hk => ?_, by grind, by grind, by grind, by grind⟩
  · have h2 := h.rg k (by omega)
    unfold atX
    rw [map_getD _ qs (by omega), (lineB_at hB hB2 hS (show qs.getD k 0 ≤ 44 by omega)).2, ← (lineB_at hB hB2 hS (show qs.getD k 0 ≤ 44 by omega)).1]
    exact ⟨lineX_rv hB hB2 hS (by omega), line_bd hB hB2 hS (by omega)⟩
  · show (lineI B S (qs.getD k 0) : Rat) / 16 = _
    unfold lineI
    rw [Rat.intCast_add, Rat.intCast_mul, Rat.intCast_mul, Rat.intCast_mul, Rat.intCast_natCast, Rat.intCast_natCast, show ((4 : Int) : Rat) = 4 from rfl]
    grind
/-- The limit: half way. -/
def limX (a b : Option Nat) : Option Nat := fop .add .f32 a (fop .quo .f32 (fop .sub .f32 b a) (some ktwo))
theorem rv_two : RV .f32 (some ktwo) 2 := by
  have := rv_ofInt32 2 (by decide)
  rwa [show floatOfInt .f32 2 = ktwo from by decide] at this
theorem lim_rv {a b : Option Nat} {x y : Rat} (ha : RV .f32 a x) (hb : RV .f32 b y) (x1 : -24 ≤ x) (x2 : x ≤ 24) (y1 : -24 ≤ y) (y2 : y ≤ 24) (h : x + 1 / 16 ≤ y) : ∃ l, RV .f32 (limX a b) l ∧ x < l ∧ l ≤ y := by
  obtain ⟨d, hd, -, -, d1, d2⟩ := near32 (wn_sub hb ha) 48 (by grind) (by grind) (by grind)
  rw [tiny_eq] at d1 d2
  obtain ⟨e, he, -, -, e1, e2⟩ := near32 (wn_div hd rv_two (by grind)) 50 (by grind) (by grind) (by grind)
  rw [tiny_eq] at e1 e2
  obtain ⟨l, hl, -, -, l1, l2⟩ := near32 (wn_add ha he) 90 (by grind) (by grind) (by grind)
  rw [tiny_eq] at l1 l2
  exact ⟨l, hl, by grind, by grind⟩
/-! ### Gaps -/
def c01q : Nat := 4576918229304087675
theorem rv_c01 : ∃ r, RV .f64 (some c01q) r ∧ 999 / 100000 ≤ r ∧ r ≤ 1001 / 100000 :=
  ⟨_, RV.of (v := fv FloatKind.f64.format c01q) ⟨c01q, rfl, by decide, rfl⟩, by decide +kernel, by decide +kernel⟩
theorem gap_small {a b : Option Nat} {A B : Rat} (δ : Rat) (ha : RV .f64 a A) (hb : RV .f64 b B) (h1 : A ≤ B + δ) (h2 : B ≤ A + δ) (hδ : δ ≤ 50) : ∃ G γ, gapX a b = some G ∧ ab .f64 G = some G ∧ RV .f64 (some G) γ ∧ γ ≤ δ + 1 / 10000000000000 := by
  obtain ⟨γ, N, hγ, n0, n1, g1, g2⟩ := gap_near ha hb (by grind) (by grind)
  obtain ⟨G, e1, e2⟩ := hγ.some
  rw [e1] at hγ
  exact ⟨G, γ, e1, e2, hγ, by rcases n1 with c | c <;> grind⟩
theorem gap_c01 {a b : Option Nat} {A B : Rat} (ha : RV .f64 a A) (hb : RV .f64 b B) (h1 : A ≤ B + 99 / 10000) (h2 : B ≤ A + 99 / 10000) : ∃ G, gapX a b = some G ∧ ab .f64 G = some G ∧ (ford .f64 (some G) (some c01q) == some .gt) = false := by
  obtain ⟨G, γ, e1, e2, hg, g1⟩ := gap_small (99 / 10000) ha hb h1 h2 (by grind)
  obtain ⟨r, hr, r1, r2⟩ := rv_c01
  exact ⟨G, e1, e2, not_gt_of hg hr (by grind)⟩
theorem gap_mil {a b : Option Nat} {A B : Rat} (ha : RV .f64 a A) (hb : RV .f64 b B) (h1 : A ≤ B + 9 / 10000) (h2 : B ≤ A + 9 / 10000) : ∃ G, gapX a b = some G ∧ ab .f64 G = some G ∧ (ford .f64 (some G) (some cmil) == some .gt) = false := by
  obtain ⟨G, γ, e1, e2, hg, g1⟩ := gap_small (9 / 10000) ha hb h1 h2 (by grind)
  obtain ⟨r, hr, r1, r2⟩ := rv_mil
  exact ⟨G, e1, e2, not_gt_of hg hr (by grind)⟩
def mil32 : Nat := 981668463
theorem rv_mil32 : ∃ r, RV .f32 (some mil32) r ∧ 999 / 1000000 ≤ r ∧ r ≤ 1001 / 1000000 :=
  ⟨_, RV.of (v := fv FloatKind.f32.format mil32) ⟨mil32, rfl, by decide, rfl⟩, by decide +kernel, by decide +kernel⟩
theorem near_c {s c t z : Rat} (s1 : 1 / 4 ≤ s) (h1 : s * c ≤ z + 1 / 10000) (h2 : z ≤ s * c + 1 / 10000) (h3 : s * t ≤ z + 1 / 10000) (h4 : z ≤ s * t + 1 / 10000) : c ≤ t + 99 / 10000 ∧ t ≤ c + 99 / 10000 := by
  constructor
  · refine Rat.le_of_mul_le_mul_left (c := s) ?_ (by grind)
    grind
  · refine Rat.le_of_mul_le_mul_left (c := s) ?_ (by grind)
    grind

/-! ## Ttl -/
theorem ttlM_no {b s l : Option Nat} (h : (finite32 b && finite32 s && finite32 l && !(ford .f32 s (some 0) == some .eq)) = false) : ttlM b s l = (some 0, false) := by simp only [ttlM, h]; rfl
set_option maxRecDepth 100000 in
set_option maxHeartbeats 400000 in
theorem implTtl_any (b s l : Nat) (w : World) : Calls Try.prog 23 #[.float .f32 b, .float .f32 s, .float .f32 l] w (NumOk (ttlM (ab .f32 b) (ab .f32 s) (ab .f32 l)) w) := by
  cases h1 : (finite32 (ab .f32 b) && finite32 (ab .f32 s) && finite32 (ab .f32 l))
  · have HM := hid (ttlM_no (b := ab .f32 b) (s := ab .f32 s) (l := ab .f32 l) (by simp [h1]))
    have h1' : ([b, s, l].all fun x => finB (ab .f32 x)) = false := by simpa [Bool.and_assoc, finB] using h1
    go_enter Try.func23, Try.ntmps23
    go_wp2_with (go_at_call 58; refine (areFinite_any _ [b, s, l] _ (rowAt_alloc _ _ [.float .f32 b, .float .f32 s, .float .f32 l] (by simp [maxLen]))).mono ?_; rw [h1']; rintro e w' ⟨rfl, hb⟩; have hB : Below w.heap.size w w' := below_trans (by (repeat (first | (with_reducible assumption) | (with_reducible apply below_refl) | (with_reducible apply below_alloc1) | (with_reducible apply below_drewN1) | (with_reducible apply below_drew1)))) hb; have hC := (bcell hB).1; clear hb)
    go_ret2
    exact numOk_no HM.out (by assumption)
  · have h1' : ([b, s, l].all fun x => finB (ab .f32 x)) = true := by simpa [Bool.and_assoc, finB] using h1
    cases h2 : (ford .f32 (ab .f32 s) (some 0) == some .eq)
    · have HM := hid (ttlM_yes (b := ab .f32 b) (s := ab .f32 s) (l := ab .f32 l) (by simp [h1, h2]))
      go_enter Try.func23, Try.ntmps23
      go_wp2_with (first
        | (go_at_call 58; refine (areFinite_any _ [b, s, l] _ (rowAt_alloc _ _ [.float .f32 b, .float .f32 s, .float .f32 l] (by simp [maxLen]))).mono ?_; rw [h1']; rintro e w' ⟨rfl, hb⟩; have hB : Below w.heap.size w w' := below_trans (by (repeat (first | (with_reducible assumption) | (with_reducible apply below_refl) | (with_reducible apply below_alloc1) | (with_reducible apply below_drewN1) | (with_reducible apply below_drew1)))) hb; have hC := (bcell hB).1; clear hb)
        | (refine upon_float rfl ?_; intro r n hr; go_simp)
        | (go_at_call 60; refine (ifFinite_num _ _).mono ?_; rintro e w' ⟨r, rfl, hr, hb⟩; have hB : Below w.heap.size w w' := below_trans (by (repeat (first | (with_reducible assumption) | (with_reducible apply below_refl) | (with_reducible apply below_alloc1) | (with_reducible apply below_drewN1) | (with_reducible apply below_drew1)))) hb; have hC := (bcell hB).1; clear hb))
      go_ret2
      exact ⟨_, by rw [HM.out]; rfl, by rw [HM.out]; simp only [*], by assumption⟩
    · have HM := hid (ttlM_no (b := ab .f32 b) (s := ab .f32 s) (l := ab .f32 l) (by simp [h2]))
      go_enter Try.func23, Try.ntmps23
      go_wp2_with (go_at_call 58; refine (areFinite_any _ [b, s, l] _ (rowAt_alloc _ _ [.float .f32 b, .float .f32 s, .float .f32 l] (by simp [maxLen]))).mono ?_; rw [h1']; rintro e w' ⟨rfl, hb⟩; have hB : Below w.heap.size w w' := below_trans (by (repeat (first | (with_reducible assumption) | (with_reducible apply below_refl) | (with_reducible apply below_alloc1) | (with_reducible apply below_drewN1) | (with_reducible apply below_drew1)))) hb; have hC := (bcell hB).1; clear hb)
      go_ret2
      exact numOk_no HM.out (by assumption)

/-! ## Smq -/
set_option maxRecDepth 100000 in
set_option maxHeartbeats 400000 in
theorem l01Bits_w (x : Nat) (hx : ab .f32 x = some x) (w : World) :
    Calls Try.prog 122 #[.float .f32 x] w fun e w' => e = .returned (.int .i64 (wrap64 (x : Int))) ∧ ∃ m, w' = w.drewN m := by
  have h1 : ford .f32 (ab .f32 x) (ab .f32 x) = some .eq := by rw [hx]; exact ford_self hx
  have HX := hid hx; clear hx
  go_enter Try.func122, Try.ntmps122
  go_wp2_with fail
  go_ret
  exact ⟨rfl, 0, (World.drewN_zero w).symm⟩
set_option maxRecDepth 100000 in
set_option maxHeartbeats 400000 in
theorem l01Same_w (x : Nat) (hx : ab .f32 x = some x) (w : World) :
    Calls Try.prog 76 #[.float .f32 x, .float .f32 x] w fun e w' => e = .returned (.bool true) ∧ ∃ m, w' = w.drewN m := by
  have HX := hid hx; clear hx
  go_enter Try.func76, Try.ntmps76
  go_wp2_with (first | (go_at_call 122; (with_reducible refine (l01Bits_w x HX.out _).mono ?_); rintro e w' ⟨rfl, m, rfl⟩))
  go_ret
  exact ⟨by simp, _, rfl⟩
set_option maxHeartbeats 400000 in
theorem specSame_w (x : Nat) (hx : ab .f32 x = some x) (w : World) :
    Calls Try.prog 19 #[.float .f32 x, .float .f32 x] w fun e w' => e = .returned (.bool true) ∧ ∃ m, w' = w.drewN m := by
  have HX := hid hx; clear hx
  go_enter Try.func19, Try.ntmps19
  go_wp2_with (first | (go_at_call 76; (with_reducible refine (l01Same_w x HX.out _).mono ?_); rintro e w' ⟨rfl, m, rfl⟩))
  go_ret
  exact ⟨rfl, _, rfl⟩
end Go.Proofs.Ytkaeohlakeliiaa
