/- Contracts of the laws' helpers r8Long, r8At, r8Gap. -/
import Derived.Test.YtkaeohlakeliiaaCrA
import Derived.Test.YtkaeohlakeliiaaByte
import Derived.Test.YtkaeohlakeliiaaCh
import Derived.Test.YtkaeohlakeliiaaChA
namespace Go.Proofs.Ytkaeohlakeliiaa
open Go.RowKit
set_option linter.unusedVariables false

/-! ## Cr8 -/
/-- The number below n that a byte chooses; behind the end: 0. -/
def at8 (bs : List Int) (i n : Int) : Int := if n ≤ 1 then 0 else if h : i.toNat < bs.length then bs[i.toNat] % n else 0
theorem at8_bd (bs : List Int) (i n : Int) (hn : 1 ≤ n) : 0 ≤ at8 bs i n ∧ at8 bs i n < n := by
  unfold at8
  split
  · omega
  · split
    · exact ⟨Int.emod_nonneg _ (by omega), Int.emod_lt_of_pos _ (by omega)⟩
    · omega
theorem at8_one {bs : List Int} {i n : Int} (h : n ≤ 1) : at8 bs i n = 0 := by simp [at8, h]
theorem at8_in {bs : List Int} {i n : Int} (h : ¬ n ≤ 1) (k : i.toNat < bs.length) : at8 bs i n = bs[i.toNat] % n := by simp [at8, h, k]
theorem at8_out {bs : List Int} {i n : Int} (h : ¬ n ≤ 1) (k : ¬ i.toNat < bs.length) : at8 bs i n = 0 := by simp [at8, h, k]
set_option maxHeartbeats 800000 in
theorem r8At_any (v : Value) (bs : List Int) (i n : Int) (w : World) (hv : RowAt w v (bs.map (Value.int .u8))) (hbs : ∀ b ∈ bs, 0 ≤ b ∧ b ≤ 255) (hi : 0 ≤ i ∧ i ≤ 1000000) (hn : -9223372036854775808 ≤ n ∧ n ≤ 9223372036854775807) :
    Calls Try.prog 31 #[v, .int .i64 i, .int .i64 n] w fun e w' => e = .returned (.int .i64 (at8 bs i n)) ∧ Below w.heap.size w w' := by
  obtain ⟨ao, cap, b, off, rfl, hao, hl, hm, hc⟩ := hv
  simp only [List.length_map] at hao hl ⊢
  unfold maxLen at hm
  have HC := hid hc; clear hc
  have HA := hid hao; clear hao
  have HB := hid hbs; clear hbs
  have WL : IntKind.i64.wrap (bs.length : Int) = (bs.length : Int) := by rw [IntKind.wrap_i64]; omega
  by_cases h1 : n ≤ 1
  · rw [at8_one h1]
    go_enter Try.func31, Try.ntmps31
    go_wp2_with fail
    go_ret
    exact ⟨rfl, by (repeat (first | (with_reducible assumption) | (with_reducible apply below_refl) | (with_reducible apply below_alloc1) | (with_reducible apply below_drewN1) | (with_reducible apply below_drew1)))⟩
  · have hb := at8_bd bs i n (by omega)
    have hz : (n == 0) = false := by simp; omega
    have hnp : 0 < n := by omega
    obtain ⟨i, rfl⟩ := Int.eq_ofNat_of_zero_le hi.1
    by_cases h2 : i < bs.length
    · have e := at8_in (bs := bs) (i := (i : Int)) h1 (by simpa using h2)
      obtain rfl := HA.out (by omega)
      obtain ⟨x, hx⟩ : ∃ x, x = bs[i] := ⟨_, rfl⟩
      have hx2 := HB.out bs[i] (List.getElem_mem h2)
      rw [← hx] at hx2
      have hcell : w.cell? ⟨b, off + i, none⟩ = some (.int .u8 x) := by
        have h := HC.out i (.int .u8 bs[i]) (by simp [h2])
        rw [hx]; exact h
      have e2 : at8 bs (i : Int) n = x % n := by rw [e]; simp [hx]
      rw [e2] at hb ⊢
      clear e e2 hx
      have h2' : ¬ (bs.length : Int) ≤ (i : Int) := by omega
      have h2'' : (i : Int) < (bs.length : Int) := by omega
      go_enter Try.func31, Try.ntmps31
      go_wp2_with fail
      go_ret
      exact ⟨rfl, by (repeat (first | (with_reducible assumption) | (with_reducible apply below_refl) | (with_reducible apply below_alloc1) | (with_reducible apply below_drewN1) | (with_reducible apply below_drew1)))⟩
    · have e := at8_out (bs := bs) (i := (i : Int)) h1 (by simpa using h2)
      rw [e] at hb ⊢
      clear e
      have h2' : (bs.length : Int) ≤ (i : Int) := by omega
      go_enter Try.func31, Try.ntmps31
      go_wp2_with fail
      go_ret
      exact ⟨rfl, by (repeat (first | (with_reducible assumption) | (with_reducible apply below_refl) | (with_reducible apply below_alloc1) | (with_reducible apply below_drewN1) | (with_reducible apply below_drew1)))⟩
set_option maxHeartbeats 400000 in
theorem r8Long_any (va vb : Value) (xs ys : List Int) (w : World) (ha : RowAt w va (xs.map (Value.int .u8))) (hb : RowAt w vb (ys.map (Value.int .u8))) (r : Bool) (hr : (decide (48 < xs.length) || decide (48 < ys.length)) = r) :
    Calls Try.prog 30 #[va, vb] w fun e w' => e = .returned (.bool r) ∧ Below w.heap.size w w' := by
  subst hr
  obtain ⟨ao, cap, b, off, rfl, hao, hl, hm, hc⟩ := ha
  obtain ⟨ao', cap', b', off', rfl, hao', hl', hm', hc'⟩ := hb
  simp only [List.length_map] at hl hl' ⊢
  unfold maxLen at hm hm'
  clear hc hc' hao hao'
  by_cases h1 : 48 < xs.length
  · have h1' : (48 : Int) < (xs.length : Int) := by omega
    go_enter Try.func30, Try.ntmps30
    go_wp2_with fail
    go_ret
    exact ⟨by simp [h1], by (repeat (first | (with_reducible assumption) | (with_reducible apply below_refl) | (with_reducible apply below_alloc1) | (with_reducible apply below_drewN1) | (with_reducible apply below_drew1)))⟩
  · have h1' : ¬ (48 : Int) < (xs.length : Int) := by omega
    by_cases h2 : 48 < ys.length
    · have h2' : (48 : Int) < (ys.length : Int) := by omega
      go_enter Try.func30, Try.ntmps30
      go_wp2_with fail
      go_ret
      exact ⟨by simp [h2], by (repeat (first | (with_reducible assumption) | (with_reducible apply below_refl) | (with_reducible apply below_alloc1) | (with_reducible apply below_drewN1) | (with_reducible apply below_drew1)))⟩
    · have h2' : ¬ (48 : Int) < (ys.length : Int) := by omega
      go_enter Try.func30, Try.ntmps30
      go_wp2_with fail
      go_ret
      exact ⟨by simp [h1, h2], by (repeat (first | (with_reducible assumption) | (with_reducible apply below_refl) | (with_reducible apply below_alloc1) | (with_reducible apply below_drewN1) | (with_reducible apply below_drew1)))⟩
theorem run_max64 {P : Program} (ts : Array TypeId) (t : TypeId) (x y : Nat) (w : World) :
    ∃ r n, (Builtin.max_ ts t #[.float .f64 x, .float .f64 y]).run P w = .ok (.float .f64 r) (w.drewN n) ∧ ab .f64 r = fmax64 (ab .f64 x) (ab .f64 y) := by
  have ho := order_ab .f64 x y
  unfold fmax64
  rw [← ho]
  cases h : FloatKind.f64.format.order x y with
  | none =>
    refine ⟨(Question.nanMinMax .f64 true x y).cut (w.tape w.drawn (.nanMinMax .f64 true x y)), 1, ?_, ?_⟩
    · simp [Builtin.max_, Builtin.max2, h, Question.forced, World.drew_is_drewN]
    · exact cut_nan _ .f64 _ (Or.inr (Or.inr ⟨_, _, _, rfl⟩))
  | some c =>
    have hn := order_nan (show (FloatKind.f64.format.read x).order (FloatKind.f64.format.read y) = some c from h)
    have hx : ab .f64 x = some x := by unfold ab; rw [hn.1]; rfl
    cases c
    · exact ⟨y, 0, by simp [Builtin.max_, Builtin.max2, h, World.drewN_zero], rfl⟩
    · refine ⟨if (FloatKind.f64.decode x).neg then y else x, 0, by simp [Builtin.max_, Builtin.max2, h, World.drewN_zero], ?_⟩
      rw [hx]
      simp only [Option.map_some]
      show ab .f64 (if (FloatKind.f64.format.read x).neg = true then y else x) = _
      by_cases hb : (FloatKind.f64.format.read x).neg = true <;> simp [hx, hb]
    · exact ⟨x, 0, by simp [Builtin.max_, Builtin.max2, h, World.drewN_zero], rfl⟩
theorem upon_max64 {P : Program} {o : Oper} {a : Go.Act} {K : Go.Act → World → Prop} {Q : Exit → Go.Act → World → Prop} {ts : Array TypeId} {t : TypeId} {x y : Nat} {w : World}
    (h : ∀ r n, ab .f64 r = fmax64 (ab .f64 x) (ab .f64 y) → K (a.put o.dst (.float .f64 r)) (w.drewN n)) :
    Oper.upon P o a K Q ((Sem.run P (Builtin.max_ ts t #[.float .f64 x, .float .f64 y]) w).andThen fun v w' => Result.ok (Next.value v) w') := by
  obtain ⟨r, n, hr, hx⟩ := run_max64 (P := P) ts t x y w
  rw [hr]
  exact h r n hx
set_option maxRecDepth 100000 in
set_option maxHeartbeats 800000 in
theorem r8Gap_any (a b : Nat) (w : World) :
    Calls Try.prog 35 #[.float .f32 a, .float .f32 b] w (FltOk64 (gap8 (ab .f32 a) (ab .f32 b)) w) := by
  go_enter Try.func35, Try.ntmps35
  go_wp2_with (first
    | (refine upon_widen (by kernel_rfl) Try.underlying34 ?_; intro r n hr; go_simp)
    | (refine upon_float rfl ?_; intro r n hr; go_simp)
    | (refine upon_max64 ?_; intro r n hr; go_simp))
  go_ret
  exact ⟨_, rfl, by simp only [*, gap8], by (repeat (first | (with_reducible assumption) | (with_reducible apply below_refl) | (with_reducible apply below_alloc1) | (with_reducible apply below_drewN1) | (with_reducible apply below_drew1)))⟩
theorem r8Gap_q (a b : Nat) {M : Option Nat} (hM : gap8 (ab .f32 a) (ab .f32 b) = M) (w : World) :
    Calls Try.prog 35 #[.float .f32 a, .float .f32 b] w (FltOk64 M w) := hM ▸ r8Gap_any a b w
set_option maxRecDepth 100000 in
set_option maxHeartbeats 800000 in
theorem r8Gap_det (a b c : Nat) (hc : gap8 (ab .f32 a) (ab .f32 b) = some c) (w : World) :
    Calls Try.prog 35 #[.float .f32 a, .float .f32 b] w fun e w' => e = .returned (.float .f64 c) ∧ ∃ m, w' = w.drewN m := by
  have HC := hid hc; clear hc
  go_enter Try.func35, Try.ntmps35
  go_wp2_with (first
    | (refine upon_widen (by kernel_rfl) Try.underlying34 ?_; intro r n hr; go_simp)
    | (refine upon_float rfl ?_; intro r n hr; go_simp)
    | (refine upon_max64 ?_; intro r n hr; go_simp))
  go_ret
  have hrc : ab .f64 r = gap8 (ab .f32 a) (ab .f32 b) := by simp only [*, gap8]
  rw [(ab_some (hrc.trans HC.out)).1]
  exact ⟨rfl, _, rfl⟩
theorem fmax64_rv {x y : Option Nat} {A B : Rat} (hx : RV .f64 x A) (hy : RV .f64 y B) : ∃ C, RV .f64 (fmax64 x y) C ∧ A ≤ C ∧ B ≤ C ∧ (C = A ∨ C = B) := by
  unfold fmax64
  by_cases c : A < B
  · rw [rv_lt hx hy c]; exact ⟨B, hy, by grind, by grind, Or.inr rfl⟩
  · by_cases d : B < A
    · rw [rv_gt hx hy d]; exact ⟨A, hx, by grind, by grind, Or.inl rfl⟩
    · have e : A = B := by grind
      rw [rv_eq hx hy e]
      subst e
      show ∃ C, RV .f64 (if (x.map fun b => (FloatKind.f64.format.read b).neg) = some true then y else x) C ∧ A ≤ C ∧ A ≤ C ∧ (C = A ∨ C = A)
      split
      · exact ⟨A, hy, by grind, by grind, Or.inl rfl⟩
      · exact ⟨A, hx, by grind, by grind, Or.inl rfl⟩
/-- The gap of two numbers is near their difference. -/
theorem gap8_near {x y : Option Nat} {A B : Rat} (hx : RV .f32 x A) (hy : RV .f32 y B) (h1 : -100 ≤ A - B) (h2 : A - B ≤ 100) : ∃ γ, RV .f64 (gap8 x y) γ ∧ γ ≤ rab (A - B) + 1 / 10000000000 := by
  have wx := rv_wid hx
  have wy := rv_wid hy
  obtain ⟨d, hd, -, -, d1, d2⟩ := near64 (wn_sub wx wy) 100 (by grind) h1 h2
  obtain ⟨e, he, -, -, e1, e2⟩ := near64 (wn_sub wy wx) 100 (by grind) (by grind) (by grind)
  rw [tiny_eq] at d1 d2 e1 e2
  obtain ⟨C, hC, c1, c2, c3⟩ := fmax64_rv hd he
  have b := rab_bd (A - B)
  refine ⟨C, hC, ?_⟩
  rcases c3 with rfl | rfl <;> grind
theorem gap8_some {x y : Option Nat} {A B : Rat} (hx : RV .f32 x A) (hy : RV .f32 y B) (h1 : -100 ≤ A - B) (h2 : A - B ≤ 100) : ∃ c, gap8 x y = some c ∧ ab .f64 c = some c := by
  obtain ⟨γ, h, -⟩ := gap8_near hx hy h1 h2
  exact h.some
theorem gap8_le {x y : Option Nat} {A B : Rat} (hx : RV .f32 x A) (hy : RV .f32 y B) {c : Nat} {C : Rat} (hc : RV .f64 (some c) C) (h : rab (A - B) + 1 / 10000000000 ≤ C) (hC : C ≤ 1) : (ford .f64 (gap8 x y) (some c) == some .gt) = false := by
  have b := rab_bd (A - B)
  obtain ⟨γ, h1, h2⟩ := gap8_near hx hy (by grind) (by grind)
  exact not_gt_of h1 hc (by grind)

/-! ## ChN -/
def inS (rs xs : List Nat) (n k : Nat) : Nat → Option Nat
  | 0 => some 0
  | i + 1 => fop .add .f64 (inS rs xs n k i) (fop .mul .f64 (wid (atX xs i)) (wid (atX rs (i * n + k))))
theorem inS_next (rs xs : List Nat) (n k i : Nat) : inS rs xs n k (i + 1) = fop .add .f64 (inS rs xs n k i) (fop .mul .f64 (wid (atX xs i)) (wid (atX rs (i * n + k)))) := rfl
def outS (rs xs : List Nat) (n k : Nat) : Nat → Option Nat
  | 0 => some 0
  | i + 1 => fop .add .f64 (outS rs xs n k i) (fop .mul .f64 (wid (atX xs k)) (wid (atX rs (k * n + i))))
theorem outS_next (rs xs : List Nat) (n k i : Nat) : outS rs xs n k (i + 1) = fop .add .f64 (outS rs xs n k i) (fop .mul .f64 (wid (atX xs k)) (wid (atX rs (k * n + i)))) := rfl
def sumS (xs : List Nat) : Nat → Option Nat
  | 0 => some 0
  | i + 1 => fop .add .f64 (sumS xs i) (wid (atX xs i))
theorem sumS_next (xs : List Nat) (i : Nat) : sumS xs (i + 1) = fop .add .f64 (sumS xs i) (wid (atX xs i)) := rfl
def startX (xs : List Nat) (k : Nat) : Option Nat := fmax (atX xs k) (some 0)
theorem op64 {x : Option Nat} {z : Rat} (h : Wn .f64 x z) (h1 : -64 ≤ z) (h2 : z ≤ 64) : ∃ r, RV .f64 x r ∧ rab (r - z) ≤ 1 / 10000000000 := by
  obtain ⟨r, hr, -, -, r1, r2⟩ := near64 h 64 (by grind) h1 h2
  rw [tiny_eq] at r1 r2
  exact ⟨r, hr, rab_of (by grind) (by grind)⟩
theorem rv_zero64 : RV .f64 (some 0) 0 := ⟨0, isV_zero .f64, by rw [show ((0 : Int) : Rat) = 0 from rfl, Rat.zero_mul]⟩
def cnmil : Nat := 13785626545772145148
def c5mil : Nat := 4572414629676717179
theorem rv_nmil : ∃ r, RV .f64 (some cnmil) r ∧ r ≤ -(999 / 1000000) :=
  ⟨_, RV.of (v := fv FloatKind.f64.format cnmil) ⟨cnmil, rfl, by decide, rfl⟩, by decide +kernel⟩
theorem rv_5mil : ∃ r, RV .f64 (some c5mil) r ∧ 4999 / 1000000 ≤ r ∧ r ≤ 1 :=
  ⟨_, RV.of (v := fv FloatKind.f64.format c5mil) ⟨c5mil, rfl, by decide, rfl⟩, by decide +kernel, by decide +kernel⟩
theorem fits_small {x : Option Nat} {r : Rat} (h : RV .f64 x r) (h1 : -1000000000000 ≤ r) (h2 : r ≤ 1000000000000) : Fits x := by
  obtain ⟨u, hu, e⟩ := h
  intro v hv
  obtain rfl := hv.val hu
  have hp : (0 : Rat) < (unit .f64 : Nat) := unit_pos .f64
  have a1 : (v : Rat) ≤ ((1000000000000 * (unit .f64 : Int) : Int) : Rat) := by
    rw [Rat.intCast_mul, Rat.intCast_natCast, e]
    exact Rat.mul_le_mul_of_nonneg_right h2 (Rat.le_of_lt hp)
  have a2 : ((-(1000000000000 * (unit .f64 : Int)) : Int) : Rat) ≤ (v : Rat) := by
    rw [Rat.intCast_neg, Rat.intCast_mul, Rat.intCast_natCast, e]
    have := Rat.mul_le_mul_of_nonneg_right h1 (Rat.le_of_lt hp)
    have e2 : ((1000000000000 : Int) : Rat) = 1000000000000 := rfl
    rw [e2]
    grind
  rw [Rat.intCast_le_intCast] at a1 a2
  have e3 : pw 1178 = pw 104 * pw 1074 := pw_add 104 1074
  have e4 : pw 104 = 20282409603651670423947251286016 := by decide
  rw [e3, e4, ← unit64]
  omega
theorem nar_near {x : Option Nat} {r : Rat} (hx : RV .f64 x r) (h1 : -32 ≤ r) (h2 : r ≤ 32) : ∃ t, RV .f32 (nar x) t ∧ rab (t - r) ≤ 1 / 250000 := op32 (wn_nar hx) h1 h2
/-- What is known of the shares xs of the chain qs. -/
structure Shr (n : Nat) (qs xs : List Nat) (X : Nat → Rat) (T : Rat) : Prop where
  h1 : 1 ≤ n
  h5 : n ≤ 5
  q : QOk n qs
  len : xs.length = n
  rv : ∀ j, j < n → RV .f32 (atX xs j) (X j)
  told : Told n (qq n qs) X T
section
variable {n : Nat} {qs xs : List Nat} {X : Nat → Rat} {T : Rat} (h : Shr n qs xs X T)
include h
theorem Shr.bd {k : Nat} (hk : k < n) : rab (X k) ≤ 11 / 10 := by
  have a := sm_one (f := fun t => rab (X t)) (m := n) (fun i _ => (rab_bd _).2.2) k hk
  have b := h.told.size
  have c := h.told.le
  unfold S1 at b
  grind
theorem Shr.rq {i k : Nat} (hi : i < n) (hk : k < n) : RV .f32 (atX (qs.map fq) (i * n + k)) (qq n qs i k) := by
  unfold qq
  rw [if_pos ⟨hi, hk⟩]
  exact rv_q h.q _
theorem Shr.low_ok {k : Nat} (hk : k < n) : (ford .f64 (wid (atX xs k)) (some cnmil) == some .lt) = false := by
  obtain ⟨r, hr, r1⟩ := rv_nmil
  have a := h.told.low k hk
  have b := h.told.le
  exact not_lt_of (rv_wid (h.rv k hk)) hr (by grind)
theorem Shr.mul_some {a i k : Nat} (ha : a < n) (hi : i < n) (hk : k < n) : ∃ b, fop .mul .f64 (wid (atX xs a)) (wid (atX (qs.map fq) (i * n + k))) = some b ∧ ab .f64 b = some b := by
  have q0 := (gen_of h.q).low i k
  have q2 := (gen_of h.q).two i k
  have xb := h.bd ha
  have x1 := rab_bd (X a)
  have a1 := abs_mul_le (a := X a) (b := qq n qs i k) (α := 11 / 10) (β := 2) (by grind) (by grind) (by grind) (by grind)
  obtain ⟨r, hr, -⟩ := op64 (wn_mul (rv_wid (h.rv a ha)) (rv_wid (h.rq hi hk))) (by grind) (by grind)
  exact hr.some
theorem part_bd {k m : Nat} (hm : m ≤ n) : rab (sm (fun i => X i * qq n qs i k) m) ≤ 22 / 10 := by
  refine Rat.le_trans (rab_sm _ _) ?_
  have a : sm (fun i => rab (X i * qq n qs i k)) m ≤ 2 * sm (fun i => rab (X i)) m := by
    rw [← sm_mul]
    refine sm_le fun i _ => ?_
    have a := rab_mul (X i) (qq n qs i k)
    have b := (gen_of h.q).low i k
    have c := (gen_of h.q).two i k
    have e : rab (qq n qs i k) ≤ 2 := rab_of (by grind) (by grind)
    have := Rat.mul_nonneg (rab_bd (X i)).2.2 (show 0 ≤ 2 - rab (qq n qs i k) by grind)
    grind
  have b : sm (fun i => rab (X i)) m ≤ S1 X n := sm_pre (fun i _ => (rab_bd _).2.2) hm
  have c := h.told.size
  have d := h.told.le
  grind
theorem Shr.in_near {k : Nat} (hk : k < n) (m : Nat) (hm : m ≤ n) : ∃ r, RV .f64 (inS (qs.map fq) xs n k m) r ∧ rab (r - sm (fun i => X i * qq n qs i k) m) ≤ (m : Rat) * (1 / 1000000000) := by
  induction m with
  | zero =>
    refine ⟨0, rv_zero64, ?_⟩
    rw [show sm (fun i => X i * qq n qs i k) 0 = 0 from rfl, show ((0 : Nat) : Rat) = 0 from rfl]
    exact rab_of (by grind) (by grind)
  | succ m ih =>
    obtain ⟨r, hr, e1⟩ := ih (by omega)
    have p1 := part_bd h (k := k) (m := m) (by omega)
    have p2 := part_bd h (k := k) (m := m + 1) hm
    rw [sm_next] at p2 ⊢
    have hw := wn_mul (rv_wid (h.rv m (by omega))) (rv_wid (h.rq (i := m) (k := k) (by omega) hk))
    have mc : ((m + 1 : Nat) : Rat) = (m : Rat) + 1 := by rw [Rat.natCast_add]; rfl
    have hm5 := natr_le (show m ≤ 5 by have := h.h5; omega)
    rw [show ((5 : Nat) : Rat) = 5 from rfl] at hm5
    have hm0 := natr_0 m
    generalize X m * qq n qs m k = z at *
    generalize sm (fun i => X i * qq n qs i k) m = I at *
    have z1 := rab_bd z
    have i1 := rab_bd I
    have i2 := rab_bd (I + z)
    have i3 := rab_bd (r - I)
    obtain ⟨p, hp, e2⟩ := op64 hw (by grind) (by grind)
    have i4 := rab_bd (p - z)
    obtain ⟨t, ht, e3⟩ := op64 (wn_add hr hp) (by grind) (by grind)
    have i5 := rab_bd (t - (r + p))
    rw [mc]
    exact ⟨t, ht, rab_of (by grind) (by grind)⟩
theorem Shr.out_near {k : Nat} (hk : k < n) (m : Nat) (hm : m ≤ n) : ∃ r, RV .f64 (outS (qs.map fq) xs n k m) r ∧ rab (r - X k * sm (qq n qs k) m) ≤ (m : Rat) * (1 / 1000000000) := by
  induction m with
  | zero =>
    refine ⟨0, rv_zero64, ?_⟩
    rw [show sm (qq n qs k) 0 = 0 from rfl, show ((0 : Nat) : Rat) = 0 from rfl]
    exact rab_of (by grind) (by grind)
  | succ m ih =>
    obtain ⟨r, hr, e1⟩ := ih (by omega)
    have l0 := lvs_le h.q h.h5 k hk
    have s1 : sm (qq n qs k) (m + 1) ≤ lvs n (qq n qs) k := sm_pre (fun i _ => (gen_of h.q).low k i) hm
    have s0 : 0 ≤ sm (qq n qs k) m := sm_nonneg fun i _ => (gen_of h.q).low k i
    have q0 := (gen_of h.q).low k m
    rw [sm_next] at s1 ⊢
    have hw := wn_mul (rv_wid (h.rv k hk)) (rv_wid (h.rq (i := k) (k := m) hk (by omega)))
    have mc : ((m + 1 : Nat) : Rat) = (m : Rat) + 1 := by rw [Rat.natCast_add]; rfl
    have hm5 := natr_le (show m ≤ 5 by have := h.h5; omega)
    rw [show ((5 : Nat) : Rat) = 5 from rfl] at hm5
    have hm0 := natr_0 m
    have xb := h.bd hk
    have x1 := rab_bd (X k)
    have a1 := abs_mul_le (a := X k) (b := qq n qs k m) (α := 11 / 10) (β := 8) (by grind) (by grind) (by grind) (by grind)
    have a2 := abs_mul_le (a := X k) (b := sm (qq n qs k) m) (α := 11 / 10) (β := 8) (by grind) (by grind) (by grind) (by grind)
    have a3 : X k * (sm (qq n qs k) m + qq n qs k m) = X k * sm (qq n qs k) m + X k * qq n qs k m := by grind
    rw [a3]
    generalize X k * qq n qs k m = z at *
    generalize X k * sm (qq n qs k) m = I at *
    have i3 := rab_bd (r - I)
    obtain ⟨p, hp, e2⟩ := op64 hw (by grind) (by grind)
    have i4 := rab_bd (p - z)
    obtain ⟨t, ht, e3⟩ := op64 (wn_add hr hp) (by grind) (by grind)
    have i5 := rab_bd (t - (r + p))
    rw [mc]
    exact ⟨t, ht, rab_of (by grind) (by grind)⟩
theorem Shr.in_some {k : Nat} (hk : k < n) (m : Nat) (hm : m ≤ n) : ∃ b, inS (qs.map fq) xs n k m = some b ∧ ab .f64 b = some b := by
  obtain ⟨r, hr, -⟩ := h.in_near hk m hm
  exact hr.some
theorem Shr.out_some {k : Nat} (hk : k < n) (m : Nat) (hm : m ≤ n) : ∃ b, outS (qs.map fq) xs n k m = some b ∧ ab .f64 b = some b := by
  obtain ⟨r, hr, -⟩ := h.out_near hk m hm
  exact hr.some
theorem Shr.sum_near (m : Nat) (hm : m ≤ n) : ∃ r, RV .f64 (sumS xs m) r ∧ rab (r - sm X m) ≤ (m : Rat) * (1 / 1000000000) ∧ rab (sm X m) ≤ 11 / 10 := by
  have pb : ∀ m, m ≤ n → rab (sm X m) ≤ 11 / 10 := by
    intro m hm
    refine Rat.le_trans (rab_sm _ _) ?_
    have b : sm (fun i => rab (X i)) m ≤ S1 X n := sm_pre (fun i _ => (rab_bd _).2.2) hm
    have c := h.told.size
    have d := h.told.le
    grind
  induction m with
  | zero =>
    refine ⟨0, rv_zero64, ?_, pb 0 hm⟩
    rw [show sm X 0 = 0 from rfl, show ((0 : Nat) : Rat) = 0 from rfl]
    exact rab_of (by grind) (by grind)
  | succ m ih =>
    obtain ⟨r, hr, e1, e0⟩ := ih (by omega)
    have p2 := pb (m + 1) hm
    have mc : ((m + 1 : Nat) : Rat) = (m : Rat) + 1 := by rw [Rat.natCast_add]; rfl
    have hm5 := natr_le (show m ≤ 5 by have := h.h5; omega)
    rw [show ((5 : Nat) : Rat) = 5 from rfl] at hm5
    have hm0 := natr_0 m
    have xb := h.bd (k := m) (by omega)
    have x1 := rab_bd (X m)
    have hw := wn_add hr (rv_wid (h.rv m (by omega)))
    have i0 := rab_bd (sm X m)
    have i1 := rab_bd (r - sm X m)
    obtain ⟨t, ht, e3⟩ := op64 hw (by grind) (by grind)
    have i5 := rab_bd (t - (r + X m))
    refine ⟨t, ht, ?_, p2⟩
    rw [mc, sm_next]
    exact rab_of (by grind) (by grind)
theorem Shr.gap_ok {k : Nat} (hk : k < n) : Fits (inS (qs.map fq) xs n k n) ∧ Fits (outS (qs.map fq) xs n k n) ∧ (ford .f64 (gap8 (nar (inS (qs.map fq) xs n k n)) (nar (outS (qs.map fq) xs n k n))) (some cmil) == some .gt) = false := by
  obtain ⟨a, ha, a1⟩ := h.in_near hk n (Nat.le_refl n)
  obtain ⟨b, hb, b1⟩ := h.out_near hk n (Nat.le_refl n)
  have p1 := part_bd h (k := k) (m := n) (Nat.le_refl n)
  have hn5 := natr_le h.h5
  rw [show ((5 : Nat) : Rat) = 5 from rfl] at hn5
  have hn0 := natr_0 n
  have l0 := lvs_le h.q h.h5 k hk
  have xb := h.bd hk
  have x1 := rab_bd (X k)
  have a2 := abs_mul_le (a := X k) (b := lvs n (qq n qs) k) (α := 11 / 10) (β := 8) (by grind) (by grind) (by grind) (by grind)
  have hs := h.told.set (fun j => if j = k then 1 else 0) (fun j => by by_cases c : j = k <;> simp [c])
  have e1 : sm (fun j => (if j = k then (1 : Rat) else 0) * bal n (qq n qs) X j) n = bal n (qq n qs) X k := by
    rw [sm_upd (g := fun _ => 0) hk (fun j _ hj => by simp [hj]), sm_zero]
    simp; grind
  rw [e1] at hs
  have e2 : bal n (qq n qs) X k = sm (fun i => X i * qq n qs i k) n - X k * lvs n (qq n qs) k := rfl
  have e3 : sm (qq n qs k) n = lvs n (qq n qs) k := rfl
  rw [e3] at b1
  have T1 := h.told.le
  have i1 := rab_bd (sm (fun i => X i * qq n qs i k) n)
  generalize sm (fun i => X i * qq n qs i k) n = I at *
  generalize X k * lvs n (qq n qs) k = J at *
  have i2 := rab_bd (a - I)
  have i3 := rab_bd (b - J)
  obtain ⟨u, hu, u1⟩ := nar_near ha (by grind) (by grind)
  obtain ⟨v, hv, v1⟩ := nar_near hb (by grind) (by grind)
  have i4 := rab_bd (u - a)
  have i5 := rab_bd (v - b)
  obtain ⟨c, hc, c1, c2⟩ := rv_mil
  refine ⟨fits_small ha (by grind) (by grind), fits_small hb (by grind) (by grind), gap8_le hu hv hc ?_ (by grind)⟩
  have : rab (u - v) ≤ 9 / 10000 := rab_of (by grind) (by grind)
  grind
theorem Shr.sum_ok : Fits (sumS xs n) ∧ (ford .f64 (gap8 (nar (sumS xs n)) (some cone)) (some cmil) == some .gt) = false := by
  obtain ⟨a, ha, a1, a0⟩ := h.sum_near n (Nat.le_refl n)
  have hn5 := natr_le h.h5
  rw [show ((5 : Nat) : Rat) = 5 from rfl] at hn5
  have hn0 := natr_0 n
  have hs := h.told.sum
  have T1 := h.told.le
  have i1 := rab_bd (sm X n)
  have i2 := rab_bd (sm X n - 1)
  have i3 := rab_bd (a - sm X n)
  obtain ⟨u, hu, u1⟩ := nar_near ha (by grind) (by grind)
  have i4 := rab_bd (u - a)
  obtain ⟨c, hc, c1, c2⟩ := rv_mil
  refine ⟨fits_small ha (by grind) (by grind), gap8_le hu rv_one32 hc ?_ (by grind)⟩
  have : rab (u - 1) ≤ 9 / 10000 := rab_of (by grind) (by grind)
  grind
theorem Shr.start_rv {k : Nat} (hk : k < n) : RV .f32 (startX xs k) (if X k < 0 then 0 else X k) := by
  have r := h.rv k hk
  unfold startX fmax
  by_cases c : X k < 0
  · rw [rv_lt r rv_zero32 c, if_pos c]; exact rv_zero32
  · rw [if_neg c]
    by_cases d : 0 < X k
    · rw [rv_gt r rv_zero32 d]; exact r
    · have e : X k = 0 := by grind
      rw [rv_eq r rv_zero32 e, e]
      show RV .f32 (if ((atX xs k).map fun b => (FloatKind.f32.format.read b).neg) = some true then some 0 else atX xs k) 0
      split
      · exact rv_zero32
      · exact RV.eq r e
theorem Shr.start_ok {zs : List Nat} (hz : zs.map (ab .f32) = (List.range n).map (startX xs)) : (zs.all fun b => notLessB (ab .f32 b)) = true := by
  rw [show (zs.all fun b => notLessB (ab .f32 b)) = (zs.map (ab .f32)).all notLessB by rw [List.all_map]; rfl, hz, List.all_map]
  refine List.all_eq_true.2 fun k hk => ?_
  have r := h.start_rv (List.mem_range.1 hk)
  show notLessB (startX xs k) = true
  unfold notLessB
  rw [show finite32 (startX xs k) = true from r.fin]
  by_cases c : 0 < (if X k < 0 then 0 else X k)
  · rw [rv_gt r rv_zero32 c]; rfl
  · rw [rv_eq r rv_zero32 (by split at c <;> split <;> grind)]; rfl
theorem Shr.still_ok {zs ys : List Nat} (hz : zs.map (ab .f32) = (List.range n).map (startX xs)) :
    (∀ k, k < n → finite32 (stepsS (qs.map fq) n (some 1031798784) (atX zs) 20 k) = true) ∧
    (ys.map (ab .f32) = (List.range n).map (stepsS (qs.map fq) n (some 1031798784) (atX zs) 20) → ∀ k, k < n → ∃ c, gap8 (atX ys k) (atX xs k) = some c ∧ ab .f64 c = some c ∧ (ford .f64 (some c) (some c5mil) == some .gt) = false) := by
  have hz2 : zs.length = n ∧ ∀ k, k < n → atX zs k = startX xs k := by
    have hl : zs.length = n := by have := congrArg List.length hz; simpa using this
    refine ⟨hl, fun k hk => ?_⟩
    rw [atX_get (by omega)]
    have := congrArg (fun l => l[k]?) hz
    simpa [hl, hk] using this
  obtain ⟨D, d1, d2⟩ := still_near h.q h.h5 h.told (S := atX zs) (fun i hi => by rw [hz2.2 i hi]; exact h.start_rv hi)
  refine ⟨fun k hk => (d1 k hk).fin, fun hy k hk => ?_⟩
  have hy2 : atX ys k = stepsS (qs.map fq) n (some 1031798784) (atX zs) 20 k := by
    have hl : ys.length = n := by have := congrArg List.length hy; simpa using this
    rw [atX_get (by omega)]
    have := congrArg (fun l => l[k]?) hy
    simpa [hl, hk] using this
  obtain ⟨c, hc, c1, c2⟩ := rv_5mil
  rw [hy2]
  have := d2 k hk
  have b := rab_bd (D k - X k)
  obtain ⟨u, u1, u2⟩ := gap8_some (d1 k hk) (h.rv k hk) (by grind) (by grind)
  refine ⟨u, u1, u2, ?_⟩
  rw [← u1]
  exact gap8_le (d1 k hk) (h.rv k hk) hc (by grind) c2
theorem Shr.up_near (us : List Bool) (m : Nat) (hm : m ≤ n) : ∃ r, RV .f32 (upS xs us m) r ∧ rab (r - sm (fun k => if us.getD k false = true then X k else 0) m) ≤ (m : Rat) * (1 / 250000) := by
  have pb : ∀ m, m ≤ n → rab (sm (fun k => if us.getD k false = true then X k else 0) m) ≤ 11 / 10 := by
    intro m hm
    refine Rat.le_trans (rab_sm _ _) ?_
    have a : sm (fun i => rab (if us.getD i false = true then X i else 0)) m ≤ sm (fun i => rab (X i)) m := sm_le fun i _ => by
      have := (rab_bd (X i)).2.2
      split
      · exact Rat.le_refl
      · exact rab_of (by grind) (by grind)
    have b : sm (fun i => rab (X i)) m ≤ S1 X n := sm_pre (fun i _ => (rab_bd _).2.2) hm
    have c := h.told.size
    have d := h.told.le
    grind
  induction m with
  | zero =>
    refine ⟨0, rv_zero32, ?_⟩
    rw [show sm (fun k => if us.getD k false = true then X k else 0) 0 = 0 from rfl, show ((0 : Nat) : Rat) = 0 from rfl]
    exact rab_of (by grind) (by grind)
  | succ m ih =>
    obtain ⟨r, hr, e1⟩ := ih (by omega)
    have p1 := pb m (by omega)
    have p2 := pb (m + 1) hm
    have mc : ((m + 1 : Nat) : Rat) = (m : Rat) + 1 := by rw [Rat.natCast_add]; rfl
    have hm5 := natr_le (show m ≤ 5 by have := h.h5; omega)
    rw [show ((5 : Nat) : Rat) = 5 from rfl] at hm5
    have hm0 := natr_0 m
    rw [sm_next, mc, upS_next]
    by_cases c : us.getD m false = true
    · rw [if_pos c, if_pos c]
      have xb := h.bd (k := m) (by omega)
      have x1 := rab_bd (X m)
      generalize sm (fun k => if us.getD k false = true then X k else 0) m = I at *
      have i0 := rab_bd I
      have i1 := rab_bd (r - I)
      obtain ⟨t, ht, e3⟩ := op32 (wn_add hr (h.rv m (by omega))) (by grind) (by grind)
      have i5 := rab_bd (t - (r + X m))
      exact ⟨t, ht, rab_of (by grind) (by grind)⟩
    · rw [if_neg c, if_neg c]
      have i1 := rab_bd (r - sm (fun k => if us.getD k false = true then X k else 0) m)
      exact ⟨r, hr, rab_of (by grind) (by grind)⟩
theorem Shr.up_ok {us vs : List Bool} (hv : ∀ k, k < n → vs.getD k false = !us.getD k false) :
    finite32 (upS xs us n) = true ∧ finite32 (upS xs vs n) = true ∧ (ford .f64 (gap8 (fop .add .f32 (upS xs us n) (upS xs vs n)) (some cone)) (some cmil) == some .gt) = false := by
  obtain ⟨a, ha, a1⟩ := h.up_near us n (Nat.le_refl n)
  obtain ⟨b, hb, b1⟩ := h.up_near vs n (Nat.le_refl n)
  have e : sm X n = sm (fun k => if us.getD k false = true then X k else 0) n + sm (fun k => if vs.getD k false = true then X k else 0) n := by
    rw [← sm_add]
    refine sm_congr fun k hk => ?_
    rw [hv k hk]
    cases us.getD k false
    · simp; grind
    · simp; grind
  have hn5 := natr_le h.h5
  rw [show ((5 : Nat) : Rat) = 5 from rfl] at hn5
  have hn0 := natr_0 n
  have hs := h.told.sum
  have T1 := h.told.le
  generalize sm (fun k => if us.getD k false = true then X k else 0) n = I at *
  generalize sm (fun k => if vs.getD k false = true then X k else 0) n = J at *
  rw [e] at hs
  have i1 := rab_bd (I + J - 1)
  have i2 := rab_bd (a - I)
  have i3 := rab_bd (b - J)
  obtain ⟨t, ht, t1⟩ := op32 (wn_add ha hb) (by grind) (by grind)
  have i4 := rab_bd (t - (a + b))
  obtain ⟨c, hc, c1, c2⟩ := rv_mil
  refine ⟨ha.fin, hb.fin, gap8_le ht rv_one32 hc ?_ (by grind)⟩
  have : rab (t - 1) ≤ 9 / 10000 := rab_of (by grind) (by grind)
  grind
end

/-! ## CrN -/
theorem ab_read_op (op : BinOp) (k : FloatKind) (x y : Option Nat) {b : Nat} (h : fop op k x y = some b) : ab k b = some b := by
  cases x with
  | none => rw [fop_none_left] at h; cases h
  | some a =>
    cases y with
    | none => rw [fop_none_right] at h; cases h
    | some c => exact (floatBits_nan (op := op) (x := a) (y := c) h).1
theorem unit_rv {p : Nat} (h : unitB (ab .f32 p) = true) : ∃ ρ, RV .f32 (ab .f32 p) ρ ∧ 0 ≤ ρ ∧ ρ ≤ 1 := by
  obtain ⟨h1, h2⟩ := Bool.and_eq_true_iff.1 h
  obtain ⟨h3, h4⟩ := Bool.and_eq_true_iff.1 h2
  obtain ⟨ρ, hρ⟩ := rv_of_fin h1
  refine ⟨ρ, hρ, ?_, ?_⟩
  · by_cases c : ρ < 0
    · rw [rv_lt hρ rv_zero32 c] at h3; simp at h3
    · grind
  · by_cases c : 1 < ρ
    · rw [rv_gt hρ (show RV .f32 (some cone) 1 from rv_one32) c] at h4; simp at h4
    · grind
theorem cw_bits {m c k : Nat} {F R : Option Nat} (ok : CrewOk m c F R) (hk : k < m + 1) : ∃ b, cwP m c F R k = ab .f32 b := by
  obtain ⟨b, hb⟩ := fin_some (ok.fin k hk)
  exact ⟨b, by rw [hb]; exact (ab_read_op _ _ _ _ hb).symm⟩
theorem mul_bits {x y : Option Nat} {A B : Rat} (hx : RV .f32 x A) (hy : RV .f32 y B) (a0 : 0 ≤ A) (a1 : A ≤ 10) (b0 : 0 ≤ B) (b1 : A * B ≤ 30) : ∃ b t, fop .mul .f32 x y = some b ∧ ab .f32 b = some b ∧ RV .f32 (ab .f32 b) t ∧ 0 ≤ t ∧ t ≤ A * B + 1 / 1000 := by
  have p := Rat.mul_nonneg a0 b0
  obtain ⟨t, ht, -, t0, t1, t2⟩ := near32 (wn_mul hx hy) 32 (by grind) (by grind) (by grind)
  rw [tiny_eq] at t1 t2
  obtain ⟨b, e1, e2⟩ := ht.some
  exact ⟨b, t, e1, e2, by rw [e2, ← e1]; exact ht, t0 p, by grind⟩
theorem crew_bits {m c f r p0 p1 j z : Nat} (ok : CrewOk m c (ab .f32 f) (ab .f32 r)) (hj : j < m) (m8 : m ≤ 8) (hp0 : ab .f32 p0 = cwP m c (ab .f32 f) (ab .f32 r) j) (hp1 : ab .f32 p1 = cwP m c (ab .f32 f) (ab .f32 r) (j + 1)) (hz : z = min (j + 1) c)
    {φ ψ : Rat} (hf : RV .f32 (ab .f32 f) φ) (f0 : 0 ≤ φ) (f2 : φ ≤ 2) (hr : RV .f32 (ab .f32 r) ψ) (r0 : 0 ≤ ψ) (r2 : ψ ≤ 2) :
    ∃ A1 A2 B1 B2 cc, fop .mul .f32 (ab .f32 p0) (ab .f32 (floatOfInt .f32 ((m - j : Nat) : Int))) = some A1 ∧ fop .mul .f32 (ab .f32 A1) (ab .f32 f) = some A2 ∧ fop .mul .f32 (ab .f32 p1) (ab .f32 (floatOfInt .f32 (z : Int))) = some B1 ∧ fop .mul .f32 (ab .f32 B1) (ab .f32 r) = some B2 ∧ gap8 (ab .f32 A2) (ab .f32 B2) = some cc ∧ (ford .f64 (ab .f64 cc) (ab .f64 4562254508917369340) == some .gt) = false := by
  obtain ⟨α, ha, a0, a1⟩ := unit_rv (p := p0) (by rw [hp0]; exact ok.unit j (by omega))
  obtain ⟨β, hb, b0, b1⟩ := unit_rv (p := p1) (by rw [hp1]; exact ok.unit (j + 1) (by omega))
  have hd := rv_ofInt32 ((m - j : Nat) : Int) (by omega)
  have he := rv_ofInt32 (z : Int) (by omega)
  rw [Rat.intCast_natCast] at hd he
  have d0 := natr_0 (m - j)
  have d8 := natr_le (show m - j ≤ 8 by omega)
  have e0 := natr_0 z
  have e8 := natr_le (show z ≤ 8 by omega)
  rw [show ((8 : Nat) : Rat) = 8 from rfl] at d8 e8
  have q1 := Rat.mul_nonneg a0 (show 0 ≤ 8 - ((m - j : Nat) : Rat) by grind)
  have q2 := Rat.mul_nonneg b0 (show 0 ≤ 8 - (z : Rat) by grind)
  rw [← ab_ofInt] at hd he
  obtain ⟨A1, s1, x1, x1', hA1, s10, s11⟩ := mul_bits ha hd a0 (by grind) d0 (by grind)
  obtain ⟨B1, t1, y1, y1', hB1, t10, t11⟩ := mul_bits hb he b0 (by grind) e0 (by grind)
  have q3 := Rat.mul_nonneg s10 (show 0 ≤ 2 - φ by grind)
  have q4 := Rat.mul_nonneg t10 (show 0 ≤ 2 - ψ by grind)
  obtain ⟨A2, s2, x2, x2', hA2, s20, s21⟩ := mul_bits hA1 hf s10 (by grind) f0 (by grind)
  obtain ⟨B2, t2, y2, y2', hB2, t20, t21⟩ := mul_bits hB1 hr t10 (by grind) r0 (by grind)
  obtain ⟨cc, c1, c2⟩ := gap8_some hA2 hB2 (by grind) (by grind)
  refine ⟨A1, A2, B1, B2, cc, x1, x2, y1, y2, c1, ?_⟩
  have hn := ok.next j hj
  unfold nextB at hn
  rw [← hp0, ← hp1, ← hz] at hn
  have g1 : fI (m - j) = ab .f32 (floatOfInt .f32 ((m - j : Nat) : Int)) := by rw [ab_ofInt]; rfl
  have g2 : fI z = ab .f32 (floatOfInt .f32 (z : Int)) := by rw [ab_ofInt]; rfl
  rw [g1, g2, x1, y1, ← x1', ← y1', x2, y2, ← x2', ← y2', c1, ← c2] at hn
  rw [show ab .f64 4562254508917369340 = some cmil from by decide]
  simpa using hn
theorem tot_rv {m c : Nat} {F R : Option Nat} (ok : CrewOk m c F R) (n : Nat) (hn : n ≤ m + 1) (m8 : m ≤ 8) : ∃ t, RV .f64 (totO (cwP m c F R) n) t ∧ 0 ≤ t ∧ t ≤ 2 * (n : Rat) := by
  induction n with
  | zero => exact ⟨0, rv_zero64, Rat.le_refl, by rw [show ((0 : Nat) : Rat) = 0 from rfl]; grind⟩
  | succ n ih =>
    obtain ⟨t, ht, t0, t1⟩ := ih (by omega)
    obtain ⟨b, hb⟩ := cw_bits ok (show n < m + 1 by omega)
    obtain ⟨α, ha, a0, a1⟩ := unit_rv (p := b) (by rw [← hb]; exact ok.unit n (by omega))
    rw [← hb] at ha
    have h9 := natr_le (show n ≤ 9 by omega)
    rw [show ((9 : Nat) : Rat) = 9 from rfl] at h9
    have hw := wn_add ht (rv_wid ha)
    obtain ⟨u, hu, -, u0, u1, u2⟩ := near64 hw 64 (by grind) (by grind) (by grind)
    rw [tiny_eq] at u1 u2
    have mc : ((n + 1 : Nat) : Rat) = (n : Rat) + 1 := by rw [Rat.natCast_add]; rfl
    rw [mc]
    exact ⟨u, hu, u0 (by grind), by grind⟩
theorem tot_fits {m c : Nat} {F R : Option Nat} (ok : CrewOk m c F R) (m8 : m ≤ 8) : Fits (totO (cwP m c F R) (m + 1)) := by
  obtain ⟨t, ht, t0, t1⟩ := tot_rv ok (m + 1) (Nat.le_refl _) m8
  have h9 := natr_le (show m + 1 ≤ 9 by omega)
  rw [show ((9 : Nat) : Rat) = 9 from rfl] at h9
  exact fits_small ht (by grind) (by grind)
end Go.Proofs.Ytkaeohlakeliiaa
