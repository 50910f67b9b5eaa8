/- FnGrowth: sums, walks, passages. No program in sight. -/
import Derived.Test.YtkaeohlakeliiaaGf5
import Derived.Test.YtkaeohlakeliiaaWide
import Derived.Test.YtkaeohlakeliiaaFp3
namespace Go.Proofs.Ytkaeohlakeliiaa
open Go.RowKit

theorem rv_half : RV .f32 (ab .f32 khalf) (1 / 2) := by
  refine ⟨fv FloatKind.f32.format khalf, ⟨khalf, by decide, by decide, rfl⟩, ?_⟩
  rw [unit32_rat, show fv FloatKind.f32.format khalf = 356811923176489970264571492362373784095686656 from by decide]
  grind
theorem nat_le_rat {a b : Nat} (h : a ≤ b) : (a : Rat) ≤ (b : Rat) := Rat.natCast_le_natCast.2 h
theorem rv_share (s : Int) (hs : 0 ≤ s ∧ s ≤ 4294967295) : ∃ r, RV .f32 (shareS s) r ∧ 0 ≤ r ∧ r ≤ 1 := by
  have h1 := rv_ofInt32 (s / 256) (by omega)
  have h2 : RV .f32 (some 1266679808) 16777216 := by
    refine ⟨16777216 * (unit .f32 : Int), ?_, ?_⟩
    · refine ⟨1266679808, rfl, by decide, by decide⟩
    · rw [Rat.intCast_mul, Rat.intCast_natCast]; rfl
  have a1 : (0 : Rat) ≤ ((s / 256 : Int) : Rat) := by
    have := Rat.intCast_le_intCast.2 (show (0 : Int) ≤ s / 256 by omega); exact this
  have a2 : ((s / 256 : Int) : Rat) ≤ 16777216 := by
    have := Rat.intCast_le_intCast.2 (show s / 256 ≤ (16777216 : Int) by omega); exact this
  obtain ⟨r, hr, r0, r1⟩ := wn_between (wn_div h1 h2 (by grind)) 0 1 (by decide) (by decide) (by rw [show ((0 : Int) : Rat) = 0 from rfl]; grind) (by rw [show ((1 : Int) : Rat) = 1 from rfl]; grind)
  exact ⟨r, hr, r0, r1⟩
theorem rv_wideAt (s : Int) (hs : 0 ≤ s ∧ s ≤ 4294967295) (k : Nat) (hk : k ≤ 4) : ∃ r, RV .f32 (wideAt s k) r ∧ -(k : Rat) ≤ r ∧ r ≤ (k : Rat) := by
  induction k with
  | zero => exact ⟨0, rv_z _, by show -(0 : Rat) ≤ 0; grind, by show (0 : Rat) ≤ 0; grind⟩
  | succ k ih =>
    obtain ⟨r, hr, r1, r2⟩ := ih (by omega)
    obtain ⟨u, hu, u0, u1⟩ := rv_share (nextS (seedAt s k)) (nextS_bd _)
    have hh : RV .f32 (some 1056964608) (1 / 2) := by have := rv_half; rwa [show ab .f32 khalf = some 1056964608 from by decide] at this
    obtain ⟨d, hd, -, -, d1, d2⟩ := near32 (wn_sub hu hh) (1 / 2) (by grind) (by grind) (by grind)
    have hk3 := nat_le_rat (show k ≤ 3 by omega)
    have h3 : ((3 : Nat) : Rat) = 3 := rfl
    obtain ⟨m, hm, -, -, m1, m2⟩ := near32 (wn_add hr hd) 4 (by rw [tiny_eq] at *; grind) (by rw [tiny_eq] at *; grind) (by rw [tiny_eq] at *; grind)
    have h1 : ((k + 1 : Nat) : Rat) = (k : Rat) + 1 := by rw [Rat.natCast_add]; rfl
    rw [tiny_eq] at *
    exact ⟨m, hm, by rw [h1]; grind, by rw [h1]; grind⟩
theorem rv_wideS (s : Int) (hs : 0 ≤ s ∧ s ≤ 4294967295) : ∃ r, RV .f32 (wideS s) r ∧ -9 ≤ r ∧ r ≤ 9 := by
  obtain ⟨r, hr, r1, r2⟩ := rv_wideAt s hs 4 (by omega)
  have h4 : ((4 : Nat) : Rat) = 4 := rfl
  have hc : RV .f32 (some 1071494103) ((fv FloatKind.f32.format 1071494103 : Int) / (unit .f32 : Nat)) := RV.of (v := fv FloatKind.f32.format 1071494103) ⟨1071494103, rfl, by decide, rfl⟩
  have hb : (0 : Rat) ≤ ((fv FloatKind.f32.format 1071494103 : Int) : Rat) / (unit .f32 : Nat) ∧ ((fv FloatKind.f32.format 1071494103 : Int) : Rat) / (unit .f32 : Nat) ≤ 2 := by decide +kernel
  generalize ((fv FloatKind.f32.format 1071494103 : Int) : Rat) / (unit .f32 : Nat) = c at *
  obtain ⟨b1, b2⟩ := abs_mul_le (a := r) (b := c) (α := 4) (β := 2) (by grind) (by grind) (by grind) (by grind)
  obtain ⟨m, hm, -, -, m1, m2⟩ := near32 (wn_mul hr hc) 8 (by grind) (by grind) (by grind)
  rw [tiny_eq] at *
  exact ⟨m, hm, by grind, by grind⟩
theorem walk_rv {wd : Option Nat} {d : Rat} (hw : RV .f32 wd d) (d1 : -1 ≤ d) (d2 : d ≤ 1) (s : Int) (hs : 0 ≤ s ∧ s ≤ 4294967295) (k : Nat) (hk : k ≤ 12) : ∃ r, RV .f32 (walkAt (ab .f32 khalf) wd s k) r ∧ -((k : Rat) * 10) ≤ r ∧ r ≤ (k : Rat) * 10 := by
  induction k with
  | zero => exact ⟨0, rv_z _, by show -(((0 : Nat) : Rat) * 10) ≤ 0; rw [show ((0 : Nat) : Rat) = 0 from rfl]; grind, by show 0 ≤ ((0 : Nat) : Rat) * 10; rw [show ((0 : Nat) : Rat) = 0 from rfl]; grind⟩
  | succ k ih =>
    obtain ⟨r, hr, r1, r2⟩ := ih (by omega)
    obtain ⟨v, hv, v1, v2⟩ := rv_wideS (seedAt s (4 * k)) (seedAt_bd s hs _)
    obtain ⟨b1, b2⟩ := abs_mul_le (a := d) (b := v) (α := 1) (β := 9) (by grind) (by grind) (by grind) (by grind)
    obtain ⟨m, hm, -, -, m1, m2⟩ := near32 (wn_mul hw hv) 9 (by grind) (by grind) (by grind)
    have hk12 := nat_le_rat (show k ≤ 11 by omega)
    rw [show ((11 : Nat) : Rat) = 11 from rfl] at hk12
    obtain ⟨a, ha, -, -, a1, a2⟩ := near32 (wn_add hr rv_half) 111 (by grind) (by grind) (by grind)
    rw [tiny_eq] at *
    obtain ⟨z, hz, -, -, z1, z2⟩ := near32 (wn_add ha hm) 125 (by grind) (by grind) (by grind)
    rw [tiny_eq] at *
    have e : ((k + 1 : Nat) : Rat) = (k : Rat) + 1 := by rw [Rat.natCast_add]; rfl
    exact ⟨z, hz, by rw [e]; grind, by rw [e]; grind⟩
theorem still_rv (s : Int) (hs : 0 ≤ s ∧ s ≤ 4294967295) (k : Nat) (hk : k ≤ 12) : ∃ r, RV .f32 (walkAt (ab .f32 khalf) (ab .f32 0) s k) r ∧ r ≤ (k : Rat) / 2 + (k : Rat) * (1 / 100000) ∧ (k : Rat) / 2 ≤ r + (k : Rat) * (1 / 100000) := by
  induction k with
  | zero => exact ⟨0, rv_z _, by show (0 : Rat) ≤ ((0 : Nat) : Rat) / 2 + ((0 : Nat) : Rat) * (1 / 100000); rw [show ((0 : Nat) : Rat) = 0 from rfl]; grind, by show ((0 : Nat) : Rat) / 2 ≤ 0 + ((0 : Nat) : Rat) * (1 / 100000); rw [show ((0 : Nat) : Rat) = 0 from rfl]; grind⟩
  | succ k ih =>
    obtain ⟨r, hr, r1, r2⟩ := ih (by omega)
    obtain ⟨v, hv, _⟩ := rv_wideS (seedAt s (4 * k)) (seedAt_bd s hs _)
    have hz : RV .f32 (ab .f32 0) 0 := by rw [ab_z32]; exact rv_z _
    have h0 := wn_mul hz hv
    rw [Rat.zero_mul] at h0
    have h0 := wn_same h0 (rv_z _)
    have hk12 := nat_le_rat (show k ≤ 11 by omega)
    rw [show ((11 : Nat) : Rat) = 11 from rfl] at hk12
    have hk0 := nat_le_rat (Nat.zero_le k)
    rw [show ((0 : Nat) : Rat) = 0 from rfl] at hk0
    obtain ⟨a, ha, -, -, a1, a2⟩ := near32 (wn_add hr rv_half) 7 (by grind) (by grind) (by grind)
    have hm := wn_add ha h0
    rw [Rat.add_zero] at hm
    rw [tiny_eq] at *
    have e : ((k + 1 : Nat) : Rat) = (k : Rat) + 1 := by rw [Rat.natCast_add]; rfl
    exact ⟨a, wn_same hm ha, by rw [e]; grind, by rw [e]; grind⟩
theorem walk_all {wd : Nat} {d : Rat} {s : Int} (hw : RV .f32 (ab .f32 wd) d) (h : ∀ k, k < 12 → ∃ r, RV .f32 (walkAt (ab .f32 khalf) (ab .f32 wd) s (k + 1)) r) (hs : 0 ≤ s ∧ s ≤ 4294967295) : walkAll (ab .f32 khalf) (ab .f32 wd) s 12 = true ∧ (walkXs (ab .f32 khalf) (ab .f32 wd) s 12).length = 12 ∧
    (∀ k, k < 12 → ab .f32 ((walkXs (ab .f32 khalf) (ab .f32 wd) s 12).getD k 0) = walkAt (ab .f32 khalf) (ab .f32 wd) s (k + 1)) ∧ ∀ b ∈ walkXs (ab .f32 khalf) (ab .f32 wd) s 12, b < 4294967296 := by
  obtain ⟨f1, f2, f3⟩ := list_rv (L := walkL (ab .f32 khalf) (ab .f32 wd) s 12) (n := 12) rfl h
  have hall : walkAll (ab .f32 khalf) (ab .f32 wd) s 12 = true := by
    unfold walkAll walkOk
    rw [show finite32 (ab .f32 khalf) = true from rv_half.fin, show finite32 (ab .f32 wd) = true from hw.fin, inB_mk hs.1 hs.2, show (12 : Int).toNat = 12 from rfl, f1]
    decide
  rw [(walk_yes hall).1, show (12 : Int).toNat = 12 from rfl]
  refine ⟨hall, f2, fun k hk => (f3 k hk).1, fun b hb => ?_⟩
  obtain ⟨k, hk, rfl⟩ := List.getElem_of_mem hb
  have hk12 : k < 12 := by rw [← f2]; exact hk
  have := (f3 k hk12).2
  rw [getD_at _ k hk] at this
  exact add_lt this
/-- A sum times its time, against the count. -/
theorem sum_cmp {x1 x2 k : Nat} {r t : Rat} (h1 : RV .f64 (ab .f64 x1) r) (h2 : RV .f64 (ab .f64 x2) t) (hk : k < 12) (r0 : 0 ≤ r) (r1 : r ≤ 33) (t0 : 0 ≤ t) (t1 : t ≤ 20) (b1 : r * t ≤ ((k + 1 : Nat) : Rat) + 1 / 10000) (b2 : ((k + 1 : Nat) : Rat) ≤ r * t + 1 / 10000) :
    ∃ M G, fop .mul .f64 (ab .f64 x1) (ab .f64 x2) = some M ∧ gapX (ab .f64 M) (ab .f64 (floatOfInt .f64 ((k : Int) + 1))) = some G ∧ (ford .f64 (ab .f64 G) (ab .f64 4562254508917369340) == some .gt) = false := by
  have hN := rv_ofInt64 ((k : Int) + 1) (by omega)
  have eN : (((k : Int) + 1 : Int) : Rat) = ((k + 1 : Nat) : Rat) := by rw [← Rat.intCast_natCast, Int.natCast_add]; rfl
  rw [eN, ← ab_ofInt] at hN
  have b3 := nat_le_rat (show k + 1 ≤ 12 by omega)
  have b4 := nat_le_rat (Nat.zero_le (k + 1))
  rw [show ((12 : Nat) : Rat) = 12 from rfl] at b3
  rw [show ((0 : Nat) : Rat) = 0 from rfl] at b4
  generalize ((k + 1 : Nat) : Rat) = m at *
  obtain ⟨c, hc, c1, c2⟩ := rv_c001
  have q0 := Rat.mul_nonneg r0 t0
  obtain ⟨v, hv, -, -, v1, v2⟩ := near64 (wn_mul h1 h2) 20 (by grind) (by grind) (by grind)
  obtain ⟨M, eM, hM⟩ := hv.bits
  rw [tiny_eq] at *
  obtain ⟨γ, N, hγ, n0, ne, g1, g2⟩ := gap_near hM hN (by grind) (by grind)
  obtain ⟨G, eG, hG⟩ := hγ.bits
  exact ⟨M, G, eM, eG, not_gt_of hG hc (by grind)⟩
/-- The still walk, against half the count. -/
theorem still_cmp {x k : Nat} {r : Rat} (h1 : RV .f64 (ab .f64 x) r) (hk : k < 12) (b1 : r ≤ ((k + 1 : Nat) : Rat) / 2 + ((k + 1 : Nat) : Rat) * (1 / 100000)) (b2 : ((k + 1 : Nat) : Rat) / 2 ≤ r + ((k + 1 : Nat) : Rat) * (1 / 100000)) :
    ∃ M G, fop .mul .f64 (ab .f64 4602678819172646912) (ab .f64 (floatOfInt .f64 ((k : Int) + 1))) = some M ∧ gapX (ab .f64 x) (ab .f64 M) = some G ∧ (ford .f64 (ab .f64 G) (ab .f64 4562254508917369340) == some .gt) = false := by
  have hN := rv_ofInt64 ((k : Int) + 1) (by omega)
  have eN : (((k : Int) + 1 : Int) : Rat) = ((k + 1 : Nat) : Rat) := by rw [← Rat.intCast_natCast, Int.natCast_add]; rfl
  rw [eN, ← ab_ofInt] at hN
  have hh : RV .f64 (ab .f64 4602678819172646912) (1 / 2) := by
    have := rv_wid rv_half
    rwa [show wid (ab .f32 khalf) = ab .f64 4602678819172646912 from by decide] at this
  have b3 := nat_le_rat (show k + 1 ≤ 12 by omega)
  have b4 := nat_le_rat (Nat.zero_le (k + 1))
  rw [show ((12 : Nat) : Rat) = 12 from rfl] at b3
  rw [show ((0 : Nat) : Rat) = 0 from rfl] at b4
  generalize ((k + 1 : Nat) : Rat) = m at *
  obtain ⟨c, hc, c1, c2⟩ := rv_c001
  obtain ⟨v, hv, -, -, v1, v2⟩ := near64 (wn_mul hh hN) 20 (by grind) (by grind) (by grind)
  obtain ⟨M, eM, hM⟩ := hv.bits
  rw [tiny_eq] at *
  obtain ⟨γ, N, hγ, n0, ne, g1, g2⟩ := gap_near h1 hM (by grind) (by grind)
  obtain ⟨G, eG, hG⟩ := hγ.bits
  exact ⟨M, G, eM, eG, not_gt_of hG hc (by grind)⟩
/-! ### Passages -/
def bfX (i : Nat) : Option Nat := if i = 0 then some 0 else wid (fpV (i - 1))
def bitsBelow (x : Option Nat) : Bool := match x with
  | none => false
  | some b => decide (b < 4294967296) && decide (b % FloatKind.f32.format.signWeight < FloatKind.f32.format.infRung)
theorem fp_bits : ∀ i, i < 12 → bitsBelow (fpV i) = true := by decide +kernel
theorem fp_rise : ∀ i, i < 12 → (ford .f64 (wid (fpV i)) (fop .sub .f64 (bfX i) (some c01)) == some .lt) = false := by decide +kernel
theorem fp_sub : ∀ i, i < 12 → (fop .sub .f64 (bfX i) (some c01)).isSome = true := by decide +kernel
theorem fp_lo : ∀ i, i < 12 → (ford .f32 (fpV i) (some 0) == some .lt) = false := by decide +kernel
theorem fp_hi : ∀ i, i < 12 → (ford .f32 (fpV i) (some 1065353216) == some .gt) = false := by decide +kernel
theorem fp_at (i : Nat) (hi : i < 12) : ∃ b r, fpV i = some b ∧ b < 4294967296 ∧ RV .f32 (ab .f32 b) r ∧ ab .f32 b = some b := by
  have h := fp_bits i hi
  cases e : fpV i with
  | none => rw [e] at h; cases h
  | some b =>
    rw [e] at h
    simp only [bitsBelow, Bool.and_eq_true, decide_eq_true_eq] at h
    have hv : IsV .f32 (some b) (fv FloatKind.f32.format b) := ⟨b, rfl, h.2, rfl⟩
    have ha := isV_ab hv
    exact ⟨b, _, rfl, h.1, by rw [ha]; exact RV.of hv, ha⟩
set_option maxRecDepth 100000 in
set_option maxHeartbeats 400000 in
theorem l01Bits_q (x : Nat) (hx : x < 4294967296) (w : World) :
    Calls Try.prog 122 #[.float .f32 x] w fun e w' => e = .returned (.int .i64 (bitsX (ab .f32 x))) ∧ ∃ m, w' = w.drewN m := by
  have W1 : IntKind.i64.wrap (x : Int) = (x : Int) := by rw [IntKind.wrap_i64]; omega
  cases h : ab .f32 x with
  | none =>
    have h1 : ford .f32 (ab .f32 x) (ab .f32 x) = none := by rw [h]; rfl
    have HX := hid h; clear h
    go_enter Try.func122, Try.ntmps122
    go_wp2_with fail
    go_ret
    exact ⟨rfl, 0, (World.drewN_zero w).symm⟩
  | some c =>
    have h1 : ford .f32 (ab .f32 x) (ab .f32 x) = some .eq := by rw [h]; exact ford_self ((ab_some h).1 ▸ h)
    have hc : bitsX (some c) = (x : Int) := by rw [(ab_some h).1]; rfl
    have HX := hid h; have HC := hid hc; clear h hc
    go_enter Try.func122, Try.ntmps122
    go_wp2_with fail
    go_ret
    exact ⟨by rw [HC.out]; rfl, 0, (World.drewN_zero w).symm⟩
set_option maxRecDepth 100000 in
set_option maxHeartbeats 400000 in
theorem l01Same_q (x : Nat) (hx : x < 4294967296) (w : World) :
    Calls Try.prog 76 #[.float .f32 x, .float .f32 x] w fun e w' => e = .returned (.bool true) ∧ ∃ m, w' = w.drewN m := by
  have HS := hid (show (bitsX (ab .f32 x) == bitsX (ab .f32 x)) = true by simp)
  go_enter Try.func76, Try.ntmps76
  go_wp2_with (first | (go_at_call 122; (with_reducible refine (l01Bits_q x hx _).mono ?_); rintro e w' ⟨rfl, m, rfl⟩))
  go_ret
  exact ⟨by simp, _, rfl⟩
set_option maxHeartbeats 400000 in
theorem specSame_q (x : Nat) (hx : x < 4294967296) (w : World) :
    Calls Try.prog 19 #[.float .f32 x, .float .f32 x] w fun e w' => e = .returned (.bool true) ∧ ∃ m, w' = w.drewN m := by
  go_enter Try.func19, Try.ntmps19
  go_wp2_with (first | (go_at_call 76; (with_reducible refine (l01Same_q x hx _).mono ?_); rintro e w' ⟨rfl, m, rfl⟩))
  go_ret
  exact ⟨rfl, _, rfl⟩
end Go.Proofs.Ytkaeohlakeliiaa
