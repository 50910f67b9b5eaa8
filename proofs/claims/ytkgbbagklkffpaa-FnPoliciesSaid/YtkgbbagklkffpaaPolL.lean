/- FnPolicies: what the law compares. No program in sight but its names. -/
import Derived.Test.YtkgbbagklkffpaaR8
namespace Go.Proofs.Ytkgbbagklkffpaa
open Go.RowKit
set_option linter.unusedVariables false

theorem rv_bits {k : FloatKind} {x : Option Nat} {r : Rat} (h : RV k x r) : ∃ b, x = some b ∧ ab k b = some b := by
  obtain ⟨v, hv, -⟩ := h
  obtain ⟨b, s, m, i, rfl, e, -, -⟩ := hv.read
  refine ⟨b, rfl, ?_⟩
  unfold ab
  rw [e]; rfl
theorem fop_readable (op : BinOp) (k : FloatKind) (x y : Option Nat) {b : Nat} (h : fop op k x y = some b) : ab k b = some b := by
  cases x with
  | none => rw [fop_none_left] at h; cases h
  | some a =>
    cases y with
    | none => rw [fop_none_right] at h; cases h
    | some c => exact (floatBits_nan (op := op) (x := a) (y := c) h).1
theorem rv_of_op {op : BinOp} {x y : Option Nat} (h : finite32 (fop op .f32 x y) = true) : ∃ r, RV .f32 (fop op .f32 x y) r := by
  cases e : fop op .f32 x y with
  | none =>
    rw [e] at h
    unfold finite32 fin at h
    rw [fop_none_left, ford_none_left] at h
    cases h
  | some b =>
    have hb := fop_readable op .f32 x y e
    rw [e] at h
    rw [← hb] at h ⊢
    exact rv_of_fin h
theorem ifFin_two {x : Option Nat} (h : (ifFin x).2 = true) : finite32 x = true ∧ (ifFin x).1 = x := by
  cases hf : finite32 x
  · rw [ifFin_no hf] at h; cases h
  · exact ⟨rfl, by rw [ifFin_yes hf]⟩
theorem ageM_rv {k : Int} {P S age pl fl : Option Nat} {n : Nat} (h : (ageM k P S age pl fl n).2 = true) : ∃ r, RV .f32 (ageM k P S age pl fl n).1 r := by
  unfold ageM at h ⊢
  split at h
  · rename_i hc
    rw [if_pos hc]
    obtain ⟨h1, h2⟩ := ifFin_two h
    rw [h2]
    exact rv_of_op h1
  · cases h
theorem inM_rv {k : Int} {P S gap lk wt : Option Nat} {c : Nat} (h : (inM k P S gap lk wt c).2 = true) : ∃ r, RV .f32 (inM k P S gap lk wt c).1 r := by
  unfold inM at h ⊢
  split at h
  · rename_i hc
    rw [if_pos hc]
    obtain ⟨h1, h2⟩ := ifFin_two h
    rw [h2]
    exact rv_of_op h1
  · cases h
theorem okAll_get {M : Nat → Option Nat × Bool} {n : Nat} (h : okAll M n = true) {k : Nat} (h1 : 1 ≤ k) (h2 : k ≤ n) : (M k).2 = true := by
  have := List.all_eq_true.1 h (k - 1) (List.mem_range.2 (by omega))
  rwa [show k - 1 + 1 = k by omega] at this
theorem okAll_next (M : Nat → Option Nat × Bool) (n : Nat) : okAll M (n + 1) = (okAll M n && (M (n + 1)).2) := by
  unfold okAll
  rw [List.range_succ, List.all_append]
  simp
/-- The least one. -/
theorem bst_spec {T : Nat → Option Nat} {M : Nat → Option Nat × Bool} {n : Nat} (n1 : 1 ≤ n) (hf : ∀ k, 1 ≤ k → k ≤ n → ∃ x, RV .f32 (M k).1 x) : ∃ k0, 1 ≤ k0 ∧ k0 ≤ n ∧ bst T M n = (T k0, (M k0).1) ∧ ∀ k, 1 ≤ k → k ≤ n → ∀ x y, RV .f32 (M k).1 x → RV .f32 (M k0).1 y → y ≤ x := by
  induction n with
  | zero => omega
  | succ n ih =>
    by_cases h0 : n = 0
    · subst h0
      refine ⟨1, by omega, by omega, bst_one T M, fun k h1 h2 x y hx hy => ?_⟩
      obtain rfl : k = 1 := by omega
      rw [hx.val hy]; exact Rat.le_refl
    · obtain ⟨k0, a1, a2, a3, a4⟩ := ih (by omega) (fun k h1 h2 => hf k h1 (by omega))
      obtain ⟨z, hz⟩ := hf (n + 1) (by omega) (Nat.le_refl _)
      obtain ⟨y0, hy0⟩ := hf k0 a1 (by omega)
      by_cases hlt : z < y0
      · refine ⟨n + 1, by omega, Nat.le_refl _, bst_less (by rw [a3, rv_lt hz hy0 hlt]; rfl), fun k h1 h2 x y hx hy => ?_⟩
        obtain rfl := hy.val hz
        by_cases hk : k = n + 1
        · subst hk; rw [hx.val hz]; exact Rat.le_refl
        · have := a4 k h1 (by omega) x y0 hx hy0
          grind
      · refine ⟨k0, a1, by omega, by rw [bst_keep h0 (by rw [a3]; exact rv_not_lt hz hy0 (by grind)), a3], fun k h1 h2 x y hx hy => ?_⟩
        by_cases hk : k = n + 1
        · subst hk
          rw [hx.val hz, hy.val hy0]; grind
        · exact a4 k h1 (by omega) x y hx hy

/-! ### Thousandths -/
def cmil : Nat := 4562254508917369340
def cnmil : Nat := 13785626545772145148
theorem rv_word64 {b : Nat} (h : b % FloatKind.f64.format.signWeight < FloatKind.f64.format.infRung) : RV .f64 (some b) (((fv FloatKind.f64.format b : Int) : Rat) / (unit .f64 : Nat)) := RV.of ⟨b, rfl, h, rfl⟩
theorem rv_mil : ∃ m, RV .f64 (some cmil) m ∧ 999 / 1000000 ≤ m ∧ m ≤ 1001 / 1000000 := ⟨_, rv_word64 (by decide), by decide +kernel, by decide +kernel⟩
theorem rv_nmil : ∃ m, RV .f64 (some cnmil) m ∧ -(1001 / 1000000) ≤ m ∧ m ≤ -(999 / 1000000) := ⟨_, rv_word64 (by decide), by decide +kernel, by decide +kernel⟩
theorem ab_mil : ab .f64 4562254508917369340 = some cmil := by decide
theorem ab_nmil : ab .f64 13785626545772145148 = some cnmil := by decide
theorem ab_one64' : ab .f64 4607182418800017408 = some 4607182418800017408 := by decide
/-- Not less than the one before, less a thousandth. -/
theorem rise_law {x y : Option Nat} {a b : Rat} (hx : RV .f32 x a) (hy : RV .f32 y b) (h0 : 0 ≤ a) (h1 : a ≤ b) (h2 : b ≤ 10000) : ∃ M, fop .sub .f64 (wid x) (ab .f64 4562254508917369340) = some M ∧ ab .f64 M = some M ∧ (ford .f64 (wid y) (ab .f64 M) == some .lt) = false := by
  obtain ⟨m, hm, m1, m2⟩ := rv_mil
  obtain ⟨d, hd, -, -, d1, d2⟩ := near64 (wn_sub (rv_wid hx) hm) 20000 (by grind) (by grind) (by grind)
  obtain ⟨M, e1, e2⟩ := rv_bits hd
  rw [tiny_eq] at *
  refine ⟨M, by rw [ab_mil]; exact e1, e2, ?_⟩
  rw [e2, ← e1]
  exact rv_not_lt (rv_wid hy) hd (by grind)
theorem gone_law {g y : Option Nat} {κ b : Rat} (hg : RV .f32 g κ) (hy : RV .f32 y b) (k0 : 0 ≤ κ) (k1 : κ ≤ 1) (h : 1 - κ ≤ b + 1 / 1000000) : ∃ D M, fop .sub .f64 (ab .f64 4607182418800017408) (wid g) = some D ∧ ab .f64 D = some D ∧ fop .sub .f64 (ab .f64 D) (ab .f64 4562254508917369340) = some M ∧ ab .f64 M = some M ∧ (ford .f64 (wid y) (ab .f64 M) == some .lt) = false := by
  obtain ⟨m, hm, m1, m2⟩ := rv_mil
  obtain ⟨d, hd, -, -, d1, d2⟩ := near64 (wn_sub rv_one64 (rv_wid hg)) 2 (by grind) (by grind) (by grind)
  obtain ⟨D, e1, e2⟩ := rv_bits hd
  rw [tiny_eq] at *
  obtain ⟨c, hc, -, -, c1, c2⟩ := near64 (wn_sub hd hm) 4 (by grind) (by grind) (by grind)
  obtain ⟨M, f1, f2⟩ := rv_bits hc
  rw [tiny_eq] at *
  refine ⟨D, M, by rw [ab_one64']; exact e1, e2, by rw [ab_mil, e2, ← e1]; exact f1, f2, ?_⟩
  rw [f2, ← f1]
  exact rv_not_lt (rv_wid hy) hc (by grind)
/-- Not more than a number and a thousandth. -/
theorem most_law {x y : Option Nat} {a b : Rat} (hx : RV .f32 x a) (hy : RV .f32 y b) (h0 : 0 ≤ b) (h1 : b ≤ 10000) (h : a ≤ b + 1 / 10000) : (ford .f64 (wid x) (fop .add .f64 (wid y) (some cmil)) == some .gt) = false := by
  obtain ⟨m, hm, m1, m2⟩ := rv_mil
  obtain ⟨d, hd, -, -, d1, d2⟩ := near64 (wn_add (rv_wid hy) hm) 20000 (by grind) (by grind) (by grind)
  rw [tiny_eq] at *
  exact rv_not_gt (rv_wid hx) hd (by grind)
theorem pos_law {x : Option Nat} {a : Rat} (hx : RV .f32 x a) (h : 0 < a) : (ford .f32 x (some 0) == some .lt || ford .f32 x (some 0) == some .eq) = false := by
  rw [rv_gt hx (rv_z0 _) h]; rfl
theorem gap_zero {x y : Option Nat} {a : Rat} (hx : RV .f32 x a) (hy : RV .f32 y a) : RV .f64 (gap8 x y) 0 := by
  have w1 := wn_sub (rv_wid hx) (rv_wid hy)
  have w2 := wn_sub (rv_wid hy) (rv_wid hx)
  rw [show a - a = 0 by grind] at w1 w2
  have r1 := wn_same w1 (rv_z0 _)
  have r2 := wn_same w2 (rv_z0 _)
  unfold gap8 fmax64
  rw [rv_eq r1 r2 rfl]
  show RV .f64 (if _ then _ else _) 0
  split
  · exact r2
  · exact r1
/-- Nothing is less than a thousandth of what is more than nothing. -/
theorem free_law {x y z : Option Nat} {a b : Rat} (hx : RV .f32 x a) (hy : RV .f32 y a) (hz : RV .f32 z b) (h0 : 0 ≤ b) (h1 : b ≤ 1000000) : (ford .f64 (gap8 x y) (fop .mul .f64 (some cmil) (fop .add .f64 (some 4607182418800017408) (wid z))) == some .lt) = true := by
  obtain ⟨m, hm, m1, m2⟩ := rv_mil
  obtain ⟨d, hd, -, -, d1, d2⟩ := near64 (wn_add rv_one64 (rv_wid hz)) 2000000 (by grind) (by grind) (by grind)
  rw [tiny_eq] at *
  have q := abs_mul_le (a := m) (b := d) (α := 1) (β := 2000000) (by grind) (by grind) (by grind) (by grind)
  have q2 := Rat.mul_nonneg (show 0 ≤ m - 999 / 1000000 by grind) (show 0 ≤ d by grind)
  obtain ⟨e, he, -, -, e1, e2⟩ := near64 (wn_mul hm hd) 2000000 (by grind) (by grind) (by grind)
  rw [tiny_eq] at *
  rw [rv_lt (gap_zero hx hy) he (by grind)]; rfl
theorem part_low {x : Option Nat} {a : Rat} (hx : RV .f32 x a) (h : -(998 / 1000000) ≤ a) : (ford .f64 (wid x) (some cnmil) == some .gt) = true := by
  obtain ⟨m, hm, m1, m2⟩ := rv_nmil
  rw [rv_gt (rv_wid hx) hm (by grind)]; rfl
theorem part_high {x y : Option Nat} {a b : Rat} (hx : RV .f32 x a) (hy : RV .f32 y b) (h0 : 0 ≤ b) (h1 : b ≤ 10000) (h : a ≤ b + 1 / 10000) : (ford .f64 (wid x) (fop .add .f64 (wid y) (some cmil)) == some .lt) = true := by
  obtain ⟨m, hm, m1, m2⟩ := rv_mil
  obtain ⟨d, hd, -, -, d1, d2⟩ := near64 (wn_add (rv_wid hy) hm) 20000 (by grind) (by grind) (by grind)
  rw [tiny_eq] at *
  rw [rv_lt (rv_wid hx) hd (by grind)]; rfl
/-- What a part of a warranty costs. -/
theorem part_ok {k : Int} {P S TO pr : Option Nat} {ρ σ L π : Rat} {n : Nat} (h : LawOk k P S ρ σ) (hL : RV .f32 TO L) (n1 : 1 ≤ n) (n2 : n ≤ 12) (l1 : 4 / 100 ≤ L) (l2 : L ≤ 121 / 10) (hp : RV .f32 pr π) (p0 : 0 ≤ π) (p1 : π ≤ 10) : ∃ c, RV .f32 (partM k P S TO pr n).1 c ∧ (partM k P S TO pr n).2 = true ∧ -(998 / 1000000) ≤ c ∧ c ≤ π + 1 / 10000 := by
  obtain ⟨-, μ, hμ, m0, m1⟩ := mean_ok h hL n1 n2 l1 l2
  have hd := Rat.div_mul_cancel (a := μ) (b := L) (by grind)
  have w := wn_div hμ hL (by grind)
  generalize μ / L = z at *
  have z1 : z ≤ 1 + 1 / 100000 := Rat.le_of_mul_le_mul_right (c := L) (by rw [hd]; grind) (by grind)
  have z2 : 0 ≤ z := Rat.le_of_mul_le_mul_right (c := L) (by rw [hd]; grind) (by grind)
  obtain ⟨q, hq, -, q0, q1, q2⟩ := near32 w 2 (by grind) (by grind) (by grind)
  have q0 := q0 z2
  rw [tiny_eq] at *
  obtain ⟨d, hd2, -, -, d1, d2⟩ := near32 (wn_sub rv_one32 hq) 2 (by grind) (by grind) (by grind)
  rw [tiny_eq] at *
  have b1 := Rat.mul_nonneg p0 (show 0 ≤ 1 + 1 / 1000000 - d by grind)
  have b2 := Rat.mul_nonneg p0 (show 0 ≤ d + 1 / 50000 by grind)
  obtain ⟨c, hc, -, -, c1, c2⟩ := near32 (wn_mul hp hd2) 20 (by grind) (by grind) (by grind)
  rw [tiny_eq] at *
  unfold partM
  rw [ifFin_yes hc.fin]
  exact ⟨c, hc, rfl, by grind, by grind⟩
end Go.Proofs.Ytkgbbagklkffpaa
