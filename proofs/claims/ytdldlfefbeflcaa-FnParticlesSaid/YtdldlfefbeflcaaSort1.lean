/- Floats that are not below +0, ordered as their bits are. No program in sight. -/
import Derived.Test.YtdldlfefbeflcaaMin
import Derived.Sort.AssemblyPlain
namespace Go.Proofs.Ytdldlfefbeflcaa
open Go.RowKit

theorem ford_inf (y : Nat) (t : Bool) (h : FloatKind.f32.format.read y = .infinity t) {x : Option Nat} {v : Int} (hx : IsV .f32 x v) : ford .f32 x (some y) = some (if t then .gt else .lt) ∧ ford .f32 (some y) x = some (if t then .lt else .gt) := by
  obtain ⟨p, s, m, i, rfl, e, _, _⟩ := hx.read
  constructor
  · show (FloatKind.f32.format.read p).order (FloatKind.f32.format.read y) = _
    rw [h, e]; rfl
  · show (FloatKind.f32.format.read y).order (FloatKind.f32.format.read p) = _
    rw [h, e]; rfl
/-- The bits of numbers from +0 to the infinity. -/
abbrev PosN (b : Nat) : Prop := b ≤ 2139095040
theorem inf_read : FloatKind.f32.format.read 2139095040 = .infinity false := by decide
theorem pos_isV {b : Nat} (h : b < 2139095040) : IsV .f32 (some b) (mgr FloatKind.f32.format b : Int) := by
  have h1 : b % FloatKind.f32.format.signWeight = b := by
    rw [show FloatKind.f32.format.signWeight = 2147483648 from by decide]; omega
  have h2 : b / FloatKind.f32.format.signWeight = 0 := by
    rw [show FloatKind.f32.format.signWeight = 2147483648 from by decide]; omega
  refine ⟨b, rfl, ?_, ?_⟩
  · rw [h1, show FloatKind.f32.format.infRung = 2139095040 from by decide]; exact h
  · unfold fv
    rw [h1, h2]
    rfl
theorem pos_ab {b : Nat} (h : PosN b) : ab .f32 b = some b := by
  rcases Nat.lt_or_ge b 2139095040 with c | c
  · obtain ⟨p, s, m, i, e, hr, _⟩ := (pos_isV c).read
    cases e
    unfold ab
    rw [hr]; rfl
  · obtain rfl : b = 2139095040 := by have : b ≤ 2139095040 := h; omega
    decide
theorem ford_pos {x y : Nat} (hx : PosN x) (hy : PosN y) : ford .f32 (ab .f32 x) (ab .f32 y) = some (compare x y) := by
  rw [pos_ab hx, pos_ab hy]
  have hx' : x ≤ 2139095040 := hx
  have hy' : y ≤ 2139095040 := hy
  rcases Nat.lt_or_ge x 2139095040 with c | c <;> rcases Nat.lt_or_ge y 2139095040 with d | d
  · rw [ford_val (pos_isV c) (pos_isV d)]
    congr 1
    rcases Nat.lt_trichotomy x y with e | e | e
    · rw [Nat.compare_eq_lt.2 e, Int.compare_eq_lt.2 (by exact_mod_cast mgr_less _ e)]
    · rw [e, Nat.compare_eq_eq.2 rfl, Int.compare_eq_eq.2 rfl]
    · rw [Nat.compare_eq_gt.2 e, Int.compare_eq_gt.2 (by exact_mod_cast mgr_less _ e)]
  · obtain rfl : y = 2139095040 := by omega
    rw [(ford_inf _ false inf_read (pos_isV c)).1, Nat.compare_eq_lt.2 c]; rfl
  · obtain rfl : x = 2139095040 := by omega
    rw [(ford_inf _ false inf_read (pos_isV d)).2, Nat.compare_eq_gt.2 d]; rfl
  · obtain rfl : x = 2139095040 := by omega
    obtain rfl : y = 2139095040 := by omega
    rw [Nat.compare_eq_eq.2 rfl]
    decide
theorem less_pos {x y : Nat} (hx : PosN x) (hy : PosN y) : (ford .f32 (ab .f32 x) (ab .f32 y) == some .lt) = decide (x < y) := by
  rw [ford_pos hx hy]
  rcases Nat.lt_trichotomy x y with e | e | e
  · rw [Nat.compare_eq_lt.2 e]; simp [e]
  · rw [e, Nat.compare_eq_eq.2 rfl]; simp
  · rw [Nat.compare_eq_gt.2 e]; simp [show ¬ x < y by omega]
theorem self_pos {x : Nat} (hx : PosN x) : (ford .f32 (ab .f32 x) (ab .f32 x) == some .eq) = true := by
  rw [ford_pos hx hx, Nat.compare_eq_eq.2 rfl]; rfl
/-- The order of the sort. -/
def ltN (x y : Nat) : Bool := decide (x < y)
theorem swoN : Sort.SWO ltN := ⟨fun x => by simp [ltN], fun x y z h1 h2 => by simp [ltN] at *; omega, fun x y z h1 h2 => by simp [ltN] at *; omega⟩
theorem ltN_eq (x y : Nat) (h1 : ltN x y = false) (h2 : ltN y x = false) : x = y := by simp [ltN] at *; omega
end Go.Proofs.Ytdldlfefbeflcaa
