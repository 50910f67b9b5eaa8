/- LeftTimes: the numbers that are sorted are from +0 on. No program in sight. -/
import Derived.Test.YtdldlfefbeflcaaSort3
import Derived.Test.YtdldlfefbeflcaaMove
namespace Go.Proofs.Ytdldlfefbeflcaa
open Go.RowKit

theorem read_pos {b : Nat} (h : b < 2139095040) : ∃ m i, FloatKind.f32.format.read b = .number false m i ∧ (0 < b → m ≠ 0) := by
  have e1 : FloatKind.f32.format.signWeight = 2147483648 := by decide
  have e2 : FloatKind.f32.format.binade = 8388608 := by decide
  have e3 : FloatKind.f32.format.infRung = 2139095040 := by decide
  have hneg : (b / 2147483648 % 2 == 1) = false := by
    rw [show b / 2147483648 = 0 by omega]; rfl
  have hr : b % 2147483648 = b := by omega
  unfold Ieee.Format.read
  simp only [e1, e2, e3, hneg, hr]
  by_cases h1 : b < 8388608
  · rw [if_pos h1]
    exact ⟨_, _, rfl, fun h0 => by omega⟩
  · rw [if_neg h1, if_pos h]
    exact ⟨_, _, rfl, fun h0 => by omega⟩
theorem rung_le (mag : Nat) (place : Int) : rungOf FloatKind.f32.format mag place ≤ 2139095040 := by
  unfold rungOf
  split
  · exact Nat.zero_le _
  · exact Nat.le_trans (Nat.min_le_right _ _) (by decide)
theorem quo_pos {p d : Nat} (hp : PosN p) (hd0 : 0 < d) (hd : d < 2139095040) : ∃ q, fop .quo .f32 (some p) (some d) = some q ∧ PosN q := by
  obtain ⟨n, j, e2, hn⟩ := read_pos hd
  have hn := hn hd0
  have hq : fop .quo .f32 (some p) (some d) = ((FloatKind.f32.format.read p).quotient (FloatKind.f32.format.fractionBits + 2) (FloatKind.f32.format.read d)).map FloatKind.f32.format.write := rfl
  rw [hq, e2]
  rcases Nat.lt_or_ge p 2139095040 with c | c
  · obtain ⟨m, i, e1, -⟩ := read_pos c
    rw [e1]
    simp only [Ieee.Datum.quotient, if_neg hn, Option.map_some]
    refine ⟨_, rfl, ?_⟩
    obtain ⟨more, hmore⟩ : ∃ more, more = FloatKind.f32.format.fractionBits + 2 + n.log2 - m.log2 := ⟨_, rfl⟩
    rw [← hmore]
    have hw : FloatKind.f32.format.write (.number (false ^^ false) (2 * ((m <<< more) / n) + ((m <<< more) % n != 0).toNat) (i - j - (more : Int) - 1)) = FloatKind.f32.format.word false (rungOf FloatKind.f32.format (2 * ((m <<< more) / n) + ((m <<< more) % n != 0).toNat) (i - j - (more : Int) - 1)) := nearest_rung _ _ _ _
    rw [hw]
    show (if false = true then _ else _) ≤ _
    rw [if_neg (by decide)]
    exact rung_le _ _
  · obtain rfl : p = 2139095040 := by have : p ≤ 2139095040 := hp; omega
    rw [inf_read]
    refine ⟨_, rfl, ?_⟩
    decide
theorem read_negP (r : Nat) (h : r ≤ 2139095040) : FloatKind.f32.format.read (2147483648 + r) = .infinity true ∨ ∃ m i, FloatKind.f32.format.read (2147483648 + r) = .number true m i := by
  have e1 : FloatKind.f32.format.signWeight = 2147483648 := by decide
  have e2 : FloatKind.f32.format.binade = 8388608 := by decide
  have e3 : FloatKind.f32.format.infRung = 2139095040 := by decide
  have hneg : ((2147483648 + r) / 2147483648 % 2 == 1) = true := by
    rw [show (2147483648 + r) / 2147483648 = 1 by omega]; rfl
  have hr : (2147483648 + r) % 2147483648 = r := by omega
  unfold Ieee.Format.read
  simp only [e1, e2, e3, hneg, hr]
  by_cases h1 : r < 8388608
  · rw [if_pos h1]; exact Or.inr ⟨_, _, rfl⟩
  · rw [if_neg h1]
    by_cases h2 : r < 2139095040
    · rw [if_pos h2]; exact Or.inr ⟨_, _, rfl⟩
    · rw [if_neg h2, if_pos (by omega)]; exact Or.inl rfl
theorem zero_read : FloatKind.f32.format.read 0 = .number false 0 FloatKind.f32.format.leastPlace := by decide
theorem not_gt (r : Nat) (h : r ≤ 2139095040) : ford .f32 (some (2147483648 + r)) (some 0) ≠ some .gt := by
  show (FloatKind.f32.format.read (2147483648 + r)).order (FloatKind.f32.format.read 0) ≠ _
  rw [zero_read]
  rcases read_negP r h with e | ⟨m, i, e⟩
  · rw [e]; decide
  · rw [e]
    simp only [Ieee.Datum.order]
    intro hc
    have := Option.some.inj hc
    rw [Int.compare_eq_gt, signed_eq, signed_eq, if_pos rfl, if_neg (by decide), Nat.zero_mul] at this
    generalize m * 2 ^ (i - min i FloatKind.f32.format.leastPlace).toNat = z at this
    omega
theorem sub_word {k : FloatKind} {x y : Option Nat} {a b : Int} (hx : IsV k x a) (hy : IsV k y b) : ∃ s' mag place, fop .sub k x y = some (k.format.word s' (rungOf k.format mag place)) := by
  obtain ⟨p, s, m, i, rfl, e1, hi, ea⟩ := hx.read
  obtain ⟨q, t, n, j, rfl, e2, hj, eb⟩ := hy.read
  have hs : fop .sub k (some p) (some q) = ((k.format.read p).sum (k.format.read q).opposite).map k.format.write := rfl
  rw [hs, e1, e2]
  simp only [Ieee.Datum.sum, Ieee.Datum.opposite, Option.map_some]
  exact ⟨_, _, _, congrArg some (nearest_rung _ _ _ _)⟩
theorem w32_neg (r : Nat) : FloatKind.f32.format.word true r = 2147483648 + r := by
  have e1 : FloatKind.f32.format.signWeight = 2147483648 := by decide
  unfold Ieee.Format.word
  rw [if_pos rfl, e1]
theorem w32_pos (r : Nat) : FloatKind.f32.format.word false r = r := by
  unfold Ieee.Format.word
  rw [if_neg (by decide)]
theorem sub_gt {x y : Option Nat} {a b : Int} (hx : IsV .f32 x a) (hy : IsV .f32 y b) (hg : ford .f32 (fop .sub .f32 x y) (some 0) = some .gt) : ∃ p, fop .sub .f32 x y = some p ∧ PosN p := by
  obtain ⟨s', mag, place, hw⟩ := sub_word hx hy
  have hr := rung_le mag place
  generalize rungOf FloatKind.f32.format mag place = r at hw hr
  cases s' with
  | false => rw [w32_pos] at hw; exact ⟨_, hw, hr⟩
  | true =>
    rw [w32_neg] at hw
    rw [hw] at hg
    exact absurd hg (not_gt r hr)
end Go.Proofs.Ytdldlfefbeflcaa
