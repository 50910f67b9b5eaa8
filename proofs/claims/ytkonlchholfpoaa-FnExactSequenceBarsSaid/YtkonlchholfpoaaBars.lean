/- Contracts: SequenceBars. -/
import Derived.Test.YtkonlchholfpoaaLog3
import Derived.Test.YtkonlchholfpoaaOut
import Derived.Test.YtkonlchholfpoaaFres
namespace Go.Proofs.Ytkonlchholfpoaa
open Go.RowKit

theorem rungOf_top (f : Ieee.Format) (mag : Nat) (place : Int) : rungOf f mag place ≤ f.infRung := by
  unfold rungOf
  split
  · exact Nat.zero_le _
  · exact Nat.min_le_right _ _
/-- A quotient that is not too small is more than 0, be it infinite. -/
theorem div_pos32 {x y : Option Nat} {a b L : Int} (hx : IsV .f32 x a) (hy : IsV .f32 y b) (hb : 0 < b) (hL : Rep FloatKind.f32.format L) (h0 : 0 < L) (h1 : L * b ≤ a * (unit .f32 : Int)) : ford .f32 (fop .quo .f32 x y) (some 0) = some .gt := by
  have hup : (0 : Int) < (unit .f32 : Int) := unit_pos .f32
  have ha : 0 < a := by
    rcases Int.lt_or_le 0 a with h | h
    · exact h
    · have q1 := Int.mul_pos h0 hb
      have q2 : a * (unit .f32 : Int) ≤ 0 := Int.mul_nonpos_of_nonpos_of_nonneg h (by omega)
      omega
  obtain ⟨p, s, m, i, rfl, e1, hi, ea⟩ := hx.read
  obtain ⟨q, t, n, j, rfl, e2, hj, eb⟩ := hy.read
  have hq : fop .quo .f32 (some p) (some q) = ((FloatKind.f32.format.read p).quotient (FloatKind.f32.format.fractionBits + 2) (FloatKind.f32.format.read q)).map FloatKind.f32.format.write := rfl
  rw [hq, e1, e2]
  have hl := lp_neg .f32
  have hn : n ≠ 0 := by
    intro h0
    subst h0
    rw [signed_eq] at eb
    cases t <;> simp at eb <;> omega
  have hm : m ≠ 0 := by
    intro h0
    subst h0
    rw [signed_eq] at ea
    cases s <;> simp at ea <;> omega
  simp only [Ieee.Datum.quotient, if_neg hn, Option.map_some]
  have ht : t = false := by
    cases t with
    | false => rfl
    | true => rw [signed_eq] at eb; simp only [if_true] at eb; omega
  have hs : s = false := by
    cases s with
    | false => rfl
    | true => rw [signed_eq] at ea; simp only [if_true] at ea; omega
  subst ht hs
  have eb' : b = ((n * 2 ^ (j - FloatKind.f32.format.leastPlace).toNat : Nat) : Int) := by rw [← eb, signed_eq]; simp only [Bool.false_eq_true, if_false]
  have ea' : a = ((m * 2 ^ (i - FloatKind.f32.format.leastPlace).toNat : Nat) : Int) := by rw [← ea, signed_eq]; simp only [Bool.false_eq_true, if_false]
  obtain ⟨more, hmore⟩ : ∃ more, more = FloatKind.f32.format.fractionBits + 2 + n.log2 - m.log2 := ⟨_, rfl⟩
  rw [← hmore, Bool.xor_false]
  have hw : FloatKind.f32.format.write (.number false (2 * ((m <<< more) / n) + ((m <<< more) % n != 0).toNat) (i - j - (more : Int) - 1)) = FloatKind.f32.format.word false (rungOf FloatKind.f32.format (2 * ((m <<< more) / n) + ((m <<< more) % n != 0).toNat) (i - j - (more : Int) - 1)) := nearest_rung _ _ _ _
  rw [hw]
  obtain ⟨r, hr, hrL⟩ := hL
  have hrL' : L = (mgr FloatKind.f32.format r : Int) := by omega
  have hge : r ≤ rungOf FloatKind.f32.format (2 * ((m <<< more) / n) + ((m <<< more) % n != 0).toNat) (i - j - (more : Int) - 1) := by
    refine quot_rung_ge FloatKind.f32.format m n i j r hm hn hi hj hl (Nat.le_of_lt hr) ?_ more hmore
    rw [hrL', eb', ea'] at h1
    have h2 : ((mgr FloatKind.f32.format r * (n * 2 ^ (j - FloatKind.f32.format.leastPlace).toNat) : Nat) : Int) ≤ ((m * 2 ^ (i - FloatKind.f32.format.leastPlace).toNat * unit .f32 : Nat) : Int) := by
      rw [Int.natCast_mul, Int.natCast_mul (m * _)]; exact h1
    exact Int.ofNat_le.1 h2
  have htop := rungOf_top FloatKind.f32.format (2 * ((m <<< more) / n) + ((m <<< more) % n != 0).toNat) (i - j - (more : Int) - 1)
  generalize rungOf FloatKind.f32.format (2 * ((m <<< more) / n) + ((m <<< more) % n != 0).toNat) (i - j - (more : Int) - 1) = g at hge htop
  have hsw := FloatKind.f32.format.infRung_lt
  by_cases hg : g < FloatKind.f32.format.infRung
  · have hv : IsV .f32 (some (FloatKind.f32.format.word false g)) (mgr FloatKind.f32.format g : Int) := ⟨_, rfl, by rw [word_mod _ _ _ (by omega)]; exact hg, by rw [fv_word _ _ _ (by omega)]; rfl⟩
    have hmono := mgr_mono FloatKind.f32.format hge
    exact ford_gt hv (isV_zero .f32) (by omega)
  · obtain rfl : g = FloatKind.f32.format.infRung := by omega
    decide

def innerB (x : Option Nat) : Bool := (ford .f32 x (some 0) == some .gt) && (ford .f32 x (some 1056964608) == some .lt)
def barLo (a b : Option Nat) : Option Nat := fop .quo .f32 b (fop .sub .f32 (some 1065353216) a)
def barHi (a b : Option Nat) : Option Nat := fop .quo .f32 (fop .sub .f32 (some 1065353216) b) a
def barsM (a b : Option Nat) : Option Nat × Option Nat × Bool := if innerB a && innerB b && finite32 (barHi a b) then (lg32 (barLo a b), lg32 (barHi a b), true) else (some 0, some 0, false)
theorem isV_half32 : IsV .f32 (some 1056964608) (pw 148 : Int) := by
  have h := mgr_parts FloatKind.f32.format 125 8388608 (by decide) (fun _ => by decide)
  rw [show 125 * FloatKind.f32.format.binade + 8388608 = 1056964608 from by decide] at h
  have e : 8388608 * pw 125 = pw 148 := by
    rw [show (8388608 : Nat) = pw 23 from by decide]
    exact (pw_add 23 125).symm
  have h2 : mgr FloatKind.f32.format 1056964608 = pw 148 := by rw [← e]; exact h
  refine ⟨_, rfl, by decide, ?_⟩
  unfold fv
  rw [show (1056964608 : Nat) % FloatKind.f32.format.signWeight = 1056964608 from by decide, show ((1056964608 : Nat) / FloatKind.f32.format.signWeight % 2 == 1) = false from by decide, h2]
  rfl
theorem inner_isV {b : Nat} (h : innerB (ab .f32 b) = true) : ∃ v, IsV .f32 (ab .f32 b) v ∧ 0 < v ∧ v ≤ (pw 148 : Int) := by
  unfold innerB at h
  rw [Bool.and_eq_true] at h
  rcases ab_cases .f32 b with h1 | ⟨s, h1, h2⟩ | ⟨v, hv⟩
  · rw [h1, ford_none_left] at h; simp at h
  · exfalso
    rw [h1] at h
    have e1 : ford .f32 (some b) (some 0) = (FloatKind.f32.format.read b).order (FloatKind.f32.format.read 0) := rfl
    have e2 : ford .f32 (some b) (some 1056964608) = (FloatKind.f32.format.read b).order (FloatKind.f32.format.read 1056964608) := rfl
    rw [e1, e2, h2] at h
    cases s
    · have := h.2; revert this; decide
    · have := h.1; revert this; decide
  · have h3 := gt_of_ford hv (isV_zero .f32) h.1
    have h4 := lt_of_ford hv isV_half32 h.2
    exact ⟨v, hv, h3, by omega⟩
theorem one_less {x : Option Nat} {v : Int} (hv : IsV .f32 x v) (h0 : 0 < v) (h1 : v ≤ (pw 148 : Int)) : ∃ u, IsV .f32 (fop .sub .f32 (some 1065353216) x) u ∧ (pw 148 : Int) ≤ u ∧ u ≤ (pw 149 : Int) := by
  have ho := isV_one32
  rw [unit32] at ho
  have e : pw 149 = 2 * pw 148 := pw_succ 148
  exact sub_within ho hv (rep_pw32 148 (by omega)) (rep_pw32 149 (by omega)) (by omega) (by omega)
theorem bars_pos {a b : Nat} (ha : innerB (ab .f32 a) = true) (hb : innerB (ab .f32 b) = true) :
    (ford .f32 (barLo (ab .f32 a) (ab .f32 b)) (some 0) = some .gt ∧ finite32 (barLo (ab .f32 a) (ab .f32 b)) = true) ∧ ford .f32 (barHi (ab .f32 a) (ab .f32 b)) (some 0) = some .gt := by
  obtain ⟨va, hva, a0, a1⟩ := inner_isV ha
  obtain ⟨vb, hvb, b0, b1⟩ := inner_isV hb
  obtain ⟨ua, hua, c0, c1⟩ := one_less hva a0 a1
  obtain ⟨ub, hub, d0, d1⟩ := one_less hvb b0 b1
  have p148 := pw_pos 148
  have p149 := pw_pos 149
  constructor
  · have hlo : ∃ v, IsV .f32 (barLo (ab .f32 a) (ab .f32 b)) v ∧ vb ≤ v ∧ v ≤ (pw 149 : Int) := by
      refine div_within hvb hua (by omega) hvb.rep (rep_pw32 149 (by omega)) ?_ ?_
      · rw [unit32]
        exact Int.mul_le_mul_of_nonneg_left c1 (by omega)
      · rw [unit32, Int.mul_comm]
        exact Int.mul_le_mul_of_nonneg_left (by omega) (by omega)
    obtain ⟨v, hv, h1, _⟩ := hlo
    exact ⟨ford_gt hv (isV_zero .f32) (by omega), fin32_of_isV hv⟩
  · refine div_pos32 hub hva a0 (rep_pw32 149 (by omega)) (by omega) ?_
    rw [unit32, Int.mul_comm]
    exact Int.mul_le_mul_of_nonneg_right (by omega) (by omega)
theorem bars_no {a b : Option Nat} (h : (innerB a && innerB b && finite32 (barHi a b)) = false) : barsM a b = (some 0, some 0, false) := by simp only [barsM, h]; rfl
theorem bars_yes {a b : Option Nat} (h : (innerB a && innerB b && finite32 (barHi a b)) = true) : barsM a b = (lg32 (barLo a b), lg32 (barHi a b), true) := by simp only [barsM, h]; rfl
end Go.Proofs.Ytkonlchholfpoaa
