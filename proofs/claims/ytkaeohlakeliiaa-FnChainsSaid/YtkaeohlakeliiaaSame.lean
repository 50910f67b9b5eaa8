/- Numbers that are the same. -/
import Derived.Test.YtkaeohlakeliiaaMin
import Derived.Test.YtkaeohlakeliiaaMag3
import Derived.Test.YtkaeohlakeliiaaCom
namespace Go.Proofs.Ytkaeohlakeliiaa
open Go.RowKit

def sgn (b : Nat) : Bool := b / 2147483648 % 2 == 1
def dneg : Ieee.Datum → Bool
  | .number s _ _ => s
  | .infinity s => s
  | .nan s _ => s
theorem write_parts (d : Ieee.Datum) (h : d.isNaN = false) : ∃ q, q ≤ Ieee.double.infRung ∧ Ieee.double.write d = Ieee.double.word (dneg d) q := by
  cases d with
  | number s m p =>
    by_cases h0 : m = 0
    · exact ⟨0, Nat.zero_le _, by simp [Ieee.Format.write, Ieee.Format.nearest, h0, dneg]⟩
    · refine ⟨_, ?_, by simp only [Ieee.Format.write, Ieee.Format.nearest]; rw [if_neg h0]; rfl⟩
      exact Nat.min_le_right _ _
  | infinity s => exact ⟨_, Nat.le_refl _, rfl⟩
  | nan s f => simp [Ieee.Datum.isNaN] at h
theorem read_neg (b : Nat) : dneg (Ieee.single.read b) = sgn b := by
  unfold Ieee.Format.read sgn
  simp only [show Ieee.Format.signWeight Ieee.single = 2147483648 from by decide]
  split
  · rfl
  · split
    · rfl
    · split <;> rfl
theorem wsgn {b : Nat} (h : ab .f32 b = some b) : Ieee.double.write (Ieee.single.read b) < 18446744073709551616 ∧ (Ieee.double.write (Ieee.single.read b) / 9223372036854775808 % 2 == 1) = sgn b := by
  have hn : (Ieee.single.read b).isNaN = false := (ab_some h).2
  obtain ⟨q, hq, he⟩ := write_parts _ hn
  have c1 : Ieee.Format.infRung Ieee.double = 9218868437227405312 := by decide
  have c2 : Ieee.Format.signWeight Ieee.double = 9223372036854775808 := by decide
  rw [he, read_neg b]
  generalize sgn b = neg
  rw [c1] at hq
  unfold Ieee.Format.word
  rw [c2]
  cases neg
  · simp only [Bool.false_eq_true, if_false]
    refine ⟨by omega, ?_⟩
    have : q / 9223372036854775808 = 0 := by omega
    rw [this]; rfl
  · simp only [if_true]
    refine ⟨by omega, ?_⟩
    have : (9223372036854775808 + q) / 9223372036854775808 = 1 := by omega
    rw [this]; rfl
theorem single_inf {b : Nat} {s : Bool} (hb : b < 4294967296) (h : Ieee.single.read b = .infinity s) : b = 2139095040 + (if s then 2147483648 else 0) := by
  unfold Ieee.Format.read at h
  have c0 : Ieee.Format.signWeight Ieee.single = 2147483648 := by decide
  have c1 : Ieee.Format.infRung Ieee.single = 2139095040 := by decide
  simp only [c0, c1] at h
  split at h
  · cases h
  · split at h
    · cases h
    · split at h
      · rename_i h2
        cases h
        by_cases hs : b / 2147483648 % 2 = 1
        · simp [hs]; omega
        · simp [hs]; omega
      · cases h
theorem same_law {a b : Nat} (ha : a < 4294967296) (hb : b < 4294967296) (na : ab .f32 a = some a) (nb : ab .f32 b = some b) : ((ford .f32 (some a) (some b) == some .eq) && (sgn a == sgn b)) = decide (a = b) := by
  by_cases hab : a = b
  · subst hab
    rw [ford_self na]
    simp
  · rw [decide_eq_false hab]
    by_cases ho : ford .f32 (some a) (some b) = some .eq
    rotate_left
    · rw [show (ford .f32 (some a) (some b) == some .eq) = false by simpa using ho]; rfl
    rw [ho]
    have hso : (Ieee.single.read a).order (Ieee.single.read b) = some .eq := ho
    show (true && (sgn a == sgn b)) = false
    rw [Bool.true_and]
    by_cases hs : sgn a = sgn b
    rotate_left
    · simpa using hs
    exfalso
    apply hab
    rcases ab_cases .f32 a with h1 | ⟨s, _, h1⟩ | ⟨v, h1⟩
    · rw [na] at h1; cases h1
    · rcases ab_cases .f32 b with h2 | ⟨t, _, h2⟩ | ⟨v2, h2⟩
      · rw [nb] at h2; cases h2
      · have h1' : Ieee.single.read a = .infinity s := h1
        have h2' : Ieee.single.read b = .infinity t := h2
        rw [h1', h2'] at hso
        have e1 := single_inf ha h1'
        have e2 := single_inf hb h2'
        cases s <;> cases t <;> simp [Ieee.Datum.order] at hso <;> simp at e1 e2 <;> omega
      · have h1' : Ieee.single.read a = .infinity s := h1
        obtain ⟨b', s2, m, i, hb', hr, _⟩ := h2.read
        rw [nb] at hb'
        cases hb'
        have h2' : Ieee.single.read b = .number s2 m i := hr
        rw [h1', h2'] at hso
        cases s <;> simp [Ieee.Datum.order] at hso
    · rcases ab_cases .f32 b with h2 | ⟨t, _, h2⟩ | ⟨v2, h2⟩
      · rw [nb] at h2; cases h2
      · have h2' : Ieee.single.read b = .infinity t := h2
        obtain ⟨b', s2, m, i, hb', hr, _⟩ := h1.read
        rw [na] at hb'
        cases hb'
        have h1' : Ieee.single.read a = .number s2 m i := hr
        rw [h1', h2'] at hso
        cases t <;> simp [Ieee.Datum.order] at hso
      · rw [na] at h1
        rw [nb] at h2
        have hv := ford_val h1 h2
        rw [ho] at hv
        have hv' : v = v2 := Int.compare_eq_eq.1 (Option.some.inj hv).symm
        obtain ⟨a', e1, l1, f1⟩ := h1
        obtain ⟨b', e2, l2, f2⟩ := h2
        cases e1
        cases e2
        rw [← hv', ← f1] at f2
        unfold fv at f2
        have c0 : Ieee.Format.signWeight FloatKind.f32.format = 2147483648 := by decide
        rw [c0] at f2
        unfold sgn at hs
        have hm : mgr FloatKind.f32.format (a % 2147483648) = mgr FloatKind.f32.format (b % 2147483648) := by
          cases g1 : (a / 2147483648 % 2 == 1)
          · rw [g1] at hs f2
            rw [← hs] at f2
            simp at f2
            omega
          · rw [g1] at hs f2
            rw [← hs] at f2
            simp at f2
            omega
        have h3 := mgr_inj _ hm
        have h4 : a / 2147483648 % 2 = b / 2147483648 % 2 := by
          cases g1 : (a / 2147483648 % 2 == 1) <;> rw [g1] at hs <;> simp at g1 hs <;> omega
        omega
end Go.Proofs.Ytkaeohlakeliiaa
