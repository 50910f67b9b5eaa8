/- Contracts: StepAge. -/
import Derived.Test.YtkaeohlakeliiaaPath
import Derived.Test.YtkaeohlakeliiaaMin
namespace Go.Proofs.Ytkaeohlakeliiaa
open Go.RowKit

def ageEnd (ys : List Nat) (t : Option Nat) (k : Nat) : Option Nat := if k + 1 < ys.length then fmin t (ab .f32 (ys.getD (k + 1) 0)) else t
def ageEndS (ys : List Nat) (t : Option Nat) (k : Nat) : Option Nat := if k + 1 < ys.length ∧ ford .f32 (ab .f32 (ys.getD (k + 1) 0)) t = some .lt then ab .f32 (ys.getD (k + 1) 0) else t
def ageLong (ys : List Nat) (E : Nat → Option Nat) (k : Nat) : Option Nat := fop .sub .f32 (E k) (ab .f32 (ys.getD k 0))
def ageAt (xs ys : List Nat) (E : Nat → Option Nat) : Nat → Option Nat
  | 0 => some 0
  | k + 1 => if (ford .f32 (ageLong ys E k) (some 0) == some .gt) = true then fop .add .f32 (ageAt xs ys E k) (fop .mul .f32 (ab .f32 (xs.getD k 0)) (ageLong ys E k)) else ageAt xs ys E k
def ageOk (xs ys : List Nat) (t : Option Nat) : Bool :=
  decide (1 ≤ xs.length) && decide (xs.length ≤ 16) && decide (ys.length = xs.length) && (xs.all fun b => notLessB (ab .f32 b)) && (ys.all fun b => finB (ab .f32 b)) && (ford .f32 (ab .f32 (ys.getD 0 0)) (some 0) == some .eq) && riseB ys && notLessB t
def ageM (xs ys : List Nat) (t : Option Nat) : Option Nat × Bool := if ageOk xs ys t then ifFin (ageAt xs ys (ageEnd ys t) xs.length) else (some 0, false)
theorem age_no {xs ys : List Nat} {t : Option Nat} (h : ageOk xs ys t = false) : ageM xs ys t = (some 0, false) := by simp [ageM, h]
theorem age_yes {xs ys : List Nat} {t : Option Nat} (h : ageOk xs ys t = true) : ageM xs ys t = ifFin (ageAt xs ys (ageEnd ys t) xs.length) := by simp [ageM, h]
theorem age_step_yes {xs ys : List Nat} {E : Nat → Option Nat} {k : Nat} (h : (ford .f32 (ageLong ys E k) (some 0) == some .gt) = true) : ageAt xs ys E (k + 1) = fop .add .f32 (ageAt xs ys E k) (fop .mul .f32 (ab .f32 (xs.getD k 0)) (ageLong ys E k)) := by rw [ageAt, if_pos h]
theorem age_step_no {xs ys : List Nat} {E : Nat → Option Nat} {k : Nat} (h : (ford .f32 (ageLong ys E k) (some 0) == some .gt) = false) : ageAt xs ys E (k + 1) = ageAt xs ys E k := by rw [ageAt, if_neg (by simp [h])]

theorem age_pos {xs ys : List Nat} {t : Option Nat} (h : ageOk xs ys t = true) : ∀ k, k + 1 < ys.length → ∃ v, IsV .f32 (ab .f32 (ys.getD (k + 1) 0)) v ∧ 0 < v := by
  simp only [ageOk, Bool.and_eq_true, decide_eq_true_eq, List.all_eq_true] at h
  obtain ⟨⟨⟨⟨⟨⟨⟨h1, h2⟩, h3⟩, h4⟩, h5⟩, h6⟩, h7⟩, h8⟩ := h
  have hf : ∀ k, k < ys.length → ∃ v, IsV .f32 (ab .f32 (ys.getD k 0)) v := fun k hk => by
    rw [getD_at ys k hk]; exact isV_of_fin32 (h5 _ (List.getElem_mem hk))
  have hr : ∀ k, k + 1 < ys.length → riseAt ys k = true := fun k hk => by
    unfold riseB at h7; rw [List.all_eq_true] at h7
    exact h7 k (List.mem_range.2 (by omega))
  intro k
  induction k with
  | zero =>
    intro hk
    obtain ⟨v, hv⟩ := hf 1 hk
    obtain ⟨u, hu⟩ := hf 0 (by omega)
    have hu0 : u = 0 := by
      have h := ford_val hu (isV_zero .f32)
      have h6' : ford .f32 (ab .f32 (ys.getD 0 0)) (some 0) = some .eq := by simpa using h6
      rw [h6'] at h
      exact Int.compare_eq_eq.1 (Option.some.inj h).symm
    have := gt_of_ford hv hu (hr 0 hk)
    exact ⟨v, hv, by omega⟩
  | succ k ih =>
    intro hk
    obtain ⟨v, hv⟩ := hf (k + 1 + 1) hk
    obtain ⟨u, hu, hu0⟩ := ih (by omega)
    have := gt_of_ford hv hu (hr (k + 1) hk)
    exact ⟨v, hv, by omega⟩

theorem age_long {xs ys : List Nat} {t : Option Nat} (h : ageOk xs ys t = true) (k : Nat) : ageLong ys (ageEnd ys t) k = ageLong ys (ageEndS ys t) k := by
  have hp := age_pos h k
  have ht : ∃ b v, IsV .f32 t v ∧ ab .f32 b = t := by
    simp only [ageOk, Bool.and_eq_true] at h
    have h8 : notLessB t = true := h.2
    cases t with
    | none => simp [notLessB, finite32, fin, fop_none_left, ford_none_left] at h8
    | some b =>
      have hb : ab .f32 b = some b := by
        cases hb : ab .f32 b with
        | none =>
          exfalso
          have : fop .sub .f32 (some b) (some b) = none := by
            show floatBits .sub .f32 b b = none
            rw [← fop_bits, hb]; rfl
          simp [notLessB, finite32, fin, this, ford_none_left] at h8
        | some c => rw [(ab_some hb).1]
      rw [← hb] at h8
      obtain ⟨v, hv, _⟩ := notLess_isV h8
      rw [hb] at hv
      exact ⟨b, v, hv, hb⟩
  unfold ageLong
  by_cases hk : k + 1 < ys.length
  · obtain ⟨v, hv, hv0⟩ := hp hk
    obtain ⟨_, u, hu, _⟩ := ht
    have e1 := ford_val hu hv
    have e2 := ford_val hv hu
    simp only [ageEnd, ageEndS, if_pos hk, fmin, e1, e2]
    rcases Int.lt_trichotomy u v with hc | hc | hc
    · rw [Int.compare_eq_lt.2 hc, Int.compare_eq_gt.2 hc]
      simp
    · rw [Int.compare_eq_eq.2 hc, Int.compare_eq_eq.2 hc.symm]
      simp only [reduceCtorEq, Option.some.injEq, and_false, if_false]
      split
      · rfl
      · exact fop_same .sub hv (hc ▸ hu) (by omega) _
    · rw [Int.compare_eq_gt.2 hc, Int.compare_eq_lt.2 hc]
      simp [hk]
  · simp [ageEnd, ageEndS, hk]

theorem age_same {xs ys : List Nat} {t : Option Nat} (h : ageOk xs ys t = true) (k : Nat) : ageAt xs ys (ageEnd ys t) k = ageAt xs ys (ageEndS ys t) k := by
  induction k with
  | zero => rfl
  | succ k ih => simp only [ageAt, ih, age_long h k]

theorem age_parts {xs ys : List Nat} {t : Option Nat} (h : ageOk xs ys t = true) : 1 ≤ xs.length ∧ xs.length ≤ 16 ∧ ys.length = xs.length := by
  simp only [ageOk, Bool.and_eq_true, decide_eq_true_eq] at h
  exact ⟨h.1.1.1.1.1.1.1, h.1.1.1.1.1.1.2, h.1.1.1.1.1.2⟩
/-- What a walk reads of rows at a place. -/
theorem ageEnd_in {xs : List Nat} {t : Option Nat} {k : Nat} (h : k + 1 < xs.length) : ageEnd xs t k = fmin t (ab .f32 xs[k + 1]) := by rw [ageEnd, if_pos h, getD_at xs (k + 1) h]
theorem ageEnd_out {xs : List Nat} {t : Option Nat} {k : Nat} (h : ¬ k + 1 < xs.length) : ageEnd xs t k = t := by rw [ageEnd, if_neg h]
theorem ageEndS_in {xs : List Nat} {t : Option Nat} {k : Nat} (h : k + 1 < xs.length) (hl : (ford .f32 (ab .f32 xs[k + 1]) t == some .lt) = true) : ageEndS xs t k = ab .f32 xs[k + 1] := by rw [ageEndS, getD_at xs (k + 1) h, if_pos ⟨h, by simpa using hl⟩]
theorem ageEndS_no {xs : List Nat} {t : Option Nat} {k : Nat} (h : k + 1 < xs.length) (hl : (ford .f32 (ab .f32 xs[k + 1]) t == some .lt) = false) : ageEndS xs t k = t := by rw [ageEndS, getD_at xs (k + 1) h, if_neg (by rintro ⟨_, e⟩; simp [e] at hl)]
theorem ageEndS_out {xs : List Nat} {t : Option Nat} {k : Nat} (h : ¬ k + 1 < xs.length) : ageEndS xs t k = t := by rw [ageEndS, if_neg (fun q => h q.1)]
theorem ageLong_at {ys : List Nat} {E : Nat → Option Nat} {k : Nat} {e : Option Nat} (h : k < ys.length) (he : E k = e) : ageLong ys E k = fop .sub .f32 e (ab .f32 ys[k]) := by rw [ageLong, he, getD_at ys k h]
end Go.Proofs.Ytkaeohlakeliiaa
