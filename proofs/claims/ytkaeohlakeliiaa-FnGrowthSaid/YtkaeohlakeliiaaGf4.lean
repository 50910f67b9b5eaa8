/- Contracts: GrowthRate at the scale itself. -/
import Derived.Test.YtkaeohlakeliiaaGf3
import Derived.Test.YtkaeohlakeliiaaFp3
namespace Go.Proofs.Ytkaeohlakeliiaa
open Go.RowKit

theorem quo_self {b : Nat} {r : Rat} (h : RV .f32 (some b) r) (h0 : r ≠ 0) : fop .quo .f32 (some b) (some b) = some 1065353216 := by
  obtain ⟨v, hv, e⟩ := h
  obtain ⟨c, s, m, i, hc, he, _, hval⟩ := hv.read
  cases hc
  have hm : m ≠ 0 := by
    intro hm
    subst hm
    rw [signed_eq] at hval
    have hv0 : v = 0 := by rw [← hval]; cases s <;> simp
    subst hv0
    have hu := unit_pos .f32
    rw [show ((0 : Int) : Rat) = 0 from rfl] at e
    rcases Rat.mul_eq_zero.1 e.symm with h1 | h1
    · exact h0 h1
    · grind
  have hq : fop .quo .f32 (some b) (some b) = ((FloatKind.f32.format.read b).quotient (FloatKind.f32.format.fractionBits + 2) (FloatKind.f32.format.read b)).map FloatKind.f32.format.write := rfl
  rw [hq, he]
  simp only [Ieee.Datum.quotient, if_neg hm, Option.map_some, Bool.xor_self]
  have e1 : FloatKind.f32.format.fractionBits + 2 + m.log2 - m.log2 = 25 := by
    rw [show FloatKind.f32.format.fractionBits = 23 from rfl]; omega
  rw [e1, Nat.shiftLeft_eq, Nat.mul_div_cancel_left _ (by omega), Nat.mul_mod_right, Int.sub_self]
  decide
theorem rv_one32 : RV .f32 (some 1065353216) 1 := by
  have := rv_ofInt32 1 (by decide)
  rwa [show floatOfInt .f32 1 = 1065353216 from by decide] at this
theorem exP_zero {t : Option Nat} (ht : RV .f64 t 0) (j : Nat) (hj : j ≤ 12) : RV .f64 (exP t j) 1 := by
  induction j with
  | zero => exact rv_one64
  | succ j ih =>
    have hP := ih (by omega)
    have hk := cnt_one j (by omega)
    have hke := rv_k64 (12 - (j : Int)) (by omega)
    rw [exP_next]
    generalize hkk : ((12 - (j : Int) : Int) : Rat) = k at *
    have h1 := wn_mul ht hP
    rw [Rat.zero_mul] at h1
    have h1 := wn_same h1 (rv_z _)
    have h2 := wn_div h1 hke (by grind)
    rw [show (0 : Rat) / k = 0 by rw [Rat.div_def, Rat.zero_mul]] at h2
    have h2 := wn_same h2 (rv_z _)
    have h3 := wn_add rv_one64 h2
    rw [Rat.add_zero] at h3
    exact wn_same h3 rv_one64
theorem exp_zero {x : Option Nat} (hx : RV .f32 x 0) : RV .f32 (nar (exM (wid x))) 1 := by
  have h1 := wn_div (rv_wid hx) rv_c256 (by grind)
  rw [show (0 : Rat) / 256 = 0 by grind] at h1
  have ht := wn_same h1 (rv_z _)
  have hS : ∀ j, j ≤ 8 → RV .f64 (exS (exP (fop .quo .f64 (wid x) (some 4643211215818981376)) 12) j) 1 := by
    intro j
    induction j with
    | zero => intro _; exact exP_zero ht 12 (by omega)
    | succ j ih =>
      intro hj
      have h2 := wn_mul (ih (by omega)) (ih (by omega))
      rw [Rat.one_mul] at h2
      exact wn_same h2 rv_one64
  exact wn_same (wn_nar (hS 8 (by omega))) rv_one32
theorem lg_one : lg32 (some 1065353216) = some 0 := by decide +kernel
/-- Two results: a number near a value, a sign. -/
def RateRes (ρ : Rat) (w : World) (e : Ending) (w' : World) : Prop := ∃ r R, e = .returned (.tuple #[.float .f32 r, .bool true]) ∧ RV .f32 (ab .f32 r) R ∧ R ≤ ρ + (ρ / 8388608 + tiny) ∧ ρ ≤ R + (ρ / 8388608 + tiny) ∧ Below w.heap.size w w'
set_option maxRecDepth 100000 in
set_option maxHeartbeats 2000000 in
theorem implRate (sc sh : Nat) (s h : Rat) (hs : RV .f32 (ab .f32 sc) s) (hh : RV .f32 (ab .f32 sh) h) (s0 : 0 < s) (h0 : 0 < h) (h1 : h ≤ 1000) (hq : h / s ≤ 100000000000) (w : World) :
    Calls Try.prog 12 #[.float .f32 sc, .float .f32 sh, .float .f32 sc] w (RateRes (h / s) w) := by
  have HM := hid (show ([sc, sh, sc].all fun x => moreB (ab .f32 x)) = true by
    simp only [List.all_cons, List.all_nil, Bool.and_true, moreB]
    rw [show finite32 (ab .f32 sc) = true from hs.fin, show finite32 (ab .f32 sh) = true from hh.fin, rv_gt hs (rv_z .f32) s0, rv_gt hh (rv_z .f32) h0]; rfl)
  have HONE := hid (show fop .quo .f32 (ab .f32 sc) (ab .f32 sc) = some 1065353216 by
    obtain ⟨v, hv, e⟩ := hs
    obtain ⟨b, hb, h2⟩ := hv
    rw [hb]
    exact quo_self (r := s) ⟨v, ⟨b, rfl, h2⟩, e⟩ (by grind))
  have HG := hid (show ford .f32 (some 1065353216) (some 0) = some .gt by decide)
  have HF := hid (show finite32 (some 1065353216) = true by decide)
  obtain ⟨d, hd, -, -, d1, d2⟩ := near32 (wn_sub hh rv_one32) 1001 (by grind) (by grind) (by grind)
  have HZ := hid (show RV .f32 (fop .mul .f32 (fop .sub .f32 (ab .f32 sh) (some 1065353216)) (some 0)) 0 from by
    have h2 := wn_mul hd (rv_z .f32)
    rw [Rat.mul_zero] at h2
    exact wn_same h2 (rv_z _))
  have HE := hid (exp_up HZ.out (by grind) (by grind)).1
  have HE1 := hid (exp_zero HZ.out)
  have hq0 : 0 ≤ h / s := by
    have hqq := Rat.div_mul_cancel (a := h) (b := s) (by grind)
    exact Rat.le_of_mul_le_mul_right (c := s) (by rw [hqq]; grind) s0
  obtain ⟨g, hg, -, -, g1, g2⟩ := near32 (wn_div hh hs s0) (h / s) (by grind) (by grind) (by grind)
  have HR := hid (show RV .f32 (fop .mul .f32 (fop .quo .f32 (ab .f32 sh) (ab .f32 sc)) (nar (exM (wid (fop .mul .f32 (fop .sub .f32 (ab .f32 sh) (some 1065353216)) (some 0)))))) g from by
    have h2 := wn_mul hg HE1.out
    rw [Rat.mul_one] at h2
    exact wn_same h2 hg)
  have HL := hid lg_one
  clear hs hh hd hg
  go_enter Try.func12, Try.ntmps12
  go_wp2_with (first
    | (go_at_call 56; refine (areMore_any _ [sc, sh, sc] _ (rowAt_alloc _ _ [.float .f32 sc, .float .f32 sh, .float .f32 sc] (by simp [maxLen]))).mono ?_; rw [HM.out]; rintro e w' ⟨rfl, hb⟩; have hB : Below w.heap.size w w' := below_trans (by (repeat (first | (with_reducible assumption) | (with_reducible apply below_refl) | (with_reducible apply below_alloc1) | (with_reducible apply below_drewN1) | (with_reducible apply below_drew1)))) hb; have hC := (bcell hB).1; clear hb)
    | (go_at_call 55; have hR := hr.trans HONE.out; (refine (implLog_any r (by rw [hR]; exact HG.out) _).mono ?_); rintro e w' ⟨l, rfl, hlg, hb⟩; have hB := below_trans (show Below w.heap.size w _ by (repeat (first | (with_reducible assumption) | (with_reducible apply below_refl) | (with_reducible apply below_alloc1) | (with_reducible apply below_drewN1) | (with_reducible apply below_drew1)))) hb; have hl2 := (hlg.1 (by rw [hR]; exact HF.out)).1; rw [hR, HL.out] at hl2; clear hb hlg hR)
    | (go_at_call 57; have hA : ab .f32 r = fop .mul .f32 (fop .sub .f32 (ab .f32 sh) (some 1065353216)) (some 0) := (by simp only [*, ab_one32]); (refine (implExp_ok hA HE.out _).mono ?_); rintro e w' ⟨ev, rfl, hev, hb⟩; have hB := below_trans (show Below w.heap.size w _ by (repeat (first | (with_reducible assumption) | (with_reducible apply below_refl) | (with_reducible apply below_alloc1) | (with_reducible apply below_drewN1) | (with_reducible apply below_drew1)))) hb; clear hb)
    | (go_at_call 60; have hA2 : ab .f32 r = fop .mul .f32 (fop .quo .f32 (ab .f32 sh) (ab .f32 sc)) (nar (exM (wid (fop .mul .f32 (fop .sub .f32 (ab .f32 sh) (some 1065353216)) (some 0))))) := (by simp only [*]); (refine (ifFinite_yes r (by rw [hA2]; exact HR.out.fin) _).mono ?_); rintro e w' ⟨rfl, hb⟩; have hB := below_trans (show Below w.heap.size w _ by (repeat (first | (with_reducible assumption) | (with_reducible apply below_refl) | (with_reducible apply below_alloc1) | (with_reducible apply below_drewN1) | (with_reducible apply below_drew1)))) hb; clear hb)
    | (refine upon_float rfl ?_; intro r nn hr; go_simp))
  go_ret2
  exact ⟨_, g, rfl, by rw [hA2]; exact HR.out, g1, g2, by assumption⟩
end Go.Proofs.Ytkaeohlakeliiaa
