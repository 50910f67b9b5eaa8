/- Contracts: the logarithm of a float32 that is more than 0. -/
import Derived.Test.YtkgbbagklkffpaaLog2
namespace Go.Proofs.Ytkgbbagklkffpaa
open Go.RowKit

theorem mgr32_top : mgr FloatKind.f32.format FloatKind.f32.format.infRung = pw 277 := by
  have h := mgr_parts FloatKind.f32.format 254 8388608 (by decide) (fun _ => by decide)
  rw [show 254 * FloatKind.f32.format.binade + 8388608 = FloatKind.f32.format.infRung from by decide] at h
  have e : 8388608 * pw 254 = pw 277 := by
    rw [show (8388608 : Nat) = pw 23 from by decide]
    exact (pw_add 23 254).symm
  rw [← e]; exact h
theorem wid_rb {x : Option Nat} {v : Int} (h : IsV .f32 x v) (h0 : 0 < v) : Rb (wid x) 925 1202 := by
  obtain ⟨r, hr, hv⟩ := h.rep
  have h1 : mgr FloatKind.f32.format r ≤ pw 277 := by rw [← mgr32_top]; exact mgr_mono _ (by omega)
  have e1 : pw 277 * pw 925 = pw 1202 := (pw_add 277 925).symm
  have hp := pw_pos 925
  refine ⟨_, wid_isV h, ?_, ?_⟩
  · rw [w925_pw]
    have := Int.mul_le_mul_of_nonneg_right (show (1 : Int) ≤ v by omega) (show (0 : Int) ≤ (pw 925 : Int) by omega)
    omega
  · rw [w925_pw, ← e1, Int.natCast_mul]
    exact Int.mul_le_mul_of_nonneg_right (by omega) (by omega)
/-- The logarithm of a finite number that is more than 0. -/
def lg32 (x : Option Nat) : Option Nat := nar (lgM (wid x))
theorem lg32_fin {x : Option Nat} {v : Int} (h : IsV .f32 x v) (h0 : 0 < v) (hb : Pb (lgM (wid x)) 1163) : finite32 (lg32 x) = true := by
  obtain ⟨u, hu, h1⟩ := hb
  obtain ⟨w, hw⟩ := nar_pb hu (Nat.le_trans h1 (pw_le (by omega)))
  exact fin32_of_isV hw
/-- What is told of a logarithm: that of a finite number, and that of an infinity is not finite. -/
def LgOk (x : Option Nat) (r : Nat) : Prop := (finite32 x = true → ab .f32 r = lg32 x ∧ finite32 (lg32 x) = true) ∧ (finite32 x = false → finite32 (ab .f32 r) = false)

set_option maxRecDepth 100000 in
set_option maxHeartbeats 800000 in
theorem implLog_any (x : Nat) (hx : ford .f32 (ab .f32 x) (some 0) = some .gt) (w : World) :
    Calls Try.prog 50 #[.float .f32 x] w fun e w' => ∃ r, e = .returned (.float .f32 r) ∧ LgOk (ab .f32 x) r ∧ Below w.heap.size w w' := by
  cases hf : finite32 (ab .f32 x)
  · have HF := hid hf
    have hs : ford .f32 (ab .f32 x) (ab .f32 x) = some .eq := by
      cases hn : ab .f32 x with
      | none => rw [hn, ford_none_left] at hx; cases hx
      | some b =>
        obtain rfl := (ab_some hn).1
        exact ford_self hn
    clear hf
    go_enter Try.func50, Try.ntmps50
    go_wp2_with (first | (go_at_call 41; (with_reducible refine (implFinite_any _ _).mono ?_); rw [HF.out]; rintro e w' ⟨rfl, hb⟩; have hB : Below w.heap.size w w' := below_trans (by (repeat (first | (with_reducible assumption) | (with_reducible apply below_refl) | (with_reducible apply below_alloc1) | (with_reducible apply below_drewN1) | (with_reducible apply below_drew1)))) hb; have hC := (bcell hB).1; clear hb))
    go_ret
    exact ⟨_, rfl, ⟨fun h => (by rw [HF.out] at h; cases h), fun _ => HF.out⟩, by assumption⟩
  · obtain ⟨v, hv⟩ := isV_of_fin32 hf
    have hv0 : 0 < v := gt_of_ford hv (isV_zero .f32) (by rw [hx]; rfl)
    have hs : ford .f32 (ab .f32 x) (ab .f32 x) = some .eq := ford_eq hv hv rfl
    have HR := hid (wid_rb hv hv0)
    have HFF := hid (lg32_fin hv hv0)
    have HF := hid hf
    clear hf hv hv0
    go_enter Try.func50, Try.ntmps50
    go_wp2_with (first
      | (go_at_call 41; (with_reducible refine (implFinite_any _ _).mono ?_); rw [HF.out]; rintro e w' ⟨rfl, hb⟩; have hB : Below w.heap.size w w' := below_trans (by (repeat (first | (with_reducible assumption) | (with_reducible apply below_refl) | (with_reducible apply below_alloc1) | (with_reducible apply below_drewN1) | (with_reducible apply below_drew1)))) hb; have hC := (bcell hB).1; clear hb)
      | (refine upon_widen rfl Try.underlying34 ?_; intro r n hr; go_simp; have HW := hid hr; clear hr)
      | (go_at_call 54; refine (implLg_any _ (by rw [HW.out]; exact HR.out) _).mono ?_; rintro e w' ⟨q, rfl, hq, hpb, hb⟩; rw [HW.out] at hq hpb; have HQ := hid hq; have HB := hid hpb; have hW2 : Below w.heap.size w w' := below_trans (by (repeat (first | (with_reducible assumption) | (with_reducible apply below_refl) | (with_reducible apply below_alloc1) | (with_reducible apply below_drewN1) | (with_reducible apply below_drew1)))) hb; clear hq hpb hb)
      | (refine upon_narrow rfl Try.underlying24 (by rw [HQ.out]; exact HB.out.fits (by omega)) ?_; intro r n hr; go_simp))
    go_ret
    exact ⟨_, rfl, ⟨fun _ => ⟨by rw [hr, HQ.out]; rfl, HFF.out HB.out⟩, fun h => (by rw [HF.out] at h; cases h)⟩, by (repeat (first | (with_reducible assumption) | (with_reducible apply below_refl) | (with_reducible apply below_alloc1) | (with_reducible apply below_drewN1) | (with_reducible apply below_drew1)))⟩
theorem ford_gt_inf {x : Nat} (hx : ford .f32 (ab .f32 x) (some 0) = some .gt) (hf : finite32 (ab .f32 x) = false) : wid (ab .f32 x) = some 9218868437227405312 := by
  rcases ab_cases .f32 x with h | ⟨s, h1, h2⟩ | ⟨v, hv⟩
  · rw [h, ford_none_left] at hx; cases hx
  · rw [h1]
    show some (Ieee.double.write (Ieee.single.read x)) = _
    rw [show Ieee.single.read x = .infinity s from h2]
    cases s
    · decide
    · exfalso
      rw [h1] at hx
      have : (FloatKind.f32.format.read x).order (FloatKind.f32.format.read 0) = some .gt := hx
      rw [h2] at this
      revert this
      decide
  · rw [fin32_of_isV hv] at hf; cases hf
theorem fits_inf : Fits (some 9218868437227405312) := by
  intro v h
  obtain ⟨b, hb, h1, _⟩ := h
  cases hb
  exact absurd h1 (by decide)
end Go.Proofs.Ytkgbbagklkffpaa
