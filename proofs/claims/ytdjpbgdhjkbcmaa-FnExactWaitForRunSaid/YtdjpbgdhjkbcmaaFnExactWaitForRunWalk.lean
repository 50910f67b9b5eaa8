/- The walk of laws.FnExactWaitForRun. -/
import Derived.Test.YtdjpbgdhjkbcmaaCom
import Derived.Test.YtdjpbgdhjkbcmaaInt
namespace Go.Proofs.Ytdjpbgdhjkbcmaa
open Go.RowKit

def waitN (s : Option Nat) : Nat → Option Nat
  | 0 => some 0
  | k + 1 => fop .quo .f32 (fop .add .f32 (waitN s k) (some 1065353216)) s
def waitM (s : Option Nat) (l : Int) : Option Nat × Bool := if shareB s && !(ford .f32 s (some 0) == some .eq) && inB l 1 32 then ifFin (waitN s l.toNat) else (some 0, false)
theorem waitM_no {s : Option Nat} {l : Int} (h : (shareB s && !(ford .f32 s (some 0) == some .eq) && inB l 1 32) = false) : waitM s l = (some 0, false) := by simp only [waitM, h]; rfl
theorem waitM_yes {s : Option Nat} {l : Int} (h : (shareB s && !(ford .f32 s (some 0) == some .eq) && inB l 1 32) = true) : waitM s l = ifFin (waitN s l.toNat) := by simp only [waitM, h]; rfl

set_option maxRecDepth 100000 in
set_option maxHeartbeats 400000 in
theorem implWait_any (s : Nat) (l : Int) (w : World) : Calls Try.prog 21 #[.float .f32 s, .int .i64 l] w (NumOk (waitM (ab .f32 s) l) w) := by
  cases h1 : shareB (ab .f32 s)
  · have HM := hid (waitM_no (s := ab .f32 s) (l := l) (by simp [h1]))
    go_enter Try.func21, Try.ntmps21
    go_wp2_with (go_at_call 45; refine (isShare_any _ _).mono ?_; rintro e w' ⟨rfl, hb⟩; have hB : Below w.heap.size w w' := below_trans (by (repeat (first | (with_reducible assumption) | (with_reducible apply below_refl) | (with_reducible apply below_alloc1) | (with_reducible apply below_drewN1) | (with_reducible apply below_drew1)))) hb; have hC := (bcell hB).1; clear hb)
    go_ret2
    exact numOk_no HM.out (by assumption)
  · cases h2 : (ford .f32 (ab .f32 s) (some 0) == some .eq)
    · cases h3 : inB l 1 32
      · have HM := hid (waitM_no (s := ab .f32 s) (l := l) (by simp [h3]))
        go_enter Try.func21, Try.ntmps21
        go_wp2_with (first | (go_at_call 45; refine (isShare_any _ _).mono ?_; rintro e w' ⟨rfl, hb⟩; have hB : Below w.heap.size w w' := below_trans (by (repeat (first | (with_reducible assumption) | (with_reducible apply below_refl) | (with_reducible apply below_alloc1) | (with_reducible apply below_drewN1) | (with_reducible apply below_drew1)))) hb; have hC := (bcell hB).1; clear hb) | (go_at_call 39; refine (within_any _ _ _ _).mono ?_; rintro e w' ⟨rfl, hb⟩; have hB : Below w.heap.size w w' := below_trans (by (repeat (first | (with_reducible assumption) | (with_reducible apply below_refl) | (with_reducible apply below_alloc1) | (with_reducible apply below_drewN1) | (with_reducible apply below_drew1)))) hb; have hC := (bcell hB).1; clear hb))
        go_ret2
        exact numOk_no HM.out (by assumption)
      · have HM := hid (waitM_yes (s := ab .f32 s) (l := l) (by simp [h1, h2, h3]))
        obtain ⟨b1, b2⟩ := inB_true h3
        obtain ⟨l, rfl⟩ := Int.eq_ofNat_of_zero_le (show 0 ≤ l by omega)
        go_enter Try.func21, Try.ntmps21
        go_wp2_with (first | (go_at_call 45; refine (isShare_any _ _).mono ?_; rintro e w' ⟨rfl, hb⟩; have hB : Below w.heap.size w w' := below_trans (by (repeat (first | (with_reducible assumption) | (with_reducible apply below_refl) | (with_reducible apply below_alloc1) | (with_reducible apply below_drewN1) | (with_reducible apply below_drew1)))) hb; have hC := (bcell hB).1; clear hb) | (go_at_call 39; refine (within_any _ _ _ _).mono ?_; rintro e w' ⟨rfl, hb⟩; have hB : Below w.heap.size w w' := below_trans (by (repeat (first | (with_reducible assumption) | (with_reducible apply below_refl) | (with_reducible apply below_alloc1) | (with_reducible apply below_drewN1) | (with_reducible apply below_drew1)))) hb; have hC := (bcell hB).1; clear hb))
        go_loopw [6, 20] (fun x i wr => ∃ k r : Nat, k ≤ l ∧ i = .int .i64 k ∧ x = .float .f32 r ∧ Hid (ab .f32 r = waitN (ab .f32 s) k) ∧ Below w.heap.size w wr) (fun _ i _ => l - (intOf i).toNat)
        case atStart => exact ⟨0, 0, Nat.zero_le _, rfl, rfl, hid ab_z32, by assumption⟩
        case round =>
          obtain ⟨k, r, hk, rfl, rfl, hx, hw⟩ := hrel
          by_cases hlt : k < l
          · go_wp2_with (first | (refine upon_float rfl ?_; intro r n hr; go_simp))
            go_roundw
            case rel => exact ⟨k + 1, _, by omega, by go_num, rfl, hid (by simp only [*, hx.out, waitN, ab_one32]), by (repeat (first | (with_reducible assumption) | (with_reducible apply below_refl) | (with_reducible apply below_alloc1) | (with_reducible apply below_drewN1) | (with_reducible apply below_drew1)))⟩
            case measure => simp [intOf]; omega
          · obtain rfl : k = l := by omega
            have hx' := hx.out
            go_wp2_with (go_at_call 46; refine (ifFinite_num _ _).mono ?_; rintro e w' ⟨r, rfl, hr, hb⟩; have hB : Below w.heap.size w w' := below_trans (by (repeat (first | (with_reducible assumption) | (with_reducible apply below_refl) | (with_reducible apply below_alloc1) | (with_reducible apply below_drewN1) | (with_reducible apply below_drew1)))) hb; have hC := (bcell hB).1; clear hb)
            go_ret2
            exact ⟨_, by rw [HM.out, Int.toNat_natCast]; rfl, by rw [HM.out, Int.toNat_natCast]; simp only [*], by assumption⟩
    · have HM := hid (waitM_no (s := ab .f32 s) (l := l) (by simp [h2]))
      go_enter Try.func21, Try.ntmps21
      go_wp2_with (first | (go_at_call 45; refine (isShare_any _ _).mono ?_; rintro e w' ⟨rfl, hb⟩; have hB : Below w.heap.size w w' := below_trans (by (repeat (first | (with_reducible assumption) | (with_reducible apply below_refl) | (with_reducible apply below_alloc1) | (with_reducible apply below_drewN1) | (with_reducible apply below_drew1)))) hb; have hC := (bcell hB).1; clear hb) | (go_at_call 39; refine (within_any _ _ _ _).mono ?_; rintro e w' ⟨rfl, hb⟩; have hB : Below w.heap.size w w' := below_trans (by (repeat (first | (with_reducible assumption) | (with_reducible apply below_refl) | (with_reducible apply below_alloc1) | (with_reducible apply below_drewN1) | (with_reducible apply below_drew1)))) hb; have hC := (bcell hB).1; clear hb))
      go_ret2
      exact numOk_no HM.out (by assumption)

set_option maxRecDepth 100000 in
set_option maxHeartbeats 400000 in
theorem specWait_any (s : Nat) (l : Int) (w : World) : Calls Try.prog 20 #[.float .f32 s, .int .i64 l] w (NumOk (waitM (ab .f32 s) l) w) := by
  cases h1 : shareB (ab .f32 s)
  · have HM := hid (waitM_no (s := ab .f32 s) (l := l) (by simp [h1]))
    go_enter Try.func20, Try.ntmps20
    go_wp2_with (go_at_call 43; refine (l02Share_any _ _).mono ?_; rintro e w' ⟨rfl, hb⟩; have hB : Below w.heap.size w w' := below_trans (by (repeat (first | (with_reducible assumption) | (with_reducible apply below_refl) | (with_reducible apply below_alloc1) | (with_reducible apply below_drewN1) | (with_reducible apply below_drew1)))) hb; have hC := (bcell hB).1; clear hb)
    go_ret2
    exact numOk_no HM.out (by assumption)
  · cases h2 : (ford .f32 (ab .f32 s) (some 0) == some .eq)
    · cases h3 : inB l 1 32
      · have HM := hid (waitM_no (s := ab .f32 s) (l := l) (by simp [h3]))
        go_enter Try.func20, Try.ntmps20
        go_wp2_with (first | (go_at_call 43; refine (l02Share_any _ _).mono ?_; rintro e w' ⟨rfl, hb⟩; have hB : Below w.heap.size w w' := below_trans (by (repeat (first | (with_reducible assumption) | (with_reducible apply below_refl) | (with_reducible apply below_alloc1) | (with_reducible apply below_drewN1) | (with_reducible apply below_drew1)))) hb; have hC := (bcell hB).1; clear hb) | (go_at_call 40; refine (l00In_any _ _ _ _).mono ?_; rintro e w' ⟨rfl, hb⟩; have hB : Below w.heap.size w w' := below_trans (by (repeat (first | (with_reducible assumption) | (with_reducible apply below_refl) | (with_reducible apply below_alloc1) | (with_reducible apply below_drewN1) | (with_reducible apply below_drew1)))) hb; have hC := (bcell hB).1; clear hb))
        go_ret2
        exact numOk_no HM.out (by assumption)
      · have HM := hid (waitM_yes (s := ab .f32 s) (l := l) (by simp [h1, h2, h3]))
        obtain ⟨b1, b2⟩ := inB_true h3
        obtain ⟨l, rfl⟩ := Int.eq_ofNat_of_zero_le (show 0 ≤ l by omega)
        go_enter Try.func20, Try.ntmps20
        go_wp2_with (first | (go_at_call 43; refine (l02Share_any _ _).mono ?_; rintro e w' ⟨rfl, hb⟩; have hB : Below w.heap.size w w' := below_trans (by (repeat (first | (with_reducible assumption) | (with_reducible apply below_refl) | (with_reducible apply below_alloc1) | (with_reducible apply below_drewN1) | (with_reducible apply below_drew1)))) hb; have hC := (bcell hB).1; clear hb) | (go_at_call 40; refine (l00In_any _ _ _ _).mono ?_; rintro e w' ⟨rfl, hb⟩; have hB : Below w.heap.size w w' := below_trans (by (repeat (first | (with_reducible assumption) | (with_reducible apply below_refl) | (with_reducible apply below_alloc1) | (with_reducible apply below_drewN1) | (with_reducible apply below_drew1)))) hb; have hC := (bcell hB).1; clear hb))
        go_loopw [6, 7] (fun x i wr => ∃ k r : Nat, k ≤ l ∧ i = .int .i64 k ∧ x = .float .f32 r ∧ Hid (ab .f32 r = waitN (ab .f32 s) k) ∧ Below w.heap.size w wr) (fun _ i _ => l - (intOf i).toNat)
        case atStart => exact ⟨0, 0, Nat.zero_le _, rfl, rfl, hid ab_z32, by assumption⟩
        case round =>
          obtain ⟨k, r, hk, rfl, rfl, hx, hw⟩ := hrel
          by_cases hlt : k < l
          · go_wp2_with (first | (refine upon_float rfl ?_; intro r n hr; go_simp))
            go_roundw
            case rel => exact ⟨k + 1, _, by omega, by go_num, rfl, hid (by simp only [*, hx.out, waitN, ab_one32]), by (repeat (first | (with_reducible assumption) | (with_reducible apply below_refl) | (with_reducible apply below_alloc1) | (with_reducible apply below_drewN1) | (with_reducible apply below_drew1)))⟩
            case measure => simp [intOf]; omega
          · obtain rfl : k = l := by omega
            have hx' := hx.out
            go_wp2_with (go_at_call 44; refine (l02Number_num _ _).mono ?_; rintro e w' ⟨r, rfl, hr, hb⟩; have hB : Below w.heap.size w w' := below_trans (by (repeat (first | (with_reducible assumption) | (with_reducible apply below_refl) | (with_reducible apply below_alloc1) | (with_reducible apply below_drewN1) | (with_reducible apply below_drew1)))) hb; have hC := (bcell hB).1; clear hb)
            go_ret2
            exact ⟨_, by rw [HM.out, Int.toNat_natCast]; rfl, by rw [HM.out, Int.toNat_natCast]; simp only [*], by assumption⟩
    · have HM := hid (waitM_no (s := ab .f32 s) (l := l) (by simp [h2]))
      go_enter Try.func20, Try.ntmps20
      go_wp2_with (first | (go_at_call 43; refine (l02Share_any _ _).mono ?_; rintro e w' ⟨rfl, hb⟩; have hB : Below w.heap.size w w' := below_trans (by (repeat (first | (with_reducible assumption) | (with_reducible apply below_refl) | (with_reducible apply below_alloc1) | (with_reducible apply below_drewN1) | (with_reducible apply below_drew1)))) hb; have hC := (bcell hB).1; clear hb) | (go_at_call 40; refine (l00In_any _ _ _ _).mono ?_; rintro e w' ⟨rfl, hb⟩; have hB : Below w.heap.size w w' := below_trans (by (repeat (first | (with_reducible assumption) | (with_reducible apply below_refl) | (with_reducible apply below_alloc1) | (with_reducible apply below_drewN1) | (with_reducible apply below_drew1)))) hb; have hC := (bcell hB).1; clear hb))
      go_ret2
      exact numOk_no HM.out (by assumption)

set_option maxRecDepth 100000 in
set_option maxHeartbeats 400000 in
theorem walk_FnExactWaitForRun (s : Nat) (l : Int) (w : World) (_ : s < 4294967296) (_ : -9223372036854775808 ≤ l ∧ l ≤ 9223372036854775807) :
    Calls Try.prog 6 #[.float .f32 s, .int .i64 l] w fun e w' => e = .returned (.bool true) ∧ Below w.heap.size w w' := by
  generalize hM : waitM (ab .f32 s) l = M
  have HM := hid hM; clear hM
  obtain ⟨M1, M2⟩ := M
  go_enter Try.func6, Try.ntmps6
  go_wp2_with (first
    | (go_at_call 20; refine (specWait_any _ _ _).mono ?_; rw [HM.out]; rintro e w' ⟨r, rfl, hr, hb⟩; have hB : Below w.heap.size w w' := below_trans (by (repeat (first | (with_reducible assumption) | (with_reducible apply below_refl) | (with_reducible apply below_alloc1) | (with_reducible apply below_drewN1) | (with_reducible apply below_drew1)))) hb; have hC := (bcell hB).1; clear hb)
    | (go_at_call 21; refine (implWait_any _ _ _).mono ?_; rw [HM.out]; rintro e w' ⟨r, rfl, hr, hb⟩; have hB : Below w.heap.size w w' := below_trans (by (repeat (first | (with_reducible assumption) | (with_reducible apply below_refl) | (with_reducible apply below_alloc1) | (with_reducible apply below_drewN1) | (with_reducible apply below_drew1)))) hb; have hC := (bcell hB).1; clear hb)
    | (refine upon_widen rfl Try.underlying37 ?_; intro r n hr; go_simp)
    | (go_at_call 22; refine (sameFloat_yes _ _ (by simp only [*]) _).mono ?_; rintro e w' ⟨rfl, hb⟩; have hB : Below w.heap.size w w' := below_trans (by (repeat (first | (with_reducible assumption) | (with_reducible apply below_refl) | (with_reducible apply below_alloc1) | (with_reducible apply below_drewN1) | (with_reducible apply below_drew1)))) hb; have hC := (bcell hB).1; clear hb))
  go_ret
  exact ⟨rfl, by assumption⟩
end Go.Proofs.Ytdjpbgdhjkbcmaa
