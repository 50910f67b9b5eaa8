/- The walk of laws.FnExactSequenceBars. -/
import Derived.Test.YtkonlchholfpoaaBars
namespace Go.Proofs.Ytkonlchholfpoaa
open Go.RowKit

set_option maxHeartbeats 400000 in
theorem isInner_any (x : Nat) (w : World) :
    Calls Try.prog 70 #[.float .f32 x, .float .f32 1056964608] w fun e w' => e = .returned (.bool (innerB (ab .f32 x))) ∧ Below w.heap.size w w' := by
  have hm : ab .f32 1056964608 = some 1056964608 := by decide
  unfold innerB
  cases h0 : (ford .f32 (ab .f32 x) (some 0) == some .gt)
  all_goals
    go_enter Try.func70, Try.ntmps70
    go_wp2
    go_ret
    exact ⟨rfl, below_refl _⟩
set_option maxHeartbeats 400000 in
theorem l06Risks_any (x y : Nat) (w : World) :
    Calls Try.prog 68 #[.float .f32 x, .float .f32 y] w fun e w' => e = .returned (.bool (innerB (ab .f32 x) && innerB (ab .f32 y))) ∧ Below w.heap.size w w' := by
  have hm : ab .f32 1056964608 = some 1056964608 := by decide
  unfold innerB
  cases h0 : (ford .f32 (ab .f32 x) (some 0) == some .gt)
  · go_enter Try.func68, Try.ntmps68
    go_wp2
    go_ret
    exact ⟨rfl, below_refl _⟩
  cases h1 : (ford .f32 (ab .f32 x) (some 1056964608) == some .lt)
  · go_enter Try.func68, Try.ntmps68
    go_wp2
    go_ret
    exact ⟨rfl, below_refl _⟩
  cases h2 : (ford .f32 (ab .f32 y) (some 0) == some .gt)
  all_goals
    go_enter Try.func68, Try.ntmps68
    go_wp2
    go_ret
    exact ⟨rfl, below_refl _⟩
theorem implLog_at {x : Nat} {a : Option Nat} (h : ab .f32 x = a) (hx : ford .f32 a (some 0) = some .gt) (w : World) :
    Calls Try.prog 71 #[.float .f32 x] w fun e w' => ∃ r, e = .returned (.float .f32 r) ∧ LgOk a r ∧ Below w.heap.size w w' := by
  subst h; exact implLog_any x hx w
theorem specLog_at {x : Nat} {a : Option Nat} (h : ab .f32 x = a) (hx : ford .f32 a (some 0) = some .gt) (w : World) :
    Calls Try.prog 86 #[.float .f32 x] w fun e w' => ∃ r, e = .returned (.float .f32 r) ∧ LgOk a r ∧ Below w.heap.size w w' := by
  subst h; exact specLog_any x hx w
theorem specFin_at2 (x : Nat) {r : Bool} (h : finite32 (ab .f32 x) = r) (w : World) :
    Calls Try.prog 61 #[.float .f32 x] w fun e w' => e = .returned (.bool r) ∧ Below w.heap.size w w' := h ▸ specFinite_any x w
theorem areFinite_2 (v : Value) (x y : Nat) {r : Bool} (h : (finite32 (ab .f32 x) && finite32 (ab .f32 y)) = r) (w : World) (hv : RowAt w v ([x, y].map (Value.float .f32))) :
    Calls Try.prog 72 #[v] w fun e w' => e = .returned (.bool r) ∧ Below w.heap.size w w' := by
  have : ([x, y].all fun b => finB (ab .f32 b)) = r := by rw [← h]; simp [finB]
  exact this ▸ areFinite_any v [x, y] w hv
set_option maxRecDepth 100000 in
set_option maxHeartbeats 800000 in
theorem implBars_any (a b : Nat) (w : World) : Calls Try.prog 37 #[.float .f32 a, .float .f32 b] w (Num2Ok (barsM (ab .f32 a) (ab .f32 b)) w) := by
  cases g1 : innerB (ab .f32 a)
  · have HM := hid (bars_no (a := ab .f32 a) (b := ab .f32 b) (by simp [g1]))
    have G1 := hid g1; clear g1
    go_enter Try.func37, Try.ntmps37
    go_wp2_with (first | (go_at_call 70; (with_reducible refine (isInner_any _ _).mono ?_); rw [G1.out]; rintro e w' ⟨rfl, hb⟩; have hB : Below w.heap.size w w' := below_trans (by (repeat (first | (with_reducible assumption) | (with_reducible apply below_refl) | (with_reducible apply below_alloc1) | (with_reducible apply below_drewN1) | (with_reducible apply below_drew1)))) hb; have hC := (bcell hB).1; clear hb))
    go_ret3
    exact num2Ok_no HM.out (by assumption)
  cases g2 : innerB (ab .f32 b)
  · have HM := hid (bars_no (a := ab .f32 a) (b := ab .f32 b) (by simp [g2]))
    have G1 := hid g1; have G2 := hid g2; clear g1 g2
    go_enter Try.func37, Try.ntmps37
    go_wp2_with (first | (go_at_call 70; (with_reducible refine (isInner_any _ _).mono ?_); (first | rw [G1.out] | rw [G2.out]); rintro e w' ⟨rfl, hb⟩; have hB : Below w.heap.size w w' := below_trans (by (repeat (first | (with_reducible assumption) | (with_reducible apply below_refl) | (with_reducible apply below_alloc1) | (with_reducible apply below_drewN1) | (with_reducible apply below_drew1)))) hb; have hC := (bcell hB).1; clear hb))
    go_ret3
    exact num2Ok_no HM.out (by assumption)
  have HP := hid (bars_pos g1 g2)
  have G1 := hid g1; have G2 := hid g2
  have HF := hid (show finite32 (barHi (ab .f32 a) (ab .f32 b)) = true → barsM (ab .f32 a) (ab .f32 b) = (lg32 (barLo (ab .f32 a) (ab .f32 b)), lg32 (barHi (ab .f32 a) (ab .f32 b)), true) from fun h => bars_yes (by simp [g1, g2, h]))
  have HG := hid (show finite32 (barHi (ab .f32 a) (ab .f32 b)) = false → barsM (ab .f32 a) (ab .f32 b) = (some 0, some 0, false) from fun h => bars_no (by simp [h]))
  clear g1 g2
  cases hfin : finite32 (barHi (ab .f32 a) (ab .f32 b))
  · have HM := hid (HG.out hfin)
    have HN := hid hfin; clear hfin
    go_enter Try.func37, Try.ntmps37
    go_wp2_with (first
      | (go_at_call 70; (with_reducible refine (isInner_any _ _).mono ?_); (first | rw [G1.out] | rw [G2.out]); rintro e w' ⟨rfl, hb⟩; have hB : Below w.heap.size w w' := below_trans (by (repeat (first | (with_reducible assumption) | (with_reducible apply below_refl) | (with_reducible apply below_alloc1) | (with_reducible apply below_drewN1) | (with_reducible apply below_drew1)))) hb; have hC := (bcell hB).1; clear hb)
      | (refine upon_float rfl ?_; intro r n hr; go_simp)
      | (go_at_call 71; (fail_if_success have := HLO); refine (implLog_at (a := barLo (ab .f32 a) (ab .f32 b)) (by (simp only [*, barLo, ab_one32]; done)) HP.out.1.1 _).mono ?_; rintro e w' ⟨lo, rfl, hlo, hb⟩; have hB : Below w.heap.size w w' := below_trans (by (repeat (first | (with_reducible assumption) | (with_reducible apply below_refl) | (with_reducible apply below_alloc1) | (with_reducible apply below_drewN1) | (with_reducible apply below_drew1)))) hb; have HLO := hid hlo; clear hb hlo)
      | (go_at_call 71; refine (implLog_at (a := barHi (ab .f32 a) (ab .f32 b)) (by (simp only [*, barHi, ab_one32]; done)) HP.out.2 _).mono ?_; rintro e w' ⟨hi, rfl, hhi, hb⟩; have hB : Below w.heap.size w w' := below_trans (by (repeat (first | (with_reducible assumption) | (with_reducible apply below_refl) | (with_reducible apply below_alloc1) | (with_reducible apply below_drewN1) | (with_reducible apply below_drew1)))) hb; have HHI := hid hhi; clear hb hhi)
      | (go_at_call 72; refine (areFinite_2 (r := false) _ _ _ (by rw [HHI.out.2 HN.out, Bool.and_false]) _ (rowAt_alloc _ _ [.float .f32 _, .float .f32 _] (by simp [maxLen]))).mono ?_; rintro e w' ⟨rfl, hb⟩; have hB : Below w.heap.size w w' := below_trans (by (repeat (first | (with_reducible assumption) | (with_reducible apply below_refl) | (with_reducible apply below_alloc1) | (with_reducible apply below_drewN1) | (with_reducible apply below_drew1)))) hb; have hC := (bcell hB).1; clear hb))
    go_ret3
    exact num2Ok_no HM.out (by (repeat (first | (with_reducible assumption) | (with_reducible apply below_refl) | (with_reducible apply below_alloc1) | (with_reducible apply below_drewN1) | (with_reducible apply below_drew1))))
  · have HM := hid (HF.out hfin)
    have HN := hid hfin; clear hfin
    go_enter Try.func37, Try.ntmps37
    go_wp2_with (first
      | (go_at_call 70; (with_reducible refine (isInner_any _ _).mono ?_); (first | rw [G1.out] | rw [G2.out]); rintro e w' ⟨rfl, hb⟩; have hB : Below w.heap.size w w' := below_trans (by (repeat (first | (with_reducible assumption) | (with_reducible apply below_refl) | (with_reducible apply below_alloc1) | (with_reducible apply below_drewN1) | (with_reducible apply below_drew1)))) hb; have hC := (bcell hB).1; clear hb)
      | (refine upon_float rfl ?_; intro r n hr; go_simp)
      | (go_at_call 71; (fail_if_success have := HLO); refine (implLog_at (a := barLo (ab .f32 a) (ab .f32 b)) (by (simp only [*, barLo, ab_one32]; done)) HP.out.1.1 _).mono ?_; rintro e w' ⟨lo, rfl, hlo, hb⟩; have hB : Below w.heap.size w w' := below_trans (by (repeat (first | (with_reducible assumption) | (with_reducible apply below_refl) | (with_reducible apply below_alloc1) | (with_reducible apply below_drewN1) | (with_reducible apply below_drew1)))) hb; have HLO := hid hlo; clear hb hlo)
      | (go_at_call 71; refine (implLog_at (a := barHi (ab .f32 a) (ab .f32 b)) (by (simp only [*, barHi, ab_one32]; done)) HP.out.2 _).mono ?_; rintro e w' ⟨hi, rfl, hhi, hb⟩; have hB : Below w.heap.size w w' := below_trans (by (repeat (first | (with_reducible assumption) | (with_reducible apply below_refl) | (with_reducible apply below_alloc1) | (with_reducible apply below_drewN1) | (with_reducible apply below_drew1)))) hb; have HHI := hid hhi; clear hb hhi)
      | (go_at_call 72; refine (areFinite_2 (r := true) _ _ _ (by rw [(HHI.out.1 HN.out).1, (HHI.out.1 HN.out).2, (HLO.out.1 HP.out.1.2).1, (HLO.out.1 HP.out.1.2).2]; rfl) _ (rowAt_alloc _ _ [.float .f32 _, .float .f32 _] (by simp [maxLen]))).mono ?_; rintro e w' ⟨rfl, hb⟩; have hB : Below w.heap.size w w' := below_trans (by (repeat (first | (with_reducible assumption) | (with_reducible apply below_refl) | (with_reducible apply below_alloc1) | (with_reducible apply below_drewN1) | (with_reducible apply below_drew1)))) hb; have hC := (bcell hB).1; clear hb))
    go_ret3
    exact ⟨_, _, by rw [HM.out]; rfl, by rw [HM.out]; exact (HLO.out.1 HP.out.1.2).1, by rw [HM.out]; exact (HHI.out.1 HN.out).1, by (repeat (first | (with_reducible assumption) | (with_reducible apply below_refl) | (with_reducible apply below_alloc1) | (with_reducible apply below_drewN1) | (with_reducible apply below_drew1)))⟩

set_option maxRecDepth 100000 in
set_option maxHeartbeats 800000 in
theorem l06Bars_any (a b : Nat) (g1 : innerB (ab .f32 a) = true) (g2 : innerB (ab .f32 b) = true) (w : World) :
    Calls Try.prog 69 #[.float .f32 a, .float .f32 b] w fun e w' => ∃ lo hi, e = .returned (.tuple #[.float .f32 lo, .float .f32 hi]) ∧ LgOk (barLo (ab .f32 a) (ab .f32 b)) lo ∧ LgOk (barHi (ab .f32 a) (ab .f32 b)) hi ∧ Below w.heap.size w w' := by
  have HP := hid (bars_pos g1 g2)
  clear g1 g2
  go_enter Try.func69, Try.ntmps69
  go_wp2_with (first
    | (refine upon_float rfl ?_; intro r n hr; go_simp)
    | (go_at_call 86; (fail_if_success have := HLO); refine (specLog_at (a := barLo (ab .f32 a) (ab .f32 b)) (by (simp only [*, barLo, ab_one32]; done)) HP.out.1.1 _).mono ?_; rintro e w' ⟨lo, rfl, hlo, hb⟩; have hB : Below w.heap.size w w' := below_trans (by (repeat (first | (with_reducible assumption) | (with_reducible apply below_refl) | (with_reducible apply below_alloc1) | (with_reducible apply below_drewN1) | (with_reducible apply below_drew1)))) hb; have HLO := hid hlo; clear hb hlo)
    | (go_at_call 86; refine (specLog_at (a := barHi (ab .f32 a) (ab .f32 b)) (by (simp only [*, barHi, ab_one32]; done)) HP.out.2 _).mono ?_; rintro e w' ⟨hi, rfl, hhi, hb⟩; have hB : Below w.heap.size w w' := below_trans (by (repeat (first | (with_reducible assumption) | (with_reducible apply below_refl) | (with_reducible apply below_alloc1) | (with_reducible apply below_drewN1) | (with_reducible apply below_drew1)))) hb; have HHI := hid hhi; clear hb hhi))
  go_ret2
  exact ⟨_, _, rfl, HLO.out, HHI.out, by (repeat (first | (with_reducible assumption) | (with_reducible apply below_refl) | (with_reducible apply below_alloc1) | (with_reducible apply below_drewN1) | (with_reducible apply below_drew1)))⟩
set_option maxRecDepth 100000 in
set_option maxHeartbeats 800000 in
theorem specBars_any (a b : Nat) (w : World) : Calls Try.prog 36 #[.float .f32 a, .float .f32 b] w (Num2Ok (barsM (ab .f32 a) (ab .f32 b)) w) := by
  cases g0 : (innerB (ab .f32 a) && innerB (ab .f32 b))
  · have HM := hid (bars_no (a := ab .f32 a) (b := ab .f32 b) (by simp [g0]))
    have G0 := hid g0; clear g0
    go_enter Try.func36, Try.ntmps36
    go_wp2_with (first | (go_at_call 68; (with_reducible refine (l06Risks_any _ _ _).mono ?_); rw [G0.out]; rintro e w' ⟨rfl, hb⟩; have hB : Below w.heap.size w w' := below_trans (by (repeat (first | (with_reducible assumption) | (with_reducible apply below_refl) | (with_reducible apply below_alloc1) | (with_reducible apply below_drewN1) | (with_reducible apply below_drew1)))) hb; have hC := (bcell hB).1; clear hb))
    go_ret3
    exact num2Ok_no HM.out (by assumption)
  have G0 := hid g0
  rw [Bool.and_eq_true] at g0
  have HP := hid (bars_pos g0.1 g0.2)
  have HQ := hid g0
  cases hfin : finite32 (barHi (ab .f32 a) (ab .f32 b))
  · have HM := hid (bars_no (a := ab .f32 a) (b := ab .f32 b) (by simp [hfin]))
    have HN := hid hfin; clear hfin g0
    go_enter Try.func36, Try.ntmps36
    go_wp2_with (first
      | (go_at_call 68; (with_reducible refine (l06Risks_any _ _ _).mono ?_); rw [G0.out]; rintro e w' ⟨rfl, hb⟩; have hB : Below w.heap.size w w' := below_trans (by (repeat (first | (with_reducible assumption) | (with_reducible apply below_refl) | (with_reducible apply below_alloc1) | (with_reducible apply below_drewN1) | (with_reducible apply below_drew1)))) hb; have hC := (bcell hB).1; clear hb)
      | (go_at_call 69; refine (l06Bars_any _ _ HQ.out.1 HQ.out.2 _).mono ?_; rintro e w' ⟨lo, hi, rfl, hlo, hhi, hb⟩; have hB : Below w.heap.size w w' := below_trans (by (repeat (first | (with_reducible assumption) | (with_reducible apply below_refl) | (with_reducible apply below_alloc1) | (with_reducible apply below_drewN1) | (with_reducible apply below_drew1)))) hb; have HLO := hid hlo; have HHI := hid hhi; clear hb hlo hhi)
      | (go_at_call 61; (fail_if_success have := HLF); refine (specFin_at2 (r := true) _ (by rw [(HLO.out.1 HP.out.1.2).1]; exact (HLO.out.1 HP.out.1.2).2) _).mono ?_; rintro e w' ⟨rfl, hb⟩; have hB : Below w.heap.size w w' := below_trans (by (repeat (first | (with_reducible assumption) | (with_reducible apply below_refl) | (with_reducible apply below_alloc1) | (with_reducible apply below_drewN1) | (with_reducible apply below_drew1)))) hb; have HLF := hid hb; clear hb)
      | (go_at_call 61; refine (specFin_at2 (r := false) _ (HHI.out.2 HN.out) _).mono ?_; rintro e w' ⟨rfl, hb⟩; have hB : Below w.heap.size w w' := below_trans (by (repeat (first | (with_reducible assumption) | (with_reducible apply below_refl) | (with_reducible apply below_alloc1) | (with_reducible apply below_drewN1) | (with_reducible apply below_drew1)))) hb; clear hb))
    go_ret3
    exact num2Ok_no HM.out (by (repeat (first | (with_reducible assumption) | (with_reducible apply below_refl) | (with_reducible apply below_alloc1) | (with_reducible apply below_drewN1) | (with_reducible apply below_drew1))))
  · have HM := hid (bars_yes (a := ab .f32 a) (b := ab .f32 b) (by simp [g0.1, g0.2, hfin]))
    have HN := hid hfin; clear hfin g0
    go_enter Try.func36, Try.ntmps36
    go_wp2_with (first
      | (go_at_call 68; (with_reducible refine (l06Risks_any _ _ _).mono ?_); rw [G0.out]; rintro e w' ⟨rfl, hb⟩; have hB : Below w.heap.size w w' := below_trans (by (repeat (first | (with_reducible assumption) | (with_reducible apply below_refl) | (with_reducible apply below_alloc1) | (with_reducible apply below_drewN1) | (with_reducible apply below_drew1)))) hb; have hC := (bcell hB).1; clear hb)
      | (go_at_call 69; refine (l06Bars_any _ _ HQ.out.1 HQ.out.2 _).mono ?_; rintro e w' ⟨lo, hi, rfl, hlo, hhi, hb⟩; have hB : Below w.heap.size w w' := below_trans (by (repeat (first | (with_reducible assumption) | (with_reducible apply below_refl) | (with_reducible apply below_alloc1) | (with_reducible apply below_drewN1) | (with_reducible apply below_drew1)))) hb; have HLO := hid hlo; have HHI := hid hhi; clear hb hlo hhi)
      | (go_at_call 61; (fail_if_success have := HLF); refine (specFin_at2 (r := true) _ (by rw [(HLO.out.1 HP.out.1.2).1]; exact (HLO.out.1 HP.out.1.2).2) _).mono ?_; rintro e w' ⟨rfl, hb⟩; have hB : Below w.heap.size w w' := below_trans (by (repeat (first | (with_reducible assumption) | (with_reducible apply below_refl) | (with_reducible apply below_alloc1) | (with_reducible apply below_drewN1) | (with_reducible apply below_drew1)))) hb; have HLF := hid hb; clear hb)
      | (go_at_call 61; refine (specFin_at2 (r := true) _ (by rw [(HHI.out.1 HN.out).1]; exact (HHI.out.1 HN.out).2) _).mono ?_; rintro e w' ⟨rfl, hb⟩; have hB : Below w.heap.size w w' := below_trans (by (repeat (first | (with_reducible assumption) | (with_reducible apply below_refl) | (with_reducible apply below_alloc1) | (with_reducible apply below_drewN1) | (with_reducible apply below_drew1)))) hb; clear hb))
    go_ret3
    exact ⟨_, _, by rw [HM.out]; rfl, by rw [HM.out]; exact (HLO.out.1 HP.out.1.2).1, by rw [HM.out]; exact (HHI.out.1 HN.out).1, by (repeat (first | (with_reducible assumption) | (with_reducible apply below_refl) | (with_reducible apply below_alloc1) | (with_reducible apply below_drewN1) | (with_reducible apply below_drew1)))⟩

set_option maxRecDepth 100000 in
set_option maxHeartbeats 800000 in
theorem walk_FnExactSequenceBars (a b : Nat) (w : World) (_ : a < 4294967296) (_ : b < 4294967296) :
    Calls Try.prog 10 #[.float .f32 a, .float .f32 b] w fun e w' => e = .returned (.bool true) ∧ Below w.heap.size w w' := by
  generalize hM : barsM (ab .f32 a) (ab .f32 b) = M
  have HM := hid hM; clear hM
  obtain ⟨M1, M2, M3⟩ := M
  go_enter Try.func10, Try.ntmps10
  go_wp2_with (first
    | (go_at_call 36; refine (specBars_any _ _ _).mono ?_; rw [HM.out]; rintro e w' ⟨x, y, rfl, hx, hy, hb⟩; have hB : Below w.heap.size w w' := below_trans (by (repeat (first | (with_reducible assumption) | (with_reducible apply below_refl) | (with_reducible apply below_alloc1) | (with_reducible apply below_drewN1) | (with_reducible apply below_drew1)))) hb; clear hb)
    | (go_at_call 37; refine (implBars_any _ _ _).mono ?_; rw [HM.out]; rintro e w' ⟨x, y, rfl, hx, hy, hb⟩; have hB : Below w.heap.size w w' := below_trans (by (repeat (first | (with_reducible assumption) | (with_reducible apply below_refl) | (with_reducible apply below_alloc1) | (with_reducible apply below_drewN1) | (with_reducible apply below_drew1)))) hb; clear hb)
    | (refine upon_widen rfl Try.underlying39 ?_; intro r n hr; go_simp)
    | (go_at_call 24; refine (sameFloat_yes _ _ (by simp only [*]) _).mono ?_; rintro e w' ⟨rfl, hb⟩; have hB : Below w.heap.size w w' := below_trans (by (repeat (first | (with_reducible assumption) | (with_reducible apply below_refl) | (with_reducible apply below_alloc1) | (with_reducible apply below_drewN1) | (with_reducible apply below_drew1)))) hb; have hC := (bcell hB).1; clear hb))
  go_ret
  exact ⟨rfl, by assumption⟩
end Go.Proofs.Ytkonlchholfpoaa
