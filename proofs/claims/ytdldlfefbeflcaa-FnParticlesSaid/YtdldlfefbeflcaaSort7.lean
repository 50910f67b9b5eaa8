/- partitionEqualOrdered at float32. -/
import Derived.Test.YtdldlfefbeflcaaSort6
namespace Go.Proofs.Ytdldlfefbeflcaa
open Go.RowKit

def eUp (D : Array Nat) (a j i : Nat) : Nat := Sort.scanUp (fun x => !ltN D[a]! x) D j i
def eDn (D : Array Nat) (a i j : Nat) : Nat := Sort.scanDown (fun x => ltN D[a]! x) D i j
/-- What the two scans find. -/
theorem eq_scans (D : Array Nat) (a i j R S : Nat) (hij : i ≤ j + 1) (hR : eUp D a j i = R) (hS : eDn D a R j = S) : (i ≤ R ∧ R ≤ j + 1) ∧ (S ≤ j ∧ R ≤ S + 1) ∧ (∀ t, i ≤ t → t < R → ltN D[a]! D[t]! = false) ∧ (R ≤ j → ltN D[a]! D[R]! = true) ∧
    (∀ t, S < t → t ≤ j → ltN D[a]! D[t]! = true) ∧ (R ≤ S → 0 < S → ltN D[a]! D[S]! = false) := by
  unfold eUp at hR
  unfold eDn at hS
  obtain ⟨u1, u2, u3, u4⟩ := Sort.scanUp_spec (fun x => !ltN D[a]! x) D j _ i rfl
  obtain ⟨v1, v2, v3, v4⟩ := Sort.scanDown_spec (fun x => ltN D[a]! x) D R j
  rw [hR] at u1 u2 u3 u4
  rw [hS] at v1 v2 v3 v4
  exact ⟨⟨u1, u2 hij⟩, ⟨v1, v2 (u2 hij)⟩, fun t h1 h2 => by simpa using u3 t h1 h2, fun h => by simpa using u4 h, v3, v4⟩
theorem eq_ne {D : Array Nat} {a R S : Nat} (h1 : ltN D[a]! D[R]! = true) (h2 : ltN D[a]! D[S]! = false) : R ≠ S := fun e => by
  rw [e, h2] at h1
  exact Bool.noConfusion h1
theorem eq_eq (a i j R S : Nat) (D : Array Nat) (hR : eUp D a j i = R) (hS : eDn D a R j = S) : Sort.partEqLoop ltN a i j D = if R > S then (R, D) else Sort.partEqLoop ltN a (R + 1) (S - 1) (Sort.swp D R S) := by
  have h := Sort.partEqLoop_eq ltN a i j D
  unfold eUp at hR
  unfold eDn at hS
  rw [hR, hS] at h
  exact h
set_option maxRecDepth 100000 in
set_option maxHeartbeats 6400000 in
theorem partEq_any (lo g cap n a b pv : Nat) (d : Array Nat) (hav : a ≤ pv) (hvb : pv < b) (hb : b ≤ n) (_ : n ≤ 64) (w : World) (hlo : lo ≤ w.heap.size) (h : SRow 23 w lo g cap n d) :
    Calls Try.prog 65 #[.slice (some ⟨g, 0, none⟩) n cap, .int .i64 a, .int .i64 b, .int .i64 pv] w fun e w' => e = .returned (.int .i64 ((Sort.partitionEqual ltN d a b pv).1 : Nat)) ∧ SRow 23 w' lo g cap n (Sort.partitionEqual ltN d a b pv).2 ∧ Below lo w w' := by
  have HS := hid h
  have hcap := h.caps
  have q1 := hcap.1; have q2 := hcap.2
  unfold maxLen at q2
  have hg := h.lt.1
  clear hcap h
  have A1 : (a : Int) < (n : Int) := by omega
  have A2 : (pv : Int) < (n : Int) := by omega
  have W0 : IntKind.i64.wrap ((a : Int) + 1) = (a : Int) + 1 := by rw [IntKind.wrap_i64]; omega
  have W9 : IntKind.i64.wrap ((b : Int) - 1) = ((b - 1 : Nat) : Int) := by rw [IntKind.wrap_i64]; omega
  obtain ⟨x, y, c1, c2, f1, f2, p1, p2, ov, -, -, hsw⟩ := HS.out.pair (i := a) (j := pv) (by omega) (by omega)
  have HSW := hid ((hsw.out w (below_refl _)).below (below_drew _))
  generalize hW2 : ((w.setCell ⟨g, a, none⟩ (.float .f32 y)).setCell ⟨g, pv, none⟩ (.float .f32 x)).drew = w2 at HSW
  have HL2 : Below lo w w2 := by rw [← hW2]; exact (((Below.refl lo w).setCell hg _).setCell hg _).drew
  have hl2 := Nat.le_trans hlo HL2.size
  obtain ⟨D, hD⟩ : ∃ D, Sort.swp d a pv = D := ⟨_, rfl⟩
  rw [hD] at HSW
  have HD := hid hD
  clear hD hsw
  go_enter Try.func65, Try.ntmps65
  go_wp2_with fail
  go_big_region
  go_wp2_with (first | (with_reducible refine sWorld hW2 ?_; clear hW2))
  clear c1 c2 f1 f2 ov p1 p2
  have HPL := hid (show Sort.partEqLoop ltN a (a + 1) (b - 1) D = Sort.partitionEqual ltN d a b pv by rw [← HD.out]; rfl)
  go_loopw [9, 10] (fun i j wr => ∃ (I J : Nat) (D2 : Array Nat), a < I ∧ I ≤ J + 1 ∧ J < b ∧ a ≤ J ∧ i = .int .i64 I ∧ j = .int .i64 J ∧ Hid (Sort.partEqLoop ltN a I J D2 = Sort.partitionEqual ltN d a b pv) ∧ Hid (SRow 23 wr lo g cap n D2) ∧ Below lo w wr) (fun i j _ => (intOf j).toNat + 2 - (intOf i).toNat)
  case atStart => exact ⟨a + 1, b - 1, _, by omega, by omega, by omega, by omega, by first | rfl | go_num, by first | rfl | go_num, HPL, HSW, HL2⟩
  case round =>
    obtain ⟨I0, J0, D2, hI0, hIJ, hJ0, haJ, rfl, rfl, hP, hs6, hw6⟩ := hrel
    have hl6 := Nat.le_trans hlo hw6.size
    go_wp2_with fail
    obtain ⟨R2, hR2⟩ : ∃ R2, eUp D2 a J0 I0 = R2 := ⟨_, rfl⟩
    obtain ⟨S2, hS2⟩ : ∃ S2, eDn D2 a R2 J0 = S2 := ⟨_, rfl⟩
    obtain ⟨⟨r3, r4⟩, ⟨s3, s4⟩, hu, hue, hd1, hd2⟩ := eq_scans D2 a I0 J0 R2 S2 (by omega) hR2 hS2
    have hPE := hid (eq_eq a I0 J0 R2 S2 D2 hR2 hS2)
    have HU := hid hu
    have HUE := hid hue
    have HV := hid hd1
    have HVE := hid hd2
    clear hu hue hd1 hd2 hR2 hS2
    by_cases hA : R2 ≤ J0
    · have HUE2 := hid (HUE.out hA)
      by_cases hB : R2 ≤ S2
      · have HVE2 := hid (HVE.out hB (by omega))
        have hne := eq_ne HUE2.out HVE2.out
        go_loopw [9] (fun i wr => ∃ I : Nat, I0 ≤ I ∧ I ≤ R2 ∧ i = .int .i64 I ∧ Hid (SRow 23 wr lo g cap n D2) ∧ Below lo w wr) (fun i _ => R2 - (intOf i).toNat)
        case atStart => exact ⟨I0, Nat.le_refl _, by omega, by first | rfl | go_num, hid (hs6.out.below (by (repeat (first | (with_reducible assumption) | (with_reducible apply below_refl) | (with_reducible apply below_alloc1) | (with_reducible apply below_drewN1) | (with_reducible apply below_drew1))))), hw6.trans (Below.mono (show Below _ _ _ by (repeat (first | (with_reducible assumption) | (with_reducible apply below_refl) | (with_reducible apply below_alloc1) | (with_reducible apply below_drewN1) | (with_reducible apply below_drew1)))) hl6)⟩
        case round =>
          obtain ⟨I, h1, h2, rfl, hs, hw⟩ := hrel
          have hlow := Nat.le_trans hlo hw.size
          have z0 : (0 : Int) ≤ (I : Int) := by omega
          have an : (a : Int) < (n : Int) := by omega
          by_cases hlt : I < R2
          · have gi : (I : Int) ≤ (J0 : Int) := by omega
            have vn : (I : Int) < (n : Int) := by omega
            have W1 : IntKind.i64.wrap ((I : Int) + 1) = (I : Int) + 1 := by rw [IntKind.wrap_i64]; omega
            obtain ⟨x, y, c1, c2, f1, f2, p1, p2, ov, l1, l2, -⟩ := hs.out.pair (i := I) (j := a) (by omega) (by omega)
            have hd : decide (y < x) = false := by rw [← l2.out]; exact HU.out I (by omega) (by omega)
            go_wp2_with fail
            go_quiet ((go_at_call 64; exact quiet_at hd (sLess_any _ _ p2 p1 _)))
            go_wp2_with fail
            refine ⟨⟨I + 1, by omega, by omega, by first | rfl | go_num, hid (hs.out.below (by (repeat (first | (with_reducible assumption) | (with_reducible apply below_refl) | (with_reducible apply below_alloc1) | (with_reducible apply below_drewN1) | (with_reducible apply below_drew1))))), hw.trans (Below.mono (show Below wr.heap.size wr _ by (repeat (first | (with_reducible assumption) | (with_reducible apply below_refl) | (with_reducible apply below_alloc1) | (with_reducible apply below_drewN1) | (with_reducible apply below_drew1)))) hlow)⟩, by simp [intOf]; omega⟩
          · obtain rfl : R2 = I := by omega
            have gi : (R2 : Int) ≤ (J0 : Int) := by omega
            have vn : (R2 : Int) < (n : Int) := by omega
            obtain ⟨x, y, c1, c2, f1, f2, p1, p2, ov, l1, l2, -⟩ := hs.out.pair (i := R2) (j := a) (by omega) (by omega)
            have hd : decide (y < x) = true := by rw [← l2.out]; exact HUE2.out
            go_wp2_with fail
            go_quiet ((go_at_call 64; exact quiet_at hd (sLess_any _ _ p2 p1 _)))
            have hs7 := hid (hs.out.below (below_drewN wr nq))
            have hw7 : Below lo w (wr.drewN nq) := hw.trans (Below.mono (below_drewN wr nq) hlow)
            have hl7 := Nat.le_trans hlo hw7.size
            generalize wr.drewN nq = w7 at hs7 hw7 hl7 ⊢
            clear h1 h2 z0 an gi
            go_wp2_with fail
            go_loopw [10] (fun i wr => ∃ J : Nat, S2 ≤ J ∧ J ≤ J0 ∧ i = .int .i64 J ∧ Hid (SRow 23 wr lo g cap n D2) ∧ Below lo w wr) (fun i _ => (intOf i).toNat - S2)
            case atStart => exact ⟨J0, by omega, Nat.le_refl _, by first | rfl | go_num, hid (hs7.out.below (by (repeat (first | (with_reducible assumption) | (with_reducible apply below_refl) | (with_reducible apply below_alloc1) | (with_reducible apply below_drewN1) | (with_reducible apply below_drew1))))), hw7.trans (Below.mono (show Below _ _ _ by (repeat (first | (with_reducible assumption) | (with_reducible apply below_refl) | (with_reducible apply below_alloc1) | (with_reducible apply below_drewN1) | (with_reducible apply below_drew1)))) hl7)⟩
            case round =>
              obtain ⟨J, h1, h2, rfl, hs, hw⟩ := hrel
              have hlow := Nat.le_trans hlo hw.size
              have z0 : (0 : Int) ≤ (J : Int) := by omega
              have an : (a : Int) < (n : Int) := by omega
              by_cases hlt : S2 < J
              · have gi : (R2 : Int) ≤ (J : Int) := by omega
                have vn : (J : Int) < (n : Int) := by omega
                have W1 : IntKind.i64.wrap ((J : Int) - 1) = ((J - 1 : Nat) : Int) := by rw [IntKind.wrap_i64]; omega
                obtain ⟨x, y, c1, c2, f1, f2, p1, p2, ov, l1, l2, -⟩ := hs.out.pair (i := J) (j := a) (by omega) (by omega)
                have hd : decide (y < x) = true := by rw [← l2.out]; exact HV.out J (by omega) (by omega)
                go_wp2_with fail
                go_quiet ((go_at_call 64; exact quiet_at hd (sLess_any _ _ p2 p1 _)))
                go_wp2_with fail
                refine ⟨⟨J - 1, by omega, by omega, by first | rfl | go_num, hid (hs.out.below (by (repeat (first | (with_reducible assumption) | (with_reducible apply below_refl) | (with_reducible apply below_alloc1) | (with_reducible apply below_drewN1) | (with_reducible apply below_drew1))))), hw.trans (Below.mono (show Below wr.heap.size wr _ by (repeat (first | (with_reducible assumption) | (with_reducible apply below_refl) | (with_reducible apply below_alloc1) | (with_reducible apply below_drewN1) | (with_reducible apply below_drew1)))) hlow)⟩, by simp [intOf]; omega⟩
              · obtain rfl : S2 = J := by omega
                have gi : (R2 : Int) ≤ (S2 : Int) := by omega
                have vn : (S2 : Int) < (n : Int) := by omega
                obtain ⟨x, y, c1, c2, f1, f2, p1, p2, ov, l1, l2, -⟩ := hs.out.pair (i := S2) (j := a) (by omega) (by omega)
                have hd : decide (y < x) = false := by rw [← l2.out]; exact HVE2.out
                go_wp2_with fail
                go_quiet ((go_at_call 64; exact quiet_at hd (sLess_any _ _ p2 p1 _)))
                have hs8 := hid (hs.out.below (below_drewN wr nq))
                have hw8 : Below lo w (wr.drewN nq) := hw.trans (Below.mono (below_drewN wr nq) hlow)
                have hl8 := Nat.le_trans hlo hw8.size
                generalize wr.drewN nq = w8 at hs8 hw8 hl8 ⊢
                clear h1 h2 z0 an gi
                go_wp2_with fail
                have hgt : ¬ (S2 : Int) < (R2 : Int) := by omega
                have zs : (0 : Int) ≤ (S2 : Int) := by omega
                have zr : (0 : Int) ≤ (R2 : Int) := by omega
                have sn : (S2 : Int) < (n : Int) := by omega
                have rn : (R2 : Int) < (n : Int) := by omega
                have V1 : IntKind.i64.wrap ((R2 : Int) + 1) = (R2 : Int) + 1 := by rw [IntKind.wrap_i64]; omega
                have V2 : IntKind.i64.wrap ((S2 : Int) - 1) = ((S2 - 1 : Nat) : Int) := by rw [IntKind.wrap_i64]; omega
                go_wp2_with fail
                obtain ⟨x, y, c1, c2, f1, f2, p1, p2, ov, -, -, hsw⟩ := hs8.out.pair (i := R2) (j := S2) (by omega) (by omega)
                have hs9 := hid ((hsw.out w8 (below_refl _)).below (below_drew _))
                generalize hW9 : ((w8.setCell ⟨g, R2, none⟩ (.float .f32 y)).setCell ⟨g, S2, none⟩ (.float .f32 x)).drew = w9 at hs9
                have hw9 : Below lo w w9 := by rw [← hW9]; exact ((hw8.setCell hg _).setCell hg _).drew
                have hl9 := Nat.le_trans hlo hw9.size
                clear hsw
                go_big_region
                go_wp2_with (first | (with_reducible refine sWorld hW9 ?_; clear hW9))
                clear c1 c2 f1 f2 ov p1 p2
                refine ⟨⟨R2 + 1, S2 - 1, _, by omega, by omega, by omega, by omega, by first | rfl | go_num, by first | rfl | go_num, hid ?_, hs9, hw9⟩, by simp [intOf]; omega⟩
                rw [← hP.out, hPE.out, if_neg (show ¬ R2 > S2 by omega)]
      · skip
        go_loopw [9] (fun i wr => ∃ I : Nat, I0 ≤ I ∧ I ≤ R2 ∧ i = .int .i64 I ∧ Hid (SRow 23 wr lo g cap n D2) ∧ Below lo w wr) (fun i _ => R2 - (intOf i).toNat)
        case atStart => exact ⟨I0, Nat.le_refl _, by omega, by first | rfl | go_num, hid (hs6.out.below (by (repeat (first | (with_reducible assumption) | (with_reducible apply below_refl) | (with_reducible apply below_alloc1) | (with_reducible apply below_drewN1) | (with_reducible apply below_drew1))))), hw6.trans (Below.mono (show Below _ _ _ by (repeat (first | (with_reducible assumption) | (with_reducible apply below_refl) | (with_reducible apply below_alloc1) | (with_reducible apply below_drewN1) | (with_reducible apply below_drew1)))) hl6)⟩
        case round =>
          obtain ⟨I, h1, h2, rfl, hs, hw⟩ := hrel
          have hlow := Nat.le_trans hlo hw.size
          have z0 : (0 : Int) ≤ (I : Int) := by omega
          have an : (a : Int) < (n : Int) := by omega
          by_cases hlt : I < R2
          · have gi : (I : Int) ≤ (J0 : Int) := by omega
            have vn : (I : Int) < (n : Int) := by omega
            have W1 : IntKind.i64.wrap ((I : Int) + 1) = (I : Int) + 1 := by rw [IntKind.wrap_i64]; omega
            obtain ⟨x, y, c1, c2, f1, f2, p1, p2, ov, l1, l2, -⟩ := hs.out.pair (i := I) (j := a) (by omega) (by omega)
            have hd : decide (y < x) = false := by rw [← l2.out]; exact HU.out I (by omega) (by omega)
            go_wp2_with fail
            go_quiet ((go_at_call 64; exact quiet_at hd (sLess_any _ _ p2 p1 _)))
            go_wp2_with fail
            refine ⟨⟨I + 1, by omega, by omega, by first | rfl | go_num, hid (hs.out.below (by (repeat (first | (with_reducible assumption) | (with_reducible apply below_refl) | (with_reducible apply below_alloc1) | (with_reducible apply below_drewN1) | (with_reducible apply below_drew1))))), hw.trans (Below.mono (show Below wr.heap.size wr _ by (repeat (first | (with_reducible assumption) | (with_reducible apply below_refl) | (with_reducible apply below_alloc1) | (with_reducible apply below_drewN1) | (with_reducible apply below_drew1)))) hlow)⟩, by simp [intOf]; omega⟩
          · obtain rfl : R2 = I := by omega
            have gi : (R2 : Int) ≤ (J0 : Int) := by omega
            have vn : (R2 : Int) < (n : Int) := by omega
            obtain ⟨x, y, c1, c2, f1, f2, p1, p2, ov, l1, l2, -⟩ := hs.out.pair (i := R2) (j := a) (by omega) (by omega)
            have hd : decide (y < x) = true := by rw [← l2.out]; exact HUE2.out
            go_wp2_with fail
            go_quiet ((go_at_call 64; exact quiet_at hd (sLess_any _ _ p2 p1 _)))
            have hs7 := hid (hs.out.below (below_drewN wr nq))
            have hw7 : Below lo w (wr.drewN nq) := hw.trans (Below.mono (below_drewN wr nq) hlow)
            have hl7 := Nat.le_trans hlo hw7.size
            generalize wr.drewN nq = w7 at hs7 hw7 hl7 ⊢
            clear h1 h2 z0 an gi
            go_wp2_with fail
            go_loopw [10] (fun i wr => ∃ J : Nat, S2 ≤ J ∧ J ≤ J0 ∧ i = .int .i64 J ∧ Hid (SRow 23 wr lo g cap n D2) ∧ Below lo w wr) (fun i _ => (intOf i).toNat - S2)
            case atStart => exact ⟨J0, by omega, Nat.le_refl _, by first | rfl | go_num, hid (hs7.out.below (by (repeat (first | (with_reducible assumption) | (with_reducible apply below_refl) | (with_reducible apply below_alloc1) | (with_reducible apply below_drewN1) | (with_reducible apply below_drew1))))), hw7.trans (Below.mono (show Below _ _ _ by (repeat (first | (with_reducible assumption) | (with_reducible apply below_refl) | (with_reducible apply below_alloc1) | (with_reducible apply below_drewN1) | (with_reducible apply below_drew1)))) hl7)⟩
            case round =>
              obtain ⟨J, h1, h2, rfl, hs, hw⟩ := hrel
              have hlow := Nat.le_trans hlo hw.size
              have z0 : (0 : Int) ≤ (J : Int) := by omega
              have an : (a : Int) < (n : Int) := by omega
              by_cases hlt : S2 < J
              · have gi : (R2 : Int) ≤ (J : Int) := by omega
                have vn : (J : Int) < (n : Int) := by omega
                have W1 : IntKind.i64.wrap ((J : Int) - 1) = ((J - 1 : Nat) : Int) := by rw [IntKind.wrap_i64]; omega
                obtain ⟨x, y, c1, c2, f1, f2, p1, p2, ov, l1, l2, -⟩ := hs.out.pair (i := J) (j := a) (by omega) (by omega)
                have hd : decide (y < x) = true := by rw [← l2.out]; exact HV.out J (by omega) (by omega)
                go_wp2_with fail
                go_quiet ((go_at_call 64; exact quiet_at hd (sLess_any _ _ p2 p1 _)))
                go_wp2_with fail
                refine ⟨⟨J - 1, by omega, by omega, by first | rfl | go_num, hid (hs.out.below (by (repeat (first | (with_reducible assumption) | (with_reducible apply below_refl) | (with_reducible apply below_alloc1) | (with_reducible apply below_drewN1) | (with_reducible apply below_drew1))))), hw.trans (Below.mono (show Below wr.heap.size wr _ by (repeat (first | (with_reducible assumption) | (with_reducible apply below_refl) | (with_reducible apply below_alloc1) | (with_reducible apply below_drewN1) | (with_reducible apply below_drew1)))) hlow)⟩, by simp [intOf]; omega⟩
              · obtain rfl : S2 = J := by omega
                have gN : ¬ R2 ≤ S2 := by omega
                have gi : decide ((R2 : Int) ≤ (S2 : Int)) = false := by simp; omega
                go_wp2_with fail
                go_quiet (fail)
                have hs8 := hid (hs.out.below (below_drewN wr nq))
                have hw8 : Below lo w (wr.drewN nq) := hw.trans (Below.mono (below_drewN wr nq) hlow)
                have hl8 := Nat.le_trans hlo hw8.size
                generalize wr.drewN nq = w8 at hs8 hw8 hl8 ⊢
                clear h1 h2 z0 an gi
                go_wp2_with fail
                have hgt : (S2 : Int) < (R2 : Int) := by omega
                go_wp2_with fail
                go_ret
                have hP := hP.out
                rw [hPE.out, if_pos (show R2 > S2 by omega)] at hP
                rw [← hP]
                exact ⟨rfl, hs8.out, hw8⟩
    · skip
      go_loopw [9] (fun i wr => ∃ I : Nat, I0 ≤ I ∧ I ≤ R2 ∧ i = .int .i64 I ∧ Hid (SRow 23 wr lo g cap n D2) ∧ Below lo w wr) (fun i _ => R2 - (intOf i).toNat)
      case atStart => exact ⟨I0, Nat.le_refl _, by omega, by first | rfl | go_num, hid (hs6.out.below (by (repeat (first | (with_reducible assumption) | (with_reducible apply below_refl) | (with_reducible apply below_alloc1) | (with_reducible apply below_drewN1) | (with_reducible apply below_drew1))))), hw6.trans (Below.mono (show Below _ _ _ by (repeat (first | (with_reducible assumption) | (with_reducible apply below_refl) | (with_reducible apply below_alloc1) | (with_reducible apply below_drewN1) | (with_reducible apply below_drew1)))) hl6)⟩
      case round =>
        obtain ⟨I, h1, h2, rfl, hs, hw⟩ := hrel
        have hlow := Nat.le_trans hlo hw.size
        have z0 : (0 : Int) ≤ (I : Int) := by omega
        have an : (a : Int) < (n : Int) := by omega
        by_cases hlt : I < R2
        · have gi : (I : Int) ≤ (J0 : Int) := by omega
          have vn : (I : Int) < (n : Int) := by omega
          have W1 : IntKind.i64.wrap ((I : Int) + 1) = (I : Int) + 1 := by rw [IntKind.wrap_i64]; omega
          obtain ⟨x, y, c1, c2, f1, f2, p1, p2, ov, l1, l2, -⟩ := hs.out.pair (i := I) (j := a) (by omega) (by omega)
          have hd : decide (y < x) = false := by rw [← l2.out]; exact HU.out I (by omega) (by omega)
          go_wp2_with fail
          go_quiet ((go_at_call 64; exact quiet_at hd (sLess_any _ _ p2 p1 _)))
          go_wp2_with fail
          refine ⟨⟨I + 1, by omega, by omega, by first | rfl | go_num, hid (hs.out.below (by (repeat (first | (with_reducible assumption) | (with_reducible apply below_refl) | (with_reducible apply below_alloc1) | (with_reducible apply below_drewN1) | (with_reducible apply below_drew1))))), hw.trans (Below.mono (show Below wr.heap.size wr _ by (repeat (first | (with_reducible assumption) | (with_reducible apply below_refl) | (with_reducible apply below_alloc1) | (with_reducible apply below_drewN1) | (with_reducible apply below_drew1)))) hlow)⟩, by simp [intOf]; omega⟩
        · obtain rfl : R2 = I := by omega
          have gN : ¬ R2 ≤ J0 := by omega
          have gi : decide ((R2 : Int) ≤ (J0 : Int)) = false := by simp; omega
          go_wp2_with fail
          go_quiet (fail)
          have hs7 := hid (hs.out.below (below_drewN wr nq))
          have hw7 : Below lo w (wr.drewN nq) := hw.trans (Below.mono (below_drewN wr nq) hlow)
          have hl7 := Nat.le_trans hlo hw7.size
          generalize wr.drewN nq = w7 at hs7 hw7 hl7 ⊢
          clear h1 h2 z0 an gi
          go_wp2_with fail
          go_loopw [10] (fun i wr => ∃ J : Nat, S2 ≤ J ∧ J ≤ J0 ∧ i = .int .i64 J ∧ Hid (SRow 23 wr lo g cap n D2) ∧ Below lo w wr) (fun i _ => (intOf i).toNat - S2)
          case atStart => exact ⟨J0, by omega, Nat.le_refl _, by first | rfl | go_num, hid (hs7.out.below (by (repeat (first | (with_reducible assumption) | (with_reducible apply below_refl) | (with_reducible apply below_alloc1) | (with_reducible apply below_drewN1) | (with_reducible apply below_drew1))))), hw7.trans (Below.mono (show Below _ _ _ by (repeat (first | (with_reducible assumption) | (with_reducible apply below_refl) | (with_reducible apply below_alloc1) | (with_reducible apply below_drewN1) | (with_reducible apply below_drew1)))) hl7)⟩
          case round =>
            obtain ⟨J, h1, h2, rfl, hs, hw⟩ := hrel
            have hlow := Nat.le_trans hlo hw.size
            have z0 : (0 : Int) ≤ (J : Int) := by omega
            have an : (a : Int) < (n : Int) := by omega
            by_cases hlt : S2 < J
            · have gi : (R2 : Int) ≤ (J : Int) := by omega
              have vn : (J : Int) < (n : Int) := by omega
              have W1 : IntKind.i64.wrap ((J : Int) - 1) = ((J - 1 : Nat) : Int) := by rw [IntKind.wrap_i64]; omega
              obtain ⟨x, y, c1, c2, f1, f2, p1, p2, ov, l1, l2, -⟩ := hs.out.pair (i := J) (j := a) (by omega) (by omega)
              have hd : decide (y < x) = true := by rw [← l2.out]; exact HV.out J (by omega) (by omega)
              go_wp2_with fail
              go_quiet ((go_at_call 64; exact quiet_at hd (sLess_any _ _ p2 p1 _)))
              go_wp2_with fail
              refine ⟨⟨J - 1, by omega, by omega, by first | rfl | go_num, hid (hs.out.below (by (repeat (first | (with_reducible assumption) | (with_reducible apply below_refl) | (with_reducible apply below_alloc1) | (with_reducible apply below_drewN1) | (with_reducible apply below_drew1))))), hw.trans (Below.mono (show Below wr.heap.size wr _ by (repeat (first | (with_reducible assumption) | (with_reducible apply below_refl) | (with_reducible apply below_alloc1) | (with_reducible apply below_drewN1) | (with_reducible apply below_drew1)))) hlow)⟩, by simp [intOf]; omega⟩
            · obtain rfl : S2 = J := by omega
              have gN : ¬ R2 ≤ S2 := by omega
              have gi : decide ((R2 : Int) ≤ (S2 : Int)) = false := by simp; omega
              go_wp2_with fail
              go_quiet (fail)
              have hs8 := hid (hs.out.below (below_drewN wr nq))
              have hw8 : Below lo w (wr.drewN nq) := hw.trans (Below.mono (below_drewN wr nq) hlow)
              have hl8 := Nat.le_trans hlo hw8.size
              generalize wr.drewN nq = w8 at hs8 hw8 hl8 ⊢
              clear h1 h2 z0 an gi
              go_wp2_with fail
              have hgt : (S2 : Int) < (R2 : Int) := by omega
              go_wp2_with fail
              go_ret
              have hP := hP.out
              rw [hPE.out, if_pos (show R2 > S2 by omega)] at hP
              rw [← hP]
              exact ⟨rfl, hs8.out, hw8⟩
end Go.Proofs.Ytdldlfefbeflcaa
