/- partitionOrdered at float32. -/
import Derived.Test.YtdldlfefbeflcaaSort5
namespace Go.Proofs.Ytdldlfefbeflcaa
open Go.RowKit

def pUp (D : Array Nat) (a j i : Nat) : Nat := Sort.scanUp (fun x => ltN x D[a]!) D j i
def pDn (D : Array Nat) (a i j : Nat) : Nat := Sort.scanDown (fun x => !ltN x D[a]!) D i j
/-- What the two scans find. -/
theorem part_scans (D : Array Nat) (a i j R S : Nat) (hij : i ≤ j + 1) (hR : pUp D a j i = R) (hS : pDn D a R j = S) : (i ≤ R ∧ R ≤ j + 1) ∧ (S ≤ j ∧ R ≤ S + 1) ∧ (∀ t, i ≤ t → t < R → ltN D[t]! D[a]! = true) ∧ (R ≤ j → ltN D[R]! D[a]! = false) ∧
    (∀ t, S < t → t ≤ j → ltN D[t]! D[a]! = false) ∧ (R ≤ S → 0 < S → ltN D[S]! D[a]! = true) := by
  unfold pUp at hR
  unfold pDn at hS
  obtain ⟨u1, u2, u3, u4⟩ := Sort.scanUp_spec (fun x => ltN x D[a]!) D j _ i rfl
  obtain ⟨v1, v2, v3, v4⟩ := Sort.scanDown_spec (fun x => !ltN x D[a]!) D R j
  rw [hR] at u1 u2 u3 u4
  rw [hS] at v1 v2 v3 v4
  exact ⟨⟨u1, u2 hij⟩, ⟨v1, v2 (u2 hij)⟩, u3, u4, fun t h1 h2 => by simpa using v3 t h1 h2, fun h1 h2 => by simpa using v4 h1 h2⟩
theorem part_ne {D : Array Nat} {a R S : Nat} (h1 : ltN D[R]! D[a]! = false) (h2 : ltN D[S]! D[a]! = true) : R ≠ S := fun e => by
  rw [e, h2] at h1
  exact Bool.noConfusion h1
theorem part_eq (a i j R S : Nat) (D : Array Nat) (hR : pUp D a j i = R) (hS : pDn D a R j = S) : Sort.partLoop ltN a i j D = if R > S then (S, D) else Sort.partLoop ltN a (R + 1) (S - 1) (Sort.swp D R S) := by
  have h := Sort.partLoop_eq ltN a i j D
  unfold pUp at hR
  unfold pDn at hS
  rw [hR, hS] at h
  exact h
theorem part_top (d : Array Nat) (a b pv R S : Nat) (D : Array Nat) (hD : Sort.swp d a pv = D) (hR : pUp D a (b - 1) (a + 1) = R) (hS : pDn D a R (b - 1) = S) : Sort.partition ltN d a b pv = if R > S then (S, true, Sort.swp D S a) else ((Sort.partLoop ltN a (R + 1) (S - 1) (Sort.swp D R S)).1, false, Sort.swp (Sort.partLoop ltN a (R + 1) (S - 1) (Sort.swp D R S)).2 (Sort.partLoop ltN a (R + 1) (S - 1) (Sort.swp D R S)).1 a) := by
  unfold pUp at hR
  unfold pDn at hS
  unfold Sort.partition
  simp only [hD, hR, hS]
set_option maxRecDepth 100000 in
set_option maxHeartbeats 6400000 in
theorem part_any (lo g cap n a b pv : Nat) (d : Array Nat) (hav : a ≤ pv) (hvb : pv < b) (hb : b ≤ n) (_ : n ≤ 64) (w : World) (hlo : lo ≤ w.heap.size) (h : SRow 23 w lo g cap n d) :
    Calls Try.prog 66 #[.slice (some ⟨g, 0, none⟩) n cap, .int .i64 a, .int .i64 b, .int .i64 pv] w fun e w' => e = .returned (.tuple #[.int .i64 ((Sort.partition ltN d a b pv).1 : Nat), .bool (Sort.partition ltN d a b pv).2.1]) ∧ SRow 23 w' lo g cap n (Sort.partition ltN d a b pv).2.2 ∧ Below lo w w' := by
  have HS := hid h
  have hcap := h.caps
  have q1 := hcap.1; have q2 := hcap.2
  unfold maxLen at q2
  have hg := h.lt.1
  clear hcap h
  have A1 : (a : Int) < (n : Int) := by omega
  have A2 : (pv : Int) < (n : Int) := by omega
  have W0 : IntKind.i64.wrap ((a : Int) + 1) = (a : Int) + 1 := by rw [IntKind.wrap_i64]; omega
  have W9 : IntKind.i64.wrap ((b : Int) - 1) = ((b - 1 : Nat) : Int) := by rw [IntKind.wrap_i64]; omega
  obtain ⟨x, y, c1, c2, f1, f2, p1, p2, ov, -, -, hsw⟩ := HS.out.pair (i := a) (j := pv) (by omega) (by omega)
  have HSW := hid ((hsw.out w (below_refl _)).below (below_drew _))
  generalize hW2 : ((w.setCell ⟨g, a, none⟩ (.float .f32 y)).setCell ⟨g, pv, none⟩ (.float .f32 x)).drew = w2 at HSW
  have HL2 : Below lo w w2 := by rw [← hW2]; exact (((Below.refl lo w).setCell hg _).setCell hg _).drew
  have hl2 := Nat.le_trans hlo HL2.size
  obtain ⟨D, hD⟩ : ∃ D, Sort.swp d a pv = D := ⟨_, rfl⟩
  rw [hD] at HSW
  have HD := hid hD
  clear hD hsw
  go_enter Try.func66, Try.ntmps66
  go_wp2_with fail
  go_big_region
  go_wp2_with (first | (with_reducible refine sWorld hW2 ?_; clear hW2))
  clear c1 c2 f1 f2 ov p1 p2
  obtain ⟨R, hR⟩ : ∃ R, pUp D a (b - 1) (a + 1) = R := ⟨_, rfl⟩
  obtain ⟨S, hS⟩ : ∃ S, pDn D a R (b - 1) = S := ⟨_, rfl⟩
  obtain ⟨⟨r1, r2⟩, ⟨s1, s2⟩, hu, hue, hd1, hd2⟩ := part_scans D a (a + 1) (b - 1) R S (by omega) hR hS
  have HT := hid (part_top d a b pv R S D HD.out hR hS)
  have HU := hid hu
  have HUE := hid hue
  have HV := hid hd1
  have HVE := hid hd2
  clear hu hue hd1 hd2 hR hS
  by_cases hA : R ≤ b - 1
  · have HUE2 := hid (HUE.out hA)
    by_cases hB : R ≤ S
    · have HVE2 := hid (HVE.out hB (by omega))
      have hne := part_ne HUE2.out HVE2.out
      go_loopw [10] (fun i wr => ∃ I : Nat, (a + 1) ≤ I ∧ I ≤ R ∧ i = .int .i64 I ∧ Hid (SRow 23 wr lo g cap n D) ∧ Below lo w wr) (fun i _ => R - (intOf i).toNat)
      case atStart => exact ⟨(a + 1), Nat.le_refl _, by omega, by first | rfl | go_num, hid (HSW.out.below (by (repeat (first | (with_reducible assumption) | (with_reducible apply below_refl) | (with_reducible apply below_alloc1) | (with_reducible apply below_drewN1) | (with_reducible apply below_drew1))))), HL2.trans (Below.mono (show Below _ _ _ by (repeat (first | (with_reducible assumption) | (with_reducible apply below_refl) | (with_reducible apply below_alloc1) | (with_reducible apply below_drewN1) | (with_reducible apply below_drew1)))) hl2)⟩
      case round =>
        obtain ⟨I, h1, h2, rfl, hs, hw⟩ := hrel
        have hlow := Nat.le_trans hlo hw.size
        have z0 : (0 : Int) ≤ (I : Int) := by omega
        have an : (a : Int) < (n : Int) := by omega
        by_cases hlt : I < R
        · have gi : (I : Int) ≤ ((b - 1 : Nat) : Int) := by omega
          have vn : (I : Int) < (n : Int) := by omega
          have W1 : IntKind.i64.wrap ((I : Int) + 1) = (I : Int) + 1 := by rw [IntKind.wrap_i64]; omega
          obtain ⟨x, y, c1, c2, f1, f2, p1, p2, ov, l1, l2, -⟩ := hs.out.pair (i := I) (j := a) (by omega) (by omega)
          have hd : decide (x < y) = true := by rw [← l1.out]; exact HU.out I (by omega) (by omega)
          go_wp2_with fail
          go_quiet ((go_at_call 64; exact quiet_at hd (sLess_any _ _ p1 p2 _)))
          go_wp2_with fail
          refine ⟨⟨I + 1, by omega, by omega, by first | rfl | go_num, hid (hs.out.below (by (repeat (first | (with_reducible assumption) | (with_reducible apply below_refl) | (with_reducible apply below_alloc1) | (with_reducible apply below_drewN1) | (with_reducible apply below_drew1))))), hw.trans (Below.mono (show Below wr.heap.size wr _ by (repeat (first | (with_reducible assumption) | (with_reducible apply below_refl) | (with_reducible apply below_alloc1) | (with_reducible apply below_drewN1) | (with_reducible apply below_drew1)))) hlow)⟩, by simp [intOf]; omega⟩
        · obtain rfl : R = I := by omega
          have gi : (R : Int) ≤ ((b - 1 : Nat) : Int) := by omega
          have vn : (R : Int) < (n : Int) := by omega
          obtain ⟨x, y, c1, c2, f1, f2, p1, p2, ov, l1, l2, -⟩ := hs.out.pair (i := R) (j := a) (by omega) (by omega)
          have hd : decide (x < y) = false := by rw [← l1.out]; exact HUE2.out
          go_wp2_with fail
          go_quiet ((go_at_call 64; exact quiet_at hd (sLess_any _ _ p1 p2 _)))
          have hs3 := hid (hs.out.below (below_drewN wr nq))
          have hw3 : Below lo w (wr.drewN nq) := hw.trans (Below.mono (below_drewN wr nq) hlow)
          have hl3 := Nat.le_trans hlo hw3.size
          generalize wr.drewN nq = w3 at hs3 hw3 hl3 ⊢
          clear h1 h2 z0 an gi
          go_wp2_with fail
          go_loopw [11] (fun i wr => ∃ J : Nat, S ≤ J ∧ J ≤ (b - 1) ∧ i = .int .i64 J ∧ Hid (SRow 23 wr lo g cap n D) ∧ Below lo w wr) (fun i _ => (intOf i).toNat - S)
          case atStart => exact ⟨(b - 1), by omega, Nat.le_refl _, by first | rfl | go_num, hid (hs3.out.below (by (repeat (first | (with_reducible assumption) | (with_reducible apply below_refl) | (with_reducible apply below_alloc1) | (with_reducible apply below_drewN1) | (with_reducible apply below_drew1))))), hw3.trans (Below.mono (show Below _ _ _ by (repeat (first | (with_reducible assumption) | (with_reducible apply below_refl) | (with_reducible apply below_alloc1) | (with_reducible apply below_drewN1) | (with_reducible apply below_drew1)))) hl3)⟩
          case round =>
            obtain ⟨J, h1, h2, rfl, hs, hw⟩ := hrel
            have hlow := Nat.le_trans hlo hw.size
            have z0 : (0 : Int) ≤ (J : Int) := by omega
            have an : (a : Int) < (n : Int) := by omega
            by_cases hlt : S < J
            · have gi : (R : Int) ≤ (J : Int) := by omega
              have vn : (J : Int) < (n : Int) := by omega
              have W1 : IntKind.i64.wrap ((J : Int) - 1) = ((J - 1 : Nat) : Int) := by rw [IntKind.wrap_i64]; omega
              obtain ⟨x, y, c1, c2, f1, f2, p1, p2, ov, l1, l2, -⟩ := hs.out.pair (i := J) (j := a) (by omega) (by omega)
              have hd : decide (x < y) = false := by rw [← l1.out]; exact HV.out J (by omega) (by omega)
              go_wp2_with fail
              go_quiet ((go_at_call 64; exact quiet_at hd (sLess_any _ _ p1 p2 _)))
              go_wp2_with fail
              refine ⟨⟨J - 1, by omega, by omega, by first | rfl | go_num, hid (hs.out.below (by (repeat (first | (with_reducible assumption) | (with_reducible apply below_refl) | (with_reducible apply below_alloc1) | (with_reducible apply below_drewN1) | (with_reducible apply below_drew1))))), hw.trans (Below.mono (show Below wr.heap.size wr _ by (repeat (first | (with_reducible assumption) | (with_reducible apply below_refl) | (with_reducible apply below_alloc1) | (with_reducible apply below_drewN1) | (with_reducible apply below_drew1)))) hlow)⟩, by simp [intOf]; omega⟩
            · obtain rfl : S = J := by omega
              have gi : (R : Int) ≤ (S : Int) := by omega
              have vn : (S : Int) < (n : Int) := by omega
              obtain ⟨x, y, c1, c2, f1, f2, p1, p2, ov, l1, l2, -⟩ := hs.out.pair (i := S) (j := a) (by omega) (by omega)
              have hd : decide (x < y) = true := by rw [← l1.out]; exact HVE2.out
              go_wp2_with fail
              go_quiet ((go_at_call 64; exact quiet_at hd (sLess_any _ _ p1 p2 _)))
              have hs4 := hid (hs.out.below (below_drewN wr nq))
              have hw4 : Below lo w (wr.drewN nq) := hw.trans (Below.mono (below_drewN wr nq) hlow)
              have hl4 := Nat.le_trans hlo hw4.size
              generalize wr.drewN nq = w4 at hs4 hw4 hl4 ⊢
              clear h1 h2 z0 an gi
              go_wp2_with fail
              have hgt : ¬ (S : Int) < (R : Int) := by omega
              have zs : (0 : Int) ≤ (S : Int) := by omega
              have zr : (0 : Int) ≤ (R : Int) := by omega
              have sn : (S : Int) < (n : Int) := by omega
              have rn : (R : Int) < (n : Int) := by omega
              have V1 : IntKind.i64.wrap ((R : Int) + 1) = (R : Int) + 1 := by rw [IntKind.wrap_i64]; omega
              have V2 : IntKind.i64.wrap ((S : Int) - 1) = ((S - 1 : Nat) : Int) := by rw [IntKind.wrap_i64]; omega
              go_wp2_with fail
              obtain ⟨x, y, c1, c2, f1, f2, p1, p2, ov, -, -, hsw⟩ := hs4.out.pair (i := R) (j := S) (by omega) (by omega)
              have hs5 := hid ((hsw.out w4 (below_refl _)).below (below_drew _))
              generalize hW5 : ((w4.setCell ⟨g, R, none⟩ (.float .f32 y)).setCell ⟨g, S, none⟩ (.float .f32 x)).drew = w5 at hs5
              have hw5 : Below lo w w5 := by rw [← hW5]; exact ((hw4.setCell hg _).setCell hg _).drew
              have hl5 := Nat.le_trans hlo hw5.size
              clear hsw
              go_big_region
              go_wp2_with (first | (with_reducible refine sWorld hW5 ?_; clear hW5))
              clear c1 c2 f1 f2 ov p1 p2
              obtain ⟨PL, hPL⟩ : ∃ PL, Sort.partLoop ltN a (R + 1) (S - 1) (Sort.swp D R S) = PL := ⟨_, rfl⟩
              rw [hPL, if_neg (show ¬ R > S by omega)] at HT
              have HPL := hid hPL
              clear hPL HU HUE HV HVE
              go_loopw [10, 11] (fun i j wr => ∃ (I J : Nat) (D2 : Array Nat), a < I ∧ I ≤ J + 1 ∧ J < b ∧ a ≤ J ∧ i = .int .i64 I ∧ j = .int .i64 J ∧ Hid (Sort.partLoop ltN a I J D2 = PL) ∧ Hid (SRow 23 wr lo g cap n D2) ∧ Below lo w wr) (fun i j _ => (intOf j).toNat + 2 - (intOf i).toNat)
              case atStart => exact ⟨R + 1, S - 1, _, by omega, by omega, by omega, by omega, by first | rfl | go_num, by first | rfl | go_num, HPL, hs5, hw5⟩
              case round =>
                obtain ⟨I0, J0, D2, hI0, hIJ, hJ0, haJ, rfl, rfl, hP, hs6, hw6⟩ := hrel
                have hl6 := Nat.le_trans hlo hw6.size
                go_wp2_with fail
                obtain ⟨R2, hR2⟩ : ∃ R2, pUp D2 a J0 I0 = R2 := ⟨_, rfl⟩
                obtain ⟨S2, hS2⟩ : ∃ S2, pDn D2 a R2 J0 = S2 := ⟨_, rfl⟩
                obtain ⟨⟨r3, r4⟩, ⟨s3, s4⟩, hu, hue, hd1, hd2⟩ := part_scans D2 a I0 J0 R2 S2 (by omega) hR2 hS2
                have hPE := hid (part_eq a I0 J0 R2 S2 D2 hR2 hS2)
                have HU := hid hu
                have HUE := hid hue
                have HV := hid hd1
                have HVE := hid hd2
                clear hu hue hd1 hd2 hR2 hS2
                by_cases hA : R2 ≤ J0
                · have HUE2 := hid (HUE.out hA)
                  by_cases hB : R2 ≤ S2
                  · have HVE2 := hid (HVE.out hB (by omega))
                    have hne := part_ne HUE2.out HVE2.out
                    go_loopw [10] (fun i wr => ∃ I : Nat, I0 ≤ I ∧ I ≤ R2 ∧ i = .int .i64 I ∧ Hid (SRow 23 wr lo g cap n D2) ∧ Below lo w wr) (fun i _ => R2 - (intOf i).toNat)
                    case atStart => exact ⟨I0, Nat.le_refl _, by omega, by first | rfl | go_num, hid (hs6.out.below (by (repeat (first | (with_reducible assumption) | (with_reducible apply below_refl) | (with_reducible apply below_alloc1) | (with_reducible apply below_drewN1) | (with_reducible apply below_drew1))))), hw6.trans (Below.mono (show Below _ _ _ by (repeat (first | (with_reducible assumption) | (with_reducible apply below_refl) | (with_reducible apply below_alloc1) | (with_reducible apply below_drewN1) | (with_reducible apply below_drew1)))) hl6)⟩
                    case round =>
                      obtain ⟨I, h1, h2, rfl, hs, hw⟩ := hrel
                      have hlow := Nat.le_trans hlo hw.size
                      have z0 : (0 : Int) ≤ (I : Int) := by omega
                      have an : (a : Int) < (n : Int) := by omega
                      by_cases hlt : I < R2
                      · have gi : (I : Int) ≤ (J0 : Int) := by omega
                        have vn : (I : Int) < (n : Int) := by omega
                        have W1 : IntKind.i64.wrap ((I : Int) + 1) = (I : Int) + 1 := by rw [IntKind.wrap_i64]; omega
                        obtain ⟨x, y, c1, c2, f1, f2, p1, p2, ov, l1, l2, -⟩ := hs.out.pair (i := I) (j := a) (by omega) (by omega)
                        have hd : decide (x < y) = true := by rw [← l1.out]; exact HU.out I (by omega) (by omega)
                        go_wp2_with fail
                        go_quiet ((go_at_call 64; exact quiet_at hd (sLess_any _ _ p1 p2 _)))
                        go_wp2_with fail
                        refine ⟨⟨I + 1, by omega, by omega, by first | rfl | go_num, hid (hs.out.below (by (repeat (first | (with_reducible assumption) | (with_reducible apply below_refl) | (with_reducible apply below_alloc1) | (with_reducible apply below_drewN1) | (with_reducible apply below_drew1))))), hw.trans (Below.mono (show Below wr.heap.size wr _ by (repeat (first | (with_reducible assumption) | (with_reducible apply below_refl) | (with_reducible apply below_alloc1) | (with_reducible apply below_drewN1) | (with_reducible apply below_drew1)))) hlow)⟩, by simp [intOf]; omega⟩
                      · obtain rfl : R2 = I := by omega
                        have gi : (R2 : Int) ≤ (J0 : Int) := by omega
                        have vn : (R2 : Int) < (n : Int) := by omega
                        obtain ⟨x, y, c1, c2, f1, f2, p1, p2, ov, l1, l2, -⟩ := hs.out.pair (i := R2) (j := a) (by omega) (by omega)
                        have hd : decide (x < y) = false := by rw [← l1.out]; exact HUE2.out
                        go_wp2_with fail
                        go_quiet ((go_at_call 64; exact quiet_at hd (sLess_any _ _ p1 p2 _)))
                        have hs7 := hid (hs.out.below (below_drewN wr nq))
                        have hw7 : Below lo w (wr.drewN nq) := hw.trans (Below.mono (below_drewN wr nq) hlow)
                        have hl7 := Nat.le_trans hlo hw7.size
                        generalize wr.drewN nq = w7 at hs7 hw7 hl7 ⊢
                        clear h1 h2 z0 an gi
                        go_wp2_with fail
                        go_loopw [11] (fun i wr => ∃ J : Nat, S2 ≤ J ∧ J ≤ J0 ∧ i = .int .i64 J ∧ Hid (SRow 23 wr lo g cap n D2) ∧ Below lo w wr) (fun i _ => (intOf i).toNat - S2)
                        case atStart => exact ⟨J0, by omega, Nat.le_refl _, by first | rfl | go_num, hid (hs7.out.below (by (repeat (first | (with_reducible assumption) | (with_reducible apply below_refl) | (with_reducible apply below_alloc1) | (with_reducible apply below_drewN1) | (with_reducible apply below_drew1))))), hw7.trans (Below.mono (show Below _ _ _ by (repeat (first | (with_reducible assumption) | (with_reducible apply below_refl) | (with_reducible apply below_alloc1) | (with_reducible apply below_drewN1) | (with_reducible apply below_drew1)))) hl7)⟩
                        case round =>
                          obtain ⟨J, h1, h2, rfl, hs, hw⟩ := hrel
                          have hlow := Nat.le_trans hlo hw.size
                          have z0 : (0 : Int) ≤ (J : Int) := by omega
                          have an : (a : Int) < (n : Int) := by omega
                          by_cases hlt : S2 < J
                          · have gi : (R2 : Int) ≤ (J : Int) := by omega
                            have vn : (J : Int) < (n : Int) := by omega
                            have W1 : IntKind.i64.wrap ((J : Int) - 1) = ((J - 1 : Nat) : Int) := by rw [IntKind.wrap_i64]; omega
                            obtain ⟨x, y, c1, c2, f1, f2, p1, p2, ov, l1, l2, -⟩ := hs.out.pair (i := J) (j := a) (by omega) (by omega)
                            have hd : decide (x < y) = false := by rw [← l1.out]; exact HV.out J (by omega) (by omega)
                            go_wp2_with fail
                            go_quiet ((go_at_call 64; exact quiet_at hd (sLess_any _ _ p1 p2 _)))
                            go_wp2_with fail
                            refine ⟨⟨J - 1, by omega, by omega, by first | rfl | go_num, hid (hs.out.below (by (repeat (first | (with_reducible assumption) | (with_reducible apply below_refl) | (with_reducible apply below_alloc1) | (with_reducible apply below_drewN1) | (with_reducible apply below_drew1))))), hw.trans (Below.mono (show Below wr.heap.size wr _ by (repeat (first | (with_reducible assumption) | (with_reducible apply below_refl) | (with_reducible apply below_alloc1) | (with_reducible apply below_drewN1) | (with_reducible apply below_drew1)))) hlow)⟩, by simp [intOf]; omega⟩
                          · obtain rfl : S2 = J := by omega
                            have gi : (R2 : Int) ≤ (S2 : Int) := by omega
                            have vn : (S2 : Int) < (n : Int) := by omega
                            obtain ⟨x, y, c1, c2, f1, f2, p1, p2, ov, l1, l2, -⟩ := hs.out.pair (i := S2) (j := a) (by omega) (by omega)
                            have hd : decide (x < y) = true := by rw [← l1.out]; exact HVE2.out
                            go_wp2_with fail
                            go_quiet ((go_at_call 64; exact quiet_at hd (sLess_any _ _ p1 p2 _)))
                            have hs8 := hid (hs.out.below (below_drewN wr nq))
                            have hw8 : Below lo w (wr.drewN nq) := hw.trans (Below.mono (below_drewN wr nq) hlow)
                            have hl8 := Nat.le_trans hlo hw8.size
                            generalize wr.drewN nq = w8 at hs8 hw8 hl8 ⊢
                            clear h1 h2 z0 an gi
                            go_wp2_with fail
                            have hgt : ¬ (S2 : Int) < (R2 : Int) := by omega
                            have zs : (0 : Int) ≤ (S2 : Int) := by omega
                            have zr : (0 : Int) ≤ (R2 : Int) := by omega
                            have sn : (S2 : Int) < (n : Int) := by omega
                            have rn : (R2 : Int) < (n : Int) := by omega
                            have V1 : IntKind.i64.wrap ((R2 : Int) + 1) = (R2 : Int) + 1 := by rw [IntKind.wrap_i64]; omega
                            have V2 : IntKind.i64.wrap ((S2 : Int) - 1) = ((S2 - 1 : Nat) : Int) := by rw [IntKind.wrap_i64]; omega
                            go_wp2_with fail
                            obtain ⟨x, y, c1, c2, f1, f2, p1, p2, ov, -, -, hsw⟩ := hs8.out.pair (i := R2) (j := S2) (by omega) (by omega)
                            have hs9 := hid ((hsw.out w8 (below_refl _)).below (below_drew _))
                            generalize hW9 : ((w8.setCell ⟨g, R2, none⟩ (.float .f32 y)).setCell ⟨g, S2, none⟩ (.float .f32 x)).drew = w9 at hs9
                            have hw9 : Below lo w w9 := by rw [← hW9]; exact ((hw8.setCell hg _).setCell hg _).drew
                            have hl9 := Nat.le_trans hlo hw9.size
                            clear hsw
                            go_big_region
                            go_wp2_with (first | (with_reducible refine sWorld hW9 ?_; clear hW9))
                            clear c1 c2 f1 f2 ov p1 p2
                            refine ⟨⟨R2 + 1, S2 - 1, _, by omega, by omega, by omega, by omega, by first | rfl | go_num, by first | rfl | go_num, hid ?_, hs9, hw9⟩, by simp [intOf]; omega⟩
                            rw [← hP.out, hPE.out, if_neg (show ¬ R2 > S2 by omega)]
                  · skip
                    go_loopw [10] (fun i wr => ∃ I : Nat, I0 ≤ I ∧ I ≤ R2 ∧ i = .int .i64 I ∧ Hid (SRow 23 wr lo g cap n D2) ∧ Below lo w wr) (fun i _ => R2 - (intOf i).toNat)
                    case atStart => exact ⟨I0, Nat.le_refl _, by omega, by first | rfl | go_num, hid (hs6.out.below (by (repeat (first | (with_reducible assumption) | (with_reducible apply below_refl) | (with_reducible apply below_alloc1) | (with_reducible apply below_drewN1) | (with_reducible apply below_drew1))))), hw6.trans (Below.mono (show Below _ _ _ by (repeat (first | (with_reducible assumption) | (with_reducible apply below_refl) | (with_reducible apply below_alloc1) | (with_reducible apply below_drewN1) | (with_reducible apply below_drew1)))) hl6)⟩
                    case round =>
                      obtain ⟨I, h1, h2, rfl, hs, hw⟩ := hrel
                      have hlow := Nat.le_trans hlo hw.size
                      have z0 : (0 : Int) ≤ (I : Int) := by omega
                      have an : (a : Int) < (n : Int) := by omega
                      by_cases hlt : I < R2
                      · have gi : (I : Int) ≤ (J0 : Int) := by omega
                        have vn : (I : Int) < (n : Int) := by omega
                        have W1 : IntKind.i64.wrap ((I : Int) + 1) = (I : Int) + 1 := by rw [IntKind.wrap_i64]; omega
                        obtain ⟨x, y, c1, c2, f1, f2, p1, p2, ov, l1, l2, -⟩ := hs.out.pair (i := I) (j := a) (by omega) (by omega)
                        have hd : decide (x < y) = true := by rw [← l1.out]; exact HU.out I (by omega) (by omega)
                        go_wp2_with fail
                        go_quiet ((go_at_call 64; exact quiet_at hd (sLess_any _ _ p1 p2 _)))
                        go_wp2_with fail
                        refine ⟨⟨I + 1, by omega, by omega, by first | rfl | go_num, hid (hs.out.below (by (repeat (first | (with_reducible assumption) | (with_reducible apply below_refl) | (with_reducible apply below_alloc1) | (with_reducible apply below_drewN1) | (with_reducible apply below_drew1))))), hw.trans (Below.mono (show Below wr.heap.size wr _ by (repeat (first | (with_reducible assumption) | (with_reducible apply below_refl) | (with_reducible apply below_alloc1) | (with_reducible apply below_drewN1) | (with_reducible apply below_drew1)))) hlow)⟩, by simp [intOf]; omega⟩
                      · obtain rfl : R2 = I := by omega
                        have gi : (R2 : Int) ≤ (J0 : Int) := by omega
                        have vn : (R2 : Int) < (n : Int) := by omega
                        obtain ⟨x, y, c1, c2, f1, f2, p1, p2, ov, l1, l2, -⟩ := hs.out.pair (i := R2) (j := a) (by omega) (by omega)
                        have hd : decide (x < y) = false := by rw [← l1.out]; exact HUE2.out
                        go_wp2_with fail
                        go_quiet ((go_at_call 64; exact quiet_at hd (sLess_any _ _ p1 p2 _)))
                        have hs7 := hid (hs.out.below (below_drewN wr nq))
                        have hw7 : Below lo w (wr.drewN nq) := hw.trans (Below.mono (below_drewN wr nq) hlow)
                        have hl7 := Nat.le_trans hlo hw7.size
                        generalize wr.drewN nq = w7 at hs7 hw7 hl7 ⊢
                        clear h1 h2 z0 an gi
                        go_wp2_with fail
                        go_loopw [11] (fun i wr => ∃ J : Nat, S2 ≤ J ∧ J ≤ J0 ∧ i = .int .i64 J ∧ Hid (SRow 23 wr lo g cap n D2) ∧ Below lo w wr) (fun i _ => (intOf i).toNat - S2)
                        case atStart => exact ⟨J0, by omega, Nat.le_refl _, by first | rfl | go_num, hid (hs7.out.below (by (repeat (first | (with_reducible assumption) | (with_reducible apply below_refl) | (with_reducible apply below_alloc1) | (with_reducible apply below_drewN1) | (with_reducible apply below_drew1))))), hw7.trans (Below.mono (show Below _ _ _ by (repeat (first | (with_reducible assumption) | (with_reducible apply below_refl) | (with_reducible apply below_alloc1) | (with_reducible apply below_drewN1) | (with_reducible apply below_drew1)))) hl7)⟩
                        case round =>
                          obtain ⟨J, h1, h2, rfl, hs, hw⟩ := hrel
                          have hlow := Nat.le_trans hlo hw.size
                          have z0 : (0 : Int) ≤ (J : Int) := by omega
                          have an : (a : Int) < (n : Int) := by omega
                          by_cases hlt : S2 < J
                          · have gi : (R2 : Int) ≤ (J : Int) := by omega
                            have vn : (J : Int) < (n : Int) := by omega
                            have W1 : IntKind.i64.wrap ((J : Int) - 1) = ((J - 1 : Nat) : Int) := by rw [IntKind.wrap_i64]; omega
                            obtain ⟨x, y, c1, c2, f1, f2, p1, p2, ov, l1, l2, -⟩ := hs.out.pair (i := J) (j := a) (by omega) (by omega)
                            have hd : decide (x < y) = false := by rw [← l1.out]; exact HV.out J (by omega) (by omega)
                            go_wp2_with fail
                            go_quiet ((go_at_call 64; exact quiet_at hd (sLess_any _ _ p1 p2 _)))
                            go_wp2_with fail
                            refine ⟨⟨J - 1, by omega, by omega, by first | rfl | go_num, hid (hs.out.below (by (repeat (first | (with_reducible assumption) | (with_reducible apply below_refl) | (with_reducible apply below_alloc1) | (with_reducible apply below_drewN1) | (with_reducible apply below_drew1))))), hw.trans (Below.mono (show Below wr.heap.size wr _ by (repeat (first | (with_reducible assumption) | (with_reducible apply below_refl) | (with_reducible apply below_alloc1) | (with_reducible apply below_drewN1) | (with_reducible apply below_drew1)))) hlow)⟩, by simp [intOf]; omega⟩
                          · obtain rfl : S2 = J := by omega
                            have gN : ¬ R2 ≤ S2 := by omega
                            have gi : decide ((R2 : Int) ≤ (S2 : Int)) = false := by simp; omega
                            go_wp2_with fail
                            go_quiet (fail)
                            have hs8 := hid (hs.out.below (below_drewN wr nq))
                            have hw8 : Below lo w (wr.drewN nq) := hw.trans (Below.mono (below_drewN wr nq) hlow)
                            have hl8 := Nat.le_trans hlo hw8.size
                            generalize wr.drewN nq = w8 at hs8 hw8 hl8 ⊢
                            clear h1 h2 z0 an gi
                            go_wp2_with fail
                            have hgt : (S2 : Int) < (R2 : Int) := by omega
                            have zs : (0 : Int) ≤ (S2 : Int) := by omega
                            have sn : (S2 : Int) < (n : Int) := by omega
                            have an : (a : Int) < (n : Int) := by omega
                            go_wp2_with fail
                            obtain ⟨x, y, c1, c2, f1, f2, p1, p2, ov, -, -, hsw⟩ := hs8.out.pair (i := S2) (j := a) (by omega) (by omega)
                            have hs9 := hid ((hsw.out w8 (below_refl _)).below (below_drew _))
                            generalize hW9 : ((w8.setCell ⟨g, S2, none⟩ (.float .f32 y)).setCell ⟨g, a, none⟩ (.float .f32 x)).drew = w9 at hs9
                            have hw9 : Below lo w w9 := by rw [← hW9]; exact ((hw8.setCell hg _).setCell hg _).drew
                            have hl9 := Nat.le_trans hlo hw9.size
                            clear hsw
                            go_big_region
                            go_wp2_with (first | (with_reducible refine sWorld hW9 ?_; clear hW9))
                            clear c1 c2 f1 f2 ov p1 p2
                            go_ret2
                            rw [HT.out]
                            have hP := hP.out
                            rw [hPE.out, if_pos (show R2 > S2 by omega)] at hP
                            rw [← hP]
                            exact ⟨rfl, hs9.out, hw9⟩
                · skip
                  go_loopw [10] (fun i wr => ∃ I : Nat, I0 ≤ I ∧ I ≤ R2 ∧ i = .int .i64 I ∧ Hid (SRow 23 wr lo g cap n D2) ∧ Below lo w wr) (fun i _ => R2 - (intOf i).toNat)
                  case atStart => exact ⟨I0, Nat.le_refl _, by omega, by first | rfl | go_num, hid (hs6.out.below (by (repeat (first | (with_reducible assumption) | (with_reducible apply below_refl) | (with_reducible apply below_alloc1) | (with_reducible apply below_drewN1) | (with_reducible apply below_drew1))))), hw6.trans (Below.mono (show Below _ _ _ by (repeat (first | (with_reducible assumption) | (with_reducible apply below_refl) | (with_reducible apply below_alloc1) | (with_reducible apply below_drewN1) | (with_reducible apply below_drew1)))) hl6)⟩
                  case round =>
                    obtain ⟨I, h1, h2, rfl, hs, hw⟩ := hrel
                    have hlow := Nat.le_trans hlo hw.size
                    have z0 : (0 : Int) ≤ (I : Int) := by omega
                    have an : (a : Int) < (n : Int) := by omega
                    by_cases hlt : I < R2
                    · have gi : (I : Int) ≤ (J0 : Int) := by omega
                      have vn : (I : Int) < (n : Int) := by omega
                      have W1 : IntKind.i64.wrap ((I : Int) + 1) = (I : Int) + 1 := by rw [IntKind.wrap_i64]; omega
                      obtain ⟨x, y, c1, c2, f1, f2, p1, p2, ov, l1, l2, -⟩ := hs.out.pair (i := I) (j := a) (by omega) (by omega)
                      have hd : decide (x < y) = true := by rw [← l1.out]; exact HU.out I (by omega) (by omega)
                      go_wp2_with fail
                      go_quiet ((go_at_call 64; exact quiet_at hd (sLess_any _ _ p1 p2 _)))
                      go_wp2_with fail
                      refine ⟨⟨I + 1, by omega, by omega, by first | rfl | go_num, hid (hs.out.below (by (repeat (first | (with_reducible assumption) | (with_reducible apply below_refl) | (with_reducible apply below_alloc1) | (with_reducible apply below_drewN1) | (with_reducible apply below_drew1))))), hw.trans (Below.mono (show Below wr.heap.size wr _ by (repeat (first | (with_reducible assumption) | (with_reducible apply below_refl) | (with_reducible apply below_alloc1) | (with_reducible apply below_drewN1) | (with_reducible apply below_drew1)))) hlow)⟩, by simp [intOf]; omega⟩
                    · obtain rfl : R2 = I := by omega
                      have gN : ¬ R2 ≤ J0 := by omega
                      have gi : decide ((R2 : Int) ≤ (J0 : Int)) = false := by simp; omega
                      go_wp2_with fail
                      go_quiet (fail)
                      have hs7 := hid (hs.out.below (below_drewN wr nq))
                      have hw7 : Below lo w (wr.drewN nq) := hw.trans (Below.mono (below_drewN wr nq) hlow)
                      have hl7 := Nat.le_trans hlo hw7.size
                      generalize wr.drewN nq = w7 at hs7 hw7 hl7 ⊢
                      clear h1 h2 z0 an gi
                      go_wp2_with fail
                      go_loopw [11] (fun i wr => ∃ J : Nat, S2 ≤ J ∧ J ≤ J0 ∧ i = .int .i64 J ∧ Hid (SRow 23 wr lo g cap n D2) ∧ Below lo w wr) (fun i _ => (intOf i).toNat - S2)
                      case atStart => exact ⟨J0, by omega, Nat.le_refl _, by first | rfl | go_num, hid (hs7.out.below (by (repeat (first | (with_reducible assumption) | (with_reducible apply below_refl) | (with_reducible apply below_alloc1) | (with_reducible apply below_drewN1) | (with_reducible apply below_drew1))))), hw7.trans (Below.mono (show Below _ _ _ by (repeat (first | (with_reducible assumption) | (with_reducible apply below_refl) | (with_reducible apply below_alloc1) | (with_reducible apply below_drewN1) | (with_reducible apply below_drew1)))) hl7)⟩
                      case round =>
                        obtain ⟨J, h1, h2, rfl, hs, hw⟩ := hrel
                        have hlow := Nat.le_trans hlo hw.size
                        have z0 : (0 : Int) ≤ (J : Int) := by omega
                        have an : (a : Int) < (n : Int) := by omega
                        by_cases hlt : S2 < J
                        · have gi : (R2 : Int) ≤ (J : Int) := by omega
                          have vn : (J : Int) < (n : Int) := by omega
                          have W1 : IntKind.i64.wrap ((J : Int) - 1) = ((J - 1 : Nat) : Int) := by rw [IntKind.wrap_i64]; omega
                          obtain ⟨x, y, c1, c2, f1, f2, p1, p2, ov, l1, l2, -⟩ := hs.out.pair (i := J) (j := a) (by omega) (by omega)
                          have hd : decide (x < y) = false := by rw [← l1.out]; exact HV.out J (by omega) (by omega)
                          go_wp2_with fail
                          go_quiet ((go_at_call 64; exact quiet_at hd (sLess_any _ _ p1 p2 _)))
                          go_wp2_with fail
                          refine ⟨⟨J - 1, by omega, by omega, by first | rfl | go_num, hid (hs.out.below (by (repeat (first | (with_reducible assumption) | (with_reducible apply below_refl) | (with_reducible apply below_alloc1) | (with_reducible apply below_drewN1) | (with_reducible apply below_drew1))))), hw.trans (Below.mono (show Below wr.heap.size wr _ by (repeat (first | (with_reducible assumption) | (with_reducible apply below_refl) | (with_reducible apply below_alloc1) | (with_reducible apply below_drewN1) | (with_reducible apply below_drew1)))) hlow)⟩, by simp [intOf]; omega⟩
                        · obtain rfl : S2 = J := by omega
                          have gN : ¬ R2 ≤ S2 := by omega
                          have gi : decide ((R2 : Int) ≤ (S2 : Int)) = false := by simp; omega
                          go_wp2_with fail
                          go_quiet (fail)
                          have hs8 := hid (hs.out.below (below_drewN wr nq))
                          have hw8 : Below lo w (wr.drewN nq) := hw.trans (Below.mono (below_drewN wr nq) hlow)
                          have hl8 := Nat.le_trans hlo hw8.size
                          generalize wr.drewN nq = w8 at hs8 hw8 hl8 ⊢
                          clear h1 h2 z0 an gi
                          go_wp2_with fail
                          have hgt : (S2 : Int) < (R2 : Int) := by omega
                          have zs : (0 : Int) ≤ (S2 : Int) := by omega
                          have sn : (S2 : Int) < (n : Int) := by omega
                          have an : (a : Int) < (n : Int) := by omega
                          go_wp2_with fail
                          obtain ⟨x, y, c1, c2, f1, f2, p1, p2, ov, -, -, hsw⟩ := hs8.out.pair (i := S2) (j := a) (by omega) (by omega)
                          have hs9 := hid ((hsw.out w8 (below_refl _)).below (below_drew _))
                          generalize hW9 : ((w8.setCell ⟨g, S2, none⟩ (.float .f32 y)).setCell ⟨g, a, none⟩ (.float .f32 x)).drew = w9 at hs9
                          have hw9 : Below lo w w9 := by rw [← hW9]; exact ((hw8.setCell hg _).setCell hg _).drew
                          have hl9 := Nat.le_trans hlo hw9.size
                          clear hsw
                          go_big_region
                          go_wp2_with (first | (with_reducible refine sWorld hW9 ?_; clear hW9))
                          clear c1 c2 f1 f2 ov p1 p2
                          go_ret2
                          rw [HT.out]
                          have hP := hP.out
                          rw [hPE.out, if_pos (show R2 > S2 by omega)] at hP
                          rw [← hP]
                          exact ⟨rfl, hs9.out, hw9⟩
    · skip
      go_loopw [10] (fun i wr => ∃ I : Nat, (a + 1) ≤ I ∧ I ≤ R ∧ i = .int .i64 I ∧ Hid (SRow 23 wr lo g cap n D) ∧ Below lo w wr) (fun i _ => R - (intOf i).toNat)
      case atStart => exact ⟨(a + 1), Nat.le_refl _, by omega, by first | rfl | go_num, hid (HSW.out.below (by (repeat (first | (with_reducible assumption) | (with_reducible apply below_refl) | (with_reducible apply below_alloc1) | (with_reducible apply below_drewN1) | (with_reducible apply below_drew1))))), HL2.trans (Below.mono (show Below _ _ _ by (repeat (first | (with_reducible assumption) | (with_reducible apply below_refl) | (with_reducible apply below_alloc1) | (with_reducible apply below_drewN1) | (with_reducible apply below_drew1)))) hl2)⟩
      case round =>
        obtain ⟨I, h1, h2, rfl, hs, hw⟩ := hrel
        have hlow := Nat.le_trans hlo hw.size
        have z0 : (0 : Int) ≤ (I : Int) := by omega
        have an : (a : Int) < (n : Int) := by omega
        by_cases hlt : I < R
        · have gi : (I : Int) ≤ ((b - 1 : Nat) : Int) := by omega
          have vn : (I : Int) < (n : Int) := by omega
          have W1 : IntKind.i64.wrap ((I : Int) + 1) = (I : Int) + 1 := by rw [IntKind.wrap_i64]; omega
          obtain ⟨x, y, c1, c2, f1, f2, p1, p2, ov, l1, l2, -⟩ := hs.out.pair (i := I) (j := a) (by omega) (by omega)
          have hd : decide (x < y) = true := by rw [← l1.out]; exact HU.out I (by omega) (by omega)
          go_wp2_with fail
          go_quiet ((go_at_call 64; exact quiet_at hd (sLess_any _ _ p1 p2 _)))
          go_wp2_with fail
          refine ⟨⟨I + 1, by omega, by omega, by first | rfl | go_num, hid (hs.out.below (by (repeat (first | (with_reducible assumption) | (with_reducible apply below_refl) | (with_reducible apply below_alloc1) | (with_reducible apply below_drewN1) | (with_reducible apply below_drew1))))), hw.trans (Below.mono (show Below wr.heap.size wr _ by (repeat (first | (with_reducible assumption) | (with_reducible apply below_refl) | (with_reducible apply below_alloc1) | (with_reducible apply below_drewN1) | (with_reducible apply below_drew1)))) hlow)⟩, by simp [intOf]; omega⟩
        · obtain rfl : R = I := by omega
          have gi : (R : Int) ≤ ((b - 1 : Nat) : Int) := by omega
          have vn : (R : Int) < (n : Int) := by omega
          obtain ⟨x, y, c1, c2, f1, f2, p1, p2, ov, l1, l2, -⟩ := hs.out.pair (i := R) (j := a) (by omega) (by omega)
          have hd : decide (x < y) = false := by rw [← l1.out]; exact HUE2.out
          go_wp2_with fail
          go_quiet ((go_at_call 64; exact quiet_at hd (sLess_any _ _ p1 p2 _)))
          have hs3 := hid (hs.out.below (below_drewN wr nq))
          have hw3 : Below lo w (wr.drewN nq) := hw.trans (Below.mono (below_drewN wr nq) hlow)
          have hl3 := Nat.le_trans hlo hw3.size
          generalize wr.drewN nq = w3 at hs3 hw3 hl3 ⊢
          clear h1 h2 z0 an gi
          go_wp2_with fail
          go_loopw [11] (fun i wr => ∃ J : Nat, S ≤ J ∧ J ≤ (b - 1) ∧ i = .int .i64 J ∧ Hid (SRow 23 wr lo g cap n D) ∧ Below lo w wr) (fun i _ => (intOf i).toNat - S)
          case atStart => exact ⟨(b - 1), by omega, Nat.le_refl _, by first | rfl | go_num, hid (hs3.out.below (by (repeat (first | (with_reducible assumption) | (with_reducible apply below_refl) | (with_reducible apply below_alloc1) | (with_reducible apply below_drewN1) | (with_reducible apply below_drew1))))), hw3.trans (Below.mono (show Below _ _ _ by (repeat (first | (with_reducible assumption) | (with_reducible apply below_refl) | (with_reducible apply below_alloc1) | (with_reducible apply below_drewN1) | (with_reducible apply below_drew1)))) hl3)⟩
          case round =>
            obtain ⟨J, h1, h2, rfl, hs, hw⟩ := hrel
            have hlow := Nat.le_trans hlo hw.size
            have z0 : (0 : Int) ≤ (J : Int) := by omega
            have an : (a : Int) < (n : Int) := by omega
            by_cases hlt : S < J
            · have gi : (R : Int) ≤ (J : Int) := by omega
              have vn : (J : Int) < (n : Int) := by omega
              have W1 : IntKind.i64.wrap ((J : Int) - 1) = ((J - 1 : Nat) : Int) := by rw [IntKind.wrap_i64]; omega
              obtain ⟨x, y, c1, c2, f1, f2, p1, p2, ov, l1, l2, -⟩ := hs.out.pair (i := J) (j := a) (by omega) (by omega)
              have hd : decide (x < y) = false := by rw [← l1.out]; exact HV.out J (by omega) (by omega)
              go_wp2_with fail
              go_quiet ((go_at_call 64; exact quiet_at hd (sLess_any _ _ p1 p2 _)))
              go_wp2_with fail
              refine ⟨⟨J - 1, by omega, by omega, by first | rfl | go_num, hid (hs.out.below (by (repeat (first | (with_reducible assumption) | (with_reducible apply below_refl) | (with_reducible apply below_alloc1) | (with_reducible apply below_drewN1) | (with_reducible apply below_drew1))))), hw.trans (Below.mono (show Below wr.heap.size wr _ by (repeat (first | (with_reducible assumption) | (with_reducible apply below_refl) | (with_reducible apply below_alloc1) | (with_reducible apply below_drewN1) | (with_reducible apply below_drew1)))) hlow)⟩, by simp [intOf]; omega⟩
            · obtain rfl : S = J := by omega
              have gN : ¬ R ≤ S := by omega
              have gi : decide ((R : Int) ≤ (S : Int)) = false := by simp; omega
              go_wp2_with fail
              go_quiet (fail)
              have hs4 := hid (hs.out.below (below_drewN wr nq))
              have hw4 : Below lo w (wr.drewN nq) := hw.trans (Below.mono (below_drewN wr nq) hlow)
              have hl4 := Nat.le_trans hlo hw4.size
              generalize wr.drewN nq = w4 at hs4 hw4 hl4 ⊢
              clear h1 h2 z0 an gi
              go_wp2_with fail
              have hgt : (S : Int) < (R : Int) := by omega
              have zs : (0 : Int) ≤ (S : Int) := by omega
              have sn : (S : Int) < (n : Int) := by omega
              have an : (a : Int) < (n : Int) := by omega
              go_wp2_with fail
              obtain ⟨x, y, c1, c2, f1, f2, p1, p2, ov, -, -, hsw⟩ := hs4.out.pair (i := S) (j := a) (by omega) (by omega)
              have hs5 := hid ((hsw.out w4 (below_refl _)).below (below_drew _))
              generalize hW5 : ((w4.setCell ⟨g, S, none⟩ (.float .f32 y)).setCell ⟨g, a, none⟩ (.float .f32 x)).drew = w5 at hs5
              have hw5 : Below lo w w5 := by rw [← hW5]; exact ((hw4.setCell hg _).setCell hg _).drew
              have hl5 := Nat.le_trans hlo hw5.size
              clear hsw
              go_big_region
              go_wp2_with (first | (with_reducible refine sWorld hW5 ?_; clear hW5))
              clear c1 c2 f1 f2 ov p1 p2
              go_ret2
              rw [HT.out, if_pos (show R > S by omega)]
              exact ⟨rfl, hs5.out, hw5⟩
  · skip
    go_loopw [10] (fun i wr => ∃ I : Nat, (a + 1) ≤ I ∧ I ≤ R ∧ i = .int .i64 I ∧ Hid (SRow 23 wr lo g cap n D) ∧ Below lo w wr) (fun i _ => R - (intOf i).toNat)
    case atStart => exact ⟨(a + 1), Nat.le_refl _, by omega, by first | rfl | go_num, hid (HSW.out.below (by (repeat (first | (with_reducible assumption) | (with_reducible apply below_refl) | (with_reducible apply below_alloc1) | (with_reducible apply below_drewN1) | (with_reducible apply below_drew1))))), HL2.trans (Below.mono (show Below _ _ _ by (repeat (first | (with_reducible assumption) | (with_reducible apply below_refl) | (with_reducible apply below_alloc1) | (with_reducible apply below_drewN1) | (with_reducible apply below_drew1)))) hl2)⟩
    case round =>
      obtain ⟨I, h1, h2, rfl, hs, hw⟩ := hrel
      have hlow := Nat.le_trans hlo hw.size
      have z0 : (0 : Int) ≤ (I : Int) := by omega
      have an : (a : Int) < (n : Int) := by omega
      by_cases hlt : I < R
      · have gi : (I : Int) ≤ ((b - 1 : Nat) : Int) := by omega
        have vn : (I : Int) < (n : Int) := by omega
        have W1 : IntKind.i64.wrap ((I : Int) + 1) = (I : Int) + 1 := by rw [IntKind.wrap_i64]; omega
        obtain ⟨x, y, c1, c2, f1, f2, p1, p2, ov, l1, l2, -⟩ := hs.out.pair (i := I) (j := a) (by omega) (by omega)
        have hd : decide (x < y) = true := by rw [← l1.out]; exact HU.out I (by omega) (by omega)
        go_wp2_with fail
        go_quiet ((go_at_call 64; exact quiet_at hd (sLess_any _ _ p1 p2 _)))
        go_wp2_with fail
        refine ⟨⟨I + 1, by omega, by omega, by first | rfl | go_num, hid (hs.out.below (by (repeat (first | (with_reducible assumption) | (with_reducible apply below_refl) | (with_reducible apply below_alloc1) | (with_reducible apply below_drewN1) | (with_reducible apply below_drew1))))), hw.trans (Below.mono (show Below wr.heap.size wr _ by (repeat (first | (with_reducible assumption) | (with_reducible apply below_refl) | (with_reducible apply below_alloc1) | (with_reducible apply below_drewN1) | (with_reducible apply below_drew1)))) hlow)⟩, by simp [intOf]; omega⟩
      · obtain rfl : R = I := by omega
        have gN : ¬ R ≤ (b - 1) := by omega
        have gi : decide ((R : Int) ≤ ((b - 1 : Nat) : Int)) = false := by simp; omega
        go_wp2_with fail
        go_quiet (fail)
        have hs3 := hid (hs.out.below (below_drewN wr nq))
        have hw3 : Below lo w (wr.drewN nq) := hw.trans (Below.mono (below_drewN wr nq) hlow)
        have hl3 := Nat.le_trans hlo hw3.size
        generalize wr.drewN nq = w3 at hs3 hw3 hl3 ⊢
        clear h1 h2 z0 an gi
        go_wp2_with fail
        go_loopw [11] (fun i wr => ∃ J : Nat, S ≤ J ∧ J ≤ (b - 1) ∧ i = .int .i64 J ∧ Hid (SRow 23 wr lo g cap n D) ∧ Below lo w wr) (fun i _ => (intOf i).toNat - S)
        case atStart => exact ⟨(b - 1), by omega, Nat.le_refl _, by first | rfl | go_num, hid (hs3.out.below (by (repeat (first | (with_reducible assumption) | (with_reducible apply below_refl) | (with_reducible apply below_alloc1) | (with_reducible apply below_drewN1) | (with_reducible apply below_drew1))))), hw3.trans (Below.mono (show Below _ _ _ by (repeat (first | (with_reducible assumption) | (with_reducible apply below_refl) | (with_reducible apply below_alloc1) | (with_reducible apply below_drewN1) | (with_reducible apply below_drew1)))) hl3)⟩
        case round =>
          obtain ⟨J, h1, h2, rfl, hs, hw⟩ := hrel
          have hlow := Nat.le_trans hlo hw.size
          have z0 : (0 : Int) ≤ (J : Int) := by omega
          have an : (a : Int) < (n : Int) := by omega
          by_cases hlt : S < J
          · have gi : (R : Int) ≤ (J : Int) := by omega
            have vn : (J : Int) < (n : Int) := by omega
            have W1 : IntKind.i64.wrap ((J : Int) - 1) = ((J - 1 : Nat) : Int) := by rw [IntKind.wrap_i64]; omega
            obtain ⟨x, y, c1, c2, f1, f2, p1, p2, ov, l1, l2, -⟩ := hs.out.pair (i := J) (j := a) (by omega) (by omega)
            have hd : decide (x < y) = false := by rw [← l1.out]; exact HV.out J (by omega) (by omega)
            go_wp2_with fail
            go_quiet ((go_at_call 64; exact quiet_at hd (sLess_any _ _ p1 p2 _)))
            go_wp2_with fail
            refine ⟨⟨J - 1, by omega, by omega, by first | rfl | go_num, hid (hs.out.below (by (repeat (first | (with_reducible assumption) | (with_reducible apply below_refl) | (with_reducible apply below_alloc1) | (with_reducible apply below_drewN1) | (with_reducible apply below_drew1))))), hw.trans (Below.mono (show Below wr.heap.size wr _ by (repeat (first | (with_reducible assumption) | (with_reducible apply below_refl) | (with_reducible apply below_alloc1) | (with_reducible apply below_drewN1) | (with_reducible apply below_drew1)))) hlow)⟩, by simp [intOf]; omega⟩
          · obtain rfl : S = J := by omega
            have gN : ¬ R ≤ S := by omega
            have gi : decide ((R : Int) ≤ (S : Int)) = false := by simp; omega
            go_wp2_with fail
            go_quiet (fail)
            have hs4 := hid (hs.out.below (below_drewN wr nq))
            have hw4 : Below lo w (wr.drewN nq) := hw.trans (Below.mono (below_drewN wr nq) hlow)
            have hl4 := Nat.le_trans hlo hw4.size
            generalize wr.drewN nq = w4 at hs4 hw4 hl4 ⊢
            clear h1 h2 z0 an gi
            go_wp2_with fail
            have hgt : (S : Int) < (R : Int) := by omega
            have zs : (0 : Int) ≤ (S : Int) := by omega
            have sn : (S : Int) < (n : Int) := by omega
            have an : (a : Int) < (n : Int) := by omega
            go_wp2_with fail
            obtain ⟨x, y, c1, c2, f1, f2, p1, p2, ov, -, -, hsw⟩ := hs4.out.pair (i := S) (j := a) (by omega) (by omega)
            have hs5 := hid ((hsw.out w4 (below_refl _)).below (below_drew _))
            generalize hW5 : ((w4.setCell ⟨g, S, none⟩ (.float .f32 y)).setCell ⟨g, a, none⟩ (.float .f32 x)).drew = w5 at hs5
            have hw5 : Below lo w w5 := by rw [← hW5]; exact ((hw4.setCell hg _).setCell hg _).drew
            have hl5 := Nat.le_trans hlo hw5.size
            clear hsw
            go_big_region
            go_wp2_with (first | (with_reducible refine sWorld hW5 ?_; clear hW5))
            clear c1 c2 f1 f2 ov p1 p2
            go_ret2
            rw [HT.out, if_pos (show R > S by omega)]
            exact ⟨rfl, hs5.out, hw5⟩
end Go.Proofs.Ytdldlfefbeflcaa
