/- partialInsertionSortOrdered at float32. -/
import Derived.Test.YtdldlfefbeflcaaSort7
namespace Go.Proofs.Ytdldlfefbeflcaa
open Go.RowKit

theorem sorted_scan (D : Array Nat) (b : Nat) : ∀ (k i R : Nat), b - i = k → i ≤ b → Sort.scanSorted ltN D b i = R → (i ≤ R ∧ R ≤ b) ∧ (∀ t, i ≤ t → t < R → ltN D[t]! D[t - 1]! = false) ∧ (R < b → ltN D[R]! D[R - 1]! = true) := by
  intro k
  induction k with
  | zero =>
    intro i R hk hi hR
    rw [Sort.scanSorted, if_neg (by simp; omega)] at hR
    subst hR
    exact ⟨⟨Nat.le_refl _, hi⟩, fun t h1 h2 => by omega, fun h => by omega⟩
  | succ k ih =>
    intro i R hk hi hR
    rw [Sort.scanSorted] at hR
    cases hl : ltN D[i]! D[i - 1]!
    · rw [if_pos (by simp [hl]; omega)] at hR
      obtain ⟨⟨h1, h2⟩, h3, h4⟩ := ih (i + 1) R (by omega) (by omega) hR
      refine ⟨⟨by omega, h2⟩, fun t ht1 ht2 => ?_, h4⟩
      by_cases e : t = i
      · rw [e]; exact hl
      · exact h3 t (by omega) ht2
    · rw [if_neg (by simp [hl])] at hR
      subst hR
      exact ⟨⟨Nat.le_refl _, hi⟩, fun t h1 h2 => by omega, fun _ => hl⟩
theorem sd_go {j : Nat} {d : Array Nat} (hl : ltN d[j + 1]! d[j]! = true) : Sort.shiftDown ltN (j + 1) d = Sort.shiftDown ltN j (Sort.swp d (j + 1) j) := by
  rw [Sort.shiftDown, if_neg (by simp [hl])]
theorem sd_end {j : Nat} {d : Array Nat} (hl : ltN d[j + 1]! d[j]! = false) : Sort.shiftDown ltN (j + 1) d = d := by
  rw [Sort.shiftDown, if_pos (by simp [hl])]
theorem su_go {b j : Nat} {d : Array Nat} (hj : j + 1 < b) (hl : ltN d[j + 1]! d[j]! = true) : Sort.shiftUp ltN b (j + 1) d = Sort.shiftUp ltN b (j + 1 + 1) (Sort.swp d (j + 1) j) := by
  rw [Sort.shiftUp, if_pos hj, if_neg (by simp [hl])]; rfl
theorem su_end {b j : Nat} {d : Array Nat} (h : ¬ j + 1 < b ∨ ltN d[j + 1]! d[j]! = false) : Sort.shiftUp ltN b (j + 1) d = d := by
  rw [Sort.shiftUp]
  rcases h with h | h
  · rw [if_neg h]
  · split
    · rw [if_pos (by simp [h])]
    · rfl
/-- One step. -/
theorem pi_step (a b s i R : Nat) (d : Array Nat) (hR : Sort.scanSorted ltN d b i = R) : Sort.partialIns ltN a b (s + 1) i d = if R = b then (d, true) else if b - a < 50 then (d, false) else
    Sort.partialIns ltN a b s R (if b - R ≥ 2 then Sort.shiftUp ltN b (R + 1) (if R - a ≥ 2 then Sort.shiftDown ltN (R - 1) (Sort.swp d R (R - 1)) else Sort.swp d R (R - 1)) else (if R - a ≥ 2 then Sort.shiftDown ltN (R - 1) (Sort.swp d R (R - 1)) else Sort.swp d R (R - 1))) := by
  rw [Sort.partialIns, hR]
set_option maxRecDepth 100000 in
set_option maxHeartbeats 6400000 in
theorem pi_any (lo g cap n a b : Nat) (d : Array Nat) (hab : a < b) (hb : b ≤ n) (hn : n ≤ 64) (w : World) (hlo : lo ≤ w.heap.size) (h : SRow 23 w lo g cap n d) :
    Calls Try.prog 63 #[.slice (some ⟨g, 0, none⟩) n cap, .int .i64 a, .int .i64 b] w fun e w' => e = .returned (.bool (Sort.partialInsertionSort ltN d a b).2) ∧ SRow 23 w' lo g cap n (Sort.partialInsertionSort ltN d a b).1 ∧ Below lo w w' := by
  have HS := hid h
  have hcap := h.caps
  have q1 := hcap.1; have q2 := hcap.2
  unfold maxLen at q2
  have hg := h.lt.1
  clear hcap h
  obtain ⟨F, hF⟩ : ∃ F, Sort.partialInsertionSort ltN d a b = F := ⟨_, rfl⟩
  rw [hF]
  have HF := hid (show Sort.partialIns ltN a b 5 (a + 1) d = F from hF)
  clear hF
  have W0 : IntKind.i64.wrap ((a : Int) + 1) = (a : Int) + 1 := by rw [IntKind.wrap_i64]; omega
  have W9 : IntKind.i64.wrap ((b : Int) - (a : Int)) = (b : Int) - (a : Int) := by rw [IntKind.wrap_i64]; omega
  go_enter Try.func63, Try.ntmps63
  go_wp2_with fail
  go_loopw [7, 8] (fun i j wr => ∃ (s I : Nat) (z : Int) (d' : Array Nat), s ≤ 5 ∧ z = 5 - (s : Int) ∧ a + 1 ≤ I ∧ I ≤ b ∧ i = .int .i64 I ∧ j = .int .i64 z ∧ Hid (Sort.partialIns ltN a b s I d' = F) ∧ Hid (SRow 23 wr lo g cap n d') ∧ Below lo w wr) (fun i j _ => 5 - (intOf j).toNat)
  case atStart => exact ⟨5, a + 1, _, d, by omega, rfl, by omega, by omega, by first | rfl | go_num, by first | rfl | go_num, HF, hid (HS.out.below (by (repeat (first | (with_reducible assumption) | (with_reducible apply below_refl) | (with_reducible apply below_alloc1) | (with_reducible apply below_drewN1) | (with_reducible apply below_drew1))))), Below.mono (show Below w.heap.size w _ by (repeat (first | (with_reducible assumption) | (with_reducible apply below_refl) | (with_reducible apply below_alloc1) | (with_reducible apply below_drewN1) | (with_reducible apply below_drew1)))) hlo⟩
  case round =>
    obtain ⟨s, I0, z, d', hs5, hz, hI1, hI2, rfl, rfl, hP, hs, hw⟩ := hrel
    have hlow := Nat.le_trans hlo hw.size
    cases s with
    | zero =>
      have hz5 : ¬ z < 5 := by omega
      clear hz
      have hF2 := hP.out
      go_wp2_with fail
      go_ret
      rw [← hF2]
      exact ⟨rfl, hs.out.below (by (repeat (first | (with_reducible assumption) | (with_reducible apply below_refl) | (with_reducible apply below_alloc1) | (with_reducible apply below_drewN1) | (with_reducible apply below_drew1)))), hw.trans (Below.mono (show Below wr.heap.size wr _ by (repeat (first | (with_reducible assumption) | (with_reducible apply below_refl) | (with_reducible apply below_alloc1) | (with_reducible apply below_drewN1) | (with_reducible apply below_drew1)))) hlow)⟩
    | succ s =>
      have hz5 : z < 5 := by omega
      have hz0 : 0 ≤ z := by omega
      have WZ : IntKind.i64.wrap (z + 1) = z + 1 := by rw [IntKind.wrap_i64]; omega
      have HZ := hid hz
      clear hz
      obtain ⟨R, hR⟩ : ∃ R, Sort.scanSorted ltN d' b I0 = R := ⟨_, rfl⟩
      obtain ⟨⟨r1, r2⟩, hu, hue⟩ := sorted_scan d' b _ I0 R rfl hI2 hR
      have HST := hid (pi_step a b s I0 R d' hR)
      have HU := hid hu
      have HUE := hid hue
      clear hu hue hR
      have hs6 := hs
      have hw6 := hw
      have hl6 := hlow
      go_wp2_with fail
      by_cases hA : R = b
      · skip
        go_loopw [7] (fun i wr => ∃ I : Nat, I0 ≤ I ∧ I ≤ R ∧ i = .int .i64 I ∧ Hid (SRow 23 wr lo g cap n d') ∧ Below lo w wr) (fun i _ => R - (intOf i).toNat)
        case atStart => exact ⟨I0, Nat.le_refl _, r1, rfl, hid (hs6.out.below (by (repeat (first | (with_reducible assumption) | (with_reducible apply below_refl) | (with_reducible apply below_alloc1) | (with_reducible apply below_drewN1) | (with_reducible apply below_drew1))))), hw6.trans (Below.mono (show Below _ _ _ by (repeat (first | (with_reducible assumption) | (with_reducible apply below_refl) | (with_reducible apply below_alloc1) | (with_reducible apply below_drewN1) | (with_reducible apply below_drew1)))) hl6)⟩
        case round =>
          obtain ⟨I, h1, h2, rfl, hs, hw⟩ := hrel
          have hlow := Nat.le_trans hlo hw.size
          by_cases hlt : I < R
          · have gi : (I : Int) < (b : Int) := by omega
            have vn : (I : Int) < (n : Int) := by omega
            have z0 : (0 : Int) ≤ (I : Int) - 1 := by omega
            have z1 : (0 : Int) ≤ (I : Int) := by omega
            have vm : (I : Int) - 1 < (n : Int) := by omega
            have WM : IntKind.i64.wrap ((I : Int) - 1) = (I : Int) - 1 := by rw [IntKind.wrap_i64]; omega
            have im : ((I : Int) - 1).toNat = I - 1 := by omega
            have W1 : IntKind.i64.wrap ((I : Int) + 1) = (I : Int) + 1 := by rw [IntKind.wrap_i64]; omega
            obtain ⟨x, y, c1, c2, f1, f2, p1, p2, ov, l1, l2, -⟩ := hs.out.pair (i := I) (j := I - 1) (by omega) (by omega)
            have hd : decide (x < y) = false := by rw [← l1.out]; exact HU.out I (by omega) (by omega)
            go_wp2_with fail
            go_quiet ((go_at_call 64; exact quiet_at hd (sLess_any _ _ p1 p2 _)))
            go_wp2_with fail
            refine ⟨⟨I + 1, by omega, by omega, by first | rfl | go_num, hid (hs.out.below (by (repeat (first | (with_reducible assumption) | (with_reducible apply below_refl) | (with_reducible apply below_alloc1) | (with_reducible apply below_drewN1) | (with_reducible apply below_drew1))))), hw.trans (Below.mono (show Below wr.heap.size wr _ by (repeat (first | (with_reducible assumption) | (with_reducible apply below_refl) | (with_reducible apply below_alloc1) | (with_reducible apply below_drewN1) | (with_reducible apply below_drew1)))) hlow)⟩, by simp [intOf]; omega⟩
          · obtain rfl : R = I := by omega
            have gN : ¬ R < b := by omega
            have gi : decide ((R : Int) < (b : Int)) = false := by simp; omega
            go_wp2_with fail
            go_quiet (fail)
            have hs7 := hid (hs.out.below (below_drewN wr nq))
            have hw7 : Below lo w (wr.drewN nq) := hw.trans (Below.mono (below_drewN wr nq) hlow)
            have hl7 := Nat.le_trans hlo hw7.size
            generalize wr.drewN nq = w7 at hs7 hw7 hl7 ⊢
            clear h1 h2 gi
            have heq : ((R : Int) == (b : Int)) = true := by simp; omega
            go_wp2_with fail
            go_ret
            rw [HST.out, if_pos hA] at hP
            rw [← hP.out]
            exact ⟨rfl, hs7.out.below (by (repeat (first | (with_reducible assumption) | (with_reducible apply below_refl) | (with_reducible apply below_alloc1) | (with_reducible apply below_drewN1) | (with_reducible apply below_drew1)))), hw7.trans (Below.mono (show Below w7.heap.size w7 _ by (repeat (first | (with_reducible assumption) | (with_reducible apply below_refl) | (with_reducible apply below_alloc1) | (with_reducible apply below_drewN1) | (with_reducible apply below_drew1)))) hl7)⟩
      · skip
        go_loopw [7] (fun i wr => ∃ I : Nat, I0 ≤ I ∧ I ≤ R ∧ i = .int .i64 I ∧ Hid (SRow 23 wr lo g cap n d') ∧ Below lo w wr) (fun i _ => R - (intOf i).toNat)
        case atStart => exact ⟨I0, Nat.le_refl _, r1, rfl, hid (hs6.out.below (by (repeat (first | (with_reducible assumption) | (with_reducible apply below_refl) | (with_reducible apply below_alloc1) | (with_reducible apply below_drewN1) | (with_reducible apply below_drew1))))), hw6.trans (Below.mono (show Below _ _ _ by (repeat (first | (with_reducible assumption) | (with_reducible apply below_refl) | (with_reducible apply below_alloc1) | (with_reducible apply below_drewN1) | (with_reducible apply below_drew1)))) hl6)⟩
        case round =>
          obtain ⟨I, h1, h2, rfl, hs, hw⟩ := hrel
          have hlow := Nat.le_trans hlo hw.size
          by_cases hlt : I < R
          · have gi : (I : Int) < (b : Int) := by omega
            have vn : (I : Int) < (n : Int) := by omega
            have z0 : (0 : Int) ≤ (I : Int) - 1 := by omega
            have z1 : (0 : Int) ≤ (I : Int) := by omega
            have vm : (I : Int) - 1 < (n : Int) := by omega
            have WM : IntKind.i64.wrap ((I : Int) - 1) = (I : Int) - 1 := by rw [IntKind.wrap_i64]; omega
            have im : ((I : Int) - 1).toNat = I - 1 := by omega
            have W1 : IntKind.i64.wrap ((I : Int) + 1) = (I : Int) + 1 := by rw [IntKind.wrap_i64]; omega
            obtain ⟨x, y, c1, c2, f1, f2, p1, p2, ov, l1, l2, -⟩ := hs.out.pair (i := I) (j := I - 1) (by omega) (by omega)
            have hd : decide (x < y) = false := by rw [← l1.out]; exact HU.out I (by omega) (by omega)
            go_wp2_with fail
            go_quiet ((go_at_call 64; exact quiet_at hd (sLess_any _ _ p1 p2 _)))
            go_wp2_with fail
            refine ⟨⟨I + 1, by omega, by omega, by first | rfl | go_num, hid (hs.out.below (by (repeat (first | (with_reducible assumption) | (with_reducible apply below_refl) | (with_reducible apply below_alloc1) | (with_reducible apply below_drewN1) | (with_reducible apply below_drew1))))), hw.trans (Below.mono (show Below wr.heap.size wr _ by (repeat (first | (with_reducible assumption) | (with_reducible apply below_refl) | (with_reducible apply below_alloc1) | (with_reducible apply below_drewN1) | (with_reducible apply below_drew1)))) hlow)⟩, by simp [intOf]; omega⟩
          · obtain rfl : R = I := by omega
            have gi : (R : Int) < (b : Int) := by omega
            have vn : (R : Int) < (n : Int) := by omega
            have z0 : (0 : Int) ≤ (R : Int) - 1 := by omega
            have z1 : (0 : Int) ≤ (R : Int) := by omega
            have vm : (R : Int) - 1 < (n : Int) := by omega
            have WM : IntKind.i64.wrap ((R : Int) - 1) = (R : Int) - 1 := by rw [IntKind.wrap_i64]; omega
            have im : ((R : Int) - 1).toNat = R - 1 := by omega
            obtain ⟨x, y, c1, c2, f1, f2, p1, p2, ov, l1, l2, -⟩ := hs.out.pair (i := R) (j := R - 1) (by omega) (by omega)
            have hd : decide (x < y) = true := by rw [← l1.out]; exact HUE.out (by omega)
            go_wp2_with fail
            go_quiet ((go_at_call 64; exact quiet_at hd (sLess_any _ _ p1 p2 _)))
            have hs7 := hid (hs.out.below (below_drewN wr nq))
            have hw7 : Below lo w (wr.drewN nq) := hw.trans (Below.mono (below_drewN wr nq) hlow)
            have hl7 := Nat.le_trans hlo hw7.size
            generalize wr.drewN nq = w7 at hs7 hw7 hl7 ⊢
            clear h1 h2 z0 z1 vm gi
            have hne : ¬ (R : Int) = (b : Int) := by omega
            have hneb : ((R : Int) == (b : Int)) = false := by simpa using hne
            have hneN : ¬ R = b := by omega
            by_cases h50 : b - a < 50
            · have g50 : (b : Int) - (a : Int) < 50 := by omega
              go_wp2_with fail
              go_ret
              rw [HST.out, if_neg hneN, if_pos h50] at hP
              rw [← hP.out]
              exact ⟨rfl, hs7.out.below (by (repeat (first | (with_reducible assumption) | (with_reducible apply below_refl) | (with_reducible apply below_alloc1) | (with_reducible apply below_drewN1) | (with_reducible apply below_drew1)))), hw7.trans (Below.mono (show Below w7.heap.size w7 _ by (repeat (first | (with_reducible assumption) | (with_reducible apply below_refl) | (with_reducible apply below_alloc1) | (with_reducible apply below_drewN1) | (with_reducible apply below_drew1)))) hl7)⟩
            · have g50 : ¬ (b : Int) - (a : Int) < 50 := by omega
              have g51 : (50 : Int) ≤ (b : Int) - (a : Int) := by omega
              rw [HST.out, if_neg hneN, if_neg h50] at hP
              have vn : (R : Int) < (n : Int) := by omega
              have z0 : (0 : Int) ≤ (R : Int) - 1 := by omega
              have z1 : (0 : Int) ≤ (R : Int) := by omega
              have vm : (R : Int) - 1 < (n : Int) := by omega
              have WM : IntKind.i64.wrap ((R : Int) - 1) = (R : Int) - 1 := by rw [IntKind.wrap_i64]; omega
              have im : ((R : Int) - 1).toNat = R - 1 := by omega
              have zR : (0 : Int) ≤ (R : Int) := by omega
              have WA : IntKind.i64.wrap ((R : Int) - (a : Int)) = (R : Int) - (a : Int) := by rw [IntKind.wrap_i64]; omega
              go_wp2_with fail
              by_cases hD2 : R - a ≥ 2
              · have gd : (2 : Int) ≤ (R : Int) - (a : Int) := by omega
                rw [if_pos hD2] at hP
                obtain ⟨x, y, c1, c2, f1, f2, p1, p2, ov, -, -, hsw⟩ := hs7.out.pair (i := R) (j := (R - 1)) (by omega) (by omega)
                have hs8 := hid ((hsw.out w7 (below_refl _)).below (below_drew _))
                generalize hW8 : ((w7.setCell ⟨g, R, none⟩ (.float .f32 y)).setCell ⟨g, R - 1, none⟩ (.float .f32 x)).drew = w8 at hs8
                have hw8 : Below lo w w8 := by rw [← hW8]; exact ((hw7.setCell hg _).setCell hg _).drew
                have hl8 := Nat.le_trans hlo hw8.size
                clear hsw
                go_big_region
                go_wp2_with (first | (with_reducible refine sWorld hW8 ?_; clear hW8))
                clear c1 c2 f1 f2 ov p1 p2
                obtain ⟨SD, hSD⟩ : ∃ SD, Sort.shiftDown ltN (R - 1) (Sort.swp d' R (R - 1)) = SD := ⟨_, rfl⟩
                rw [hSD] at hP
                have HSD := hid hSD
                clear hSD
                go_loopw [9] (fun j wr => ∃ (J : Nat) (d2 : Array Nat), J ≤ R - 1 ∧ j = .int .i64 J ∧ Hid (Sort.shiftDown ltN J d2 = SD) ∧ Hid (SRow 23 wr lo g cap n d2) ∧ Below lo w wr) (fun j _ => (intOf j).toNat)
                case atStart => exact ⟨R - 1, _, Nat.le_refl _, by first | rfl | go_num | (congr 1; omega), HSD, hid (hs8.out.below (by (repeat (first | (with_reducible assumption) | (with_reducible apply below_refl) | (with_reducible apply below_alloc1) | (with_reducible apply below_drewN1) | (with_reducible apply below_drew1))))), hw8.trans (Below.mono (show Below _ _ _ by (repeat (first | (with_reducible assumption) | (with_reducible apply below_refl) | (with_reducible apply below_alloc1) | (with_reducible apply below_drewN1) | (with_reducible apply below_drew1)))) hl8)⟩
                case round =>
                  obtain ⟨J, d2, hJ1, rfl, hG, hs9, hw9⟩ := hrel
                  have hl9 := Nat.le_trans hlo hw9.size
                  cases J with
                  | zero =>
                    have hG2 : d2 = SD := hG.out
                    subst hG2
                    have gz : ¬ (1 : Int) ≤ ((0 : Nat) : Int) := by decide
                    have WU : IntKind.i64.wrap ((b : Int) - (R : Int)) = (b : Int) - (R : Int) := by rw [IntKind.wrap_i64]; omega
                    have WV : IntKind.i64.wrap ((R : Int) + 1) = (R : Int) + 1 := by rw [IntKind.wrap_i64]; omega
                    by_cases hU2 : b - R ≥ 2
                    · have gu : (2 : Int) ≤ (b : Int) - (R : Int) := by omega
                      rw [if_pos hU2] at hP
                      go_wp2_with fail
                      obtain ⟨UP, hUP⟩ : ∃ UP, Sort.shiftUp ltN b (R + 1) (d2) = UP := ⟨_, rfl⟩
                      rw [hUP] at hP
                      have HUP := hid hUP
                      clear hUP
                      go_loopw [10] (fun j wr => ∃ (J : Nat) (d2 : Array Nat), R ≤ J ∧ J + 1 ≤ b ∧ j = .int .i64 ((J : Int) + 1) ∧ Hid (Sort.shiftUp ltN b (J + 1) d2 = UP) ∧ Hid (SRow 23 wr lo g cap n d2) ∧ Below lo w wr) (fun j _ => b - (intOf j).toNat)
                      case atStart => exact ⟨R, _, Nat.le_refl _, by omega, by first | rfl | go_num, HUP, hid (hs9.out.below (by (repeat (first | (with_reducible assumption) | (with_reducible apply below_refl) | (with_reducible apply below_alloc1) | (with_reducible apply below_drewN1) | (with_reducible apply below_drew1))))), hw9.trans (Below.mono (show Below _ _ _ by (repeat (first | (with_reducible assumption) | (with_reducible apply below_refl) | (with_reducible apply below_alloc1) | (with_reducible apply below_drewN1) | (with_reducible apply below_drew1)))) hl9)⟩
                      case round =>
                        obtain ⟨J, d2, hJ1, hJ2, rfl, hG, hsu, hwu⟩ := hrel
                        have hlu := Nat.le_trans hlo hwu.size
                        have WJ : IntKind.i64.wrap ((J : Int) + 1 - 1) = (J : Int) := by rw [IntKind.wrap_i64]; omega
                        have WK : IntKind.i64.wrap ((J : Int) + 1 + 1) = (J : Int) + 1 + 1 := by rw [IntKind.wrap_i64]; omega
                        have ij : ((J : Int) + 1).toNat = J + 1 := by omega
                        have zj : (0 : Int) ≤ (J : Int) := by omega
                        have zk : (0 : Int) ≤ (J : Int) + 1 := by omega
                        by_cases hJb : J + 1 < b
                        · have gj : (J : Int) + 1 < (b : Int) := by omega
                          have jn : (J : Int) + 1 < (n : Int) := by omega
                          have jm : (J : Int) < (n : Int) := by omega
                          obtain ⟨x, y, c1, c2, f1, f2, p1, p2, ov, l1, l2, hsw⟩ := hsu.out.pair (i := J + 1) (j := J) (by omega) (by omega)
                          by_cases hxy : x < y
                          · have hd : decide (x < y) = true := by simpa using hxy
                            rw [su_go hJb (by rw [l1.out]; exact hd)] at hG
                            go_wp2_with fail
                            go_quiet ((go_at_call 64; exact quiet_at hd (sLess_any _ _ p1 p2 _)))
                            go_wp2_with fail
                            go_big_region
                            go_wp2_with fail
                            refine ⟨⟨J + 1, _, by omega, by omega, by first | rfl | go_num, hG, hid (hsw.out _ (below_drewN _ _)), ?_⟩, by simp [intOf]; omega⟩
                            exact ((hwu.trans (Below.mono (below_drewN _ _) hlu)).setCell hg _).setCell hg _
                          · have hd : decide (x < y) = false := by simpa using hxy
                            rw [su_end (Or.inr (by rw [l1.out]; exact hd))] at hG
                            have hG2 := hG.out
                            subst hG2
                            clear hsw
                            go_wp2_with fail
                            go_quiet ((go_at_call 64; exact quiet_at hd (sLess_any _ _ p1 p2 _)))
                            go_wp2_with fail
                            refine ⟨⟨s, R, z + 1, _, by omega, by have := HZ.out; omega, by omega, by omega, by first | rfl | go_num, by first | rfl | go_num, hid hP.out, hid (hsu.out.below (by (repeat (first | (with_reducible assumption) | (with_reducible apply below_refl) | (with_reducible apply below_alloc1) | (with_reducible apply below_drewN1) | (with_reducible apply below_drew1))))), hwu.trans (Below.mono (show Below _ _ _ by (repeat (first | (with_reducible assumption) | (with_reducible apply below_refl) | (with_reducible apply below_alloc1) | (with_reducible apply below_drewN1) | (with_reducible apply below_drew1)))) hlu)⟩, by simp [intOf]; omega⟩
                        · have gj : ¬ (J : Int) + 1 < (b : Int) := by omega
                          rw [su_end (Or.inl hJb)] at hG
                          have hG2 := hG.out
                          subst hG2
                          go_wp2_with fail
                          refine ⟨⟨s, R, z + 1, _, by omega, by have := HZ.out; omega, by omega, by omega, by first | rfl | go_num, by first | rfl | go_num, hid hP.out, hid (hsu.out.below (by (repeat (first | (with_reducible assumption) | (with_reducible apply below_refl) | (with_reducible apply below_alloc1) | (with_reducible apply below_drewN1) | (with_reducible apply below_drew1))))), hwu.trans (Below.mono (show Below _ _ _ by (repeat (first | (with_reducible assumption) | (with_reducible apply below_refl) | (with_reducible apply below_alloc1) | (with_reducible apply below_drewN1) | (with_reducible apply below_drew1)))) hlu)⟩, by simp [intOf]; omega⟩
                    · have gu : ¬ (2 : Int) ≤ (b : Int) - (R : Int) := by omega
                      have gu2 : (b : Int) - (R : Int) < 2 := by omega
                      rw [if_neg hU2] at hP
                      go_wp2_with fail
                      refine ⟨⟨s, R, z + 1, _, by omega, by have := HZ.out; omega, by omega, by omega, by first | rfl | go_num, by first | rfl | go_num, hid hP.out, hid (hs9.out.below (by (repeat (first | (with_reducible assumption) | (with_reducible apply below_refl) | (with_reducible apply below_alloc1) | (with_reducible apply below_drewN1) | (with_reducible apply below_drew1))))), hw9.trans (Below.mono (show Below _ _ _ by (repeat (first | (with_reducible assumption) | (with_reducible apply below_refl) | (with_reducible apply below_alloc1) | (with_reducible apply below_drewN1) | (with_reducible apply below_drew1)))) hl9)⟩, by simp [intOf]; omega⟩
                  | succ j =>
                    have gz : (1 : Int) ≤ (j : Int) + 1 := by omega
                    have zj : (0 : Int) ≤ (j : Int) := by omega
                    have jn : (j : Int) + 1 < (n : Int) := by omega
                    have jm : (j : Int) < (n : Int) := by omega
                    have WJ : IntKind.i64.wrap ((j : Int) + 1 - 1) = (j : Int) := by rw [IntKind.wrap_i64]; omega
                    have ij : ((j : Int) + 1).toNat = j + 1 := by omega
                    have zk : (0 : Int) ≤ (j : Int) + 1 := by omega
                    obtain ⟨x, y, c1, c2, f1, f2, p1, p2, ov, l1, l2, hsw⟩ := hs9.out.pair (i := j + 1) (j := j) (by omega) (by omega)
                    by_cases hxy : x < y
                    · have hd : decide (x < y) = true := by simpa using hxy
                      rw [sd_go (by rw [l1.out]; exact hd)] at hG
                      go_wp2_with fail
                      go_quiet ((go_at_call 64; exact quiet_at hd (sLess_any _ _ p1 p2 _)))
                      go_wp2_with fail
                      go_big_region
                      go_wp2_with fail
                      refine ⟨⟨j, _, by omega, by first | rfl | go_num, hG, hid (hsw.out _ (below_drewN _ _)), ?_⟩, by first | (simp [intOf]; done) | (simp [intOf]; omega)⟩
                      exact ((hw9.trans (Below.mono (below_drewN _ _) hl9)).setCell hg _).setCell hg _
                    · have hd : decide (x < y) = false := by simpa using hxy
                      rw [sd_end (by rw [l1.out]; exact hd)] at hG
                      have hG2 := hG.out
                      subst hG2
                      clear hsw
                      go_wp2_with fail
                      go_quiet ((go_at_call 64; exact quiet_at hd (sLess_any _ _ p1 p2 _)))
                      have hs10 := hid (hs9.out.below (below_drewN wr nq))
                      have hw10 : Below lo w (wr.drewN nq) := hw9.trans (Below.mono (below_drewN wr nq) hl9)
                      have hl10 := Nat.le_trans hlo hw10.size
                      generalize wr.drewN nq = w10 at hs10 hw10 hl10 ⊢
                      have WU : IntKind.i64.wrap ((b : Int) - (R : Int)) = (b : Int) - (R : Int) := by rw [IntKind.wrap_i64]; omega
                      have WV : IntKind.i64.wrap ((R : Int) + 1) = (R : Int) + 1 := by rw [IntKind.wrap_i64]; omega
                      by_cases hU2 : b - R ≥ 2
                      · have gu : (2 : Int) ≤ (b : Int) - (R : Int) := by omega
                        rw [if_pos hU2] at hP
                        go_wp2_with fail
                        obtain ⟨UP, hUP⟩ : ∃ UP, Sort.shiftUp ltN b (R + 1) (d2) = UP := ⟨_, rfl⟩
                        rw [hUP] at hP
                        have HUP := hid hUP
                        clear hUP
                        go_loopw [10] (fun j wr => ∃ (J : Nat) (d2 : Array Nat), R ≤ J ∧ J + 1 ≤ b ∧ j = .int .i64 ((J : Int) + 1) ∧ Hid (Sort.shiftUp ltN b (J + 1) d2 = UP) ∧ Hid (SRow 23 wr lo g cap n d2) ∧ Below lo w wr) (fun j _ => b - (intOf j).toNat)
                        case atStart => exact ⟨R, _, Nat.le_refl _, by omega, by first | rfl | go_num, HUP, hid (hs10.out.below (by (repeat (first | (with_reducible assumption) | (with_reducible apply below_refl) | (with_reducible apply below_alloc1) | (with_reducible apply below_drewN1) | (with_reducible apply below_drew1))))), hw10.trans (Below.mono (show Below _ _ _ by (repeat (first | (with_reducible assumption) | (with_reducible apply below_refl) | (with_reducible apply below_alloc1) | (with_reducible apply below_drewN1) | (with_reducible apply below_drew1)))) hl10)⟩
                        case round =>
                          obtain ⟨J, d2, hJ1, hJ2, rfl, hG, hsu, hwu⟩ := hrel
                          have hlu := Nat.le_trans hlo hwu.size
                          have WJ : IntKind.i64.wrap ((J : Int) + 1 - 1) = (J : Int) := by rw [IntKind.wrap_i64]; omega
                          have WK : IntKind.i64.wrap ((J : Int) + 1 + 1) = (J : Int) + 1 + 1 := by rw [IntKind.wrap_i64]; omega
                          have ij : ((J : Int) + 1).toNat = J + 1 := by omega
                          have zj : (0 : Int) ≤ (J : Int) := by omega
                          have zk : (0 : Int) ≤ (J : Int) + 1 := by omega
                          by_cases hJb : J + 1 < b
                          · have gj : (J : Int) + 1 < (b : Int) := by omega
                            have jn : (J : Int) + 1 < (n : Int) := by omega
                            have jm : (J : Int) < (n : Int) := by omega
                            obtain ⟨x, y, c1, c2, f1, f2, p1, p2, ov, l1, l2, hsw⟩ := hsu.out.pair (i := J + 1) (j := J) (by omega) (by omega)
                            by_cases hxy : x < y
                            · have hd : decide (x < y) = true := by simpa using hxy
                              rw [su_go hJb (by rw [l1.out]; exact hd)] at hG
                              go_wp2_with fail
                              go_quiet ((go_at_call 64; exact quiet_at hd (sLess_any _ _ p1 p2 _)))
                              go_wp2_with fail
                              go_big_region
                              go_wp2_with fail
                              refine ⟨⟨J + 1, _, by omega, by omega, by first | rfl | go_num, hG, hid (hsw.out _ (below_drewN _ _)), ?_⟩, by simp [intOf]; omega⟩
                              exact ((hwu.trans (Below.mono (below_drewN _ _) hlu)).setCell hg _).setCell hg _
                            · have hd : decide (x < y) = false := by simpa using hxy
                              rw [su_end (Or.inr (by rw [l1.out]; exact hd))] at hG
                              have hG2 := hG.out
                              subst hG2
                              clear hsw
                              go_wp2_with fail
                              go_quiet ((go_at_call 64; exact quiet_at hd (sLess_any _ _ p1 p2 _)))
                              go_wp2_with fail
                              refine ⟨⟨s, R, z + 1, _, by omega, by have := HZ.out; omega, by omega, by omega, by first | rfl | go_num, by first | rfl | go_num, hid hP.out, hid (hsu.out.below (by (repeat (first | (with_reducible assumption) | (with_reducible apply below_refl) | (with_reducible apply below_alloc1) | (with_reducible apply below_drewN1) | (with_reducible apply below_drew1))))), hwu.trans (Below.mono (show Below _ _ _ by (repeat (first | (with_reducible assumption) | (with_reducible apply below_refl) | (with_reducible apply below_alloc1) | (with_reducible apply below_drewN1) | (with_reducible apply below_drew1)))) hlu)⟩, by simp [intOf]; omega⟩
                          · have gj : ¬ (J : Int) + 1 < (b : Int) := by omega
                            rw [su_end (Or.inl hJb)] at hG
                            have hG2 := hG.out
                            subst hG2
                            go_wp2_with fail
                            refine ⟨⟨s, R, z + 1, _, by omega, by have := HZ.out; omega, by omega, by omega, by first | rfl | go_num, by first | rfl | go_num, hid hP.out, hid (hsu.out.below (by (repeat (first | (with_reducible assumption) | (with_reducible apply below_refl) | (with_reducible apply below_alloc1) | (with_reducible apply below_drewN1) | (with_reducible apply below_drew1))))), hwu.trans (Below.mono (show Below _ _ _ by (repeat (first | (with_reducible assumption) | (with_reducible apply below_refl) | (with_reducible apply below_alloc1) | (with_reducible apply below_drewN1) | (with_reducible apply below_drew1)))) hlu)⟩, by simp [intOf]; omega⟩
                      · have gu : ¬ (2 : Int) ≤ (b : Int) - (R : Int) := by omega
                        have gu2 : (b : Int) - (R : Int) < 2 := by omega
                        rw [if_neg hU2] at hP
                        go_wp2_with fail
                        refine ⟨⟨s, R, z + 1, _, by omega, by have := HZ.out; omega, by omega, by omega, by first | rfl | go_num, by first | rfl | go_num, hid hP.out, hid (hs10.out.below (by (repeat (first | (with_reducible assumption) | (with_reducible apply below_refl) | (with_reducible apply below_alloc1) | (with_reducible apply below_drewN1) | (with_reducible apply below_drew1))))), hw10.trans (Below.mono (show Below _ _ _ by (repeat (first | (with_reducible assumption) | (with_reducible apply below_refl) | (with_reducible apply below_alloc1) | (with_reducible apply below_drewN1) | (with_reducible apply below_drew1)))) hl10)⟩, by simp [intOf]; omega⟩
              · have gd : ¬ (2 : Int) ≤ (R : Int) - (a : Int) := by omega
                have gd2 : (R : Int) - (a : Int) < 2 := by omega
                rw [if_neg hD2] at hP
                have WU : IntKind.i64.wrap ((b : Int) - (R : Int)) = (b : Int) - (R : Int) := by rw [IntKind.wrap_i64]; omega
                have WV : IntKind.i64.wrap ((R : Int) + 1) = (R : Int) + 1 := by rw [IntKind.wrap_i64]; omega
                by_cases hU2 : b - R ≥ 2
                · have gu : (2 : Int) ≤ (b : Int) - (R : Int) := by omega
                  rw [if_pos hU2] at hP
                  obtain ⟨x, y, c1, c2, f1, f2, p1, p2, ov, -, -, hsw⟩ := hs7.out.pair (i := R) (j := (R - 1)) (by omega) (by omega)
                  have hs8 := hid ((hsw.out w7 (below_refl _)).below (below_drew _))
                  generalize hW8 : ((w7.setCell ⟨g, R, none⟩ (.float .f32 y)).setCell ⟨g, R - 1, none⟩ (.float .f32 x)).drew = w8 at hs8
                  have hw8 : Below lo w w8 := by rw [← hW8]; exact ((hw7.setCell hg _).setCell hg _).drew
                  have hl8 := Nat.le_trans hlo hw8.size
                  clear hsw
                  go_big_region
                  go_wp2_with (first | (with_reducible refine sWorld hW8 ?_; clear hW8))
                  clear c1 c2 f1 f2 ov p1 p2
                  obtain ⟨UP, hUP⟩ : ∃ UP, Sort.shiftUp ltN b (R + 1) (Sort.swp d' R (R - 1)) = UP := ⟨_, rfl⟩
                  rw [hUP] at hP
                  have HUP := hid hUP
                  clear hUP
                  go_loopw [10] (fun j wr => ∃ (J : Nat) (d2 : Array Nat), R ≤ J ∧ J + 1 ≤ b ∧ j = .int .i64 ((J : Int) + 1) ∧ Hid (Sort.shiftUp ltN b (J + 1) d2 = UP) ∧ Hid (SRow 23 wr lo g cap n d2) ∧ Below lo w wr) (fun j _ => b - (intOf j).toNat)
                  case atStart => exact ⟨R, _, Nat.le_refl _, by omega, by first | rfl | go_num, HUP, hid (hs8.out.below (by (repeat (first | (with_reducible assumption) | (with_reducible apply below_refl) | (with_reducible apply below_alloc1) | (with_reducible apply below_drewN1) | (with_reducible apply below_drew1))))), hw8.trans (Below.mono (show Below _ _ _ by (repeat (first | (with_reducible assumption) | (with_reducible apply below_refl) | (with_reducible apply below_alloc1) | (with_reducible apply below_drewN1) | (with_reducible apply below_drew1)))) hl8)⟩
                  case round =>
                    obtain ⟨J, d2, hJ1, hJ2, rfl, hG, hsu, hwu⟩ := hrel
                    have hlu := Nat.le_trans hlo hwu.size
                    have WJ : IntKind.i64.wrap ((J : Int) + 1 - 1) = (J : Int) := by rw [IntKind.wrap_i64]; omega
                    have WK : IntKind.i64.wrap ((J : Int) + 1 + 1) = (J : Int) + 1 + 1 := by rw [IntKind.wrap_i64]; omega
                    have ij : ((J : Int) + 1).toNat = J + 1 := by omega
                    have zj : (0 : Int) ≤ (J : Int) := by omega
                    have zk : (0 : Int) ≤ (J : Int) + 1 := by omega
                    by_cases hJb : J + 1 < b
                    · have gj : (J : Int) + 1 < (b : Int) := by omega
                      have jn : (J : Int) + 1 < (n : Int) := by omega
                      have jm : (J : Int) < (n : Int) := by omega
                      obtain ⟨x, y, c1, c2, f1, f2, p1, p2, ov, l1, l2, hsw⟩ := hsu.out.pair (i := J + 1) (j := J) (by omega) (by omega)
                      by_cases hxy : x < y
                      · have hd : decide (x < y) = true := by simpa using hxy
                        rw [su_go hJb (by rw [l1.out]; exact hd)] at hG
                        go_wp2_with fail
                        go_quiet ((go_at_call 64; exact quiet_at hd (sLess_any _ _ p1 p2 _)))
                        go_wp2_with fail
                        go_big_region
                        go_wp2_with fail
                        refine ⟨⟨J + 1, _, by omega, by omega, by first | rfl | go_num, hG, hid (hsw.out _ (below_drewN _ _)), ?_⟩, by simp [intOf]; omega⟩
                        exact ((hwu.trans (Below.mono (below_drewN _ _) hlu)).setCell hg _).setCell hg _
                      · have hd : decide (x < y) = false := by simpa using hxy
                        rw [su_end (Or.inr (by rw [l1.out]; exact hd))] at hG
                        have hG2 := hG.out
                        subst hG2
                        clear hsw
                        go_wp2_with fail
                        go_quiet ((go_at_call 64; exact quiet_at hd (sLess_any _ _ p1 p2 _)))
                        go_wp2_with fail
                        refine ⟨⟨s, R, z + 1, _, by omega, by have := HZ.out; omega, by omega, by omega, by first | rfl | go_num, by first | rfl | go_num, hid hP.out, hid (hsu.out.below (by (repeat (first | (with_reducible assumption) | (with_reducible apply below_refl) | (with_reducible apply below_alloc1) | (with_reducible apply below_drewN1) | (with_reducible apply below_drew1))))), hwu.trans (Below.mono (show Below _ _ _ by (repeat (first | (with_reducible assumption) | (with_reducible apply below_refl) | (with_reducible apply below_alloc1) | (with_reducible apply below_drewN1) | (with_reducible apply below_drew1)))) hlu)⟩, by simp [intOf]; omega⟩
                    · have gj : ¬ (J : Int) + 1 < (b : Int) := by omega
                      rw [su_end (Or.inl hJb)] at hG
                      have hG2 := hG.out
                      subst hG2
                      go_wp2_with fail
                      refine ⟨⟨s, R, z + 1, _, by omega, by have := HZ.out; omega, by omega, by omega, by first | rfl | go_num, by first | rfl | go_num, hid hP.out, hid (hsu.out.below (by (repeat (first | (with_reducible assumption) | (with_reducible apply below_refl) | (with_reducible apply below_alloc1) | (with_reducible apply below_drewN1) | (with_reducible apply below_drew1))))), hwu.trans (Below.mono (show Below _ _ _ by (repeat (first | (with_reducible assumption) | (with_reducible apply below_refl) | (with_reducible apply below_alloc1) | (with_reducible apply below_drewN1) | (with_reducible apply below_drew1)))) hlu)⟩, by simp [intOf]; omega⟩
                · have gu : ¬ (2 : Int) ≤ (b : Int) - (R : Int) := by omega
                  have gu2 : (b : Int) - (R : Int) < 2 := by omega
                  rw [if_neg hU2] at hP
                  exfalso
                  omega
end Go.Proofs.Ytdldlfefbeflcaa
