/- The walk of laws.FnFaults. -/
import Derived.Test.YtdjpbgdhjkbcmaaByte
import Derived.Test.YtdjpbgdhjkbcmaaFault
import Derived.Test.YtdjpbgdhjkbcmaaLeft
import Derived.Test.YtdjpbgdhjkbcmaaOwn
namespace Go.Proofs.Ytdjpbgdhjkbcmaa
open Go.RowKit

theorem gcdI_dvd (a b : Int) (ha : 0 ≤ a) (hb : 0 ≤ b) : gcdI a b ∣ a ∧ gcdI a b ∣ b := by
  unfold gcdI
  obtain ⟨a, rfl⟩ := Int.eq_ofNat_of_zero_le ha
  obtain ⟨b, rfl⟩ := Int.eq_ofNat_of_zero_le hb
  exact ⟨Int.natCast_dvd_natCast.2 (Nat.gcd_dvd_left _ _), Int.natCast_dvd_natCast.2 (Nat.gcd_dvd_right _ _)⟩
/-- A fraction in least terms is the fraction. -/
theorem least_same (a b : Int) (ha : 0 ≤ a) (hb : 0 < b) : a / gcdI a b * b = b / gcdI a b * a := by
  obtain ⟨h1, h2⟩ := gcdI_dvd a b ha (by omega)
  have hg := gcdI_pos a b hb
  obtain ⟨x, hx⟩ := h1
  obtain ⟨y, hy⟩ := h2
  have e1 : a / gcdI a b = x := Int.ediv_eq_of_eq_mul_right (by omega) hx
  have e2 : b / gcdI a b = y := Int.ediv_eq_of_eq_mul_right (by omega) hy
  rw [e1, e2]
  generalize gcdI a b = g at hx hy
  rw [hx, hy]
  ac_rfl
theorem least_prime (a b d : Int) (ha : 0 ≤ a) (hb : 0 < b) (hd : 2 ≤ d) (h1 : (a / gcdI a b) % d = 0) (h2 : (b / gcdI a b) % d = 0) : False := by
  obtain ⟨a, rfl⟩ := Int.eq_ofNat_of_zero_le ha
  obtain ⟨b, rfl⟩ := Int.eq_ofNat_of_zero_le (show 0 ≤ b by omega)
  obtain ⟨d, rfl⟩ := Int.eq_ofNat_of_zero_le (show 0 ≤ d by omega)
  have hg : gcdI (a : Int) (b : Int) = ((Nat.gcd a b : Nat) : Int) := rfl
  rw [hg] at h1 h2
  rw [← Int.natCast_ediv] at h1 h2
  have k1 : d ∣ a / Nat.gcd a b := Int.natCast_dvd_natCast.1 (Int.dvd_of_emod_eq_zero h1)
  have k2 : d ∣ b / Nat.gcd a b := Int.natCast_dvd_natCast.1 (Int.dvd_of_emod_eq_zero h2)
  have hc := Nat.coprime_div_gcd_div_gcd (m := a) (n := b) (Nat.gcd_pos_of_pos_right _ (by omega))
  have := Nat.dvd_gcd k1 k2
  rw [hc] at this
  have := Nat.le_of_dvd (by decide) this
  omega
theorem least_pos (a b : Int) (ha : 0 ≤ a) (hb : 0 < b) : 0 ≤ a / gcdI a b ∧ a / gcdI a b ≤ a ∧ 1 ≤ b / gcdI a b ∧ b / gcdI a b ≤ b := by
  have hg := gcdI_pos a b hb
  have hl := gcdI_le a b hb
  refine ⟨Int.ediv_nonneg ha (by omega), Int.ediv_le_self _ ha, ?_, Int.ediv_le_self _ (by omega)⟩
  exact Int.le_ediv_of_mul_le hg (by omega)

def drawnCounts (code : List Int) (k : Nat) : List Int := (List.range k).map fun (j : Nat) => 1 + byteAt code (j : Int) 4
theorem drawn_next (code : List Int) (k : Nat) : drawnCounts code (k + 1) = drawnCounts code k ++ [1 + byteAt code k 4] := by
  unfold drawnCounts; rw [List.range_succ, List.map_append]; rfl
theorem drawn_len (code : List Int) (k : Nat) : (drawnCounts code k).length = k := by simp [drawnCounts]
theorem drawn_all (code : List Int) (k : Nat) : allIn (drawnCounts code k) 1 1000 = true := by
  unfold allIn
  rw [List.all_eq_true]
  intro x hx
  unfold drawnCounts at hx
  obtain ⟨j, _, rfl⟩ := List.mem_map.1 hx
  have := byteAt_bd code j 4 (by decide)
  exact inB_mk (by omega) (by omega)
theorem drawn_count (code : List Int) (k : Nat) (v : Int) : (drawnCounts code (k + 1)).count v = (drawnCounts code k).count v + if 1 + byteAt code k 4 = v then 1 else 0 := by
  rw [drawn_next, List.count_append]
  simp [List.count_cons]

theorem walk_short (p q d : Int) (hd : 2 ≤ d) (hp : 0 ≤ p) (hq : 0 ≤ q) (h : ¬ (p % d = 0 ∧ q % d = 0)) : (p % d == 0) = false ∨ ((p % d == 0) = true ∧ (q % d == 0) = false) := by
  by_cases h1 : p % d = 0
  · right; exact ⟨by simpa using h1, by simp; omega⟩
  · left; simpa using h1

theorem found_facts (S B F : Int) (hS : 0 ≤ S ∧ S < 40) (hB : 0 ≤ B ∧ B < 1 + S) (hF : 0 ≤ F ∧ F < 60) :
    ∃ x y, foundM (1 + S) F (1 + B) = .tuple #[.int .i64 x, .int .i64 y, .bool true] ∧ 0 ≤ x ∧ x ≤ 2400 ∧ 1 ≤ y ∧ y ≤ 40 ∧ x * (1 + B) = y * (1 + S) * F ∧ ∀ d, 2 ≤ d → ¬ (x % d = 0 ∧ y % d = 0) := by
  have h0 : 0 ≤ (1 + S) * F := Int.mul_nonneg (by omega) hF.1
  have h1 : (1 + S) * F ≤ 40 * 60 := Int.mul_le_mul (by omega) (by omega) hF.1 (by omega)
  have hp := least_pos ((1 + S) * F) (1 + B) h0 (by omega)
  refine ⟨_, _, foundM_yes (by rw [inB_mk (by omega) (by omega), inB_mk (by omega) (by omega), inB_mk (by omega) (by omega)]; rfl), hp.1, by omega, hp.2.2.1, by omega, ?_, fun d hd h => least_prime _ _ d h0 (by omega) hd h.1 h.2⟩
  rw [least_same _ _ h0 (by omega), Int.mul_assoc]
theorem left_facts (cs : List Int) (n : Nat) (h2 : 2 ≤ n) (h : n ≤ 48) :
    ∃ x y, leftM (drawnCounts cs n) = .tuple #[.int .i64 x, .int .i64 y, .bool true] ∧ 0 ≤ x ∧ x ≤ 2256 ∧ 1 ≤ y ∧ y ≤ 98 ∧ x * 2 * (((drawnCounts cs n).count 2 : Nat) + 1) = y * ((drawnCounts cs n).count 1 : Nat) * (((drawnCounts cs n).count 1 : Nat) - 1) ∧ ∀ d, 2 ≤ d → ¬ (x % d = 0 ∧ y % d = 0) := by
  have hok : leftOk (drawnCounts cs n) = true := by
    unfold leftOk
    rw [drawn_all, inB_mk (by rw [drawn_len]; omega) (by rw [drawn_len]; omega)]; rfl
  have hx := leftX_bd hok
  have hy := leftY_bd hok
  have hp := least_pos (leftX (drawnCounts cs n)) (leftY (drawnCounts cs n)) hx.1 (by omega)
  refine ⟨_, _, leftM_yes hok, hp.1, by omega, hp.2.2.1, by omega, ?_, fun d hd h => least_prime _ _ d hx.1 (by omega) hd h.1 h.2⟩
  have := least_same (leftX (drawnCounts cs n)) (leftY (drawnCounts cs n)) hx.1 (by omega)
  generalize leftX (drawnCounts cs n) / gcdI (leftX (drawnCounts cs n)) (leftY (drawnCounts cs n)) = x at this ⊢
  generalize leftY (drawnCounts cs n) / gcdI (leftX (drawnCounts cs n)) (leftY (drawnCounts cs n)) = y at this ⊢
  unfold leftX leftY at this
  rw [Int.mul_assoc, this, Int.mul_assoc]

set_option maxRecDepth 100000 in
set_option maxHeartbeats 2000000 in
theorem walk_FnFaults (vc : Value) (cs : List Int) (vm : Value) (ms : List Int) (w : World) (hc : RowAt w vc (cs.map (Value.int .u8))) (hcb : ∀ b ∈ cs, 0 ≤ b ∧ b ≤ 255) (hm : RowAt w vm (ms.map (Value.int .u8))) (hmb : ∀ b ∈ ms, 0 ≤ b ∧ b ≤ 255) :
    Calls Try.prog 8 #[vc, vm] w fun e w' => e = .returned (.bool true) ∧ Below w.heap.size w w' := by
  obtain ⟨i0, hi, hz0, hz1, hz2⟩ := info_parts (P := Try.prog) (e := 2) (z := Value.int .i64 0) (size := 1) (bytes := 8) (by kernel_rfl)
  have HC := hid hc; have HM := hid hm; have HCB := hid hcb; have HMB := hid hmb
  clear hc hm hcb hmb
  cases hl : (decide (1048576 < cs.length) || decide (1048576 < ms.length))
  · obtain ⟨S, hS⟩ : ∃ S, byteAt ms 0 40 = S := ⟨_, rfl⟩
    have bS := byteAt_bd ms 0 40 (by decide)
    rw [hS] at bS
    obtain ⟨B, hB⟩ : ∃ B, byteAt ms 1 (1 + S) = B := ⟨_, rfl⟩
    have bB := byteAt_bd ms 1 (1 + S) (by omega)
    rw [hB] at bB
    obtain ⟨F, hF⟩ : ∃ F, byteAt ms 2 60 = F := ⟨_, rfl⟩
    have bF := byteAt_bd ms 2 60 (by decide)
    rw [hF] at bF
    obtain ⟨N, hN⟩ : ∃ N, byteAt ms 3 12 = N := ⟨_, rfl⟩
    have bN := byteAt_bd ms 3 12 (by decide)
    rw [hN] at bN
    have HS := hid hS; have HB := hid hB; have HF := hid hF; have HN := hid hN
    clear hS hB hF hN
    obtain ⟨x, y, hfd, x0, x1, y0, y1, heq, hprime⟩ := found_facts S B F bS bB bF
    have HFD := hid hfd; have HP := hid hprime
    have m1 : 0 ≤ x * (1 + B) := Int.mul_nonneg x0 (by omega)
    have m2 : x * (1 + B) ≤ 2400 * 41 := Int.mul_le_mul x1 (by omega) (by omega) (by omega)
    have m3 : 0 ≤ y * (1 + S) := Int.mul_nonneg (by omega) (by omega)
    have m4 : y * (1 + S) ≤ 40 * 41 := Int.mul_le_mul y1 (by omega) (by omega) (by omega)
    have m5 : 0 ≤ y * (1 + S) * F := by omega
    have m6 : y * (1 + S) * F ≤ 2400 * 41 := by omega
    have e1 : (x * (1 + B) != y * (1 + S) * F) = false := by simp [heq]
    have e2 : (x * (1 + B) == y * (1 + S) * F) = true := by simp [heq]
    have d1 : decide (y < 1) = false := by simp; omega
    have d2 : decide (x < 0) = false := by simp; omega
    obtain ⟨p, q, hlf, p0, p1, q0, q1, heq2, hprime2⟩ := left_facts cs (2 + N).toNat (by omega) (by omega)
    have HLF := hid hlf; have HP2 := hid hprime2
    obtain ⟨c1, hc1⟩ : ∃ c : Nat, (drawnCounts cs (2 + N).toNat).count 1 = c := ⟨_, rfl⟩
    obtain ⟨c2, hc2⟩ : ∃ c : Nat, (drawnCounts cs (2 + N).toNat).count 2 = c := ⟨_, rfl⟩
    have bc1 : c1 ≤ 13 := by rw [← hc1]; have := @List.count_le_length Int _ 1 (drawnCounts cs (2 + N).toNat); rw [drawn_len] at this; omega
    have bc2 : c2 ≤ 13 := by rw [← hc2]; have := @List.count_le_length Int _ 2 (drawnCounts cs (2 + N).toNat); rw [drawn_len] at this; omega
    rw [hc1, hc2] at heq2
    have HC1 := hid hc1; have HC2 := hid hc2
    have n1 : 0 ≤ p * 2 * ((c2 : Int) + 1) := Int.mul_nonneg (by omega) (by omega)
    have n2 : p * 2 * ((c2 : Int) + 1) ≤ 5000 * 14 := Int.mul_le_mul (by omega) (by omega) (by omega) (by omega)
    have n3 : 0 ≤ q * (c1 : Int) := Int.mul_nonneg (by omega) (by omega)
    have n4 : q * (c1 : Int) ≤ 98 * 13 := Int.mul_le_mul (by omega) (by omega) (by omega) (by omega)
    have n5 : 0 ≤ q * (c1 : Int) * ((c1 : Int) - 1) := by omega
    have n6 : q * (c1 : Int) * ((c1 : Int) - 1) ≤ 5000 * 14 := by omega
    have e3 : (p * 2 * ((c2 : Int) + 1) != q * (c1 : Int) * ((c1 : Int) - 1)) = false := by simp [heq2]
    have e4 : (p * 2 * ((c2 : Int) + 1) == q * (c1 : Int) * ((c1 : Int) - 1)) = true := by simp [heq2]
    have d3 : decide (q < 1) = false := by simp; omega
    have d4 : decide (p < 0) = false := by simp; omega
    clear hfd hprime heq hlf hprime2 heq2 hc1 hc2
    go_enter Try.func8, Try.ntmps8
    go_wp2_with (first
      | (go_at_call 25; refine (b10Long_any _ _ cs ms _ (HC.out.below (by (repeat (first | (with_reducible assumption) | (with_reducible apply below_refl) | (with_reducible apply below_alloc1) | (with_reducible apply below_drewN1) | (with_reducible apply below_drew1))))) (HM.out.below (by (repeat (first | (with_reducible assumption) | (with_reducible apply below_refl) | (with_reducible apply below_alloc1) | (with_reducible apply below_drewN1) | (with_reducible apply below_drew1))))) _ hl).mono ?_; rintro e w' ⟨rfl, hb⟩; have hB : Below w.heap.size w w' := below_trans (by (repeat (first | (with_reducible assumption) | (with_reducible apply below_refl) | (with_reducible apply below_alloc1) | (with_reducible apply below_drewN1) | (with_reducible apply below_drew1)))) hb; have hC := (bcell hB).1; clear hb)
      | (go_at_call 26; refine (b10At_any _ ms _ _ _ (HM.out.below (by (repeat (first | (with_reducible assumption) | (with_reducible apply below_refl) | (with_reducible apply below_alloc1) | (with_reducible apply below_drewN1) | (with_reducible apply below_drew1))))) HMB.out ⟨by omega, by omega⟩ ⟨by omega, by omega⟩).mono ?_; (first | rw [HS.out] | rw [HB.out] | rw [HF.out]); rintro e w' ⟨rfl, hb⟩; have hB : Below w.heap.size w w' := below_trans (by (repeat (first | (with_reducible assumption) | (with_reducible apply below_refl) | (with_reducible apply below_alloc1) | (with_reducible apply below_drewN1) | (with_reducible apply below_drew1)))) hb; have hC := (bcell hB).1; clear hb)
      | (go_at_call 19; refine (implFound_any _ _ _ _).mono ?_; rw [HFD.out]; rintro e w' ⟨rfl, hb⟩; have hB : Below w.heap.size w w' := below_trans (by (repeat (first | (with_reducible assumption) | (with_reducible apply below_refl) | (with_reducible apply below_alloc1) | (with_reducible apply below_drewN1) | (with_reducible apply below_drew1)))) hb; have hC := (bcell hB).1; clear hb))
    have hsz := (show Below w.heap.size w _ from by assumption).size
    go_loopw [11, 12, 13, 14] (fun v a b i wr => ∃ k : Nat, (k : Int) ≤ 2 + N ∧ i = .int .i64 k ∧ a = .int .i64 ((drawnCounts cs k).count 1 : Nat) ∧ b = .int .i64 ((drawnCounts cs k).count 2 : Nat) ∧ Hid (wr.ownsRow w.heap.size 2 1 v ((drawnCounts cs k).map (Value.int .i64)).length ((drawnCounts cs k).map (Value.int .i64))) ∧ Below w.heap.size w wr) (fun _ _ _ i _ => (2 + N).toNat - (intOf i).toNat)
    case atStart => exact ⟨0, by omega, rfl, rfl, rfl, hid (World.ownsRow_made _ #[] 0 hsz (by simp [maxLen]) rfl), by (repeat (first | (with_reducible assumption) | (with_reducible apply below_refl) | (with_reducible apply below_alloc1) | (with_reducible apply below_drewN1) | (with_reducible apply below_drew1)))⟩
    case round =>
      obtain ⟨k, hk, rfl, rfl, rfl, ho, hw⟩ := hrel
      have hC1 := (bcell hw).1
      have hlen : ((drawnCounts cs k).map (Value.int .i64)).length = k := by rw [List.length_map, drawn_len]
      have HLEN := hid hlen; clear hlen
      by_cases hlt : (k : Int) < 2 + N
      · obtain ⟨c, hcv⟩ : ∃ c, byteAt cs k 4 = c := ⟨_, rfl⟩
        have bc := byteAt_bd cs k 4 (by decide)
        rw [hcv] at bc
        have k1 := drawn_count cs k 1
        have k2 := drawn_count cs k 2
        have k3 := drawn_next cs k
        rw [hcv] at k1 k2 k3
        have HCV := hid hcv
        clear hcv
        have u1 : (drawnCounts cs k).count 1 ≤ 13 := by have := @List.count_le_length Int _ 1 (drawnCounts cs k); rw [drawn_len] at this; omega
        have u2 : (drawnCounts cs k).count 2 ≤ 13 := by have := @List.count_le_length Int _ 2 (drawnCounts cs k); rw [drawn_len] at this; omega
        by_cases t1 : 1 + c = 1
        · have t2 : ¬ 1 + c = 2 := by omega
          rw [if_pos t1] at k1
          rw [if_neg t2] at k2
          have K1 := hid k1; have K2 := hid k2; have K3 := hid k3
          clear k1 k2 k3
          go_wp2_with (first
            | (go_at_call 26; (with_reducible refine (b10At_any _ ms _ _ _ (HM.out.below (by (repeat (first | (with_reducible assumption) | (with_reducible apply below_refl) | (with_reducible apply below_alloc1) | (with_reducible apply below_drewN1) | (with_reducible apply below_drew1))))) HMB.out ⟨by omega, by omega⟩ ⟨by omega, by omega⟩).mono ?_); rw [HN.out]; rintro e w' ⟨rfl, hb⟩; have hB : Below w.heap.size w w' := below_trans (by (repeat (first | (with_reducible assumption) | (with_reducible apply below_refl) | (with_reducible apply below_alloc1) | (with_reducible apply below_drewN1) | (with_reducible apply below_drew1)))) hb; have hC := (bcell hB).1; have hO := hid (ownsRow_below ho.out hb); clear hb)
            | (go_at_call 26; (with_reducible refine (b10At_any _ cs _ _ _ (HC.out.below (by (repeat (first | (with_reducible assumption) | (with_reducible apply below_refl) | (with_reducible apply below_alloc1) | (with_reducible apply below_drewN1) | (with_reducible apply below_drew1))))) HCB.out ⟨by omega, by omega⟩ ⟨by omega, by omega⟩).mono ?_); rw [HCV.out]; rintro e w' ⟨rfl, hb⟩; have hB : Below w.heap.size w w' := below_trans (by (repeat (first | (with_reducible assumption) | (with_reducible apply below_refl) | (with_reducible apply below_alloc1) | (with_reducible apply below_drewN1) | (with_reducible apply below_drew1)))) hb; have hC := (bcell hB).1; replace hO := hid (ownsRow_below hO.out hb); have hz := hB.size; clear hb)
            | (at_builtin; refine wpList_push rfl _ _ 44 rfl Try.underlying44 hi hz0 hz1 hz2 rfl w.heap.size _ _ rfl rfl hO.out rfl (by rw [HLEN.out]; omega) (by decide) hz ?_; intro v1 w2 hown hb2))
          go_roundw
          case rel =>
            refine ⟨k + 1, by omega, by go_num, by rw [K1.out]; rfl, by rw [K2.out]; rfl, hid ?_, Below.trans (by assumption) hb2⟩
            rw [K3.out, List.map_append]; simp only [List.map_cons, List.map_nil, t1]; exact hown
          case measure => simp [intOf]; omega
        · by_cases t2 : 1 + c = 2
          · rw [if_neg t1] at k1
            rw [if_pos t2] at k2
            have K1 := hid k1; have K2 := hid k2; have K3 := hid k3
            clear k1 k2 k3
            go_wp2_with (first
              | (go_at_call 26; (with_reducible refine (b10At_any _ ms _ _ _ (HM.out.below (by (repeat (first | (with_reducible assumption) | (with_reducible apply below_refl) | (with_reducible apply below_alloc1) | (with_reducible apply below_drewN1) | (with_reducible apply below_drew1))))) HMB.out ⟨by omega, by omega⟩ ⟨by omega, by omega⟩).mono ?_); rw [HN.out]; rintro e w' ⟨rfl, hb⟩; have hB : Below w.heap.size w w' := below_trans (by (repeat (first | (with_reducible assumption) | (with_reducible apply below_refl) | (with_reducible apply below_alloc1) | (with_reducible apply below_drewN1) | (with_reducible apply below_drew1)))) hb; have hC := (bcell hB).1; have hO := hid (ownsRow_below ho.out hb); clear hb)
              | (go_at_call 26; (with_reducible refine (b10At_any _ cs _ _ _ (HC.out.below (by (repeat (first | (with_reducible assumption) | (with_reducible apply below_refl) | (with_reducible apply below_alloc1) | (with_reducible apply below_drewN1) | (with_reducible apply below_drew1))))) HCB.out ⟨by omega, by omega⟩ ⟨by omega, by omega⟩).mono ?_); rw [HCV.out]; rintro e w' ⟨rfl, hb⟩; have hB : Below w.heap.size w w' := below_trans (by (repeat (first | (with_reducible assumption) | (with_reducible apply below_refl) | (with_reducible apply below_alloc1) | (with_reducible apply below_drewN1) | (with_reducible apply below_drew1)))) hb; have hC := (bcell hB).1; replace hO := hid (ownsRow_below hO.out hb); have hz := hB.size; clear hb)
              | (at_builtin; refine wpList_push rfl _ _ 44 rfl Try.underlying44 hi hz0 hz1 hz2 rfl w.heap.size _ _ rfl rfl hO.out rfl (by rw [HLEN.out]; omega) (by decide) hz ?_; intro v1 w2 hown hb2))
            go_roundw
            case rel =>
              refine ⟨k + 1, by omega, by go_num, by rw [K1.out]; rfl, by rw [K2.out]; rfl, hid ?_, Below.trans (by assumption) hb2⟩
              rw [K3.out, List.map_append]; simp only [List.map_cons, List.map_nil, t2]; exact hown
            case measure => simp [intOf]; omega
          · rw [if_neg t1] at k1
            rw [if_neg t2] at k2
            have K1 := hid k1; have K2 := hid k2; have K3 := hid k3
            clear k1 k2 k3
            go_wp2_with (first
              | (go_at_call 26; (with_reducible refine (b10At_any _ ms _ _ _ (HM.out.below (by (repeat (first | (with_reducible assumption) | (with_reducible apply below_refl) | (with_reducible apply below_alloc1) | (with_reducible apply below_drewN1) | (with_reducible apply below_drew1))))) HMB.out ⟨by omega, by omega⟩ ⟨by omega, by omega⟩).mono ?_); rw [HN.out]; rintro e w' ⟨rfl, hb⟩; have hB : Below w.heap.size w w' := below_trans (by (repeat (first | (with_reducible assumption) | (with_reducible apply below_refl) | (with_reducible apply below_alloc1) | (with_reducible apply below_drewN1) | (with_reducible apply below_drew1)))) hb; have hC := (bcell hB).1; have hO := hid (ownsRow_below ho.out hb); clear hb)
              | (go_at_call 26; (with_reducible refine (b10At_any _ cs _ _ _ (HC.out.below (by (repeat (first | (with_reducible assumption) | (with_reducible apply below_refl) | (with_reducible apply below_alloc1) | (with_reducible apply below_drewN1) | (with_reducible apply below_drew1))))) HCB.out ⟨by omega, by omega⟩ ⟨by omega, by omega⟩).mono ?_); rw [HCV.out]; rintro e w' ⟨rfl, hb⟩; have hB : Below w.heap.size w w' := below_trans (by (repeat (first | (with_reducible assumption) | (with_reducible apply below_refl) | (with_reducible apply below_alloc1) | (with_reducible apply below_drewN1) | (with_reducible apply below_drew1)))) hb; have hC := (bcell hB).1; replace hO := hid (ownsRow_below hO.out hb); have hz := hB.size; clear hb)
              | (at_builtin; refine wpList_push rfl _ _ 44 rfl Try.underlying44 hi hz0 hz1 hz2 rfl w.heap.size _ _ rfl rfl hO.out rfl (by rw [HLEN.out]; omega) (by decide) hz ?_; intro v1 w2 hown hb2))
            go_roundw
            case rel =>
              refine ⟨k + 1, by omega, by go_num, by rw [K1.out]; rfl, by rw [K2.out]; rfl, hid ?_, Below.trans (by assumption) hb2⟩
              rw [K3.out, List.map_append]; exact hown
            case measure => simp [intOf]; omega
      · have hk' : k = (2 + N).toNat := by omega
        have HK := hid hk'; clear hk'
        rw [HK.out] at ho ⊢
        rw [HC1.out, HC2.out]
        go_wp2_with (first
          | (go_at_call 26; (with_reducible refine (b10At_any _ ms _ _ _ (HM.out.below (by (repeat (first | (with_reducible assumption) | (with_reducible apply below_refl) | (with_reducible apply below_alloc1) | (with_reducible apply below_drewN1) | (with_reducible apply below_drew1))))) HMB.out ⟨by omega, by omega⟩ ⟨by omega, by omega⟩).mono ?_); rw [HN.out]; rintro e w' ⟨rfl, hb⟩; have hB : Below w.heap.size w w' := below_trans (by (repeat (first | (with_reducible assumption) | (with_reducible apply below_refl) | (with_reducible apply below_alloc1) | (with_reducible apply below_drewN1) | (with_reducible apply below_drew1)))) hb; have hC := (bcell hB).1; have hO := hid (ownsRow_below ho.out hb); clear hb)
          | (go_at_call 27; (with_reducible refine (implLeft_any _ (drawnCounts cs (2 + N).toNat) _ (Own.mk' hO.out).row).mono ?_); rw [HLF.out]; rintro e w' ⟨rfl, hb⟩; have hB : Below w.heap.size w w' := below_trans (by (repeat (first | (with_reducible assumption) | (with_reducible apply below_refl) | (with_reducible apply below_alloc1) | (with_reducible apply below_drewN1) | (with_reducible apply below_drew1)))) hb; have hC := (bcell hB).1; clear hb))
        go_loopw [19] (fun d wr => ∃ m : Int, d = .int .i64 m ∧ 2 ≤ m ∧ m ≤ 1000 ∧ Below w.heap.size w wr) (fun d _ => 1000 - (intOf d).toNat)
        case atStart => exact ⟨2, rfl, by omega, by omega, by (repeat (first | (with_reducible assumption) | (with_reducible apply below_refl) | (with_reducible apply below_alloc1) | (with_reducible apply below_drewN1) | (with_reducible apply below_drew1)))⟩
        case round =>
          obtain ⟨m, rfl, m0, m1, hw⟩ := hrel
          by_cases hle : m ≤ q
          · have hno := HP2.out m m0
            have hz : (m == 0) = false := by simp; omega
            by_cases g1 : p % m = 0
            · have g2 : ¬ q % m = 0 := fun h => hno ⟨g1, h⟩
              clear hno
              go_wp2_with fail
              go_roundw
              case rel => exact ⟨m + 1, rfl, by omega, by omega, by (repeat (first | (with_reducible assumption) | (with_reducible apply below_refl) | (with_reducible apply below_alloc1) | (with_reducible apply below_drewN1) | (with_reducible apply below_drew1)))⟩
              case measure => simp [intOf]; omega
            · clear hno
              go_wp2_with fail
              go_roundw
              case rel => exact ⟨m + 1, rfl, by omega, by omega, by (repeat (first | (with_reducible assumption) | (with_reducible apply below_refl) | (with_reducible apply below_alloc1) | (with_reducible apply below_drewN1) | (with_reducible apply below_drew1)))⟩
              case measure => simp [intOf]; omega
          · go_wp2_with fail
            go_loopw [20] (fun d wr => ∃ m : Int, d = .int .i64 m ∧ 2 ≤ m ∧ m ≤ 1000 ∧ Below w.heap.size w wr) (fun d _ => 1000 - (intOf d).toNat)
            case atStart => exact ⟨2, rfl, by omega, by omega, by (repeat (first | (with_reducible assumption) | (with_reducible apply below_refl) | (with_reducible apply below_alloc1) | (with_reducible apply below_drewN1) | (with_reducible apply below_drew1)))⟩
            case round =>
              obtain ⟨m, rfl, m0, m1, hw⟩ := hrel
              by_cases hle : m ≤ y
              · have hno := HP.out m m0
                have hz : (m == 0) = false := by simp; omega
                by_cases g1 : x % m = 0
                · have g2 : ¬ y % m = 0 := fun h => hno ⟨g1, h⟩
                  clear hno
                  go_wp2_with fail
                  go_roundw
                  case rel => exact ⟨m + 1, rfl, by omega, by omega, by (repeat (first | (with_reducible assumption) | (with_reducible apply below_refl) | (with_reducible apply below_alloc1) | (with_reducible apply below_drewN1) | (with_reducible apply below_drew1)))⟩
                  case measure => simp [intOf]; omega
                · clear hno
                  go_wp2_with fail
                  go_roundw
                  case rel => exact ⟨m + 1, rfl, by omega, by omega, by (repeat (first | (with_reducible assumption) | (with_reducible apply below_refl) | (with_reducible apply below_alloc1) | (with_reducible apply below_drewN1) | (with_reducible apply below_drew1)))⟩
                  case measure => simp [intOf]; omega
              · go_wp2_with fail
                go_ret
                exact ⟨rfl, by (repeat (first | (with_reducible assumption) | (with_reducible apply below_refl) | (with_reducible apply below_alloc1) | (with_reducible apply below_drewN1) | (with_reducible apply below_drew1)))⟩
  · go_enter Try.func8, Try.ntmps8
    go_wp2_with (first
      | (go_at_call 25; refine (b10Long_any _ _ cs ms _ (HC.out.below (by (repeat (first | (with_reducible assumption) | (with_reducible apply below_refl) | (with_reducible apply below_alloc1) | (with_reducible apply below_drewN1) | (with_reducible apply below_drew1))))) (HM.out.below (by (repeat (first | (with_reducible assumption) | (with_reducible apply below_refl) | (with_reducible apply below_alloc1) | (with_reducible apply below_drewN1) | (with_reducible apply below_drew1))))) _ hl).mono ?_; rintro e w' ⟨rfl, hb⟩; have hB : Below w.heap.size w w' := below_trans (by (repeat (first | (with_reducible assumption) | (with_reducible apply below_refl) | (with_reducible apply below_alloc1) | (with_reducible apply below_drewN1) | (with_reducible apply below_drew1)))) hb; have hC := (bcell hB).1; clear hb))
    go_ret
    exact ⟨rfl, by (repeat (first | (with_reducible assumption) | (with_reducible apply below_refl) | (with_reducible apply below_alloc1) | (with_reducible apply below_drewN1) | (with_reducible apply below_drew1)))⟩
end Go.Proofs.Ytdjpbgdhjkbcmaa
