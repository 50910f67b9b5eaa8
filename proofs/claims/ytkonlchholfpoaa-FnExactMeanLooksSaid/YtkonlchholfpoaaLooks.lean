/- Contracts: MeanLooks, by the symmetry of the two ways to count. -/
import Derived.Test.YtkonlchholfpoaaPlan
import Derived.Test.YtkonlchholfpoaaBin2
namespace Go.Proofs.Ytkonlchholfpoaa
open Go.RowKit

/-- The sum over the first i sizes. -/
def looksS (L m n : Nat) : Nat → Nat
  | 0 => 0
  | i + 1 => looksS L m n i + accS i (L - i) (m : Int) n

theorem looks_step (S T C X Y : Nat) (hC : 0 < C) (hY : 0 < Y) (hT : T * Y = X * C) (n d x y c : Nat) (hn : n = S / Nat.gcd S C) (hd : d = C / Nat.gcd S C) (hx : x = X / Nat.gcd X Y) (hy : y = Y / Nat.gcd X Y) (hc : c = Nat.gcd d y) :
    n * (y / c) + x * (d / c) ≤ S + T ∧ d / c * y ≤ C ∧ 0 < d / c * y ∧ 0 < c ∧ c ≤ d ∧ c ≤ y ∧ n * (y / c) ≤ S + T ∧ x * (d / c) ≤ S + T ∧
      (n * (y / c) + x * (d / c)) / Nat.gcd (n * (y / c) + x * (d / c)) (d / c * y) = (S + T) / Nat.gcd (S + T) C ∧ (d / c * y) / Nat.gcd (n * (y / c) + x * (d / c)) (d / c * y) = C / Nat.gcd (S + T) C := by
  obtain ⟨e1, e2⟩ := least_eq X Y T C hY hC hT.symm
  rw [e1] at hx
  rw [e2] at hy
  have gS : 0 < Nat.gcd S C := Nat.gcd_pos_of_pos_right _ hC
  have gT : 0 < Nat.gcd T C := Nat.gcd_pos_of_pos_right _ hC
  have hS' : n * Nat.gcd S C = S := by rw [hn]; exact Nat.div_mul_cancel (Nat.gcd_dvd_left _ _)
  have hd' : d * Nat.gcd S C = C := by rw [hd]; exact Nat.div_mul_cancel (Nat.gcd_dvd_right _ _)
  have hx' : x * Nat.gcd T C = T := by rw [hx]; exact Nat.div_mul_cancel (Nat.gcd_dvd_left _ _)
  have hy' : y * Nat.gcd T C = C := by rw [hy]; exact Nat.div_mul_cancel (Nat.gcd_dvd_right _ _)
  have dp : 0 < d := by rcases Nat.eq_zero_or_pos d with h | h; · rw [h] at hd'; omega
                        · exact h
  have yp : 0 < y := by rcases Nat.eq_zero_or_pos y with h | h; · rw [h] at hy'; omega
                        · exact h
  have cp : 0 < c := by rw [hc]; exact Nat.gcd_pos_of_pos_right _ yp
  obtain ⟨a, ha⟩ : c ∣ d := by rw [hc]; exact Nat.gcd_dvd_left _ _
  obtain ⟨b, hb⟩ : c ∣ y := by rw [hc]; exact Nat.gcd_dvd_right _ _
  have ea : d / c = a := Nat.div_eq_of_eq_mul_right cp ha
  have eb : y / c = b := Nat.div_eq_of_eq_mul_right cp hb
  rw [ea, eb]
  have hlcm : a * y ∣ C := by
    have h1 : Nat.lcm d y ∣ C := Nat.lcm_dvd ⟨_, hd'.symm⟩ ⟨_, hy'.symm⟩
    have h2 : Nat.lcm d y = a * y := by
      unfold Nat.lcm
      rw [← hc, ha, Nat.mul_assoc]
      exact Nat.mul_div_cancel_left _ cp
    rwa [h2] at h1
  have hle : a * y ≤ C := Nat.le_of_dvd hC hlcm
  have ap : 0 < a := by rcases Nat.eq_zero_or_pos a with h | h; · rw [h] at ha; omega
                        · exact h
  have hpos : 0 < a * y := Nat.mul_pos ap yp
  have hkey : (n * b + x * a) * C = (S + T) * (a * y) := by
    have h1 : n * b * C = S * (a * y) := by
      calc n * b * C = n * b * (d * Nat.gcd S C) := by rw [hd']
        _ = (n * Nat.gcd S C) * (b * d) := by ac_rfl
        _ = S * (a * y) := by rw [hS', ha, hb]; ac_rfl
    have h2 : x * a * C = T * (a * y) := by
      calc x * a * C = x * a * (y * Nat.gcd T C) := by rw [hy']
        _ = (x * Nat.gcd T C) * (a * y) := by ac_rfl
        _ = T * (a * y) := by rw [hx']
    rw [Nat.add_mul, Nat.add_mul, h1, h2]
  have hsum : n * b + x * a ≤ S + T := by
    refine Nat.le_of_mul_le_mul_right ?_ hC
    rw [hkey]
    exact Nat.mul_le_mul_left _ hle
  refine ⟨hsum, hle, hpos, cp, Nat.le_of_dvd dp ⟨a, ha⟩, Nat.le_of_dvd yp ⟨b, hb⟩, by omega, by omega, ?_⟩
  exact least_eq (n * b + x * a) (a * y) (S + T) C hpos hC hkey

theorem looksS_le (L m n i : Nat) (hL : L ≤ 40) (hi : i ≤ L) : looksS L m n i ≤ i * 1099511627776 := by
  induction i with
  | zero => simp [looksS]
  | succ i ih =>
    have := ih (by omega)
    have := accS_le40 i (L - i) (m : Int) n (by omega)
    rw [looksS, Nat.add_mul]
    omega

def looksOk (lot bad a b : Int) : Bool := lotB lot bad a b
def looksM (lot bad a b : Int) : Value :=
  if lotB lot bad a b then
    .tuple #[.int .i64 ((looksS lot.toNat bad.toNat (b + 1).toNat a.toNat / Nat.gcd (looksS lot.toNat bad.toNat (b + 1).toNat a.toNat) (bin lot.toNat bad.toNat) : Nat)), .int .i64 ((bin lot.toNat bad.toNat / Nat.gcd (looksS lot.toNat bad.toNat (b + 1).toNat a.toNat) (bin lot.toNat bad.toNat) : Nat)), .bool true]
  else .tuple #[.int .i64 0, .int .i64 0, .bool false]
theorem looksM_no {lot bad a b : Int} (h : lotB lot bad a b = false) : looksM lot bad a b = .tuple #[.int .i64 0, .int .i64 0, .bool false] := by simp [looksM, h]
theorem looksM_yes {lot bad a b : Int} (h : lotB lot bad a b = true) : looksM lot bad a b = .tuple #[.int .i64 ((looksS lot.toNat bad.toNat (b + 1).toNat a.toNat / Nat.gcd (looksS lot.toNat bad.toNat (b + 1).toNat a.toNat) (bin lot.toNat bad.toNat) : Nat)), .int .i64 ((bin lot.toNat bad.toNat / Nat.gcd (looksS lot.toNat bad.toNat (b + 1).toNat a.toNat) (bin lot.toNat bad.toNat) : Nat)), .bool true] := by simp [looksM, h]
theorem looksM_form (lot bad a b : Int) : ∃ x y z, looksM lot bad a b = .tuple #[.int .i64 x, .int .i64 y, .bool z] := by
  unfold looksM; split <;> exact ⟨_, _, _, rfl⟩
theorem lotB_true {lot bad a b : Int} (h : lotB lot bad a b = true) : 1 ≤ lot ∧ lot ≤ 40 ∧ 0 ≤ bad ∧ bad ≤ lot ∧ 1 ≤ a ∧ a ≤ lot ∧ 0 ≤ b ∧ b ≤ a := by
  simp only [lotB, vldP, inB, Bool.and_eq_true, decide_eq_true_eq] at h
  omega

set_option maxRecDepth 100000 in
set_option maxHeartbeats 2000000 in
theorem implLooks_any (lot bad a b : Int) (w : World) :
    Calls Try.prog 21 #[.int .i64 lot, .int .i64 bad, .agg #[.int .i64 a, .int .i64 b]] w fun e w' => e = .returned (looksM lot bad a b) ∧ Below w.heap.size w w' := by
  cases h1 : isLotB lot a b
  · have HM := hid (looksM_no (lot := lot) (bad := bad) (a := a) (b := b) (by rw [lotB_eq, h1]; rfl))
    go_enter Try.func21, Try.ntmps21
    go_wp2_with fail
    obtain ⟨w1, hw1⟩ : ∃ w1 : World, w1 = (w.alloc (Obj.cells #[.int .i64 a, .int .i64 b] 27)) := ⟨_, rfl⟩
    have c0 : w1.cell? ⟨w.heap.size, 0, none⟩ = some (.int .i64 a) := by subst hw1; go_simp
    have c1 : w1.cell? ⟨w.heap.size, 1, none⟩ = some (.int .i64 b) := by subst hw1; go_simp
    rw [← hw1]
    have hb1 : Below w.heap.size w w1 := by subst hw1; exact below_alloc _ _
    have s0 : w.heap.size < w1.heap.size := by subst hw1; simp
    clear hw1
    go_wp2_with (first | (go_at_call 47; refine (isLot_any _ _ _ _).mono ?_; rw [h1]; rintro e w' ⟨rfl, hb⟩; have hB : Below w1.heap.size w1 w' := below_trans (by (repeat (first | (with_reducible assumption) | (with_reducible apply below_refl) | (with_reducible apply below_alloc1) | (with_reducible apply below_drewN1) | (with_reducible apply below_drew1)))) hb; have hC := (bcell hB).1; clear hb))
    go_ret3
    exact ⟨by rw [HM.out]; rfl, below_trans hb1 (by assumption)⟩
  cases h2 : inB bad 0 lot
  · have HM := hid (looksM_no (lot := lot) (bad := bad) (a := a) (b := b) (by rw [lotB_eq, h2]; simp))
    go_enter Try.func21, Try.ntmps21
    go_wp2_with fail
    obtain ⟨w1, hw1⟩ : ∃ w1 : World, w1 = (w.alloc (Obj.cells #[.int .i64 a, .int .i64 b] 27)) := ⟨_, rfl⟩
    have c0 : w1.cell? ⟨w.heap.size, 0, none⟩ = some (.int .i64 a) := by subst hw1; go_simp
    have c1 : w1.cell? ⟨w.heap.size, 1, none⟩ = some (.int .i64 b) := by subst hw1; go_simp
    rw [← hw1]
    have hb1 : Below w.heap.size w w1 := by subst hw1; exact below_alloc _ _
    have s0 : w.heap.size < w1.heap.size := by subst hw1; simp
    clear hw1
    go_wp2_with (first | (go_at_call 47; refine (isLot_any _ _ _ _).mono ?_; rw [h1]; rintro e w' ⟨rfl, hb⟩; have hB : Below w1.heap.size w1 w' := below_trans (by (repeat (first | (with_reducible assumption) | (with_reducible apply below_refl) | (with_reducible apply below_alloc1) | (with_reducible apply below_drewN1) | (with_reducible apply below_drew1)))) hb; have hC := (bcell hB).1; clear hb) | (go_at_call 52; refine (within_any _ _ _ _).mono ?_; rw [h2]; rintro e w' ⟨rfl, hb⟩; have hB : Below w1.heap.size w1 w' := below_trans (by (repeat (first | (with_reducible assumption) | (with_reducible apply below_refl) | (with_reducible apply below_alloc1) | (with_reducible apply below_drewN1) | (with_reducible apply below_drew1)))) hb; have hC := (bcell hB).1; clear hb))
    go_ret3
    exact ⟨by rw [HM.out]; rfl, below_trans hb1 (by assumption)⟩
  have hok : lotB lot bad a b = true := by rw [lotB_eq, h1, h2]; rfl
  have HM := hid (looksM_yes hok)
  obtain ⟨q1, q2, q3, q4, q5, q6, q7, q8⟩ := lotB_true hok
  have H1 := hid h1; have H2 := hid h2
  clear h1 h2 hok
  go_enter Try.func21, Try.ntmps21
  go_wp2_with fail
  obtain ⟨w1, hw1⟩ : ∃ w1 : World, w1 = (w.alloc (Obj.cells #[.int .i64 a, .int .i64 b] 27)) := ⟨_, rfl⟩
  have c0 : w1.cell? ⟨w.heap.size, 0, none⟩ = some (.int .i64 a) := by subst hw1; go_simp
  have c1 : w1.cell? ⟨w.heap.size, 1, none⟩ = some (.int .i64 b) := by subst hw1; go_simp
  rw [← hw1]
  have hb1 : Below w.heap.size w w1 := by subst hw1; exact below_alloc _ _
  have s0 : w.heap.size < w1.heap.size := by subst hw1; simp
  clear hw1
  go_wp2_with (first | (go_at_call 47; refine (isLot_any _ _ _ _).mono ?_; rw [H1.out]; rintro e w' ⟨rfl, hb⟩; have hB : Below w1.heap.size w1 w' := below_trans (by (repeat (first | (with_reducible assumption) | (with_reducible apply below_refl) | (with_reducible apply below_alloc1) | (with_reducible apply below_drewN1) | (with_reducible apply below_drew1)))) hb; have hC := (bcell hB).1; clear hb) | (go_at_call 52; refine (within_any _ _ _ _).mono ?_; rw [H2.out]; rintro e w' ⟨rfl, hb⟩; have hB : Below w1.heap.size w1 w' := below_trans (by (repeat (first | (with_reducible assumption) | (with_reducible apply below_refl) | (with_reducible apply below_alloc1) | (with_reducible apply below_drewN1) | (with_reducible apply below_drew1)))) hb; have hC := (bcell hB).1; clear hb))
  go_loopw [9, 25] (fun x y wr => ∃ k : Nat, (k : Int) ≤ a ∧ y = .int .i64 k ∧ x = .int .i64 (looksS lot.toNat bad.toNat (b + 1).toNat k : Nat) ∧ Below w1.heap.size w1 wr) (fun _ y _ => a.toNat - (intOf y).toNat)
  case atStart => exact ⟨0, by omega, rfl, rfl, by (repeat (first | (with_reducible assumption) | (with_reducible apply below_refl) | (with_reducible apply below_alloc1) | (with_reducible apply below_drewN1) | (with_reducible apply below_drew1)))⟩
  case round =>
    obtain ⟨k, hk, rfl, rfl, hw⟩ := hrel
    have hC1 := (bcell hw).1
    have hsle := looksS_le lot.toNat bad.toNat (b + 1).toNat k (by omega) (by omega)
    by_cases hlt : (k : Int) < a
    · obtain ⟨T, hT⟩ : ∃ T, accS k (lot.toNat - k) (bad.toNat : Int) (b + 1).toNat = T := ⟨_, rfl⟩
      have hTle := accS_le40 k (lot.toNat - k) (bad.toNat : Int) (b + 1).toNat (by omega)
      have hnx : looksS lot.toNat bad.toNat (b + 1).toNat (k + 1) = looksS lot.toNat bad.toNat (b + 1).toNat k + accS k (lot.toNat - k) (bad.toNat : Int) (b + 1).toNat := rfl
      rw [hT] at hTle hnx
      have hT2 : accS ((k : Int)).toNat (lot - (k : Int)).toNat bad (b + 1).toNat = T := by rw [← hT]; congr 1 <;> omega
      generalize looksS lot.toNat bad.toNat (b + 1).toNat k = S at hsle hnx ⊢
      have HT := hid hT2; have HN := hid hnx
      clear hT hT2 hnx
      go_wp2_with (first | (go_at_call 48; refine (accepts_any _ _ _ _ ⟨by omega, by omega, by omega⟩ ⟨by omega, by omega⟩ ⟨by omega, by omega⟩ _).mono ?_; rw [HT.out]; rintro e w' ⟨rfl, hb⟩; have hB : Below w1.heap.size w1 w' := below_trans (by (repeat (first | (with_reducible assumption) | (with_reducible apply below_refl) | (with_reducible apply below_alloc1) | (with_reducible apply below_drewN1) | (with_reducible apply below_drew1)))) hb; have hC := (bcell hB).1; clear hb))
      go_roundw
      case rel => exact ⟨k + 1, by omega, by go_num, by rw [HN.out]; simp, by (repeat (first | (with_reducible assumption) | (with_reducible apply below_refl) | (with_reducible apply below_alloc1) | (with_reducible apply below_drewN1) | (with_reducible apply below_drew1)))⟩
      case measure => simp [intOf]; omega
    · have hk' : k = a.toNat := by omega
      have HK := hid hk'; clear hk'
      have hC2 := bin_le40 lot.toNat bad.toNat (by omega)
      have hC3 := bin_pos lot.toNat bad.toNat (by omega)
      have hbi : binI lot.toNat bad = bin lot.toNat bad.toNat := by have := binI_nat lot.toNat bad.toNat; rwa [show ((bad.toNat : Nat) : Int) = bad by omega] at this
      obtain ⟨S, hS⟩ : ∃ S, looksS lot.toNat bad.toNat (b + 1).toNat k = S := ⟨_, rfl⟩
      obtain ⟨C, hC⟩ : ∃ C, bin lot.toNat bad.toNat = C := ⟨_, rfl⟩
      rw [hS] at hsle ⊢
      rw [hC] at hC2 hC3 hbi
      have HBI := hid hbi; have HS := hid hS; have HCC := hid hC
      clear hbi hS hC
      have hsle2 : S ≤ 9223372036854775807 := by
        have : k * 1099511627776 ≤ 40 * 1099511627776 := Nat.mul_le_mul_right _ (by omega)
        omega
      go_wp2_with (first
        | (go_at_call 49; refine (choose_i _ _ ⟨by omega, by omega⟩ ⟨by omega, by omega⟩ _).mono ?_; rw [HBI.out]; rintro e w' ⟨rfl, hb⟩; have hB : Below w1.heap.size w1 w' := below_trans (by (repeat (first | (with_reducible assumption) | (with_reducible apply below_refl) | (with_reducible apply below_alloc1) | (with_reducible apply below_drewN1) | (with_reducible apply below_drew1)))) hb; have hC := (bcell hB).1; clear hb)
        | (go_at_call 53; refine (reduced_any S C hsle2 (by omega) hC3 _).mono ?_; rintro e w' ⟨rfl, hb⟩; have hB : Below w1.heap.size w1 w' := below_trans (by (repeat (first | (with_reducible assumption) | (with_reducible apply below_refl) | (with_reducible apply below_alloc1) | (with_reducible apply below_drewN1) | (with_reducible apply below_drew1)))) hb; have hC := (bcell hB).1; clear hb))
      go_ret3
      exact ⟨by rw [HM.out, ← HK.out, HS.out, HCC.out]; rfl, below_trans hb1 (by assumption)⟩
set_option maxRecDepth 100000 in
set_option maxHeartbeats 2000000 in
theorem specLooks_any (lot bad a b : Int) (w : World) :
    Calls Try.prog 20 #[.int .i64 lot, .int .i64 bad, .agg #[.int .i64 a, .int .i64 b]] w fun e w' => e = .returned (looksM lot bad a b) ∧ Below w.heap.size w w' := by
  cases h1 : lotB lot bad a b
  · have HM := hid (looksM_no h1)
    go_enter Try.func20, Try.ntmps20
    go_wp2_with fail
    obtain ⟨w1, hw1⟩ : ∃ w1 : World, w1 = (w.alloc (Obj.cells #[.int .i64 a, .int .i64 b] 27)) := ⟨_, rfl⟩
    have c0 : w1.cell? ⟨w.heap.size, 0, none⟩ = some (.int .i64 a) := by subst hw1; go_simp
    have c1 : w1.cell? ⟨w.heap.size, 1, none⟩ = some (.int .i64 b) := by subst hw1; go_simp
    rw [← hw1]
    have hb1 : Below w.heap.size w w1 := by subst hw1; exact below_alloc _ _
    have s0 : w.heap.size < w1.heap.size := by subst hw1; simp
    clear hw1
    go_wp2_with (first | (go_at_call 44; refine (l06Lot_any _ _ lot bad a b _ (by go_simp) (by go_simp)).mono ?_; rw [h1]; rintro e w' ⟨rfl, hb⟩; have hB : Below w1.heap.size w1 w' := below_trans (by (repeat (first | (with_reducible assumption) | (with_reducible apply below_refl) | (with_reducible apply below_alloc1) | (with_reducible apply below_drewN1) | (with_reducible apply below_drew1)))) hb; have hC := (bcell hB).1; clear hb))
    go_ret3
    exact ⟨by rw [HM.out]; rfl, below_trans hb1 (by assumption)⟩
  have HM := hid (looksM_yes h1)
  obtain ⟨q1, q2, q3, q4, q5, q6, q7, q8⟩ := lotB_true h1
  have H1 := hid h1
  have hC2 := bin_le40 lot.toNat bad.toNat (by omega)
  have hC3 := bin_pos lot.toNat bad.toNat (by omega)
  obtain ⟨C, hC⟩ : ∃ C, bin lot.toNat bad.toNat = C := ⟨_, rfl⟩
  rw [hC] at hC2 hC3
  have HCC := hid hC
  clear h1 hC
  go_enter Try.func20, Try.ntmps20
  go_wp2_with fail
  obtain ⟨w1, hw1⟩ : ∃ w1 : World, w1 = (w.alloc (Obj.cells #[.int .i64 a, .int .i64 b] 27)) := ⟨_, rfl⟩
  have c0 : w1.cell? ⟨w.heap.size, 0, none⟩ = some (.int .i64 a) := by subst hw1; go_simp
  have c1 : w1.cell? ⟨w.heap.size, 1, none⟩ = some (.int .i64 b) := by subst hw1; go_simp
  rw [← hw1]
  have hb1 : Below w.heap.size w w1 := by subst hw1; exact below_alloc _ _
  have s0 : w.heap.size < w1.heap.size := by subst hw1; simp
  clear hw1
  go_wp2_with (first | (go_at_call 44; refine (l06Lot_any _ _ lot bad a b _ (by go_simp) (by go_simp)).mono ?_; rw [H1.out]; rintro e w' ⟨rfl, hb⟩; have hB : Below w1.heap.size w1 w' := below_trans (by (repeat (first | (with_reducible assumption) | (with_reducible apply below_refl) | (with_reducible apply below_alloc1) | (with_reducible apply below_drewN1) | (with_reducible apply below_drew1)))) hb; have hC := (bcell hB).1; clear hb))
  go_loopw [9, 10, 11] (fun x z y wr => ∃ k : Nat, (k : Int) ≤ a ∧ y = .int .i64 k ∧ x = .int .i64 ((looksS lot.toNat bad.toNat (b + 1).toNat k / Nat.gcd (looksS lot.toNat bad.toNat (b + 1).toNat k) C : Nat)) ∧ z = .int .i64 ((C / Nat.gcd (looksS lot.toNat bad.toNat (b + 1).toNat k) C : Nat)) ∧ Below w1.heap.size w1 wr) (fun _ _ y _ => a.toNat - (intOf y).toNat)
  case atStart => exact ⟨0, by omega, rfl, by simp [looksS], by simp [looksS, Nat.div_self hC3], by (repeat (first | (with_reducible assumption) | (with_reducible apply below_refl) | (with_reducible apply below_alloc1) | (with_reducible apply below_drewN1) | (with_reducible apply below_drew1)))⟩
  case round =>
    obtain ⟨k, hk, rfl, rfl, rfl, hw⟩ := hrel
    have hC1 := (bcell hw).1
    have hsle := looksS_le lot.toNat bad.toNat (b + 1).toNat k (by omega) (by omega)
    by_cases hlt : (k : Int) < a
    · obtain ⟨T, hT⟩ : ∃ T, accS k (lot.toNat - k) (bad.toNat : Int) (b + 1).toNat = T := ⟨_, rfl⟩
      have hTle := accS_le40 k (lot.toNat - k) (bad.toNat : Int) (b + 1).toNat (by omega)
      have hnx : looksS lot.toNat bad.toNat (b + 1).toNat (k + 1) = looksS lot.toNat bad.toNat (b + 1).toNat k + accS k (lot.toNat - k) (bad.toNat : Int) (b + 1).toNat := rfl
      rw [hT] at hTle hnx
      obtain ⟨X, hX⟩ : ∃ X, accS bad.toNat (lot.toNat - bad.toNat) (k : Int) (b + 1).toNat = X := ⟨_, rfl⟩
      have hXle := accS_le40 bad.toNat (lot.toNat - bad.toNat) (k : Int) (b + 1).toNat (by omega)
      rw [hX] at hXle
      obtain ⟨Y, hY⟩ : ∃ Y, bin lot.toNat k = Y := ⟨_, rfl⟩
      have hYle := bin_le40 lot.toNat k (by omega)
      have hYp := bin_pos lot.toNat k (by omega)
      rw [hY] at hYle hYp
      have hyp := accS_hyper lot.toNat k bad.toNat (b + 1).toNat (by omega) (by omega)
      rw [hT, hX, hY, HCC.out] at hyp
      have hX2 : accS bad.toNat (lot - bad).toNat (k : Int) (b + 1).toNat = X := by rw [← hX]; congr 1; omega
      have hY2 : binI lot.toNat (k : Int) = Y := by rw [binI_nat, hY]
      generalize looksS lot.toNat bad.toNat (b + 1).toNat k = S at hsle hnx ⊢
      obtain ⟨n, hn⟩ : ∃ n, n = S / Nat.gcd S C := ⟨_, rfl⟩
      obtain ⟨d, hd⟩ : ∃ d, d = C / Nat.gcd S C := ⟨_, rfl⟩
      obtain ⟨x, hx⟩ : ∃ x, x = X / Nat.gcd X Y := ⟨_, rfl⟩
      obtain ⟨y, hy⟩ : ∃ y, y = Y / Nat.gcd X Y := ⟨_, rfl⟩
      obtain ⟨c, hc⟩ : ∃ c, c = Nat.gcd d y := ⟨_, rfl⟩
      obtain ⟨s1, s2, s3, s4, s5, s6, s7, s8, s9, s10⟩ := looks_step S T C X Y hC3 hYp hyp n d x y c hn hd hx hy hc
      have hx3 : x ≤ X := by rw [hx]; exact Nat.div_le_self _ _
      have hy3 : y ≤ Y := by rw [hy]; exact Nat.div_le_self _ _
      have hd3 : d ≤ C := by rw [hd]; exact Nat.div_le_self _ _
      have hn3 : n ≤ S := by rw [hn]; exact Nat.div_le_self _ _
      have hk40 : k * 1099511627776 ≤ 40 * 1099511627776 := Nat.mul_le_mul_right _ (by omega)
      rw [← hn, ← hd]
      have HX2 := hid hX2; have HY2 := hid hY2; have HN := hid hnx; have HS9 := hid s9; have HS10 := hid s10
      have Hx := hid hx; have Hy := hid hy; have Hc := hid hc
      clear hT hX hY hX2 hY2 hnx hyp hn hd hx hy hc s9 s10
      have u1 : ((n : Nat) : Int) * ((y : Int) / (c : Int)) = ((n * (y / c) : Nat) : Int) := by rw [Int.natCast_mul, Int.natCast_ediv]
      have u2 : ((x : Nat) : Int) * ((d : Int) / (c : Int)) = ((x * (d / c) : Nat) : Int) := by rw [Int.natCast_mul, Int.natCast_ediv]
      have u3 : ((d : Int) / (c : Int)) * (y : Int) = ((d / c * y : Nat) : Int) := by rw [Int.natCast_mul, Int.natCast_ediv]
      have v1 : 0 ≤ ((n : Nat) : Int) * ((y : Int) / (c : Int)) := by rw [u1]; omega
      have v2 : ((n : Nat) : Int) * ((y : Int) / (c : Int)) ≤ 100000000000000 := by rw [u1]; omega
      have v3 : 0 ≤ ((x : Nat) : Int) * ((d : Int) / (c : Int)) := by rw [u2]; omega
      have v4 : ((x : Nat) : Int) * ((d : Int) / (c : Int)) ≤ 100000000000000 := by rw [u2]; omega
      have v5 : 0 ≤ ((d : Int) / (c : Int)) * (y : Int) := by rw [u3]; omega
      have v6 : ((d : Int) / (c : Int)) * (y : Int) ≤ 100000000000000 := by rw [u3]; omega
      have hcz : ((c : Int) == 0) = false := by simp; omega
      have hcz2 : ¬ c = 0 := by omega
      have hcz3 : ¬ (c : Int) = 0 := by omega
      have w3 : 0 ≤ (y : Int) / (c : Int) := Int.ediv_nonneg (by omega) (by omega)
      have w4 : (y : Int) / (c : Int) ≤ 9223372036854775807 := Int.le_trans (Int.ediv_le_self _ (by omega)) (by omega)
      have w5 : 0 ≤ (d : Int) / (c : Int) := Int.ediv_nonneg (by omega) (by omega)
      have w6 : (d : Int) / (c : Int) ≤ 9223372036854775807 := Int.le_trans (Int.ediv_le_self _ (by omega)) (by omega)
      have HU := hid (show ((n : Nat) : Int) * ((y : Int) / (c : Int)) + ((x : Nat) : Int) * ((d : Int) / (c : Int)) = ((n * (y / c) + x * (d / c) : Nat) : Int) by rw [u1, u2]; simp)
      have HU3 := hid u3
      have hsum1 : 0 ≤ ((n : Nat) : Int) * ((y : Int) / (c : Int)) + ((x : Nat) : Int) * ((d : Int) / (c : Int)) := by omega
      have hsum2 : ((n : Nat) : Int) * ((y : Int) / (c : Int)) + ((x : Nat) : Int) * ((d : Int) / (c : Int)) ≤ 200000000000000 := by omega
      clear u1 u2 u3
      have W1 : IntKind.i64.wrap ((y : Int) / (c : Int)) = (y : Int) / (c : Int) := by rw [IntKind.wrap_i64]; omega
      have W2 : IntKind.i64.wrap ((d : Int) / (c : Int)) = (d : Int) / (c : Int) := by rw [IntKind.wrap_i64]; omega
      have W3 : IntKind.i64.wrap (((n : Nat) : Int) * ((y : Int) / (c : Int))) = ((n : Nat) : Int) * ((y : Int) / (c : Int)) := by rw [IntKind.wrap_i64]; omega
      have W4 : IntKind.i64.wrap (((x : Nat) : Int) * ((d : Int) / (c : Int))) = ((x : Nat) : Int) * ((d : Int) / (c : Int)) := by rw [IntKind.wrap_i64]; omega
      have W5 : IntKind.i64.wrap (((n : Nat) : Int) * ((y : Int) / (c : Int)) + ((x : Nat) : Int) * ((d : Int) / (c : Int))) = ((n : Nat) : Int) * ((y : Int) / (c : Int)) + ((x : Nat) : Int) * ((d : Int) / (c : Int)) := by rw [IntKind.wrap_i64]; omega
      have W6 : IntKind.i64.wrap (((d : Int) / (c : Int)) * (y : Int)) = ((d : Int) / (c : Int)) * (y : Int) := by rw [IntKind.wrap_i64]; omega
      go_wp2_with (first
        | (go_at_call 45; refine (l06Sets_any _ _ _ _ ⟨by omega, by omega, by omega⟩ ⟨by omega, by omega⟩ ⟨by omega, by omega⟩ _).mono ?_; rw [HX2.out]; rintro e w' ⟨rfl, hb⟩; have hB : Below w1.heap.size w1 w' := below_trans (by (repeat (first | (with_reducible assumption) | (with_reducible apply below_refl) | (with_reducible apply below_alloc1) | (with_reducible apply below_drewN1) | (with_reducible apply below_drew1)))) hb; have hC := (bcell hB).1; clear hb)
        | (go_at_call 46; refine (l06Choose_i _ _ ⟨by omega, by omega⟩ ⟨by omega, by omega⟩ _).mono ?_; rw [HY2.out]; rintro e w' ⟨rfl, hb⟩; have hB : Below w1.heap.size w1 w' := below_trans (by (repeat (first | (with_reducible assumption) | (with_reducible apply below_refl) | (with_reducible apply below_alloc1) | (with_reducible apply below_drewN1) | (with_reducible apply below_drew1)))) hb; have hC := (bcell hB).1; clear hb)
        | (go_at_call 50; (with_reducible refine (l06Least_any X Y (by omega) (by omega) hYp _).mono ?_); rw [← Hx.out, ← Hy.out]; rintro e w' ⟨rfl, hb⟩; have hB : Below w1.heap.size w1 w' := below_trans (by (repeat (first | (with_reducible assumption) | (with_reducible apply below_refl) | (with_reducible apply below_alloc1) | (with_reducible apply below_drewN1) | (with_reducible apply below_drew1)))) hb; have hC := (bcell hB).1; clear hb)
        | (go_at_call 51; refine (l06Gcd_any d y (by omega) (by omega) _).mono ?_; rw [← Hc.out]; rintro e w' ⟨rfl, hb⟩; have hB : Below w1.heap.size w1 w' := below_trans (by (repeat (first | (with_reducible assumption) | (with_reducible apply below_refl) | (with_reducible apply below_alloc1) | (with_reducible apply below_drewN1) | (with_reducible apply below_drew1)))) hb; have hC := (bcell hB).1; clear hb)
        | (go_region_held3 (fun w' => Below w1.heap.size w1 w' ∧ ∀ b o, b < w1.heap.size → w'.cell? ⟨b, o, none⟩ = w1.cell? ⟨b, o, none⟩) (first | exact keep_next ‹_› ‹_› | exact keep_start | exact keep_drew ‹_› | exact keep_of (by (repeat (first | (with_reducible assumption) | (with_reducible apply below_refl) | (with_reducible apply below_alloc1) | (with_reducible apply below_drewN1) | (with_reducible apply below_drew1))))) (first
          | (go_at_call 50; rw [HU.out, HU3.out]; (with_reducible refine (l06Least_any _ _ (by omega) (by omega) (by omega) _).mono ?_); rw [HS9.out, HS10.out]; rintro e w' ⟨rfl, hb⟩)); rename_i hHeld; obtain ⟨hB, hC⟩ := hHeld))
      go_roundw
      case rel => exact ⟨k + 1, by omega, by go_num, by rw [HN.out]; simp, by rw [HN.out]; simp, by (repeat (first | (with_reducible assumption) | (with_reducible apply below_refl) | (with_reducible apply below_alloc1) | (with_reducible apply below_drewN1) | (with_reducible apply below_drew1)))⟩
      case measure => simp [intOf]; omega
    · have hk' : k = a.toNat := by omega
      have HK := hid hk'; clear hk'
      go_wp2_with fail
      go_ret3
      exact ⟨by rw [HM.out, ← HK.out, HCC.out]; rfl, below_trans hb1 hw⟩
end Go.Proofs.Ytkonlchholfpoaa
