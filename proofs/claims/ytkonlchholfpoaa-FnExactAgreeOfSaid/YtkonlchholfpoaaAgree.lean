/- Contracts: AgreeOf. -/
import Derived.Test.YtkonlchholfpoaaSum
import Derived.Test.YtkonlchholfpoaaCom
namespace Go.Proofs.Ytkonlchholfpoaa
open Go.RowKit

def at0 (xs : List Int) (i : Nat) : Int := xs.getD i 0
def sumF (f : Nat → Int) : Nat → Int
  | 0 => 0
  | k + 1 => sumF f k + f k
theorem sumF_next (f : Nat → Int) (k : Nat) : sumF f (k + 1) = sumF f k + f k := rfl
theorem sumF_bd {f : Nat → Int} (h : ∀ i, 0 ≤ f i ∧ f i ≤ 1000) (k : Nat) : 0 ≤ sumF f k ∧ sumF f k ≤ (k : Int) * 1000 := by
  induction k with
  | zero => simp [sumF]
  | succ k ih => have := h k; rw [sumF]; push_cast; omega
def midF (xs : List Int) (m : Nat) (i : Nat) : Int := at0 xs (i * m + i)
def rowF (xs : List Int) (m i : Nat) (j : Nat) : Int := at0 xs (i * m + j)
def colF (xs : List Int) (m i : Nat) (j : Nat) : Int := at0 xs (j * m + i)
def bothI (xs : List Int) (m i : Nat) : Int := sumF (rowF xs m i) m * sumF (colF xs m i) m
def agB (xs : List Int) (m : Nat) (T : Int) : Nat → Option Nat
  | 0 => some 0
  | k + 1 => fop .add .f32 (agB xs m T k) (fop .quo .f32 (some (floatOfInt .f32 (bothI xs m k))) (some (floatOfInt .f32 (T * T))))
theorem agB_next (xs : List Int) (m : Nat) (T : Int) (k : Nat) : agB xs m T (k + 1) = fop .add .f32 (agB xs m T k) (fop .quo .f32 (some (floatOfInt .f32 (bothI xs m k))) (some (floatOfInt .f32 (T * T)))) := rfl
def agA (xs : List Int) (m : Nat) : Option Nat := fop .quo .f32 (some (floatOfInt .f32 (sumF (midF xs m) m))) (some (floatOfInt .f32 (sumL xs)))
def agD (xs : List Int) (m : Nat) : Option Nat := fop .sub .f32 (some 1065353216) (agB xs m (sumL xs) m)
def agZ (xs : List Int) (m : Nat) : Bool := ford .f32 (agD xs m) (some 0) == some .eq
def agreeM (xs : List Int) (n : Int) : Option Nat × Bool :=
  if inB n 1 8 && manyI xs (n * n) (n * n) 0 1000 then
    if decide (sumL xs = 0) || agZ xs n.toNat then (some 0, false)
    else ifFin (fop .quo .f32 (fop .sub .f32 (agA xs n.toNat) (agB xs n.toNat (sumL xs) n.toNat)) (agD xs n.toNat))
  else (some 0, false)
theorem agreeM_no {xs : List Int} {n : Int} (h : (inB n 1 8 && manyI xs (n * n) (n * n) 0 1000) = false) : agreeM xs n = (some 0, false) := by simp only [agreeM, h]; rfl
theorem agreeM_nil {xs : List Int} {n : Int} (h : sumL xs = 0) : agreeM xs n = (some 0, false) := by unfold agreeM; split <;> simp [h]
theorem agreeM_one {xs : List Int} {n : Int} (h : agZ xs n.toNat = true) : agreeM xs n = (some 0, false) := by unfold agreeM; split <;> simp [h]
theorem agreeM_yes {xs : List Int} {n : Int} (h : (inB n 1 8 && manyI xs (n * n) (n * n) 0 1000) = true) (h1 : sumL xs ≠ 0) (h2 : agZ xs n.toNat = false) :
    agreeM xs n = ifFin (fop .quo .f32 (fop .sub .f32 (agA xs n.toNat) (agB xs n.toNat (sumL xs) n.toNat)) (agD xs n.toNat)) := by
  unfold agreeM; rw [if_pos h]; simp [h1, h2]
theorem agree_true {xs : List Int} {n : Int} (h : (inB n 1 8 && manyI xs (n * n) (n * n) 0 1000) = true) : ∃ m : Nat, n = (m : Int) ∧ 1 ≤ m ∧ m ≤ 8 ∧ (xs.length : Int) = (m : Int) * (m : Int) ∧ xs.length ≤ 64 ∧ smallL 1000 xs := by
  simp only [manyI, inB, Bool.and_eq_true, decide_eq_true_eq, allIn, List.all_eq_true] at h
  obtain ⟨⟨h1, h2⟩, ⟨h3, h4⟩, h5⟩ := h
  obtain ⟨m, rfl⟩ : ∃ m : Nat, n = (m : Int) := ⟨n.toNat, by omega⟩
  have : m * m ≤ 8 * 8 := Nat.mul_le_mul (by omega) (by omega)
  exact ⟨m, rfl, by omega, by omega, by omega, by omega, fun k hk => by simpa using h5 _ (List.getElem_mem hk)⟩
theorem at0_bd {xs : List Int} (h : smallL 1000 xs) (i : Nat) : 0 ≤ at0 xs i ∧ at0 xs i ≤ 1000 := by
  unfold at0
  by_cases hi : i < xs.length
  · have := h i hi
    rw [List.getD_eq_getElem?_getD, List.getElem?_eq_getElem hi]; simpa using this
  · rw [List.getD_eq_getElem?_getD, List.getElem?_eq_none (by omega)]; simp
theorem at0_get {xs : List Int} {i : Nat} (hi : i < xs.length) : xs[i] = at0 xs i := by
  unfold at0; rw [List.getD_eq_getElem?_getD, List.getElem?_eq_getElem hi]; rfl
theorem sum_at0 (xs : List Int) (k : Nat) (hk : k ≤ xs.length) : sumAt xs k = sumF (at0 xs) k := by
  induction k with
  | zero => rfl
  | succ k ih => rw [sumAt_next xs k (by omega), ih (by omega), sumF_next, at0_get]
def diagF (xs : List Int) (m : Nat) (i : Nat) : Int := if i % (m + 1) = 0 then at0 xs i else 0
set_option maxRecDepth 10000 in
theorem diag_sum (xs : List Int) (m : Nat) (h1 : 1 ≤ m) (h2 : m ≤ 8) : sumF (diagF xs m) (m * m) = sumF (midF xs m) m := by
  have : m = 1 ∨ m = 2 ∨ m = 3 ∨ m = 4 ∨ m = 5 ∨ m = 6 ∨ m = 7 ∨ m = 8 := by omega
  rcases this with rfl | rfl | rfl | rfl | rfl | rfl | rfl | rfl <;> simp [sumF, diagF, midF]
theorem idx_bd {m i j : Nat} (hi : i < m) (hj : j < m) : i * m + j < m * m := by
  have : (i + 1) * m ≤ m * m := Nat.mul_le_mul_right _ hi
  rw [Nat.add_mul] at this; omega
theorem at0_cell {w wr : World} {xs : List Int} {b off : Nat} (hc : ∀ i x, (xs.map (Value.int .i64))[i]? = some x → w.cell? ⟨b, off + i, none⟩ = some x) (hw : Below w.heap.size w wr) (k : Nat) (h : k < xs.length) :
    wr.cell? ⟨b, off + k, none⟩ = some (.int .i64 (at0 xs k)) := by rw [← at0_get h]; exact rowc hc hw k h
theorem wrap_of {x : Int} (h1 : 0 ≤ x) (h2 : x ≤ 9000000000000000000) : IntKind.i64.wrap x = x := by rw [IntKind.wrap_i64]; omega

set_option maxRecDepth 100000 in
set_option maxHeartbeats 2000000 in
theorem implAgree_any (v : Value) (xs : List Int) (n : Int) (w : World) (hv : RowAt w v (xs.map (Value.int .i64))) :
    Calls Try.prog 40 #[v, .int .i64 n] w (NumOk (agreeM xs n) w) := by
  have HV := hid hv
  obtain ⟨ao, cap, b, off, rfl, hao, hl, hm, hc⟩ := hv
  simp only [List.length_map] at hl HV hao ⊢
  unfold maxLen at hm
  have HC := hid hc; clear hc
  have HA := hid hao; clear hao
  cases g1 : inB n 1 8
  · have HM := hid (agreeM_no (xs := xs) (n := n) (by rw [g1]; rfl))
    go_enter Try.func40, Try.ntmps40
    go_wp2_with (first | (go_at_call 52; (with_reducible refine (within_any _ _ _ _).mono ?_); rw [g1]; rintro e w' ⟨rfl, hb⟩; have hB : Below w.heap.size w w' := below_trans (by (repeat (first | (with_reducible assumption) | (with_reducible apply below_refl) | (with_reducible apply below_alloc1) | (with_reducible apply below_drewN1) | (with_reducible apply below_drew1)))) hb; have hC := (bcell hB).1; clear hb))
    go_ret2
    exact numOk_no HM.out (by (repeat (first | (with_reducible assumption) | (with_reducible apply below_refl) | (with_reducible apply below_alloc1) | (with_reducible apply below_drewN1) | (with_reducible apply below_drew1))))
  obtain ⟨n1, n2⟩ := inB_true g1
  obtain ⟨m, rfl⟩ : ∃ m : Nat, n = (m : Int) := ⟨n.toNat, by omega⟩
  have hmm : m * m ≤ 8 * 8 := Nat.mul_le_mul (by omega) (by omega)
  have hN := wrap_of (x := (m : Int) * (m : Int)) (by omega) (by omega)
  cases g2 : manyI xs ((m : Int) * (m : Int)) ((m : Int) * (m : Int)) 0 1000
  · have HM := hid (agreeM_no (xs := xs) (n := (m : Int)) (by rw [g1, g2]; rfl))
    go_enter Try.func40, Try.ntmps40
    go_wp2_with (first | (go_at_call 52; (with_reducible refine (within_any _ _ _ _).mono ?_); rw [g1]; rintro e w' ⟨rfl, hb⟩; have hB : Below w.heap.size w w' := below_trans (by (repeat (first | (with_reducible assumption) | (with_reducible apply below_refl) | (with_reducible apply below_alloc1) | (with_reducible apply below_drewN1) | (with_reducible apply below_drew1)))) hb; have hC := (bcell hB).1; clear hb) | (go_at_call 73; (with_reducible refine (areMany_any _ xs _ _ _ _ _ (HV.out.below (by (repeat (first | (with_reducible assumption) | (with_reducible apply below_refl) | (with_reducible apply below_alloc1) | (with_reducible apply below_drewN1) | (with_reducible apply below_drew1)))))).mono ?_); rw [g2]; rintro e w' ⟨rfl, hb⟩; have hB : Below w.heap.size w w' := below_trans (by (repeat (first | (with_reducible assumption) | (with_reducible apply below_refl) | (with_reducible apply below_alloc1) | (with_reducible apply below_drewN1) | (with_reducible apply below_drew1)))) hb; have hC := (bcell hB).1; clear hb))
    go_ret2
    exact numOk_no HM.out (by (repeat (first | (with_reducible assumption) | (with_reducible apply below_refl) | (with_reducible apply below_alloc1) | (with_reducible apply below_drewN1) | (with_reducible apply below_drew1))))
  obtain ⟨m', hm', m1, m8, hlen, hl64, hsm⟩ := agree_true (xs := xs) (n := (m : Int)) (by rw [g1, g2]; rfl)
  obtain rfl : m = m' := by omega
  clear hm'
  have HOK := hid (show (inB (m : Int) 1 8 && manyI xs ((m : Int) * (m : Int)) ((m : Int) * (m : Int)) 0 1000) = true by rw [g1, g2]; rfl)
  have G1 := hid g1; have G2 := hid g2; have HSM := hid hsm; have HLEN := hid hlen
  have hT := sumL_le hsm
  have hT2 : sumL xs ≤ 64000 := by have : xs.length * 1000 ≤ 64 * 1000 := Nat.mul_le_mul_right _ hl64; omega
  clear g1 g2 hsm
  obtain ⟨T, eT⟩ : ∃ T, sumL xs = T := ⟨_, rfl⟩
  have hT0 : 0 ≤ T := by omega
  have hT3 : T ≤ 64000 := by omega
  have hTT : IntKind.i64.wrap (T * T) = T * T := by
    have h1 : 0 ≤ T * T := Int.mul_nonneg hT0 hT0
    have h2 : T * T ≤ 64000 * 64000 := Int.mul_le_mul hT3 hT3 hT0 (by omega)
    exact wrap_of h1 (by omega)
  have ET := hid eT
  clear hT hT2 eT hlen
  by_cases hz : T = 0
  · have HM := hid (agreeM_nil (xs := xs) (n := (m : Int)) (by rw [ET.out, hz]))
    go_enter Try.func40, Try.ntmps40
    go_wp2_with (first
    | (go_at_call 52; (with_reducible refine (within_any _ _ _ _).mono ?_); rw [G1.out]; rintro e w' ⟨rfl, hb⟩; have hB : Below w.heap.size w w' := below_trans (by (repeat (first | (with_reducible assumption) | (with_reducible apply below_refl) | (with_reducible apply below_alloc1) | (with_reducible apply below_drewN1) | (with_reducible apply below_drew1)))) hb; have hC := (bcell hB).1; clear hb)
    | (go_at_call 73; (with_reducible refine (areMany_any _ xs _ _ _ _ _ (HV.out.below (by (repeat (first | (with_reducible assumption) | (with_reducible apply below_refl) | (with_reducible apply below_alloc1) | (with_reducible apply below_drewN1) | (with_reducible apply below_drew1)))))).mono ?_); rw [G2.out]; rintro e w' ⟨rfl, hb⟩; have hB : Below w.heap.size w w' := below_trans (by (repeat (first | (with_reducible assumption) | (with_reducible apply below_refl) | (with_reducible apply below_alloc1) | (with_reducible apply below_drewN1) | (with_reducible apply below_drew1)))) hb; have hC := (bcell hB).1; clear hb)
    | (go_at_call 74; (with_reducible refine (sumOf_any _ xs 1000 HSM.out (by omega) _ (HV.out.below (by (repeat (first | (with_reducible assumption) | (with_reducible apply below_refl) | (with_reducible apply below_alloc1) | (with_reducible apply below_drewN1) | (with_reducible apply below_drew1)))))).mono ?_); rw [ET.out, hz]; rintro e w' ⟨rfl, hb⟩; have hB : Below w.heap.size w w' := below_trans (by (repeat (first | (with_reducible assumption) | (with_reducible apply below_refl) | (with_reducible apply below_alloc1) | (with_reducible apply below_drewN1) | (with_reducible apply below_drew1)))) hb; have hC := (bcell hB).1; clear hb))
    go_ret2
    exact numOk_no HM.out (by (repeat (first | (with_reducible assumption) | (with_reducible apply below_refl) | (with_reducible apply below_alloc1) | (with_reducible apply below_drewN1) | (with_reducible apply below_drew1))))
  have hz2 : (T == 0) = false := by simpa using hz
  go_enter Try.func40, Try.ntmps40
  go_wp2_with (first
    | (go_at_call 52; (with_reducible refine (within_any _ _ _ _).mono ?_); rw [G1.out]; rintro e w' ⟨rfl, hb⟩; have hB : Below w.heap.size w w' := below_trans (by (repeat (first | (with_reducible assumption) | (with_reducible apply below_refl) | (with_reducible apply below_alloc1) | (with_reducible apply below_drewN1) | (with_reducible apply below_drew1)))) hb; have hC := (bcell hB).1; clear hb)
    | (go_at_call 73; (with_reducible refine (areMany_any _ xs _ _ _ _ _ (HV.out.below (by (repeat (first | (with_reducible assumption) | (with_reducible apply below_refl) | (with_reducible apply below_alloc1) | (with_reducible apply below_drewN1) | (with_reducible apply below_drew1)))))).mono ?_); rw [G2.out]; rintro e w' ⟨rfl, hb⟩; have hB : Below w.heap.size w w' := below_trans (by (repeat (first | (with_reducible assumption) | (with_reducible apply below_refl) | (with_reducible apply below_alloc1) | (with_reducible apply below_drewN1) | (with_reducible apply below_drew1)))) hb; have hC := (bcell hB).1; clear hb)
    | (go_at_call 74; (with_reducible refine (sumOf_any _ xs 1000 HSM.out (by omega) _ (HV.out.below (by (repeat (first | (with_reducible assumption) | (with_reducible apply below_refl) | (with_reducible apply below_alloc1) | (with_reducible apply below_drewN1) | (with_reducible apply below_drew1)))))).mono ?_); rw [ET.out]; rintro e w' ⟨rfl, hb⟩; have hB : Below w.heap.size w w' := below_trans (by (repeat (first | (with_reducible assumption) | (with_reducible apply below_refl) | (with_reducible apply below_alloc1) | (with_reducible apply below_drewN1) | (with_reducible apply below_drew1)))) hb; have hC := (bcell hB).1; clear hb))
  go_loopw [6, 7, 36] (fun x y i wr => ∃ (k : Nat) (q : Nat), k ≤ m ∧ i = .int .i64 k ∧ x = .int .i64 (sumF (midF xs m) k) ∧ y = .float .f32 q ∧ ab .f32 q = agB xs m T k ∧ Below w.heap.size w wr) (fun _ _ i _ => m - (intOf i).toNat)
  case atStart => exact ⟨0, 0, Nat.zero_le _, rfl, rfl, rfl, ab_z32, by (repeat (first | (with_reducible assumption) | (with_reducible apply below_refl) | (with_reducible apply below_alloc1) | (with_reducible apply below_drewN1) | (with_reducible apply below_drew1)))⟩
  case round =>
    obtain ⟨k, q0, hk, rfl, rfl, rfl, hq, hw⟩ := hrel
    have hC1 := (bcell hw).1
    obtain ⟨s1, s2⟩ := sumF_bd (f := midF xs m) (fun i => at0_bd HSM.out _) k
    by_cases hlt : k < m
    · have hnB := agB_next xs m T k
      have hnM := sumF_next (midF xs m) k
      have hix := idx_bd hlt hlt
      have hln := HLEN.out
      have hrl : k * m + k < xs.length := by omega
      obtain rfl := HA.out (by omega)
      have hcell0 := at0_cell HC.out (Below.refl w.heap.size w) (k * m + k) hrl
      have hM0 := at0_bd HSM.out (k * m + k)
      have eM0 : midF xs m k = at0 xs (k * m + k) := rfl
      rw [eM0] at hnM
      obtain ⟨M0, hM0e⟩ : ∃ M0, at0 xs (k * m + k) = M0 := ⟨_, rfl⟩
      rw [hM0e] at hcell0 hM0 hnM
      have HNB := hid hnB; have HNM := hid hnM
      have hM0e := hid hM0e
      clear hnB hnM eM0
      generalize sumF (midF xs m) k = S0 at s1 s2 HNM ⊢
      have HQ := hid hq; clear hq
      have HLN := hid hln; clear hln
      go_wp2_with fail
      go_loopw [10, 11, 40] (fun x y i wr => ∃ j : Nat, j ≤ m ∧ i = .int .i64 j ∧ x = .int .i64 (sumF (rowF xs m k) j) ∧ y = .int .i64 (sumF (colF xs m k) j) ∧ Below w.heap.size w wr) (fun _ _ i _ => m - (intOf i).toNat)
      case atStart => exact ⟨0, Nat.zero_le _, rfl, rfl, rfl, by (repeat (first | (with_reducible assumption) | (with_reducible apply below_refl) | (with_reducible apply below_alloc1) | (with_reducible apply below_drewN1) | (with_reducible apply below_drew1)))⟩
      case round =>
        obtain ⟨j, hj, rfl, rfl, rfl, hw3⟩ := hrel
        have hC3 := (bcell hw3).1
        obtain ⟨r1, r2⟩ := sumF_bd (f := rowF xs m k) (fun i => at0_bd HSM.out _) j
        obtain ⟨r3, r4⟩ := sumF_bd (f := colF xs m k) (fun i => at0_bd HSM.out _) j
        by_cases hlj : j < m
        · have hnR := sumF_next (rowF xs m k) j
          have hnC := sumF_next (colF xs m k) j
          have i1 := idx_bd hlt hlj
          have i2 := idx_bd hlj hlt
          have hln := HLN.out
          have l1 : k * m + j < xs.length := by omega
          have l2 : j * m + k < xs.length := by omega
          have hcell1 := at0_cell HC.out hw3 (k * m + j) l1
          have hcell2 := at0_cell HC.out hw3 (j * m + k) l2
          have b1 := at0_bd HSM.out (k * m + j)
          have b2 := at0_bd HSM.out (j * m + k)
          have e1 : rowF xs m k j = at0 xs (k * m + j) := rfl
          have e2 : colF xs m k j = at0 xs (j * m + k) := rfl
          rw [e1] at hnR
          rw [e2] at hnC
          obtain ⟨A, eA⟩ : ∃ A, at0 xs (k * m + j) = A := ⟨_, rfl⟩
          obtain ⟨B, eB⟩ : ∃ B, at0 xs (j * m + k) = B := ⟨_, rfl⟩
          rw [eA] at hcell1 b1 hnR
          rw [eB] at hcell2 b2 hnC
          have HR := hid hnR; have HCO := hid hnC
          generalize sumF (rowF xs m k) j = R0 at r1 r2 HR ⊢
          generalize sumF (colF xs m k) j = C0 at r3 r4 HCO ⊢
          have w1 := wrap_of (x := (k : Int) * (m : Int)) (by omega) (by omega)
          have w2 := wrap_of (x := (j : Int) * (m : Int)) (by omega) (by omega)
          have w3 := wrap_of (x := (k : Int) * (m : Int) + (j : Int)) (by omega) (by omega)
          have w4 := wrap_of (x := (j : Int) * (m : Int) + (k : Int)) (by omega) (by omega)
          have t1 : ((k : Int) * (m : Int) + (j : Int)).toNat = k * m + j := by omega
          have t2 : ((j : Int) * (m : Int) + (k : Int)).toNat = j * m + k := by omega
          have l3 : (k : Int) * (m : Int) + (j : Int) < (xs.length : Int) := by omega
          have l4 : (j : Int) * (m : Int) + (k : Int) < (xs.length : Int) := by omega
          have l5 : 0 ≤ (k : Int) * (m : Int) + (j : Int) := by omega
          have l6 : 0 ≤ (j : Int) * (m : Int) + (k : Int) := by omega
          clear e1 e2 eA eB hnR hnC hln
          go_wp2_with (go_quiet (fail))
          go_roundw
          case rel => exact ⟨j + 1, by omega, by go_num, by rw [HR.out], by rw [HCO.out], by (repeat (first | (with_reducible assumption) | (with_reducible apply below_refl) | (with_reducible apply below_alloc1) | (with_reducible apply below_drewN1) | (with_reducible apply below_drew1)))⟩
          case measure => simp [intOf]; omega
        · obtain rfl : j = m := by omega
          have hln := HLEN.out
          have hrl : k * j + k < xs.length := by omega
          have hcell1 := at0_cell HC.out hw3 (k * j + k) hrl
          have hb0 : bothI xs j k = sumF (rowF xs j k) j * sumF (colF xs j k) j := rfl
          have HB0 := hid hb0
          clear hb0
          have hHN := HNM.out
          obtain ⟨M1, eM1⟩ : ∃ M1, at0 xs (k * j + k) = M1 := ⟨_, rfl⟩
          have b1 := at0_bd HSM.out (k * j + k)
          rw [eM1] at hcell1 b1
          have hsb := sumF_bd (f := midF xs j) (fun i => at0_bd HSM.out _) (k + 1)
          have hM1 : M1 = M0 := by rw [← eM1]; exact hM0e.out
          subst hM1
          rw [hHN] at hsb
          clear hHN
          generalize sumF (rowF xs j k) j = R0 at r1 r2 HB0 ⊢
          generalize sumF (colF xs j k) j = C0 at r3 r4 HB0 ⊢
          have w1 := wrap_of (x := (k : Int) * (j : Int)) (by omega) (by omega)
          have w3 := wrap_of (x := (k : Int) * (j : Int) + (k : Int)) (by omega) (by omega)
          have w5 : IntKind.i64.wrap (R0 * C0) = R0 * C0 := by
            have h1 : 0 ≤ R0 * C0 := Int.mul_nonneg r1 r3
            have h2 : R0 * C0 ≤ 8000 * 8000 := Int.mul_le_mul (by omega) (by omega) r3 (by omega)
            exact wrap_of h1 (by omega)
          have t1 : ((k : Int) * (j : Int) + (k : Int)).toNat = k * j + k := by omega
          have l3 : (k : Int) * (j : Int) + (k : Int) < (xs.length : Int) := by omega
          have l5 : 0 ≤ (k : Int) * (j : Int) + (k : Int) := by omega
          clear eM1 hln
          go_wp2_with (first
            | go_quiet (fail)
            | (refine upon_float rfl ?_; intro r n hr; go_simp))
          go_roundw
          case rel => exact ⟨k + 1, _, by omega, by go_num, by rw [HNM.out], rfl, by rw [HNB.out, HB0.out, ← HQ.out]; simp only [*, ab_ofInt], by (repeat (first | (with_reducible assumption) | (with_reducible apply below_refl) | (with_reducible apply below_alloc1) | (with_reducible apply below_drewN1) | (with_reducible apply below_drew1)))⟩
          case measure => simp [intOf]; omega
    · obtain rfl : k = m := by omega
      have HQ := hid hq; clear hq
      have hA : agA xs k = fop .quo .f32 (some (floatOfInt .f32 (sumF (midF xs k) k))) (some (floatOfInt .f32 T)) := by rw [← ET.out]; rfl
      have hD : agD xs k = fop .sub .f32 (some 1065353216) (ab .f32 q0) := by rw [HQ.out, ← ET.out]; rfl
      have HA2 := hid hA; have HD := hid hD
      clear hA hD
      cases hz3 : ford .f32 (fop .sub .f32 (some 1065353216) (ab .f32 q0)) (some 0) == some .eq
      · have HM := hid (agreeM_yes HOK.out (by rw [ET.out]; exact hz) (by rw [agZ, Int.toNat_natCast, HD.out]; exact hz3))
        generalize sumF (midF xs k) k = S0 at s1 s2 HA2 ⊢
        go_wp2_with (first
          | (refine upon_float rfl ?_; intro r n hr; go_simp)
          | (go_at_call 58; refine (ifFinite_num _ _).mono ?_; rintro e w' ⟨r, rfl, hr, hb⟩; have hB : Below w.heap.size w w' := below_trans (by (repeat (first | (with_reducible assumption) | (with_reducible apply below_refl) | (with_reducible apply below_alloc1) | (with_reducible apply below_drewN1) | (with_reducible apply below_drew1)))) hb; have hC := (bcell hB).1; clear hb))
        have HMM := HM.out
        rw [Int.toNat_natCast, HA2.out, HD.out, ET.out, ← HQ.out] at HMM
        have HM3 := hid HMM
        clear HMM
        go_ret2
        exact ⟨_, by rw [HM3.out]; simp only [*, ab_ofInt, ab_one32]; rfl, by rw [HM3.out]; simp only [*, ab_ofInt, ab_one32], by (repeat (first | (with_reducible assumption) | (with_reducible apply below_refl) | (with_reducible apply below_alloc1) | (with_reducible apply below_drewN1) | (with_reducible apply below_drew1)))⟩
      · have HM := hid (agreeM_one (xs := xs) (n := (k : Int)) (by rw [agZ, Int.toNat_natCast, HD.out]; exact hz3))
        go_wp2_with (first
          | (refine upon_float rfl ?_; intro r n hr; go_simp))
        go_ret2
        exact numOk_no HM.out (by (repeat (first | (with_reducible assumption) | (with_reducible apply below_refl) | (with_reducible apply below_alloc1) | (with_reducible apply below_drewN1) | (with_reducible apply below_drew1))))
def allAt (xs : List Int) (k : Nat) : Prop := ∀ j (h : j < xs.length), j < k → 0 ≤ xs[j] ∧ xs[j] ≤ 1000
theorem manyI_no {xs : List Int} {c : Int} {k : Nat} (hk : k < xs.length) (h : inB xs[k] 0 1000 = false) : manyI xs c c 0 1000 = false := by
  have : allIn xs 0 1000 = false := by
    unfold allIn
    rw [List.all_eq_false]
    exact ⟨_, List.getElem_mem hk, by simp [h]⟩
  simp [manyI, this]
theorem manyI_all {xs : List Int} {c : Int} (hc : (xs.length : Int) = c) (h : allAt xs xs.length) : manyI xs c c 0 1000 = true := by
  simp only [manyI, Bool.and_eq_true]
  refine ⟨inB_mk (by omega) (by omega), ?_⟩
  unfold allIn
  rw [List.all_eq_true]
  intro x hx
  obtain ⟨i, hi, rfl⟩ := List.mem_iff_getElem.mp hx
  have := h i hi hi
  exact inB_mk (by omega) (by omega)
theorem manyI_len {xs : List Int} {c : Int} (hc : ¬ (xs.length : Int) = c) : manyI xs c c 0 1000 = false := by
  have : inB (xs.length : Int) c c = false := by
    cases h : inB (xs.length : Int) c c
    · rfl
    · have := inB_true h; omega
  simp [manyI, this]
theorem allAt_next {xs : List Int} {k : Nat} (h : allAt xs k) (hk : k < xs.length) (h1 : inB xs[k] 0 1000 = true) : allAt xs (k + 1) := by
  intro j hj hjk
  by_cases e : j = k
  · subst e; exact inB_true h1
  · exact h j hj (by omega)
theorem sumF_upto {xs : List Int} (f : Nat → Int) (hf : ∀ i, f i = at0 xs i ∨ f i = 0) {k : Nat} (h : allAt xs k) (hk : k ≤ xs.length) : 0 ≤ sumF f k ∧ sumF f k ≤ (k : Int) * 1000 := by
  induction k with
  | zero => simp [sumF]
  | succ k ih =>
    have h1 := ih (fun j hj hjk => h j hj (by omega)) (by omega)
    have h2 := h k (by omega) (by omega)
    rw [at0_get] at h2
    rw [sumF]
    rcases hf k with e | e <;> rw [e] <;> push_cast <;> omega

set_option maxRecDepth 100000 in
set_option maxHeartbeats 2000000 in
theorem specAgree_any (v : Value) (xs : List Int) (n : Int) (w : World) (hv : RowAt w v (xs.map (Value.int .i64))) :
    Calls Try.prog 38 #[v, .int .i64 n] w (NumOk (agreeM xs n) w) := by
  have HV := hid hv
  obtain ⟨ao, cap, b, off, rfl, hao, hl, hm, hc⟩ := hv
  simp only [List.length_map] at hl HV hao ⊢
  unfold maxLen at hm
  have HC := hid hc; clear hc
  have HA := hid hao; clear hao
  cases g1 : inB n 1 8
  · have HM := hid (agreeM_no (xs := xs) (n := n) (by rw [g1]; rfl))
    go_enter Try.func38, Try.ntmps38
    go_wp2_with (first | (go_at_call 59; (with_reducible refine (l00In_any _ _ _ _).mono ?_); rw [g1]; rintro e w' ⟨rfl, hb⟩; have hB : Below w.heap.size w w' := below_trans (by (repeat (first | (with_reducible assumption) | (with_reducible apply below_refl) | (with_reducible apply below_alloc1) | (with_reducible apply below_drewN1) | (with_reducible apply below_drew1)))) hb; have hC := (bcell hB).1; clear hb))
    go_ret2
    exact numOk_no HM.out (by (repeat (first | (with_reducible assumption) | (with_reducible apply below_refl) | (with_reducible apply below_alloc1) | (with_reducible apply below_drewN1) | (with_reducible apply below_drew1))))
  obtain ⟨n1, n2⟩ := inB_true g1
  obtain ⟨m, rfl⟩ : ∃ m : Nat, n = (m : Int) := ⟨n.toNat, by omega⟩
  have hmm : m * m ≤ 8 * 8 := Nat.mul_le_mul (by omega) (by omega)
  have hN := wrap_of (x := (m : Int) * (m : Int)) (by omega) (by omega)
  by_cases hln : (xs.length : Int) = (m : Int) * (m : Int)
  case neg =>
    have HM := hid (agreeM_no (xs := xs) (n := (m : Int)) (by rw [g1, manyI_len hln]; rfl))
    have hln2 : ((xs.length : Int) == (m : Int) * (m : Int)) = false := by simpa using hln
    go_enter Try.func38, Try.ntmps38
    go_wp2_with (first | (go_at_call 59; (with_reducible refine (l00In_any _ _ _ _).mono ?_); rw [g1]; rintro e w' ⟨rfl, hb⟩; have hB : Below w.heap.size w w' := below_trans (by (repeat (first | (with_reducible assumption) | (with_reducible apply below_refl) | (with_reducible apply below_alloc1) | (with_reducible apply below_drewN1) | (with_reducible apply below_drew1)))) hb; have hC := (bcell hB).1; clear hb))
    go_ret2
    exact numOk_no HM.out (by (repeat (first | (with_reducible assumption) | (with_reducible apply below_refl) | (with_reducible apply below_alloc1) | (with_reducible apply below_drewN1) | (with_reducible apply below_drew1))))
  have hln2 : ((xs.length : Int) == (m : Int) * (m : Int)) = true := by simpa using hln
  have hln3 : ((xs.length : Int) != (m : Int) * (m : Int)) = false := by rw [bne, hln2]; rfl
  have G1 := hid g1; have HLEN := hid hln
  have hl64 : xs.length ≤ 64 := by omega
  have hl1 : 1 ≤ m * m := Nat.mul_pos (by omega) (by omega)
  clear g1 hln
  go_enter Try.func38, Try.ntmps38
  go_wp2_with (first | (go_at_call 59; (with_reducible refine (l00In_any _ _ _ _).mono ?_); rw [G1.out]; rintro e w' ⟨rfl, hb⟩; have hB : Below w.heap.size w w' := below_trans (by (repeat (first | (with_reducible assumption) | (with_reducible apply below_refl) | (with_reducible apply below_alloc1) | (with_reducible apply below_drewN1) | (with_reducible apply below_drew1)))) hb; have hC := (bcell hB).1; clear hb))
  go_loopw [6, 7, 8] (fun x y i wr => ∃ k : Nat, k ≤ xs.length ∧ i = .int .i64 k ∧ x = .int .i64 (sumF (at0 xs) k) ∧ y = .int .i64 (sumF (diagF xs m) k) ∧ Hid (allAt xs k) ∧ Below w.heap.size w wr) (fun _ _ i _ => xs.length - (intOf i).toNat)
  case atStart => exact ⟨0, Nat.zero_le _, rfl, rfl, rfl, hid (fun j _ h => absurd h (Nat.not_lt_zero _)), by (repeat (first | (with_reducible assumption) | (with_reducible apply below_refl) | (with_reducible apply below_alloc1) | (with_reducible apply below_drewN1) | (with_reducible apply below_drew1)))⟩
  case round =>
    obtain ⟨k, hk, rfl, rfl, rfl, hall, hw⟩ := hrel
    have hC1 := (bcell hw).1
    obtain ⟨s1, s2⟩ := sumF_upto (at0 xs) (fun i => Or.inl rfl) hall.out hk
    obtain ⟨s3, s4⟩ := sumF_upto (diagF xs m) (fun i => by unfold diagF; split <;> simp) hall.out hk
    have hln := HLEN.out
    by_cases hlt : k < xs.length
    · have hlt2 : (k : Int) < (m : Int) * (m : Int) := by omega
      have hcell := rowc HC.out (Below.refl w.heap.size w) k hlt
      have hbl := World.block_lt_of_cell? w _ hcell
      obtain rfl := HA.out (by omega)
      have hnT := sumF_next (at0 xs) k
      have hnS := sumF_next (diagF xs m) k
      have hg := at0_get hlt
      cases g : inB xs[k] 0 1000
      · have HM := hid (agreeM_no (xs := xs) (n := (m : Int)) (by rw [manyI_no hlt g]; simp))
        have G := hid g
        clear hnT hnS hg g hln
        generalize xs[k] = X at hcell G
        go_wp2_with (first | (go_at_call 59; (with_reducible refine (l00In_any _ _ _ _).mono ?_); rw [G.out]; rintro e w' ⟨rfl, hb⟩; have hB : Below w.heap.size w w' := below_trans (by (repeat (first | (with_reducible assumption) | (with_reducible apply below_refl) | (with_reducible apply below_alloc1) | (with_reducible apply below_drewN1) | (with_reducible apply below_drew1)))) hb; have hC := (bcell hB).1; clear hb) | go_quiet (fail))
        go_ret2
        exact numOk_no HM.out (by (repeat (first | (with_reducible assumption) | (with_reducible apply below_refl) | (with_reducible apply below_alloc1) | (with_reducible apply below_drewN1) | (with_reducible apply below_drew1))))
      · have HN := hid (allAt_next hall.out hlt g)
        obtain ⟨x1, x2⟩ := inB_true g
        rw [← hg] at hnT
        have G := hid g
        by_cases hd : k % (m + 1) = 0
        · have e5 : (k : Int) % ((m : Int) + 1) = 0 := by exact_mod_cast hd
          have hdd : diagF xs m k = xs[k] := by unfold diagF; rw [if_pos hd, hg]
          rw [hdd] at hnS
          have HT := hid hnT; have HS := hid hnS
          clear hnT hnS hg g hln hdd hd
          generalize xs[k] = X at hcell G x1 x2 HT HS
          generalize sumF (at0 xs) k = A at s1 s2 HT ⊢
          generalize sumF (diagF xs m) k = B at s3 s4 HS ⊢
          go_wp2_with (first | (go_at_call 59; (with_reducible refine (l00In_any _ _ _ _).mono ?_); rw [G.out]; rintro e w' ⟨rfl, hb⟩; have hB : Below w.heap.size w w' := below_trans (by (repeat (first | (with_reducible assumption) | (with_reducible apply below_refl) | (with_reducible apply below_alloc1) | (with_reducible apply below_drewN1) | (with_reducible apply below_drew1)))) hb; have hC := (bcell hB).1; clear hb) | go_quiet (fail))
          go_roundw
          case rel => exact ⟨k + 1, by omega, by go_num, by rw [HT.out], by rw [HS.out], HN, by (repeat (first | (with_reducible assumption) | (with_reducible apply below_refl) | (with_reducible apply below_alloc1) | (with_reducible apply below_drewN1) | (with_reducible apply below_drew1)))⟩
          case measure => simp [intOf]; omega
        · have e5 : ¬ (k : Int) % ((m : Int) + 1) = 0 := by exact_mod_cast hd
          have e6 : ((k : Int) % ((m : Int) + 1) == 0) = false := by simpa using e5
          have hdd : diagF xs m k = 0 := by unfold diagF; rw [if_neg hd]
          rw [hdd] at hnS
          have HT := hid hnT; have HS := hid hnS
          clear hnT hnS hg g hln hdd hd
          generalize xs[k] = X at hcell G x1 x2 HT HS
          generalize sumF (at0 xs) k = A at s1 s2 HT ⊢
          generalize sumF (diagF xs m) k = B at s3 s4 HS ⊢
          go_wp2_with (first | (go_at_call 59; (with_reducible refine (l00In_any _ _ _ _).mono ?_); rw [G.out]; rintro e w' ⟨rfl, hb⟩; have hB : Below w.heap.size w w' := below_trans (by (repeat (first | (with_reducible assumption) | (with_reducible apply below_refl) | (with_reducible apply below_alloc1) | (with_reducible apply below_drewN1) | (with_reducible apply below_drew1)))) hb; have hC := (bcell hB).1; clear hb) | go_quiet (fail))
          go_roundw
          case rel => exact ⟨k + 1, by omega, by go_num, by rw [HT.out], by rw [HS.out, Int.add_zero], HN, by (repeat (first | (with_reducible assumption) | (with_reducible apply below_refl) | (with_reducible apply below_alloc1) | (with_reducible apply below_drewN1) | (with_reducible apply below_drew1)))⟩
          case measure => simp [intOf]; omega
    · obtain rfl : k = xs.length := by omega
      have hlt2 : ¬ (xs.length : Int) < (m : Int) * (m : Int) := by omega
      have hlm : xs.length = m * m := by omega
      have hsT : sumF (at0 xs) xs.length = sumL xs := (sum_at0 xs _ (Nat.le_refl _)).symm
      have hsD : sumF (diagF xs m) xs.length = sumF (midF xs m) m := by rw [hlm]; exact diag_sum xs m (by omega) (by omega)
      rw [hsT] at s1 s2 ⊢
      rw [hsD] at s3 s4 ⊢
      have hT2 : sumL xs ≤ 64000 := by omega
      obtain ⟨T, eT⟩ : ∃ T, sumL xs = T := ⟨_, rfl⟩
      rw [eT] at s1 hT2 ⊢
      have ET := hid eT
      have HSM := hid (show smallL 1000 xs from fun j hj => hall.out j hj hj)
      have HOK := hid (show (inB (m : Int) 1 8 && manyI xs ((m : Int) * (m : Int)) ((m : Int) * (m : Int)) 0 1000) = true by rw [G1.out, manyI_all HLEN.out hall.out]; rfl)
      clear hsT hsD eT s2 hlm
      by_cases hz : T = 0
      · have HM := hid (agreeM_nil (xs := xs) (n := (m : Int)) (by rw [ET.out, hz]))
        go_wp2_with (fail)
        go_ret2
        exact numOk_no HM.out (by (repeat (first | (with_reducible assumption) | (with_reducible apply below_refl) | (with_reducible apply below_alloc1) | (with_reducible apply below_drewN1) | (with_reducible apply below_drew1))))
      have hz2 : (T == 0) = false := by simpa using hz
      have hTT : IntKind.i64.wrap (T * T) = T * T := by
        have h1 : 0 ≤ T * T := Int.mul_nonneg s1 s1
        have h2 : T * T ≤ 64000 * 64000 := Int.mul_le_mul hT2 hT2 s1 (by omega)
        exact wrap_of h1 (by omega)
      have hA : agA xs m = fop .quo .f32 (some (floatOfInt .f32 (sumF (midF xs m) m))) (some (floatOfInt .f32 T)) := by rw [← ET.out]; rfl
      have HA2 := hid hA
      clear hA
      generalize sumF (midF xs m) m = S0 at s3 s4 HA2 ⊢
      go_wp2_with (refine upon_float rfl ?_; intro r n hr; go_simp)
      rw [ab_ofInt, ab_ofInt, ← HA2.out] at hr
      have HRA := hid hr; clear hr
      go_loopw [10, 11] (fun y i wr => ∃ (k : Nat) (q : Nat), k ≤ m ∧ i = .int .i64 k ∧ y = .float .f32 q ∧ ab .f32 q = agB xs m T k ∧ Below w.heap.size w wr) (fun _ i _ => m - (intOf i).toNat)
      case atStart => exact ⟨0, 0, Nat.zero_le _, rfl, rfl, ab_z32, by (repeat (first | (with_reducible assumption) | (with_reducible apply below_refl) | (with_reducible apply below_alloc1) | (with_reducible apply below_drewN1) | (with_reducible apply below_drew1)))⟩
      case round =>
        obtain ⟨k, q0, hk, rfl, rfl, hq, hw2⟩ := hrel
        have hC2 := (bcell hw2).1
        by_cases hlt : k < m
        · have hnB := agB_next xs m T k
          have HNB := hid hnB; clear hnB
          have HQ := hid hq; clear hq
          go_wp2_with fail
          go_loopw [12, 13, 14] (fun x y i wr => ∃ j : Nat, j ≤ m ∧ i = .int .i64 j ∧ x = .int .i64 (sumF (rowF xs m k) j) ∧ y = .int .i64 (sumF (colF xs m k) j) ∧ Below w.heap.size w wr) (fun _ _ i _ => m - (intOf i).toNat)
          case atStart => exact ⟨0, Nat.zero_le _, rfl, rfl, rfl, by (repeat (first | (with_reducible assumption) | (with_reducible apply below_refl) | (with_reducible apply below_alloc1) | (with_reducible apply below_drewN1) | (with_reducible apply below_drew1)))⟩
          case round =>
            obtain ⟨j, hj, rfl, rfl, rfl, hw3⟩ := hrel
            have hC3 := (bcell hw3).1
            obtain ⟨r1, r2⟩ := sumF_bd (f := rowF xs m k) (fun i => at0_bd HSM.out _) j
            obtain ⟨r3, r4⟩ := sumF_bd (f := colF xs m k) (fun i => at0_bd HSM.out _) j
            by_cases hlj : j < m
            · have hnR := sumF_next (rowF xs m k) j
              have hnC := sumF_next (colF xs m k) j
              have i1 := idx_bd hlt hlj
              have i2 := idx_bd hlj hlt
              have hln := HLEN.out
              have l1 : k * m + j < xs.length := by omega
              have l2 : j * m + k < xs.length := by omega
              obtain rfl := HA.out (by omega)
              have hcell1 := at0_cell HC.out hw3 (k * m + j) l1
              have hcell2 := at0_cell HC.out hw3 (j * m + k) l2
              have b1 := at0_bd HSM.out (k * m + j)
              have b2 := at0_bd HSM.out (j * m + k)
              have e1 : rowF xs m k j = at0 xs (k * m + j) := rfl
              have e2 : colF xs m k j = at0 xs (j * m + k) := rfl
              rw [e1] at hnR
              rw [e2] at hnC
              obtain ⟨A, eA⟩ : ∃ A, at0 xs (k * m + j) = A := ⟨_, rfl⟩
              obtain ⟨B, eB⟩ : ∃ B, at0 xs (j * m + k) = B := ⟨_, rfl⟩
              rw [eA] at hcell1 b1 hnR
              rw [eB] at hcell2 b2 hnC
              have HR := hid hnR; have HCO := hid hnC
              generalize sumF (rowF xs m k) j = R0 at r1 r2 HR ⊢
              generalize sumF (colF xs m k) j = C0 at r3 r4 HCO ⊢
              have w1 := wrap_of (x := (k : Int) * (m : Int)) (by omega) (by omega)
              have w2 := wrap_of (x := (j : Int) * (m : Int)) (by omega) (by omega)
              have w3 := wrap_of (x := (k : Int) * (m : Int) + (j : Int)) (by omega) (by omega)
              have w4 := wrap_of (x := (j : Int) * (m : Int) + (k : Int)) (by omega) (by omega)
              have t1 : ((k : Int) * (m : Int) + (j : Int)).toNat = k * m + j := by omega
              have t2 : ((j : Int) * (m : Int) + (k : Int)).toNat = j * m + k := by omega
              have l3 : (k : Int) * (m : Int) + (j : Int) < (xs.length : Int) := by omega
              have l4 : (j : Int) * (m : Int) + (k : Int) < (xs.length : Int) := by omega
              have l5 : 0 ≤ (k : Int) * (m : Int) + (j : Int) := by omega
              have l6 : 0 ≤ (j : Int) * (m : Int) + (k : Int) := by omega
              clear e1 e2 eA eB hnR hnC hln
              go_wp2_with (go_quiet (fail))
              go_roundw
              case rel => exact ⟨j + 1, by omega, by go_num, by rw [HR.out], by rw [HCO.out], by (repeat (first | (with_reducible assumption) | (with_reducible apply below_refl) | (with_reducible apply below_alloc1) | (with_reducible apply below_drewN1) | (with_reducible apply below_drew1)))⟩
              case measure => simp [intOf]; omega
            · obtain rfl : j = m := by omega
              have hb0 : bothI xs j k = sumF (rowF xs j k) j * sumF (colF xs j k) j := rfl
              have HB0 := hid hb0
              clear hb0
              generalize sumF (rowF xs j k) j = R0 at r1 r2 HB0 ⊢
              generalize sumF (colF xs j k) j = C0 at r3 r4 HB0 ⊢
              have w5 : IntKind.i64.wrap (R0 * C0) = R0 * C0 := by
                have h1 : 0 ≤ R0 * C0 := Int.mul_nonneg r1 r3
                have h2 : R0 * C0 ≤ 8000 * 8000 := Int.mul_le_mul (by omega) (by omega) r3 (by omega)
                exact wrap_of h1 (by omega)
              go_wp2_with (refine upon_float rfl ?_; intro r n hr; go_simp)
              go_roundw
              case rel => exact ⟨k + 1, _, by omega, by go_num, rfl, by rw [HNB.out, HB0.out, ← HQ.out]; simp only [*, ab_ofInt], by (repeat (first | (with_reducible assumption) | (with_reducible apply below_refl) | (with_reducible apply below_alloc1) | (with_reducible apply below_drewN1) | (with_reducible apply below_drew1)))⟩
              case measure => simp [intOf]; omega
        · obtain rfl : k = m := by omega
          have HQ := hid hq; clear hq
          have hD : agD xs k = fop .sub .f32 (some 1065353216) (ab .f32 q0) := by rw [HQ.out, ← ET.out]; rfl
          have HD := hid hD
          clear hD
          cases hz3 : ford .f32 (fop .sub .f32 (some 1065353216) (ab .f32 q0)) (some 0) == some .eq
          · have HM := hid (agreeM_yes HOK.out (by rw [ET.out]; exact hz) (by rw [agZ, Int.toNat_natCast, HD.out]; exact hz3))
            go_wp2_with (first
              | (refine upon_float rfl ?_; intro r n hr; go_simp)
              | (go_at_call 55; refine (l02Number_num _ _).mono ?_; rintro e w' ⟨r, rfl, hr, hb⟩; have hB : Below w.heap.size w w' := below_trans (by (repeat (first | (with_reducible assumption) | (with_reducible apply below_refl) | (with_reducible apply below_alloc1) | (with_reducible apply below_drewN1) | (with_reducible apply below_drew1)))) hb; have hC := (bcell hB).1; clear hb))
            have HMM := HM.out
            rw [Int.toNat_natCast, HD.out, ET.out, ← HQ.out, ← HRA.out] at HMM
            have HM3 := hid HMM
            clear HMM
            go_ret2
            exact ⟨_, by rw [HM3.out]; simp only [*, ab_ofInt, ab_one32]; rfl, by rw [HM3.out]; simp only [*, ab_ofInt, ab_one32], by (repeat (first | (with_reducible assumption) | (with_reducible apply below_refl) | (with_reducible apply below_alloc1) | (with_reducible apply below_drewN1) | (with_reducible apply below_drew1)))⟩
          · have HM := hid (agreeM_one (xs := xs) (n := (k : Int)) (by rw [agZ, Int.toNat_natCast, HD.out]; exact hz3))
            go_wp2_with (first
              | (refine upon_float rfl ?_; intro r n hr; go_simp))
            go_ret2
            exact numOk_no HM.out (by (repeat (first | (with_reducible assumption) | (with_reducible apply below_refl) | (with_reducible apply below_alloc1) | (with_reducible apply below_drewN1) | (with_reducible apply below_drew1))))
end Go.Proofs.Ytkonlchholfpoaa
