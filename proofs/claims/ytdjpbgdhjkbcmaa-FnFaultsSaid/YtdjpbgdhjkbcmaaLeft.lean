/- Contracts: FaultsLeft. -/
import Derived.Test.YtdjpbgdhjkbcmaaMany
namespace Go.Proofs.Ytdjpbgdhjkbcmaa
open Go.RowKit

def leftOk (xs : List Int) : Bool := inB xs.length 2 48 && allIn xs 1 1000
def leftX (xs : List Int) : Int := (xs.count 1 : Nat) * ((xs.count 1 : Nat) - 1)
def leftY (xs : List Int) : Int := 2 * ((xs.count 2 : Nat) + 1)
def leftM (xs : List Int) : Value := if leftOk xs then .tuple #[.int .i64 (leftX xs / gcdI (leftX xs) (leftY xs)), .int .i64 (leftY xs / gcdI (leftX xs) (leftY xs)), .bool true] else .tuple #[.int .i64 0, .int .i64 0, .bool false]
theorem leftM_no {xs : List Int} (h : leftOk xs = false) : leftM xs = .tuple #[.int .i64 0, .int .i64 0, .bool false] := by simp [leftM, h]
theorem leftM_yes {xs : List Int} (h : leftOk xs = true) : leftM xs = .tuple #[.int .i64 (leftX xs / gcdI (leftX xs) (leftY xs)), .int .i64 (leftY xs / gcdI (leftX xs) (leftY xs)), .bool true] := by simp [leftM, h]
theorem count_next (xs : List Int) (k : Nat) (h : k < xs.length) (v : Int) : (xs.take (k + 1)).count v = (xs.take k).count v + (if xs[k] = v then 1 else 0) := by
  rw [List.take_succ_eq_append_getElem h, List.count_append]
  simp [List.count_cons]
theorem count_take_le (xs : List Int) (k : Nat) (v : Int) : (xs.take k).count v ≤ xs.length := Nat.le_trans List.count_le_length (by simp; omega)
theorem tri_bd (n : Nat) (h : n ≤ 48) : (0 : Int) ≤ (n : Int) * ((n : Int) - 1) ∧ (n : Int) * ((n : Int) - 1) ≤ 2256 := by
  constructor
  · cases n with
    | zero => simp
    | succ m => exact Int.mul_nonneg (by omega) (by omega)
  · by_cases h0 : n = 0
    · subst h0; decide
    · have h1 : (n : Int) * ((n : Int) - 1) ≤ 48 * ((n : Int) - 1) := Int.mul_le_mul_of_nonneg_right (by omega) (by omega)
      omega
theorem leftX_bd {xs : List Int} (h : leftOk xs = true) : 0 ≤ leftX xs ∧ leftX xs ≤ 2256 := by
  simp only [leftOk, Bool.and_eq_true] at h
  have := inB_true h.1
  exact tri_bd _ (Nat.le_trans List.count_le_length (by omega))
theorem leftY_bd {xs : List Int} (h : leftOk xs = true) : 2 ≤ leftY xs ∧ leftY xs ≤ 98 := by
  simp only [leftOk, Bool.and_eq_true] at h
  have := inB_true h.1
  have h2 : xs.count 2 ≤ xs.length := List.count_le_length
  unfold leftY; omega

set_option maxRecDepth 100000 in
set_option maxHeartbeats 800000 in
theorem implLeft_any (v : Value) (xs : List Int) (w : World) (hv : RowAt w v (xs.map (Value.int .i64))) :
    Calls Try.prog 27 #[v] w fun e w' => e = .returned (leftM xs) ∧ Below w.heap.size w w' := by
  have HV := hid hv
  obtain ⟨ao, cap, b, off, rfl, hao, hl, hm, hc⟩ := hv
  simp only [List.length_map] at hl HV hao ⊢
  unfold maxLen at hm
  have HC := hid hc; clear hc
  have HA := hid hao; clear hao
  cases h1 : leftOk xs
  · rw [leftM_no h1]
    have e1 : manyI xs 2 48 1 1000 = false := by rw [← h1]; rfl
    go_enter Try.func27, Try.ntmps27
    go_wp2_with (first | (go_at_call 49; refine (areMany_any _ xs _ _ _ _ _ (HV.out.below (by (repeat (first | (with_reducible assumption) | (with_reducible apply below_refl) | (with_reducible apply below_alloc1) | (with_reducible apply below_drewN1) | (with_reducible apply below_drew1)))))).mono ?_; rw [e1]; rintro e w' ⟨rfl, hb⟩; have hB : Below w.heap.size w w' := below_trans (by (repeat (first | (with_reducible assumption) | (with_reducible apply below_refl) | (with_reducible apply below_alloc1) | (with_reducible apply below_drewN1) | (with_reducible apply below_drew1)))) hb; have hC := (bcell hB).1; clear hb))
    go_ret3
    exact ⟨rfl, by assumption⟩
  · rw [leftM_yes h1]
    have e1 : manyI xs 2 48 1 1000 = true := by rw [← h1]; rfl
    have hx := leftX_bd h1
    have hy := leftY_bd h1
    have hlen : xs.length ≤ 48 := by simp only [leftOk, Bool.and_eq_true] at h1; have := inB_true h1.1; omega
    clear h1
    go_enter Try.func27, Try.ntmps27
    go_wp2_with (first | (go_at_call 49; refine (areMany_any _ xs _ _ _ _ _ (HV.out.below (by (repeat (first | (with_reducible assumption) | (with_reducible apply below_refl) | (with_reducible apply below_alloc1) | (with_reducible apply below_drewN1) | (with_reducible apply below_drew1)))))).mono ?_; rw [e1]; rintro e w' ⟨rfl, hb⟩; have hB : Below w.heap.size w w' := below_trans (by (repeat (first | (with_reducible assumption) | (with_reducible apply below_refl) | (with_reducible apply below_alloc1) | (with_reducible apply below_drewN1) | (with_reducible apply below_drew1)))) hb; have hC := (bcell hB).1; clear hb))
    go_loopw [5, 6, 17] (fun p q i wr => ∃ k : Nat, k ≤ xs.length ∧ p = .int .i64 ((xs.take k).count 1 : Nat) ∧ q = .int .i64 ((xs.take k).count 2 : Nat) ∧ i = .int .i64 k ∧ Below w.heap.size w wr) (fun _ _ i _ => xs.length - (intOf i).toNat)
    case atStart => exact ⟨0, Nat.zero_le _, by simp, by simp, rfl, by (repeat (first | (with_reducible assumption) | (with_reducible apply below_refl) | (with_reducible apply below_alloc1) | (with_reducible apply below_drewN1) | (with_reducible apply below_drew1)))⟩
    case round =>
      obtain ⟨k, hk, rfl, rfl, rfl, hw⟩ := hrel
      by_cases hlt : k < xs.length
      · obtain rfl := HA.out (by omega)
        have hcell := row_cell (B := w.heap.size) HC.out hw k hlt
        have n1 := count_next xs k hlt 1
        have n2 := count_next xs k hlt 2
        have m1 := count_take_le xs k 1
        have m2 := count_take_le xs k 2
        have g0 : (0 : Int) ≤ (k : Int) := by omega
        have g1 : (k : Int) < (xs.length : Int) := by omega
        generalize xs[k] = y at hcell n1 n2
        by_cases t1 : y = 1
        · subst t1
          rw [if_pos rfl] at n1
          rw [if_neg (by decide)] at n2
          have N1 := hid n1; have N2 := hid n2; clear n1 n2
          go_wp2_with fail
          go_roundw
          case rel => exact ⟨k + 1, by omega, by rw [N1.out]; go_num, by rw [N2.out]; rfl, by go_num, by (repeat (first | (with_reducible assumption) | (with_reducible apply below_refl) | (with_reducible apply below_alloc1) | (with_reducible apply below_drewN1) | (with_reducible apply below_drew1)))⟩
          case measure => simp [intOf]; omega
        · by_cases t2 : y = 2
          · subst t2
            rw [if_neg (by decide)] at n1
            rw [if_pos rfl] at n2
            have N1 := hid n1; have N2 := hid n2; clear n1 n2
            go_wp2_with fail
            go_roundw
            case rel => exact ⟨k + 1, by omega, by rw [N1.out]; rfl, by rw [N2.out]; go_num, by go_num, by (repeat (first | (with_reducible assumption) | (with_reducible apply below_refl) | (with_reducible apply below_alloc1) | (with_reducible apply below_drewN1) | (with_reducible apply below_drew1)))⟩
            case measure => simp [intOf]; omega
          · rw [if_neg t1] at n1
            rw [if_neg t2] at n2
            have N1 := hid n1; have N2 := hid n2; clear n1 n2
            go_wp2_with fail
            go_roundw
            case rel => exact ⟨k + 1, by omega, by rw [N1.out]; rfl, by rw [N2.out]; rfl, by go_num, by (repeat (first | (with_reducible assumption) | (with_reducible apply below_refl) | (with_reducible apply below_alloc1) | (with_reducible apply below_drewN1) | (with_reducible apply below_drew1)))⟩
            case measure => simp [intOf]; omega
      · have hk' : k = xs.length := by omega
        subst hk'
        simp only [List.take_length]
        simp only [leftX, leftY] at hx hy ⊢
        have hg := gcdI_pos ((xs.count 1 : Nat) * ((xs.count 1 : Nat) - 1)) (2 * ((xs.count 2 : Nat) + 1)) (by omega)
        have hd1 := div_bd _ _ hx.1 (by omega) hg
        have hd2 := div_bd _ _ (show (0:Int) ≤ 2 * ((xs.count 2 : Nat) + 1) by omega) (by omega) hg
        obtain ⟨x1, x2⟩ := hx
        obtain ⟨y1, y2⟩ := hy
        have q1 : xs.count 1 ≤ 48 := Nat.le_trans List.count_le_length hlen
        have q2 : xs.count 2 ≤ 48 := Nat.le_trans List.count_le_length hlen
        go_wp2_with (first | (go_at_call 42; refine (common_i _ _ ⟨x1, Int.le_trans x2 (by decide)⟩ ⟨by omega, by omega⟩ _).mono ?_; rintro e w' ⟨rfl, hb⟩; have hB : Below w.heap.size w w' := below_trans (by (repeat (first | (with_reducible assumption) | (with_reducible apply below_refl) | (with_reducible apply below_alloc1) | (with_reducible apply below_drewN1) | (with_reducible apply below_drew1)))) hb; have hC := (bcell hB).1; clear hb) | go_quiet (fail))
        go_ret3
        exact ⟨rfl, by (repeat (first | (with_reducible assumption) | (with_reducible apply below_refl) | (with_reducible apply below_alloc1) | (with_reducible apply below_drewN1) | (with_reducible apply below_drew1)))⟩
theorem l00Max_zero (x : Int) (h : 0 ≤ x) (w : World) :
    Calls Try.prog 60 #[.int .i64 0, .int .i64 x] w fun e w' => e = .returned (.int .i64 x) ∧ Below w.heap.size w w' := by
  go_enter Try.func60, Try.ntmps60
  go_wp2_with fail
  go_ret
  exact ⟨rfl, by (repeat (first | (with_reducible assumption) | (with_reducible apply below_refl) | (with_reducible apply below_alloc1) | (with_reducible apply below_drewN1) | (with_reducible apply below_drew1)))⟩
set_option maxRecDepth 100000 in
set_option maxHeartbeats 800000 in
theorem specLeft_any (v : Value) (xs : List Int) (w : World) (hv : RowAt w v (xs.map (Value.int .i64))) :
    Calls Try.prog 35 #[v] w fun e w' => e = .returned (leftM xs) ∧ Below w.heap.size w w' := by
  have HV := hid hv
  obtain ⟨ao, cap, b, off, rfl, hao, hl, hm, hc⟩ := hv
  simp only [List.length_map] at hl HV hao ⊢
  unfold maxLen at hm
  have HC := hid hc; clear hc
  have HA := hid hao; clear hao
  cases h0 : inB xs.length 2 48
  · have h1 : leftOk xs = false := by simp [leftOk, h0]
    rw [leftM_no h1]
    have e1 : ¬ (2 ≤ (xs.length : Int) ∧ (xs.length : Int) ≤ 48) := by simpa [inB] using h0
    clear h0 h1
    by_cases t1 : (xs.length : Int) < 2
    · go_enter Try.func35, Try.ntmps35
      go_wp2_with fail
      go_ret3
      exact ⟨rfl, by (repeat (first | (with_reducible assumption) | (with_reducible apply below_refl) | (with_reducible apply below_alloc1) | (with_reducible apply below_drewN1) | (with_reducible apply below_drew1)))⟩
    · have t2 : (48 : Int) < (xs.length : Int) := by omega
      go_enter Try.func35, Try.ntmps35
      go_wp2_with fail
      go_ret3
      exact ⟨rfl, by (repeat (first | (with_reducible assumption) | (with_reducible apply below_refl) | (with_reducible apply below_alloc1) | (with_reducible apply below_drewN1) | (with_reducible apply below_drew1)))⟩
  · have h2 : leftOk xs = allIn xs 1 1000 := by simp [leftOk, h0]
    have hlen : 2 ≤ (xs.length : Int) ∧ (xs.length : Int) ≤ 48 := by simpa [inB] using h0
    obtain ⟨l1, l2⟩ := hlen
    clear h0
    go_enter Try.func35, Try.ntmps35
    go_wp2_with fail
    go_loopw [5, 6, 21] (fun p q i wr => ∃ k : Nat, k ≤ xs.length ∧ p = .int .i64 ((xs.take k).count 1 : Nat) ∧ q = .int .i64 ((xs.take k).count 2 : Nat) ∧ i = .int .i64 k ∧ (xs.take k).all (fun x => inB x 1 1000) = true ∧ Below w.heap.size w wr) (fun _ _ i _ => xs.length - (intOf i).toNat)
    case atStart => exact ⟨0, Nat.zero_le _, by simp, by simp, rfl, by simp, by (repeat (first | (with_reducible assumption) | (with_reducible apply below_refl) | (with_reducible apply below_alloc1) | (with_reducible apply below_drewN1) | (with_reducible apply below_drew1)))⟩
    case round =>
      obtain ⟨k, hk, rfl, rfl, rfl, hall, hw⟩ := hrel
      have HALL := hid hall; clear hall
      by_cases hlt : k < xs.length
      · obtain rfl := HA.out (by omega)
        have hcell := row_cell (B := w.heap.size) HC.out hw k hlt
        have n1 := count_next xs k hlt 1
        have n2 := count_next xs k hlt 2
        have m1 := count_take_le xs k 1
        have m2 := count_take_le xs k 2
        have g0 : (0 : Int) ≤ (k : Int) := by omega
        have g1 : (k : Int) < (xs.length : Int) := by omega
        have hnext : (xs.take (k + 1)).all (fun x => inB x 1 1000) = inB xs[k] 1 1000 := by
          rw [List.take_succ_eq_append_getElem hlt, List.all_append, HALL.out]; simp
        have hbad : inB xs[k] 1 1000 = false → leftOk xs = false := by
          intro hf; rw [h2]; unfold allIn
          rw [List.all_eq_false]; exact ⟨xs[k], by simp, by simp [hf]⟩
        have HB := hid hbad; have HN := hid hnext; clear hbad hnext
        generalize xs[k] = y at hcell n1 n2 HB HN
        have N1 := hid n1; have N2 := hid n2; clear n1 n2
        cases ht : inB y 1 1000
        · go_wp2_with (first | (go_at_call 40; refine (l00In_val _ _ _ _ ht _).mono ?_; rintro e w' ⟨rfl, rfl⟩))
          go_ret3
          exact ⟨by rw [leftM_no (HB.out ht)]; rfl, by (repeat (first | (with_reducible assumption) | (with_reducible apply below_refl) | (with_reducible apply below_alloc1) | (with_reducible apply below_drewN1) | (with_reducible apply below_drew1)))⟩
        · have HN2 := hid (HN.out.trans ht)
          by_cases t1 : y = 1
          · subst t1
            have n1 := N1.out; have n2 := N2.out
            rw [if_pos rfl] at n1
            rw [if_neg (by decide)] at n2
            replace N1 := hid n1; replace N2 := hid n2; clear n1 n2
            go_wp2_with (first | (go_at_call 40; refine (l00In_val _ _ _ _ ht _).mono ?_; rintro e w' ⟨rfl, rfl⟩))
            go_roundw
            case rel => exact ⟨k + 1, by omega, by rw [N1.out]; go_num, by rw [N2.out]; rfl, by go_num, HN2.out, by (repeat (first | (with_reducible assumption) | (with_reducible apply below_refl) | (with_reducible apply below_alloc1) | (with_reducible apply below_drewN1) | (with_reducible apply below_drew1)))⟩
            case measure => simp [intOf]; omega
          · by_cases t2 : y = 2
            · subst t2
              have n1 := N1.out; have n2 := N2.out
              rw [if_neg (by decide)] at n1
              rw [if_pos rfl] at n2
              replace N1 := hid n1; replace N2 := hid n2; clear n1 n2
              go_wp2_with (first | (go_at_call 40; refine (l00In_val _ _ _ _ ht _).mono ?_; rintro e w' ⟨rfl, rfl⟩))
              go_roundw
              case rel => exact ⟨k + 1, by omega, by rw [N1.out]; rfl, by rw [N2.out]; go_num, by go_num, HN2.out, by (repeat (first | (with_reducible assumption) | (with_reducible apply below_refl) | (with_reducible apply below_alloc1) | (with_reducible apply below_drewN1) | (with_reducible apply below_drew1)))⟩
              case measure => simp [intOf]; omega
            · have n1 := N1.out; have n2 := N2.out
              rw [if_neg t1] at n1
              rw [if_neg t2] at n2
              replace N1 := hid n1; replace N2 := hid n2; clear n1 n2
              go_wp2_with (first | (go_at_call 40; refine (l00In_val _ _ _ _ ht _).mono ?_; rintro e w' ⟨rfl, rfl⟩))
              go_roundw
              case rel => exact ⟨k + 1, by omega, by rw [N1.out]; rfl, by rw [N2.out]; rfl, by go_num, HN2.out, by (repeat (first | (with_reducible assumption) | (with_reducible apply below_refl) | (with_reducible apply below_alloc1) | (with_reducible apply below_drewN1) | (with_reducible apply below_drew1)))⟩
              case measure => simp [intOf]; omega
      · have hk' : k = xs.length := by omega
        subst hk'
        have h1 : leftOk xs = true := by rw [h2]; simpa [allIn] using HALL.out
        have hx := leftX_bd h1
        have hy := leftY_bd h1
        have H1 := hid h1
        clear h1 h2
        simp only [List.take_length]
        simp only [leftX, leftY] at hx hy
        have hg := gcdI_pos ((xs.count 1 : Nat) * ((xs.count 1 : Nat) - 1)) (2 * ((xs.count 2 : Nat) + 1)) (by omega)
        have hd1 := div_bd _ _ hx.1 (by omega) hg
        have hd2 := div_bd _ _ (show (0:Int) ≤ 2 * ((xs.count 2 : Nat) + 1) by omega) (by omega) hg
        obtain ⟨x1, x2⟩ := hx
        obtain ⟨y1, y2⟩ := hy
        have q1 : xs.count 1 ≤ 48 := Nat.le_trans List.count_le_length (by omega)
        have q2 : xs.count 2 ≤ 48 := Nat.le_trans List.count_le_length (by omega)
        go_wp2_with (first | (go_at_call 60; refine (l00Max_zero _ x1 _).mono ?_; rintro e w' ⟨rfl, hb⟩; have hB : Below w.heap.size w w' := below_trans (by (repeat (first | (with_reducible assumption) | (with_reducible apply below_refl) | (with_reducible apply below_alloc1) | (with_reducible apply below_drewN1) | (with_reducible apply below_drew1)))) hb; have hC := (bcell hB).1; clear hb) | (go_at_call 41; refine (l05Common_i _ _ ⟨x1, Int.le_trans x2 (by decide)⟩ ⟨by omega, by omega⟩ _).mono ?_; rintro e w' ⟨rfl, hb⟩; have hB : Below w.heap.size w w' := below_trans (by (repeat (first | (with_reducible assumption) | (with_reducible apply below_refl) | (with_reducible apply below_alloc1) | (with_reducible apply below_drewN1) | (with_reducible apply below_drew1)))) hb; have hC := (bcell hB).1; clear hb) | go_quiet (fail))
        go_ret3
        exact ⟨by rw [leftM_yes H1.out]; rfl, by (repeat (first | (with_reducible assumption) | (with_reducible apply below_refl) | (with_reducible apply below_alloc1) | (with_reducible apply below_drewN1) | (with_reducible apply below_drew1)))⟩
end Go.Proofs.Ytdjpbgdhjkbcmaa
