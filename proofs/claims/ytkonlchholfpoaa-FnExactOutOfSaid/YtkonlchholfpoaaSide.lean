/- Contracts: lists of a chart, SameSide. -/
import Derived.Test.YtkonlchholfpoaaCom
import Derived.Test.YtkonlchholfpoaaInt
import Derived.Test.YtkonlchholfpoaaRow
import Derived.Test.YtkonlchholfpoaaMag3
namespace Go.Proofs.Ytkonlchholfpoaa
open Go.RowKit

def toldB (xs : List Nat) : Bool := inB xs.length 1 256 && xs.all fun b => finB (ab .f32 b)
theorem toldB_true {xs : List Nat} (h : toldB xs = true) : 1 ≤ xs.length ∧ xs.length ≤ 256 ∧ ∀ k (h : k < xs.length), finite32 (ab .f32 xs[k]) = true := by
  simp only [toldB, Bool.and_eq_true, List.all_eq_true] at h
  have := inB_true h.1
  exact ⟨by omega, by omega, fun k hk => h.2 _ (List.getElem_mem hk)⟩

set_option maxRecDepth 100000 in
set_option maxHeartbeats 400000 in
theorem isTold_any (v : Value) (xs : List Nat) (w : World) (hv : RowAt w v (xs.map (Value.float .f32))) :
    Calls Try.prog 64 #[v] w fun e w' => e = .returned (.bool (toldB xs)) ∧ Below w.heap.size w w' := by
  have HV := hid hv
  obtain ⟨ao, cap, b, off, rfl, hao, hl, hm, hc⟩ := hv
  simp only [List.length_map] at hl HV ⊢
  unfold maxLen at hm
  clear hc hao
  by_cases h1 : 1 ≤ xs.length
  · have h1' : (1 : Int) ≤ (xs.length : Int) := by omega
    by_cases h2 : xs.length ≤ 256
    · have h2' : (xs.length : Int) ≤ 256 := by omega
      have hr : toldB xs = (xs.all fun b => finB (ab .f32 b)) := by simp [toldB, inB_mk h1' h2']
      rw [hr]; clear hr
      go_enter Try.func64, Try.ntmps64
      go_wp2_with (go_at_call 72; refine (areFinite_any _ xs _ (HV.out.below (by (repeat (first | (with_reducible assumption) | (with_reducible apply below_refl) | (with_reducible apply below_alloc1) | (with_reducible apply below_drewN1) | (with_reducible apply below_drew1)))))).mono ?_; rintro e w' ⟨rfl, hb⟩; have hB : Below w.heap.size w w' := below_trans (by (repeat (first | (with_reducible assumption) | (with_reducible apply below_refl) | (with_reducible apply below_alloc1) | (with_reducible apply below_drewN1) | (with_reducible apply below_drew1)))) hb; have hC := (bcell hB).1; clear hb)
      go_ret
      exact ⟨rfl, by assumption⟩
    · have h2' : ¬ (xs.length : Int) ≤ 256 := by omega
      have hr : toldB xs = false := by simp [toldB, inB, h2']
      rw [hr]; clear hr
      go_enter Try.func64, Try.ntmps64
      go_wp2_with fail
      go_ret
      exact ⟨rfl, by (repeat (first | (with_reducible assumption) | (with_reducible apply below_refl) | (with_reducible apply below_alloc1) | (with_reducible apply below_drewN1) | (with_reducible apply below_drew1)))⟩
  · have h1' : ¬ (1 : Int) ≤ (xs.length : Int) := by omega
    have hr : toldB xs = false := by simp [toldB, inB, h1']
    rw [hr]; clear hr
    go_enter Try.func64, Try.ntmps64
    go_wp2_with fail
    go_ret
    exact ⟨rfl, by (repeat (first | (with_reducible assumption) | (with_reducible apply below_refl) | (with_reducible apply below_alloc1) | (with_reducible apply below_drewN1) | (with_reducible apply below_drew1)))⟩
set_option maxRecDepth 100000 in
set_option maxHeartbeats 400000 in
theorem l06List_any (v : Value) (xs : List Nat) (w : World) (hv : RowAt w v (xs.map (Value.float .f32))) :
    Calls Try.prog 60 #[v] w fun e w' => e = .returned (.bool (toldB xs)) ∧ Below w.heap.size w w' := by
  have HV := hid hv
  obtain ⟨ao, cap, b, off, rfl, hao, hl, hm, hc⟩ := hv
  simp only [List.length_map] at hl HV ⊢
  unfold maxLen at hm
  clear hc hao
  by_cases h1 : 1 ≤ xs.length
  · have h1' : (1 : Int) ≤ (xs.length : Int) := by omega
    by_cases h2 : xs.length ≤ 256
    · have h2' : (xs.length : Int) ≤ 256 := by omega
      have hr : toldB xs = (xs.all fun b => finB (ab .f32 b)) := by simp [toldB, inB_mk h1' h2']
      rw [hr]; clear hr
      go_enter Try.func60, Try.ntmps60
      go_wp2_with (go_at_call 83; refine (l02Finite_any _ xs _ (HV.out.below (by (repeat (first | (with_reducible assumption) | (with_reducible apply below_refl) | (with_reducible apply below_alloc1) | (with_reducible apply below_drewN1) | (with_reducible apply below_drew1)))))).mono ?_; rintro e w' ⟨rfl, hb⟩; have hB : Below w.heap.size w w' := below_trans (by (repeat (first | (with_reducible assumption) | (with_reducible apply below_refl) | (with_reducible apply below_alloc1) | (with_reducible apply below_drewN1) | (with_reducible apply below_drew1)))) hb; have hC := (bcell hB).1; clear hb)
      go_ret
      exact ⟨rfl, by assumption⟩
    · have h2' : ¬ (xs.length : Int) ≤ 256 := by omega
      have hr : toldB xs = false := by simp [toldB, inB, h2']
      rw [hr]; clear hr
      go_enter Try.func60, Try.ntmps60
      go_wp2_with fail
      go_ret
      exact ⟨rfl, by (repeat (first | (with_reducible assumption) | (with_reducible apply below_refl) | (with_reducible apply below_alloc1) | (with_reducible apply below_drewN1) | (with_reducible apply below_drew1)))⟩
  · have h1' : ¬ (1 : Int) ≤ (xs.length : Int) := by omega
    have hr : toldB xs = false := by simp [toldB, inB, h1']
    rw [hr]; clear hr
    go_enter Try.func60, Try.ntmps60
    go_wp2_with fail
    go_ret
    exact ⟨rfl, by (repeat (first | (with_reducible assumption) | (with_reducible apply below_refl) | (with_reducible apply below_alloc1) | (with_reducible apply below_drewN1) | (with_reducible apply below_drew1)))⟩

/-- Runs above and below so far. -/
def sideSt (c : Option Nat) (s : Int × Int) (x : Nat) : Int × Int :=
  (if ford .f32 (ab .f32 x) c == some .gt then s.1 + 1 else 0, if ford .f32 (ab .f32 x) c == some .lt then s.2 + 1 else 0)
def sideAt (c : Option Nat) (xs : List Nat) (k : Nat) : Int × Int := (xs.take k).foldl (sideSt c) (0, 0)
theorem sideAt_next (c : Option Nat) (xs : List Nat) (k : Nat) (h : k < xs.length) : sideAt c xs (k + 1) = sideSt c (sideAt c xs k) xs[k] := foldl_next _ _ xs k h
theorem sideAt_bd (c : Option Nat) (xs : List Nat) (k : Nat) (hk : k ≤ xs.length) : 0 ≤ (sideAt c xs k).1 ∧ (sideAt c xs k).1 ≤ k ∧ 0 ≤ (sideAt c xs k).2 ∧ (sideAt c xs k).2 ≤ k := by
  induction k with
  | zero => simp [sideAt]
  | succ k ih =>
    have := ih (by omega)
    rw [sideAt_next c xs k (by omega)]
    simp only [sideSt]
    split <;> split <;> omega
def sideHit (c : Option Nat) (L : Int) (xs : List Nat) (k : Nat) : Bool := decide (L ≤ (sideAt c xs (k + 1)).1) || decide (L ≤ (sideAt c xs (k + 1)).2)
def sideOk (xs : List Nat) (c : Option Nat) (L : Int) : Bool := toldB xs && finite32 c && inB L 1 256
def sideM (xs : List Nat) (c : Option Nat) (L : Int) : Value :=
  if sideOk xs c L then
    match firstAt (sideHit c L xs) xs.length with
    | some k => .tuple #[.int .i64 k, .bool true]
    | none => .tuple #[.int .i64 0, .bool false]
  else .tuple #[.int .i64 0, .bool false]
theorem sideM_no {xs : List Nat} {c : Option Nat} {L : Int} (h : sideOk xs c L = false) : sideM xs c L = .tuple #[.int .i64 0, .bool false] := by simp [sideM, h]
theorem sideM_hit {xs : List Nat} {c : Option Nat} {L : Int} {k : Nat} (h : sideOk xs c L = true) (hk : k < xs.length) (hp : sideHit c L xs k = true) (hno : ∀ j, j < k → sideHit c L xs j = false) : sideM xs c L = .tuple #[.int .i64 k, .bool true] := by
  simp only [sideM, h, if_true, firstAt_some hk hp hno]
theorem sideM_none {xs : List Nat} {c : Option Nat} {L : Int} (h : sideOk xs c L = true) (hno : ∀ j, j < xs.length → sideHit c L xs j = false) : sideM xs c L = .tuple #[.int .i64 0, .bool false] := by
  simp only [sideM, h, if_true, firstAt_none hno]
theorem sideM_form (xs : List Nat) (c : Option Nat) (L : Int) : ∃ n z, sideM xs c L = .tuple #[.int .i64 n, .bool z] := by
  unfold sideM
  split
  · split <;> exact ⟨_, _, rfl⟩
  · exact ⟨_, _, rfl⟩
def sideNo (c : Option Nat) (L : Int) (xs : List Nat) (k : Nat) : Prop := ∀ j, j < k → sideHit c L xs j = false
theorem sideNo_next {c : Option Nat} {L : Int} {xs : List Nat} {k : Nat} (h : sideNo c L xs k) (hk : sideHit c L xs k = false) : sideNo c L xs (k + 1) := by
  intro j hj
  by_cases e : j = k
  · rw [e]; exact hk
  · exact h j (by omega)
theorem sideNo_lt {c : Option Nat} {L : Int} {xs : List Nat} {k : Nat} (h : sideNo c L xs k) (hL : 1 ≤ L) : (sideAt c xs k).1 < L ∧ (sideAt c xs k).2 < L := by
  cases k with
  | zero => simp [sideAt]; omega
  | succ k =>
    have := h k (by omega)
    simp only [sideHit, Bool.or_eq_false_iff, decide_eq_false_iff_not] at this
    omega

set_option maxRecDepth 100000 in
set_option maxHeartbeats 2000000 in
theorem implSide_any (v : Value) (xs : List Nat) (c : Nat) (L : Int) (w : World) (hv : RowAt w v (xs.map (Value.float .f32))) :
    Calls Try.prog 35 #[v, .float .f32 c, .int .i64 L] w fun e w' => e = .returned (sideM xs (ab .f32 c) L) ∧ Below w.heap.size w w' := by
  have HV := hid hv
  obtain ⟨ao, cap, b, off, rfl, hao, hl, hm, hc⟩ := hv
  simp only [List.length_map] at hl HV hao ⊢
  unfold maxLen at hm
  have HC := hid hc; clear hc
  have HA := hid hao; clear hao
  cases g1 : toldB xs
  · rw [sideM_no (by simp [sideOk, g1])]
    go_enter Try.func35, Try.ntmps35
    go_wp2_with (first | (go_at_call 64; refine (isTold_any _ xs _ (HV.out.below (by (repeat (first | (with_reducible assumption) | (with_reducible apply below_refl) | (with_reducible apply below_alloc1) | (with_reducible apply below_drewN1) | (with_reducible apply below_drew1)))))).mono ?_; rw [g1]; rintro e w' ⟨rfl, hb⟩; have hB : Below w.heap.size w w' := below_trans (by (repeat (first | (with_reducible assumption) | (with_reducible apply below_refl) | (with_reducible apply below_alloc1) | (with_reducible apply below_drewN1) | (with_reducible apply below_drew1)))) hb; have hC := (bcell hB).1; clear hb))
    go_ret2
    exact ⟨rfl, by assumption⟩
  cases g2 : finite32 (ab .f32 c)
  · rw [sideM_no (by simp [sideOk, g2])]
    go_enter Try.func35, Try.ntmps35
    go_wp2_with (first | (go_at_call 64; refine (isTold_any _ xs _ (HV.out.below (by (repeat (first | (with_reducible assumption) | (with_reducible apply below_refl) | (with_reducible apply below_alloc1) | (with_reducible apply below_drewN1) | (with_reducible apply below_drew1)))))).mono ?_; rw [g1]; rintro e w' ⟨rfl, hb⟩; have hB : Below w.heap.size w w' := below_trans (by (repeat (first | (with_reducible assumption) | (with_reducible apply below_refl) | (with_reducible apply below_alloc1) | (with_reducible apply below_drewN1) | (with_reducible apply below_drew1)))) hb; have hC := (bcell hB).1; clear hb) | (go_at_call 65; refine (implFinite_any _ _).mono ?_; rw [g2]; rintro e w' ⟨rfl, hb⟩; have hB : Below w.heap.size w w' := below_trans (by (repeat (first | (with_reducible assumption) | (with_reducible apply below_refl) | (with_reducible apply below_alloc1) | (with_reducible apply below_drewN1) | (with_reducible apply below_drew1)))) hb; have hC := (bcell hB).1; clear hb))
    go_ret2
    exact ⟨rfl, by assumption⟩
  cases g3 : inB L 1 256
  · rw [sideM_no (by simp [sideOk, g3])]
    go_enter Try.func35, Try.ntmps35
    go_wp2_with (first | (go_at_call 64; refine (isTold_any _ xs _ (HV.out.below (by (repeat (first | (with_reducible assumption) | (with_reducible apply below_refl) | (with_reducible apply below_alloc1) | (with_reducible apply below_drewN1) | (with_reducible apply below_drew1)))))).mono ?_; rw [g1]; rintro e w' ⟨rfl, hb⟩; have hB : Below w.heap.size w w' := below_trans (by (repeat (first | (with_reducible assumption) | (with_reducible apply below_refl) | (with_reducible apply below_alloc1) | (with_reducible apply below_drewN1) | (with_reducible apply below_drew1)))) hb; have hC := (bcell hB).1; clear hb) | (go_at_call 65; refine (implFinite_any _ _).mono ?_; rw [g2]; rintro e w' ⟨rfl, hb⟩; have hB : Below w.heap.size w w' := below_trans (by (repeat (first | (with_reducible assumption) | (with_reducible apply below_refl) | (with_reducible apply below_alloc1) | (with_reducible apply below_drewN1) | (with_reducible apply below_drew1)))) hb; have hC := (bcell hB).1; clear hb) | (go_at_call 52; refine (within_any _ _ _ _).mono ?_; rw [g3]; rintro e w' ⟨rfl, hb⟩; have hB : Below w.heap.size w w' := below_trans (by (repeat (first | (with_reducible assumption) | (with_reducible apply below_refl) | (with_reducible apply below_alloc1) | (with_reducible apply below_drewN1) | (with_reducible apply below_drew1)))) hb; have hC := (bcell hB).1; clear hb))
    go_ret2
    exact ⟨rfl, by assumption⟩
  have hok : sideOk xs (ab .f32 c) L = true := by simp [sideOk, g1, g2, g3]
  obtain ⟨l1, l2, hfin⟩ := toldB_true g1
  obtain ⟨L1, L2⟩ := inB_true g3
  obtain ⟨vc, hvc⟩ := isV_of_fin32 g2
  have HOK := hid hok; have HVC := hid hvc; have HF := hid hfin
  have G1 := hid g1; have G2 := hid g2; have G3 := hid g3
  clear hok hvc hfin g1 g2 g3
  go_enter Try.func35, Try.ntmps35
  go_wp2_with (first | (go_at_call 64; refine (isTold_any _ xs _ (HV.out.below (by (repeat (first | (with_reducible assumption) | (with_reducible apply below_refl) | (with_reducible apply below_alloc1) | (with_reducible apply below_drewN1) | (with_reducible apply below_drew1)))))).mono ?_; rw [G1.out]; rintro e w' ⟨rfl, hb⟩; have hB : Below w.heap.size w w' := below_trans (by (repeat (first | (with_reducible assumption) | (with_reducible apply below_refl) | (with_reducible apply below_alloc1) | (with_reducible apply below_drewN1) | (with_reducible apply below_drew1)))) hb; have hC := (bcell hB).1; clear hb) | (go_at_call 65; refine (implFinite_any _ _).mono ?_; rw [G2.out]; rintro e w' ⟨rfl, hb⟩; have hB : Below w.heap.size w w' := below_trans (by (repeat (first | (with_reducible assumption) | (with_reducible apply below_refl) | (with_reducible apply below_alloc1) | (with_reducible apply below_drewN1) | (with_reducible apply below_drew1)))) hb; have hC := (bcell hB).1; clear hb) | (go_at_call 52; refine (within_any _ _ _ _).mono ?_; rw [G3.out]; rintro e w' ⟨rfl, hb⟩; have hB : Below w.heap.size w w' := below_trans (by (repeat (first | (with_reducible assumption) | (with_reducible apply below_refl) | (with_reducible apply below_alloc1) | (with_reducible apply below_drewN1) | (with_reducible apply below_drew1)))) hb; have hC := (bcell hB).1; clear hb))
  go_loopw [8, 9, 27] (fun x y i wr => ∃ k : Nat, k ≤ xs.length ∧ i = .int .i64 k ∧ x = .int .i64 (sideAt (ab .f32 c) xs k).1 ∧ y = .int .i64 (sideAt (ab .f32 c) xs k).2 ∧ Hid (sideNo (ab .f32 c) L xs k) ∧ Below w.heap.size w wr) (fun _ _ i _ => xs.length - (intOf i).toNat)
  case atStart => exact ⟨0, Nat.zero_le _, rfl, rfl, rfl, hid (fun j h => absurd h (Nat.not_lt_zero _)), by (repeat (first | (with_reducible assumption) | (with_reducible apply below_refl) | (with_reducible apply below_alloc1) | (with_reducible apply below_drewN1) | (with_reducible apply below_drew1)))⟩
  case round =>
    obtain ⟨k, hk, rfl, rfl, rfl, hno, hw⟩ := hrel
    obtain ⟨b1, b2, b3, b4⟩ := sideAt_bd (ab .f32 c) xs k hk
    by_cases hlt : k < xs.length
    · obtain rfl := HA.out (by omega)
      have hcell := rowc HC.out hw k hlt
      obtain ⟨vx, hvx⟩ := isV_of_fin32 (HF.out k hlt)
      have hst := sideAt_next (ab .f32 c) xs k hlt
      obtain ⟨A, eA⟩ : ∃ A, (sideAt (ab .f32 c) xs k).1 = A := ⟨_, rfl⟩
      obtain ⟨B, eB⟩ : ∃ B, (sideAt (ab .f32 c) xs k).2 = B := ⟨_, rfl⟩
      have hlo := sideNo_lt hno.out L1
      rw [eA] at b1 b2 hlo ⊢
      rw [eB] at b3 b4 hlo ⊢
      have hh : sideHit (ab .f32 c) L xs k = (decide (L ≤ (sideSt (ab .f32 c) (A, B) xs[k]).1) || decide (L ≤ (sideSt (ab .f32 c) (A, B) xs[k]).2)) := by
        unfold sideHit; rw [hst, ← eA, ← eB]
      have hs1 : (sideAt (ab .f32 c) xs (k + 1)) = sideSt (ab .f32 c) (A, B) xs[k] := by rw [hst, ← eA, ← eB]
      generalize xs[k] = y at hcell hvx hh hs1
      clear hst
      have hC1 := (bcell hw).1
      rcases Int.lt_trichotomy vx vc with hv1 | hv1 | hv1
      · have ho := ford_lt hvx HVC.out hv1
        have e2 : sideSt (ab .f32 c) (A, B) y = (0, B + 1) := by simp [sideSt, ho]
        rw [e2] at hh hs1
        clear e2
        have HVX := hid hvx; clear hvx
        by_cases ht : L ≤ B + 1
        · have HM := hid (sideM_hit HOK.out hlt (by rw [hh]; simp [ht]) hno.out)
          have HS := hid hs1; clear hh hs1 eA eB
          go_wp2_with fail
          go_ret2
          exact ⟨by rw [HM.out]; rfl, by (repeat (first | (with_reducible assumption) | (with_reducible apply below_refl) | (with_reducible apply below_alloc1) | (with_reducible apply below_drewN1) | (with_reducible apply below_drew1)))⟩
        · have HN := hid (sideNo_next hno.out (by rw [hh]; simp [ht]; omega))
          have HS := hid hs1; clear hh hs1 eA eB
          go_wp2_with fail
          go_roundw
          case rel => exact ⟨k + 1, by omega, by go_num, by rw [HS.out], by rw [HS.out], HN, by (repeat (first | (with_reducible assumption) | (with_reducible apply below_refl) | (with_reducible apply below_alloc1) | (with_reducible apply below_drewN1) | (with_reducible apply below_drew1)))⟩
          case measure => simp [intOf]; omega
      · have ho := ford_eq hvx HVC.out hv1
        have e2 : sideSt (ab .f32 c) (A, B) y = (0, 0) := by simp [sideSt, ho]
        rw [e2] at hh hs1
        clear e2
        have HVX := hid hvx; clear hvx
        have HN := hid (sideNo_next hno.out (by rw [hh]; simp; omega))
        have HS := hid hs1; clear hh hs1 eA eB
        go_wp2_with fail
        go_roundw
        case rel => exact ⟨k + 1, by omega, by go_num, by rw [HS.out], by rw [HS.out], HN, by (repeat (first | (with_reducible assumption) | (with_reducible apply below_refl) | (with_reducible apply below_alloc1) | (with_reducible apply below_drewN1) | (with_reducible apply below_drew1)))⟩
        case measure => simp [intOf]; omega
      · have ho := ford_gt hvx HVC.out hv1
        have e2 : sideSt (ab .f32 c) (A, B) y = (A + 1, 0) := by simp [sideSt, ho]
        rw [e2] at hh hs1
        clear e2
        have HVX := hid hvx; clear hvx
        by_cases ht : L ≤ A + 1
        · have HM := hid (sideM_hit HOK.out hlt (by rw [hh]; simp [ht]) hno.out)
          have HS := hid hs1; clear hh hs1 eA eB
          go_wp2_with fail
          go_ret2
          exact ⟨by rw [HM.out]; rfl, by (repeat (first | (with_reducible assumption) | (with_reducible apply below_refl) | (with_reducible apply below_alloc1) | (with_reducible apply below_drewN1) | (with_reducible apply below_drew1)))⟩
        · have HN := hid (sideNo_next hno.out (by rw [hh]; simp [ht]; omega))
          have HS := hid hs1; clear hh hs1 eA eB
          go_wp2_with fail
          go_roundw
          case rel => exact ⟨k + 1, by omega, by go_num, by rw [HS.out], by rw [HS.out], HN, by (repeat (first | (with_reducible assumption) | (with_reducible apply below_refl) | (with_reducible apply below_alloc1) | (with_reducible apply below_drewN1) | (with_reducible apply below_drew1)))⟩
          case measure => simp [intOf]; omega
    · obtain rfl : k = xs.length := by omega
      have HM := hid (sideM_none HOK.out hno.out)
      go_wp2_with fail
      go_ret2
      exact ⟨by rw [HM.out]; rfl, by (repeat (first | (with_reducible assumption) | (with_reducible apply below_refl) | (with_reducible apply below_alloc1) | (with_reducible apply below_drewN1) | (with_reducible apply below_drew1)))⟩
set_option maxRecDepth 100000 in
set_option maxHeartbeats 2000000 in
theorem specSide_any (v : Value) (xs : List Nat) (c : Nat) (L : Int) (w : World) (hv : RowAt w v (xs.map (Value.float .f32))) :
    Calls Try.prog 34 #[v, .float .f32 c, .int .i64 L] w fun e w' => e = .returned (sideM xs (ab .f32 c) L) ∧ Below w.heap.size w w' := by
  have HV := hid hv
  obtain ⟨ao, cap, b, off, rfl, hao, hl, hm, hc⟩ := hv
  simp only [List.length_map] at hl HV hao ⊢
  unfold maxLen at hm
  have HC := hid hc; clear hc
  have HA := hid hao; clear hao
  cases g1 : toldB xs
  · rw [sideM_no (by simp [sideOk, g1])]
    go_enter Try.func34, Try.ntmps34
    go_wp2_with (first | (go_at_call 60; refine (l06List_any _ xs _ (HV.out.below (by (repeat (first | (with_reducible assumption) | (with_reducible apply below_refl) | (with_reducible apply below_alloc1) | (with_reducible apply below_drewN1) | (with_reducible apply below_drew1)))))).mono ?_; rw [g1]; rintro e w' ⟨rfl, hb⟩; have hB : Below w.heap.size w w' := below_trans (by (repeat (first | (with_reducible assumption) | (with_reducible apply below_refl) | (with_reducible apply below_alloc1) | (with_reducible apply below_drewN1) | (with_reducible apply below_drew1)))) hb; have hC := (bcell hB).1; clear hb))
    go_ret2
    exact ⟨rfl, by assumption⟩
  cases g2 : finite32 (ab .f32 c)
  · rw [sideM_no (by simp [sideOk, g2])]
    go_enter Try.func34, Try.ntmps34
    go_wp2_with (first | (go_at_call 60; refine (l06List_any _ xs _ (HV.out.below (by (repeat (first | (with_reducible assumption) | (with_reducible apply below_refl) | (with_reducible apply below_alloc1) | (with_reducible apply below_drewN1) | (with_reducible apply below_drew1)))))).mono ?_; rw [g1]; rintro e w' ⟨rfl, hb⟩; have hB : Below w.heap.size w w' := below_trans (by (repeat (first | (with_reducible assumption) | (with_reducible apply below_refl) | (with_reducible apply below_alloc1) | (with_reducible apply below_drewN1) | (with_reducible apply below_drew1)))) hb; have hC := (bcell hB).1; clear hb) | (go_at_call 61; refine (specFinite_any _ _).mono ?_; rw [g2]; rintro e w' ⟨rfl, hb⟩; have hB : Below w.heap.size w w' := below_trans (by (repeat (first | (with_reducible assumption) | (with_reducible apply below_refl) | (with_reducible apply below_alloc1) | (with_reducible apply below_drewN1) | (with_reducible apply below_drew1)))) hb; have hC := (bcell hB).1; clear hb))
    go_ret2
    exact ⟨rfl, by assumption⟩
  cases g3 : inB L 1 256
  · rw [sideM_no (by simp [sideOk, g3])]
    go_enter Try.func34, Try.ntmps34
    go_wp2_with (first | (go_at_call 60; refine (l06List_any _ xs _ (HV.out.below (by (repeat (first | (with_reducible assumption) | (with_reducible apply below_refl) | (with_reducible apply below_alloc1) | (with_reducible apply below_drewN1) | (with_reducible apply below_drew1)))))).mono ?_; rw [g1]; rintro e w' ⟨rfl, hb⟩; have hB : Below w.heap.size w w' := below_trans (by (repeat (first | (with_reducible assumption) | (with_reducible apply below_refl) | (with_reducible apply below_alloc1) | (with_reducible apply below_drewN1) | (with_reducible apply below_drew1)))) hb; have hC := (bcell hB).1; clear hb) | (go_at_call 61; refine (specFinite_any _ _).mono ?_; rw [g2]; rintro e w' ⟨rfl, hb⟩; have hB : Below w.heap.size w w' := below_trans (by (repeat (first | (with_reducible assumption) | (with_reducible apply below_refl) | (with_reducible apply below_alloc1) | (with_reducible apply below_drewN1) | (with_reducible apply below_drew1)))) hb; have hC := (bcell hB).1; clear hb) | (go_at_call 59; refine (l00In_any _ _ _ _).mono ?_; rw [g3]; rintro e w' ⟨rfl, hb⟩; have hB : Below w.heap.size w w' := below_trans (by (repeat (first | (with_reducible assumption) | (with_reducible apply below_refl) | (with_reducible apply below_alloc1) | (with_reducible apply below_drewN1) | (with_reducible apply below_drew1)))) hb; have hC := (bcell hB).1; clear hb))
    go_ret2
    exact ⟨rfl, by assumption⟩
  have hok : sideOk xs (ab .f32 c) L = true := by simp [sideOk, g1, g2, g3]
  obtain ⟨l1, l2, hfin⟩ := toldB_true g1
  obtain ⟨L1, L2⟩ := inB_true g3
  obtain ⟨vc, hvc⟩ := isV_of_fin32 g2
  have HOK := hid hok; have HVC := hid hvc; have HF := hid hfin
  have G1 := hid g1; have G2 := hid g2; have G3 := hid g3
  clear hok hvc hfin g1 g2 g3
  go_enter Try.func34, Try.ntmps34
  go_wp2_with (first | (go_at_call 60; refine (l06List_any _ xs _ (HV.out.below (by (repeat (first | (with_reducible assumption) | (with_reducible apply below_refl) | (with_reducible apply below_alloc1) | (with_reducible apply below_drewN1) | (with_reducible apply below_drew1)))))).mono ?_; rw [G1.out]; rintro e w' ⟨rfl, hb⟩; have hB : Below w.heap.size w w' := below_trans (by (repeat (first | (with_reducible assumption) | (with_reducible apply below_refl) | (with_reducible apply below_alloc1) | (with_reducible apply below_drewN1) | (with_reducible apply below_drew1)))) hb; have hC := (bcell hB).1; clear hb) | (go_at_call 61; refine (specFinite_any _ _).mono ?_; rw [G2.out]; rintro e w' ⟨rfl, hb⟩; have hB : Below w.heap.size w w' := below_trans (by (repeat (first | (with_reducible assumption) | (with_reducible apply below_refl) | (with_reducible apply below_alloc1) | (with_reducible apply below_drewN1) | (with_reducible apply below_drew1)))) hb; have hC := (bcell hB).1; clear hb) | (go_at_call 59; refine (l00In_any _ _ _ _).mono ?_; rw [G3.out]; rintro e w' ⟨rfl, hb⟩; have hB : Below w.heap.size w w' := below_trans (by (repeat (first | (with_reducible assumption) | (with_reducible apply below_refl) | (with_reducible apply below_alloc1) | (with_reducible apply below_drewN1) | (with_reducible apply below_drew1)))) hb; have hC := (bcell hB).1; clear hb))
  go_loopw [8, 9, 10] (fun x y i wr => ∃ k : Nat, k ≤ xs.length ∧ i = .int .i64 k ∧ x = .int .i64 (sideAt (ab .f32 c) xs k).1 ∧ y = .int .i64 (sideAt (ab .f32 c) xs k).2 ∧ Hid (sideNo (ab .f32 c) L xs k) ∧ Below w.heap.size w wr) (fun _ _ i _ => xs.length - (intOf i).toNat)
  case atStart => exact ⟨0, Nat.zero_le _, rfl, rfl, rfl, hid (fun j h => absurd h (Nat.not_lt_zero _)), by (repeat (first | (with_reducible assumption) | (with_reducible apply below_refl) | (with_reducible apply below_alloc1) | (with_reducible apply below_drewN1) | (with_reducible apply below_drew1)))⟩
  case round =>
    obtain ⟨k, hk, rfl, rfl, rfl, hno, hw⟩ := hrel
    obtain ⟨b1, b2, b3, b4⟩ := sideAt_bd (ab .f32 c) xs k hk
    by_cases hlt : k < xs.length
    · obtain rfl := HA.out (by omega)
      have hcell := rowc HC.out hw k hlt
      obtain ⟨vx, hvx⟩ := isV_of_fin32 (HF.out k hlt)
      have hst := sideAt_next (ab .f32 c) xs k hlt
      obtain ⟨A, eA⟩ : ∃ A, (sideAt (ab .f32 c) xs k).1 = A := ⟨_, rfl⟩
      obtain ⟨B, eB⟩ : ∃ B, (sideAt (ab .f32 c) xs k).2 = B := ⟨_, rfl⟩
      have hlo := sideNo_lt hno.out L1
      rw [eA] at b1 b2 hlo ⊢
      rw [eB] at b3 b4 hlo ⊢
      have hh : sideHit (ab .f32 c) L xs k = (decide (L ≤ (sideSt (ab .f32 c) (A, B) xs[k]).1) || decide (L ≤ (sideSt (ab .f32 c) (A, B) xs[k]).2)) := by
        unfold sideHit; rw [hst, ← eA, ← eB]
      have hs1 : (sideAt (ab .f32 c) xs (k + 1)) = sideSt (ab .f32 c) (A, B) xs[k] := by rw [hst, ← eA, ← eB]
      generalize xs[k] = y at hcell hvx hh hs1
      clear hst
      have hC1 := (bcell hw).1
      rcases Int.lt_trichotomy vx vc with hv1 | hv1 | hv1
      · have ho := ford_lt hvx HVC.out hv1
        have e2 : sideSt (ab .f32 c) (A, B) y = (0, B + 1) := by simp [sideSt, ho]
        rw [e2] at hh hs1
        clear e2
        have HVX := hid hvx; clear hvx
        have q2 : (0 == L) = false := by simp; omega
        by_cases ht : L ≤ B + 1
        · have q1 : (B + 1 == L) = true := by simp; omega
          have HM := hid (sideM_hit HOK.out hlt (by rw [hh]; simp [ht]) hno.out)
          have HS := hid hs1; clear hh hs1 eA eB
          go_wp2_with fail
          go_ret2
          exact ⟨by rw [HM.out]; rfl, by (repeat (first | (with_reducible assumption) | (with_reducible apply below_refl) | (with_reducible apply below_alloc1) | (with_reducible apply below_drewN1) | (with_reducible apply below_drew1)))⟩
        · have q1 : (B + 1 == L) = false := by simp; omega
          have HN := hid (sideNo_next hno.out (by rw [hh]; simp [ht]; omega))
          have HS := hid hs1; clear hh hs1 eA eB
          go_wp2_with fail
          go_roundw
          case rel => exact ⟨k + 1, by omega, by go_num, by rw [HS.out], by rw [HS.out], HN, by (repeat (first | (with_reducible assumption) | (with_reducible apply below_refl) | (with_reducible apply below_alloc1) | (with_reducible apply below_drewN1) | (with_reducible apply below_drew1)))⟩
          case measure => simp [intOf]; omega
      · have ho := ford_eq hvx HVC.out hv1
        have e2 : sideSt (ab .f32 c) (A, B) y = (0, 0) := by simp [sideSt, ho]
        rw [e2] at hh hs1
        clear e2
        have HVX := hid hvx; clear hvx
        have q2 : (0 == L) = false := by simp; omega
        have HN := hid (sideNo_next hno.out (by rw [hh]; simp; omega))
        have HS := hid hs1; clear hh hs1 eA eB
        go_wp2_with fail
        go_roundw
        case rel => exact ⟨k + 1, by omega, by go_num, by rw [HS.out], by rw [HS.out], HN, by (repeat (first | (with_reducible assumption) | (with_reducible apply below_refl) | (with_reducible apply below_alloc1) | (with_reducible apply below_drewN1) | (with_reducible apply below_drew1)))⟩
        case measure => simp [intOf]; omega
      · have ho := ford_gt hvx HVC.out hv1
        have e2 : sideSt (ab .f32 c) (A, B) y = (A + 1, 0) := by simp [sideSt, ho]
        rw [e2] at hh hs1
        clear e2
        have HVX := hid hvx; clear hvx
        have q2 : (0 == L) = false := by simp; omega
        by_cases ht : L ≤ A + 1
        · have q1 : (A + 1 == L) = true := by simp; omega
          have HM := hid (sideM_hit HOK.out hlt (by rw [hh]; simp [ht]) hno.out)
          have HS := hid hs1; clear hh hs1 eA eB
          go_wp2_with fail
          go_ret2
          exact ⟨by rw [HM.out]; rfl, by (repeat (first | (with_reducible assumption) | (with_reducible apply below_refl) | (with_reducible apply below_alloc1) | (with_reducible apply below_drewN1) | (with_reducible apply below_drew1)))⟩
        · have q1 : (A + 1 == L) = false := by simp; omega
          have HN := hid (sideNo_next hno.out (by rw [hh]; simp [ht]; omega))
          have HS := hid hs1; clear hh hs1 eA eB
          go_wp2_with fail
          go_roundw
          case rel => exact ⟨k + 1, by omega, by go_num, by rw [HS.out], by rw [HS.out], HN, by (repeat (first | (with_reducible assumption) | (with_reducible apply below_refl) | (with_reducible apply below_alloc1) | (with_reducible apply below_drewN1) | (with_reducible apply below_drew1)))⟩
          case measure => simp [intOf]; omega
    · obtain rfl : k = xs.length := by omega
      have HM := hid (sideM_none HOK.out hno.out)
      go_wp2_with fail
      go_ret2
      exact ⟨by rw [HM.out]; rfl, by (repeat (first | (with_reducible assumption) | (with_reducible apply below_refl) | (with_reducible apply below_alloc1) | (with_reducible apply below_drewN1) | (with_reducible apply below_drew1)))⟩
end Go.Proofs.Ytkonlchholfpoaa
