/- Chains: copies, sizes, comparisons, rates. -/
import Derived.Test.YtkaeohlakeliiaaUnit
import Derived.Test.YtkaeohlakeliiaaBal
import Derived.Test.YtkaeohlakeliiaaQuiet
import Derived.Test.YtkaeohlakeliiaaFres
namespace Go.Proofs.Ytkaeohlakeliiaa
open Go.RowKit

/-! ## Chain -/
theorem grown_after {w w1 w2 : World} {r : Option Nat} (hb : Below w.heap.size w w1) (hg : w1.grownBy w2 r) : w.grownBy w2 r :=
  ⟨hg.os.trans hb.os, hg.tape.trans hb.tape, hg.output.trans hb.output, Nat.le_trans hb.size hg.size, fun k hk hne => by
    rw [hg.block k (Nat.lt_of_lt_of_le hk hb.size) hne]; exact hb.block k hk⟩
theorem grown_next {w w1 w2 : World} {r : Option Nat} (hg : w.grownBy w1 r) (hb : Below w1.heap.size w1 w2) : w.grownBy w2 r :=
  ⟨hb.os.trans hg.os, hb.tape.trans hg.tape, hb.output.trans hg.output, Nat.le_trans hg.size hb.size, fun k hk hne => by
    rw [hb.block k (Nat.lt_of_lt_of_le hk hg.size)]; exact hg.block k hk hne⟩
set_option maxRecDepth 100000 in
set_option maxHeartbeats 400000 in
theorem rate_any (ao : Option Addr) (cap : Nat) (rs : List Nat) (i j n : Nat) (hn : n ≤ 8) (hi : i < n) (hj : j < n) (hl : rs.length = n * n) (w : World) (hv : RowAt w (.slice ao rs.length cap) (rs.map (Value.float .f32))) :
    Calls Try.prog 90 #[.agg #[.int .i64 n, .slice ao rs.length cap], .int .i64 i, .int .i64 j] w (FltOk (atX rs (i * n + j)) w) := by
  obtain ⟨ao, cap, b, off, he, hao, hl2, hm, hc⟩ := hv
  simp only [List.length_map] at he hao hl2
  cases he
  unfold maxLen at hm
  have hlt : i * n + j < rs.length := by
    rw [hl]
    have : (i + 1) * n ≤ n * n := Nat.mul_le_mul_right n hi
    have h2 : (i + 1) * n = i * n + n := by rw [Nat.add_mul, Nat.one_mul]
    omega
  have hin : i * n < 64 := by
    have : i * n ≤ 7 * 8 := Nat.mul_le_mul (by omega) hn
    omega
  obtain rfl := hao (by omega)
  have hcell : w.cell? ⟨b, off + (i * n + j), none⟩ = some (.float .f32 (rs.getD (i * n + j) 0)) := by
    rw [getD_at rs (i * n + j) hlt]
    exact hc _ _ (by simp [hlt])
  have gc : ((i * n + j : Nat) : Int) = (i : Int) * (n : Int) + (j : Int) := by rw [Int.natCast_add, Int.natCast_mul]
  have gc1 : ((i * n : Nat) : Int) = (i : Int) * (n : Int) := Int.natCast_mul _ _
  have W1 : IntKind.i64.wrap ((i : Int) * (n : Int)) = (i : Int) * (n : Int) := by rw [← gc1, IntKind.wrap_i64]; omega
  have W2 : IntKind.i64.wrap ((i : Int) * (n : Int) + (j : Int)) = (i : Int) * (n : Int) + (j : Int) := by rw [← gc, IntKind.wrap_i64]; omega
  have g0 : (0 : Int) ≤ (i : Int) * (n : Int) + (j : Int) := by rw [← gc]; omega
  have g1 : (i : Int) * (n : Int) + (j : Int) < (rs.length : Int) := by rw [← gc]; omega
  have hbl : b < w.heap.size := World.block_lt_of_cell? w _ hcell
  have GC := hid gc; have HL := hid hl
  have HQ := hid (show ab .f32 (rs.getD (i * n + j) 0) = atX rs (i * n + j) from rfl)
  generalize rs.getD (i * n + j) 0 = q at hcell HQ
  clear gc gc1 hl
  clear hc
  go_enter Try.func90, Try.ntmps90
  go_wp2_with fail
  go_ret
  exact ⟨q, rfl, HQ.out, by (repeat (first | (with_reducible assumption) | (with_reducible apply below_refl) | (with_reducible apply below_alloc1) | (with_reducible apply below_drewN1) | (with_reducible apply below_drew1)))⟩

/-! ## Chain2 -/
theorem sub_row {w : World} {b off cap : Nat} {xs : List Nat} {a n : Nat} (hm : cap ≤ maxLen) (hl : xs.length ≤ cap) (h : a + n ≤ xs.length) (hc : ∀ i x, (xs.map (Value.float .f32))[i]? = some x → w.cell? ⟨b, off + i, none⟩ = some x) :
    RowAt w (.slice (some ⟨b, off + a, none⟩) n (cap - a)) (((xs.drop a).take n).map (Value.float .f32)) := by
  have hlen : (((xs.drop a).take n).map (Value.float .f32)).length = n := by simp; omega
  refine ⟨_, cap - a, b, off + a, by rw [hlen], fun _ => rfl, by rw [hlen]; omega, by omega, fun i x hx => ?_⟩
  have hi : i < n := by
    have := (List.getElem?_eq_some_iff.1 hx).1
    omega
  rw [Nat.add_assoc]
  refine hc (a + i) x ?_
  rw [← hx]
  simp only [List.getElem?_map, List.getElem?_take, List.getElem?_drop]
  rw [if_pos hi]
set_option maxRecDepth 100000 in
set_option maxHeartbeats 400000 in
theorem leaves_any (ao : Option Addr) (cap : Nat) (rs : List Nat) (i n : Nat) (hn : n ≤ 8) (hi : i < n) (hl : rs.length = n * n) (w : World) (hv : RowAt w (.slice ao rs.length cap) (rs.map (Value.float .f32))) :
    Calls Try.prog 89 #[.agg #[.int .i64 n, .slice ao rs.length cap], .int .i64 i] w (FltOk (leaveS rs n i n) w) := by
  obtain ⟨ao, cap, b, off, he, hao, hl2, hm, hc⟩ := hv
  simp only [List.length_map] at he hao hl2
  cases he
  have hm' := hm
  unfold maxLen at hm'
  have hlt : i * n + n ≤ rs.length := by
    rw [hl]
    have : (i + 1) * n ≤ n * n := Nat.mul_le_mul_right n hi
    have h2 : (i + 1) * n = i * n + n := by rw [Nat.add_mul, Nat.one_mul]
    omega
  have hin : i * n < 64 := by
    have : i * n ≤ 7 * 8 := Nat.mul_le_mul (by omega) hn
    omega
  obtain rfl := hao (by omega)
  have HR := hid (show RowAt w (.slice (some ⟨b, off + i * n, none⟩) ((i + 1) * n - i * n) (cap - i * n)) (((rs.drop (i * n)).take n).map (Value.float .f32)) by
    rw [show (i + 1) * n - i * n = n by rw [Nat.add_mul, Nat.one_mul]; omega]
    exact sub_row hm hl2 hlt hc)
  have HS := hid (leave_sum rs n i n hlt (Nat.le_refl _))
  have hlen : ((rs.drop (i * n)).take n).length = n := by simp; omega
  have HLEN := hid hlen
  have gc1 : ((i * n : Nat) : Int) = (i : Int) * (n : Int) := Int.natCast_mul _ _
  have gc2 : ((i * n + n : Nat) : Int) = ((i : Int) + 1) * (n : Int) := by rw [Int.natCast_add, gc1, Int.add_mul, Int.one_mul]
  have W0 : IntKind.i64.wrap ((i : Int) + 1) = (i : Int) + 1 := by rw [IntKind.wrap_i64]; omega
  have W1 : IntKind.i64.wrap ((i : Int) * (n : Int)) = (i : Int) * (n : Int) := by rw [← gc1, IntKind.wrap_i64]; omega
  have W2 : IntKind.i64.wrap (((i : Int) + 1) * (n : Int)) = ((i : Int) + 1) * (n : Int) := by rw [← gc2, IntKind.wrap_i64]; omega
  have g0 : (0 : Int) ≤ (i : Int) * (n : Int) := by rw [← gc1]; omega
  have g1 : (i : Int) * (n : Int) ≤ ((i : Int) + 1) * (n : Int) := by rw [← gc1, ← gc2]; omega
  have g2 : ((i : Int) + 1) * (n : Int) ≤ (cap : Int) := by rw [← gc2]; omega
  have GC1 := hid gc1; have GC2 := hid gc2; have HL := hid hl
  clear gc1 gc2 hl hlen hc
  go_enter Try.func89, Try.ntmps89
  go_wp2_with (go_at_call 78; refine (addUp_any _ ((rs.drop (i * n)).take n) _ (HR.out.below (by (repeat (first | (with_reducible assumption) | (with_reducible apply below_refl) | (with_reducible apply below_alloc1) | (with_reducible apply below_drewN1) | (with_reducible apply below_drew1)))))).mono ?_; rintro e w' ⟨q, rfl, hq, hb⟩; rw [HLEN.out, HS.out] at hq; have hB : Below w.heap.size w w' := below_trans (by (repeat (first | (with_reducible assumption) | (with_reducible apply below_refl) | (with_reducible apply below_alloc1) | (with_reducible apply below_drewN1) | (with_reducible apply below_drew1)))) hb; clear hb)
  go_ret
  exact ⟨_, rfl, hq, by assumption⟩
theorem diag_no {rs : List Nat} {n i : Nat} (hi : i < n) (h : (ford .f32 (atX rs (i * n + i)) (some 0) == some .eq) = false) : diagB rs n = false := by
  unfold diagB
  rw [List.all_eq_false]
  exact ⟨i, List.mem_range.2 hi, by simpa using h⟩
theorem diag_yes {rs : List Nat} {n : Nat} (h : ∀ i, i < n → (ford .f32 (atX rs (i * n + i)) (some 0) == some .eq) = true) : diagB rs n = true := by
  unfold diagB
  rw [List.all_eq_true]
  intro i hi
  exact h i (List.mem_range.1 hi)
theorem chainB_parts {rs : List Nat} {s : Int} (h : chainB rs s = true) : ∃ n : Nat, s = n ∧ 1 ≤ n ∧ n ≤ 8 ∧ rs.length = n * n ∧ (rs.all fun b => notLessB (ab .f32 b)) = true ∧ diagB rs n = true := by
  unfold chainB at h
  simp only [Bool.and_eq_true, decide_eq_true_eq] at h
  obtain ⟨⟨⟨⟨h1, h2⟩, h3⟩, h4⟩, h5⟩ := h
  refine ⟨s.toNat, by omega, by omega, by omega, ?_, h4, h5⟩
  have e : s = (s.toNat : Int) := by omega
  rw [e] at h3
  rw [← Int.natCast_mul] at h3
  omega
set_option maxRecDepth 100000 in
set_option maxHeartbeats 1600000 in
theorem validChain_any (s : Int) (ao : Option Addr) (cap : Nat) (rs : List Nat) (w : World) (hv : RowAt w (.slice ao rs.length cap) (rs.map (Value.float .f32))) :
    Calls Try.prog 34 #[.agg #[.int .i64 s, .slice ao rs.length cap]] w fun e w' => e = .returned (.bool (chainB rs s)) ∧ Below w.heap.size w w' := by
  have HV := hid hv
  have hcap := row_caps hv
  unfold maxLen at hcap
  clear hv
  by_cases h1 : 1 ≤ s ∧ s ≤ 8
  rotate_left
  · have HM := hid (show chainB rs s = false by
      unfold chainB
      by_cases q : 1 ≤ s
      · rw [decide_eq_false (show ¬ s ≤ 8 by omega)]; simp
      · rw [decide_eq_false q]; simp)
    have G1 := hid (show inB s 1 8 = false by simp [inB]; omega)
    go_enter Try.func34, Try.ntmps34
    go_wp2_with (first | (go_at_call 62; (with_reducible refine (within_any _ _ _ _).mono ?_); rw [G1.out]; rintro e w' ⟨rfl, hb⟩; have hB : Below w.heap.size w w' := below_trans (by (repeat (first | (with_reducible assumption) | (with_reducible apply below_refl) | (with_reducible apply below_alloc1) | (with_reducible apply below_drewN1) | (with_reducible apply below_drew1)))) hb; have hC := (bcell hB).1; clear hb))
    go_ret
    exact ⟨by rw [HM.out]; rfl, by assumption⟩
  obtain ⟨n, rfl⟩ : ∃ n : Nat, s = n := ⟨s.toNat, by omega⟩
  have G1 := hid (show inB (n : Int) 1 8 = true by simp [inB]; omega)
  have hn1 : 1 ≤ n := by omega
  have hn8 : n ≤ 8 := by omega
  have hnn : n * n ≤ 64 := Nat.le_trans (Nat.mul_le_mul hn8 hn8) (by decide)
  have gc : ((n * n : Nat) : Int) = (n : Int) * (n : Int) := Int.natCast_mul _ _
  have W1 : IntKind.i64.wrap ((n : Int) * (n : Int)) = (n : Int) * (n : Int) := by rw [← gc, IntKind.wrap_i64]; omega
  have W2 : IntKind.i64.wrap (rs.length : Int) = (rs.length : Int) := by rw [IntKind.wrap_i64]; omega
  by_cases h2 : rs.length = n * n
  rotate_left
  · have HM := hid (show chainB rs n = false by
      unfold chainB
      rw [decide_eq_false (show ¬ ((rs.length : Int) = (n : Int) * (n : Int)) by rw [← gc]; omega)]; simp)
    have g1 : ((rs.length : Int) != (n : Int) * (n : Int)) = true := by simp; rw [← gc]; omega
    have g2 : ((rs.length : Int) == (n : Int) * (n : Int)) = false := by simp; rw [← gc]; omega
    clear h2 h1 gc
    go_enter Try.func34, Try.ntmps34
    go_wp2_with (first | (go_at_call 62; refine (within_same _ _ _ _).mono ?_; rw [G1.out]; rintro e w' ⟨rfl, rfl⟩))
    go_ret
    exact ⟨by rw [HM.out]; rfl, by (repeat (first | (with_reducible assumption) | (with_reducible apply below_refl) | (with_reducible apply below_alloc1) | (with_reducible apply below_drewN1) | (with_reducible apply below_drew1)))⟩
  have g1 : ((rs.length : Int) != (n : Int) * (n : Int)) = false := by simp; rw [← gc]; omega
  have g2 : ((rs.length : Int) == (n : Int) * (n : Int)) = true := by simp; rw [← gc]; omega
  have HL := hid h2
  cases g3 : rs.all fun b => notLessB (ab .f32 b)
  · have HM := hid (show chainB rs n = false by unfold chainB; rw [g3]; simp)
    have G3 := hid g3
    clear h2 h1 gc g3
    go_enter Try.func34, Try.ntmps34
    go_wp2_with (first
      | (go_at_call 62; refine (within_same _ _ _ _).mono ?_; rw [G1.out]; rintro e w' ⟨rfl, rfl⟩)
      | (go_at_call 86; refine (areNotLess_any _ rs _ (HV.out.below (by (repeat (first | (with_reducible assumption) | (with_reducible apply below_refl) | (with_reducible apply below_alloc1) | (with_reducible apply below_drewN1) | (with_reducible apply below_drew1)))))).mono ?_; rw [G3.out]; rintro e w' ⟨rfl, hb⟩; have hcc := (bcell hb).1; have hB : Below w.heap.size w w' := below_trans (by (repeat (first | (with_reducible assumption) | (with_reducible apply below_refl) | (with_reducible apply below_alloc1) | (with_reducible apply below_drewN1) | (with_reducible apply below_drew1)))) hb; clear hb))
    go_ret
    exact ⟨by rw [HM.out]; rfl, by assumption⟩
  have HM := hid (show chainB rs n = diagB rs n by
    unfold chainB
    rw [g3, decide_eq_true (show (1 : Int) ≤ (n : Int) by omega), decide_eq_true (show (n : Int) ≤ 8 by omega), decide_eq_true (show (rs.length : Int) = (n : Int) * (n : Int) by rw [← gc]; omega)]
    simp)
  have G3 := hid g3
  clear h2 h1 gc g3
  go_enter Try.func34, Try.ntmps34
  go_wp2_with (first
    | (go_at_call 62; refine (within_same _ _ _ _).mono ?_; rw [G1.out]; rintro e w' ⟨rfl, rfl⟩)
    | (go_at_call 86; refine (areNotLess_any _ rs _ (HV.out.below (by (repeat (first | (with_reducible assumption) | (with_reducible apply below_refl) | (with_reducible apply below_alloc1) | (with_reducible apply below_drewN1) | (with_reducible apply below_drew1)))))).mono ?_; rw [G3.out]; rintro e w' ⟨rfl, hb⟩; have hcc := (bcell hb).1; have hB : Below w.heap.size w w' := below_trans (by (repeat (first | (with_reducible assumption) | (with_reducible apply below_refl) | (with_reducible apply below_alloc1) | (with_reducible apply below_drewN1) | (with_reducible apply below_drew1)))) hb; have hz : w.heap.size < w'.heap.size := (by have := hb.size; simp at this; omega); clear hb))
  have k0 : w'.cell? ⟨w.heap.size, 0, none⟩ = some (.int .i64 n) := by rw [hcc _ _ (by simp)]; simp
  have k1 : w'.cell? ⟨w.heap.size, 1, none⟩ = some (.slice ao rs.length cap) := by rw [hcc _ _ (by simp)]; simp
  clear hcc
  have K0 := hid k0; have K1 := hid k1
  clear k0 k1
  go_loopw [27] (fun i wr => ∃ k : Nat, k ≤ n ∧ i = .int .i64 k ∧ Hid (∀ j, j < k → (ford .f32 (atX rs (j * n + j)) (some 0) == some .eq) = true) ∧ Below w'.heap.size w' wr) (fun i _ => n - (intOf i).toNat)
  case atStart => exact ⟨0, Nat.zero_le _, rfl, hid (fun j h => by omega), below_refl _⟩
  case round =>
    obtain ⟨k, hk, rfl, hno, hw⟩ := hrel
    by_cases hlt : k < n
    · have k0 : wr.cell? ⟨w.heap.size, 0, none⟩ = some (.int .i64 n) := by rw [hw.cell (p := ⟨w.heap.size, 0, none⟩) hz]; exact K0.out
      have k1 : wr.cell? ⟨w.heap.size, 1, none⟩ = some (.slice ao rs.length cap) := by rw [hw.cell (p := ⟨w.heap.size, 1, none⟩) hz]; exact K1.out
      have hkI : (k : Int) < (n : Int) := by omega
      have hbw : Below w.heap.size w wr := below_trans hB hw
      by_cases hd : ford .f32 (atX rs (k * n + k)) (some 0) = some Ordering.eq
      rotate_left
      · have HD := hid (diag_no hlt (by simpa using hd))
        have HE := hid hd
        clear hd
        go_wp2_with (first
          | (go_at_call 90; refine (rate_any _ _ rs k k n hn8 hlt hlt HL.out _ (HV.out.below (below_trans hbw (by (repeat (first | (with_reducible assumption) | (with_reducible apply below_refl) | (with_reducible apply below_alloc1) | (with_reducible apply below_drewN1) | (with_reducible apply below_drew1))))))).mono ?_; rintro e w2 ⟨q, rfl, hq, hb⟩; have hd1 : (ford .f32 (ab .f32 q) (some 0) != some Ordering.eq) = true := (by rw [hq]; simpa using HE.out); have hd2 : ford .f32 (ab .f32 q) (some 0) ≠ some Ordering.eq := (by rw [hq]; exact HE.out); clear hq; have hB2 : Below w'.heap.size w' w2 := below_trans hw (below_trans (by (repeat (first | (with_reducible assumption) | (with_reducible apply below_refl) | (with_reducible apply below_alloc1) | (with_reducible apply below_drewN1) | (with_reducible apply below_drew1)))) hb); clear hb))
        go_ret
        exact ⟨by rw [HM.out, HD.out]; rfl, below_trans hB (by (repeat (first | (with_reducible assumption) | (with_reducible apply below_refl) | (with_reducible apply below_alloc1) | (with_reducible apply below_drewN1) | (with_reducible apply below_drew1))))⟩
      · have HD := hid hd
        clear hd
        go_wp2_with (first
          | (go_at_call 90; refine (rate_any _ _ rs k k n hn8 hlt hlt HL.out _ (HV.out.below (below_trans hbw (by (repeat (first | (with_reducible assumption) | (with_reducible apply below_refl) | (with_reducible apply below_alloc1) | (with_reducible apply below_drewN1) | (with_reducible apply below_drew1))))))).mono ?_; rintro e w2 ⟨q, rfl, hq, hb⟩; have hd1 : ford .f32 (ab .f32 q) (some 0) = some Ordering.eq := (by rw [hq]; exact HD.out); clear hq; have hB2 : Below w'.heap.size w' w2 := below_trans hw (below_trans (by (repeat (first | (with_reducible assumption) | (with_reducible apply below_refl) | (with_reducible apply below_alloc1) | (with_reducible apply below_drewN1) | (with_reducible apply below_drew1)))) hb); clear hb))
        go_roundw
        case rel =>
          refine ⟨k + 1, by omega, by go_num, hid fun j hj => ?_, by (repeat (first | (with_reducible assumption) | (with_reducible apply below_refl) | (with_reducible apply below_alloc1) | (with_reducible apply below_drewN1) | (with_reducible apply below_drew1)))⟩
          by_cases hjk : j = k
          · subst hjk
            simpa using HD.out
          · exact hno.out j (by omega)
        case measure => simp [intOf]; omega
    · obtain rfl : k = n := by omega
      have HD := hid (diag_yes hno.out)
      have k0 : wr.cell? ⟨w.heap.size, 0, none⟩ = some (.int .i64 k) := by rw [hw.cell (p := ⟨w.heap.size, 0, none⟩) hz]; exact K0.out
      go_wp2_with fail
      go_ret
      exact ⟨by rw [HM.out, HD.out]; rfl, below_trans hB hw⟩

/-! ## Chain3 -/
/-- A chain behind a pointer. -/
def ChainAt (w : World) (c : Nat) (s : Int) (rs : List Nat) : Prop := ∃ ao cap, w.cell? ⟨c, 0, none⟩ = some (.int .i64 s) ∧ w.cell? ⟨c, 1, none⟩ = some (.slice ao rs.length cap) ∧ RowAt w (.slice ao rs.length cap) (rs.map (Value.float .f32))
theorem ChainAt.below {w w' : World} {c : Nat} {s : Int} {rs : List Nat} (h : ChainAt w c s rs) (hb : Below w.heap.size w w') : ChainAt w' c s rs := by
  obtain ⟨ao, cap, h0, h1, h2⟩ := h
  have hl := World.block_lt_of_cell? w _ h0
  exact ⟨ao, cap, by rw [hb.cell (p := ⟨c, 0, none⟩) hl]; exact h0, by rw [hb.cell (p := ⟨c, 1, none⟩) hl]; exact h1, h2.below hb⟩

/-! ## Chain4 -/
theorem chain_bad1 {rs : List Nat} {s : Int} {i : Nat} (hi : i < rs.length) (h : notLessB (ab .f32 rs[i]) = false) : chainB rs s = false := by
  have : (rs.all fun b => notLessB (ab .f32 b)) = false := by
    rw [List.all_eq_false]
    exact ⟨rs[i], List.getElem_mem hi, by simp [h]⟩
  unfold chainB
  rw [this]
  simp
theorem chain_bad2 {rs : List Nat} {n : Nat} {i : Nat} (hl : rs.length = n * n) (hi : i < rs.length) (hm : i % (n + 1) = 0) (h : (ford .f32 (ab .f32 rs[i]) (some 0) == some .eq) = false) : chainB rs n = false := by
  have e : i = i / (n + 1) * (n + 1) := by
    have := Nat.div_add_mod i (n + 1)
    rw [hm, Nat.add_zero, Nat.mul_comm] at this
    exact this.symm
  have hq : i / (n + 1) < n := by
    rcases Nat.lt_or_ge (i / (n + 1)) n with c | c
    · exact c
    · exfalso
      have : n * (n + 1) ≤ i / (n + 1) * (n + 1) := Nat.mul_le_mul_right _ c
      rw [← e, Nat.mul_add, Nat.mul_one] at this
      omega
  have e2 : i / (n + 1) * n + i / (n + 1) = i := by
    rw [Nat.mul_add, Nat.mul_one] at e
    omega
  have hd : diagB rs n = false := diag_no hq (by rw [e2, atX_get hi]; exact h)
  unfold chainB
  rw [Int.toNat_natCast, hd]
  simp
theorem chain_good {rs : List Nat} {n : Nat} (h1 : 1 ≤ n) (h8 : n ≤ 8) (hl : rs.length = n * n) (h : ∀ i (hi : i < rs.length), notLessB (ab .f32 rs[i]) = true ∧ (i % (n + 1) = 0 → ford .f32 (ab .f32 rs[i]) (some 0) = some .eq)) : chainB rs n = true := by
  unfold chainB
  rw [decide_eq_true (show (1 : Int) ≤ (n : Int) by omega), decide_eq_true (show (n : Int) ≤ 8 by omega), decide_eq_true (show (rs.length : Int) = (n : Int) * (n : Int) by rw [hl, Int.natCast_mul])]
  have a1 : (rs.all fun b => notLessB (ab .f32 b)) = true := by
    rw [List.all_eq_true]
    intro x hx
    obtain ⟨i, hi, rfl⟩ := List.getElem_of_mem hx
    exact (h i hi).1
  rw [a1, Int.toNat_natCast, diag_yes]
  · rfl
  · intro i hi
    have hb : i * n + i < rs.length := by
      rw [hl]
      have : (i + 1) * n ≤ n * n := Nat.mul_le_mul_right n hi
      have h2 : (i + 1) * n = i * n + n := by rw [Nat.add_mul, Nat.one_mul]
      omega
    rw [atX_get hb, (h _ hb).2 (by rw [show i * n + i = i * (n + 1) by rw [Nat.mul_add, Nat.mul_one]]; exact Nat.mul_mod_left _ _)]
    rfl
theorem drew_same0 {P : Program} {f : FuncId} {args : Array Value} {w : World} {r : Bool} (h : Calls P f args w fun e w' => e = .returned (.bool r) ∧ w' = w) :
    Calls P f args w fun e w' => e = .returned (.bool r) ∧ ∃ m, w' = w.drewN m := h.mono fun e w' ⟨h1, h2⟩ => ⟨h1, 0, h2⟩
end Go.Proofs.Ytkaeohlakeliiaa
