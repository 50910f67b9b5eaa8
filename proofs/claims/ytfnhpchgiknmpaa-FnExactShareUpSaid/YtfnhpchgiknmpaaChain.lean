/- Chains: copies, sizes, comparisons, rates. -/
import Derived.Test.YtfnhpchgiknmpaaUnit2
import Derived.Test.YtfnhpchgiknmpaaBal
namespace Go.Proofs.Ytfnhpchgiknmpaa
open Go.RowKit

set_option maxRecDepth 100000 in
set_option maxHeartbeats 400000 in
theorem toChain_any (s : Int) (ao : Option Addr) (n cap : Nat) (xs : List Nat) (w : World) (hv : RowAt w (.slice ao n cap) (xs.map (Value.float .f32))) (hn : xs.length ≤ 1048576) :
    Calls Try.prog 17 #[.agg #[.int .i64 s, .slice ao n cap]] w fun e w' => ∃ c, e = .returned (.agg #[.int .i64 s, c]) ∧ w'.ownsRow w.heap.size 44 1 c (xs.map (Value.float .f32)).length (xs.map (Value.float .f32)) ∧ Below w.heap.size w w' := by
  have HV := hid hv; clear hv
  go_enter Try.func17, Try.ntmps17
  go_wp2_with (first
    | (go_at_call 30; refine (toFloat32S_any _ xs _ (HV.out.below (by (repeat (first | (with_reducible assumption) | (with_reducible apply below_refl) | (with_reducible apply below_alloc1) | (with_reducible apply below_drewN1) | (with_reducible apply below_drew1))))) hn).mono ?_; rintro e w' ⟨c, rfl, hc, hb⟩; obtain ⟨ua, uc, _, _, hue, _⟩ := (Own.mk' hc).row; rw [List.length_map] at hue; subst hue; have hcc := (bcell hb).1; have hcf := (bcell hb).2))
  refine bodyPost_ret (v := .agg #[.int .i64 s, .slice ua xs.length uc]) (by simp [results, Try.results17, go_sem, hcc, hcf]) rfl ?_
  have hs : w.heap.size + 3 ≤ w'.heap.size := by
    have := hb.size
    simp at this
    omega
  refine ⟨_, rfl, ?_, ?_⟩
  · refine ownsRow_low (lo := w.heap.size + 3) ?_ (by omega)
    refine ownsRow_setBelow (ownsRow_setBelow (ownsRow_setBelow ?_ ?_) ?_) ?_
    · simpa using hc
    all_goals
      show _ < _
      simp
  · refine below_setCell1 (below_setCell1 (below_setCell1 (below_trans (by (repeat (first | (with_reducible assumption) | (with_reducible apply below_refl) | (with_reducible apply below_alloc1) | (with_reducible apply below_drewN1) | (with_reducible apply below_drew1)))) hb) ?_) ?_) ?_ <;> (show _ ≤ _) <;> simp <;> omega
set_option maxHeartbeats 400000 in
theorem szChain_any (s : Int) (ao : Option Addr) (n cap : Nat) (left : Int) (hl : 0 ≤ left ∧ left ≤ 1048576) (hn : n ≤ cap ∧ cap ≤ maxLen) (w : World) :
    Calls Try.prog 15 #[.agg #[.int .i64 s, .slice ao n cap], .int .i64 left] w fun e w' => e = .returned (.int .i64 (if left - n < 0 then -1 else left - n)) ∧ Below w.heap.size w w' := by
  by_cases h : left - (n : Int) < 0
  all_goals
    go_enter Try.func15, Try.ntmps15
    go_wp2_with (first
      | (go_at_call 46; refine (szFloat32S_any _ _ _ _ hl hn _).mono ?_; (first | rw [if_pos h] | rw [if_neg h]); rintro e w' ⟨rfl, hb⟩; have hB : Below w.heap.size w w' := below_trans (by (repeat (first | (with_reducible assumption) | (with_reducible apply below_refl) | (with_reducible apply below_alloc1) | (with_reducible apply below_drewN1) | (with_reducible apply below_drew1)))) hb; clear hb))
    go_ret
    exact ⟨by simp [h], by assumption⟩
set_option maxRecDepth 100000 in
set_option maxHeartbeats 800000 in
theorem eqChain_yes (s : Int) (sa sb : Option Addr) (n m sc sd : Nat) (cs : List Nat) (w : World) (ha : RowAt w (.slice sa n sc) (cs.map (Value.float .f32))) (hb : RowAt w (.slice sb m sd) (cs.map (Value.float .f32))) :
    Calls Try.prog 20 #[.agg #[.int .i64 s, .slice sa n sc], .agg #[.int .i64 s, .slice sb m sd]] w fun e w' => e = .returned (.bool true) ∧ Below w.heap.size w w' := by
  have HV := hid ha; have HU := hid hb; clear ha hb
  go_enter Try.func20, Try.ntmps20
  go_wp2_with (first
    | (go_at_call 19; (with_reducible refine (eqFloat32S_yes _ _ cs cs _ (HV.out.below (by (repeat (first | (with_reducible assumption) | (with_reducible apply below_refl) | (with_reducible apply below_alloc1) | (with_reducible apply below_drewN1) | (with_reducible apply below_drew1))))) (HU.out.below (by (repeat (first | (with_reducible assumption) | (with_reducible apply below_refl) | (with_reducible apply below_alloc1) | (with_reducible apply below_drewN1) | (with_reducible apply below_drew1))))) rfl).mono ?_); rintro e w' ⟨rfl, hb⟩; have hB : Below w.heap.size w w' := below_trans (by (repeat (first | (with_reducible assumption) | (with_reducible apply below_refl) | (with_reducible apply below_alloc1) | (with_reducible apply below_drewN1) | (with_reducible apply below_drew1)))) hb; have hC := (bcell hB).1; clear hb))
  go_ret
  exact ⟨rfl, by assumption⟩
theorem grown_after {w w1 w2 : World} {r : Option Nat} (hb : Below w.heap.size w w1) (hg : w1.grownBy w2 r) : w.grownBy w2 r :=
  ⟨hg.os.trans hb.os, hg.tape.trans hb.tape, hg.output.trans hb.output, Nat.le_trans hb.size hg.size, fun k hk hne => by
    rw [hg.block k (Nat.lt_of_lt_of_le hk hb.size) hne]; exact hb.block k hk⟩
theorem grown_next {w w1 w2 : World} {r : Option Nat} (hg : w.grownBy w1 r) (hb : Below w1.heap.size w1 w2) : w.grownBy w2 r :=
  ⟨hb.os.trans hg.os, hb.tape.trans hg.tape, hb.output.trans hg.output, Nat.le_trans hg.size hb.size, fun k hk hne => by
    rw [hb.block k (Nat.lt_of_lt_of_le hk hg.size)]; exact hg.block k hk hne⟩
set_option maxHeartbeats 800000 in
theorem markChain_any (lo : Nat) (s : Int) (sa : Option Addr) (n cap : Nat) (xs : List Value) (k : Int) (w : World) (hv : w.ownsRow lo 44 1 (.slice sa n cap) xs.length xs) (hn : xs.length ≤ 2097152) (hk : 0 ≤ k ∧ k ≤ 1000000000) :
    Calls Try.prog 21 #[.agg #[.int .i64 s, .slice sa n cap], .int .i64 k] w fun e w' => e = .returned (.int .i64 (k + xs.length)) ∧ w.grownBy w' (Value.slice sa n cap).ownBlock := by
  have HV := hid hv; clear hv
  go_enter Try.func21, Try.ntmps21
  go_wp2_with (go_at_call 22; refine (markFloat32S_any _ lo xs k _ (ownsRow_below HV.out (by (repeat (first | (with_reducible assumption) | (with_reducible apply below_refl) | (with_reducible apply below_alloc1) | (with_reducible apply below_drewN1) | (with_reducible apply below_drew1))))) hn hk).mono ?_; rintro e w' ⟨rfl, ho, hg⟩; have hG : w.grownBy w' (Value.slice sa n cap).ownBlock := grown_after (by (repeat (first | (with_reducible assumption) | (with_reducible apply below_refl) | (with_reducible apply below_alloc1) | (with_reducible apply below_drewN1) | (with_reducible apply below_drew1)))) hg; clear hg)
  go_ret
  exact ⟨rfl, by assumption⟩
set_option maxRecDepth 100000 in
set_option maxHeartbeats 400000 in
theorem rate_any (ao : Option Addr) (cap : Nat) (rs : List Nat) (i j n : Nat) (hn : n ≤ 8) (hi : i < n) (hj : j < n) (hl : rs.length = n * n) (w : World) (hv : RowAt w (.slice ao rs.length cap) (rs.map (Value.float .f32))) :
    Calls Try.prog 51 #[.agg #[.int .i64 n, .slice ao rs.length cap], .int .i64 i, .int .i64 j] w (FltOk (atX rs (i * n + j)) w) := by
  obtain ⟨ao, cap, b, off, he, hao, hl2, hm, hc⟩ := hv
  simp only [List.length_map] at he hao hl2
  cases he
  unfold maxLen at hm
  have hlt : i * n + j < rs.length := by
    rw [hl]
    have : (i + 1) * n ≤ n * n := Nat.mul_le_mul_right n hi
    have h2 : (i + 1) * n = i * n + n := by rw [Nat.add_mul, Nat.one_mul]
    omega
  have hin : i * n < 64 := by
    have : i * n ≤ 7 * 8 := Nat.mul_le_mul (by omega) hn
    omega
  obtain rfl := hao (by omega)
  have hcell : w.cell? ⟨b, off + (i * n + j), none⟩ = some (.float .f32 (rs.getD (i * n + j) 0)) := by
    rw [getD_at rs (i * n + j) hlt]
    exact hc _ _ (by simp [hlt])
  have gc : ((i * n + j : Nat) : Int) = (i : Int) * (n : Int) + (j : Int) := by rw [Int.natCast_add, Int.natCast_mul]
  have gc1 : ((i * n : Nat) : Int) = (i : Int) * (n : Int) := Int.natCast_mul _ _
  have W1 : IntKind.i64.wrap ((i : Int) * (n : Int)) = (i : Int) * (n : Int) := by rw [← gc1, IntKind.wrap_i64]; omega
  have W2 : IntKind.i64.wrap ((i : Int) * (n : Int) + (j : Int)) = (i : Int) * (n : Int) + (j : Int) := by rw [← gc, IntKind.wrap_i64]; omega
  have g0 : (0 : Int) ≤ (i : Int) * (n : Int) + (j : Int) := by rw [← gc]; omega
  have g1 : (i : Int) * (n : Int) + (j : Int) < (rs.length : Int) := by rw [← gc]; omega
  have hbl : b < w.heap.size := World.block_lt_of_cell? w _ hcell
  have GC := hid gc; have HL := hid hl
  have HQ := hid (show ab .f32 (rs.getD (i * n + j) 0) = atX rs (i * n + j) from rfl)
  generalize rs.getD (i * n + j) 0 = q at hcell HQ
  clear gc gc1 hl
  clear hc
  go_enter Try.func51, Try.ntmps51
  go_wp2_with fail
  go_ret
  exact ⟨q, rfl, HQ.out, by (repeat (first | (with_reducible assumption) | (with_reducible apply below_refl) | (with_reducible apply below_alloc1) | (with_reducible apply below_drewN1) | (with_reducible apply below_drew1)))⟩
end Go.Proofs.Ytfnhpchgiknmpaa
