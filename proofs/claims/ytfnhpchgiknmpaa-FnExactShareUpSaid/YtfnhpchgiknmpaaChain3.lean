/- Chains: validity, sums of rates; the specification's. -/
import Derived.Test.YtfnhpchgiknmpaaChain2
import Derived.Test.YtfnhpchgiknmpaaQuiet
import Derived.Test.YtfnhpchgiknmpaaFres
namespace Go.Proofs.Ytfnhpchgiknmpaa
open Go.RowKit

/-- A chain behind a pointer. -/
def ChainAt (w : World) (c : Nat) (s : Int) (rs : List Nat) : Prop := ∃ ao cap, w.cell? ⟨c, 0, none⟩ = some (.int .i64 s) ∧ w.cell? ⟨c, 1, none⟩ = some (.slice ao rs.length cap) ∧ RowAt w (.slice ao rs.length cap) (rs.map (Value.float .f32))
theorem ChainAt.below {w w' : World} {c : Nat} {s : Int} {rs : List Nat} (h : ChainAt w c s rs) (hb : Below w.heap.size w w') : ChainAt w' c s rs := by
  obtain ⟨ao, cap, h0, h1, h2⟩ := h
  have hl := World.block_lt_of_cell? w _ h0
  exact ⟨ao, cap, by rw [hb.cell (p := ⟨c, 0, none⟩) hl]; exact h0, by rw [hb.cell (p := ⟨c, 1, none⟩) hl]; exact h1, h2.below hb⟩
set_option maxRecDepth 100000 in
set_option maxHeartbeats 800000 in
theorem l04Out_any (c k n : Nat) (rs : List Nat) (hn : n ≤ 8) (hk : k < n) (hl : rs.length = n * n) (w : World) (hv : ChainAt w c n rs) :
    Calls Try.prog 75 #[.pointer (some ⟨c, 0, none⟩), .int .i64 k] w (FltOk (leaveS rs n k n) w) := by
  obtain ⟨ao, cap, h0, h1, hrow⟩ := hv
  have hcl := World.block_lt_of_cell? w _ h0
  obtain ⟨ao, cap, b, off, he, hao, hl2, hm, hc⟩ := hrow
  simp only [List.length_map] at he hao hl2
  cases he
  unfold maxLen at hm
  have hkn : k * n + n ≤ rs.length := by
    rw [hl]
    have : (k + 1) * n ≤ n * n := Nat.mul_le_mul_right n hk
    have h2 : (k + 1) * n = k * n + n := by rw [Nat.add_mul, Nat.one_mul]
    omega
  have hin : k * n < 64 := by
    have : k * n ≤ 7 * 8 := Nat.mul_le_mul (by omega) hn
    omega
  obtain rfl := hao (by omega)
  have H0 := hid h0; have H1 := hid h1; have HC := hid hc; have HL := hid hl
  clear h1 hc hao hl
  have gc1 : ((k * n : Nat) : Int) = (k : Int) * (n : Int) := Int.natCast_mul _ _
  have W1 : IntKind.i64.wrap ((k : Int) * (n : Int)) = (k : Int) * (n : Int) := by rw [← gc1, IntKind.wrap_i64]; omega
  have GC1 := hid gc1; clear gc1
  go_enter Try.func75, Try.ntmps75
  go_wp2_with fail
  clear h0
  go_loopw [5, 6] (fun x i wr => ∃ (m q : Nat), m ≤ n ∧ i = .int .i64 m ∧ x = .float .f32 q ∧ ab .f32 q = leaveS rs n k m ∧ Below w.heap.size w wr) (fun _ i _ => n - (intOf i).toNat)
  case atStart => exact ⟨0, 0, Nat.zero_le _, rfl, rfl, ab_z32, by (repeat (first | (with_reducible assumption) | (with_reducible apply below_refl) | (with_reducible apply below_alloc1) | (with_reducible apply below_drewN1) | (with_reducible apply below_drew1)))⟩
  case round =>
    obtain ⟨m, q, hm2, rfl, rfl, hq, hw⟩ := hrel
    have k0 : wr.cell? ⟨c, 0, none⟩ = some (.int .i64 n) := by rw [hw.cell (p := ⟨c, 0, none⟩) hcl]; exact H0.out
    have k1 : wr.cell? ⟨c, 1, none⟩ = some (.slice (some ⟨b, off, none⟩) rs.length cap) := by rw [hw.cell (p := ⟨c, 1, none⟩) hcl]; exact H1.out
    by_cases hlt : m < n
    · have hix : k * n + m < rs.length := by omega
      have hcell := rowc HC.out hw (k * n + m) hix
      have hnx : leaveS rs n k (m + 1) = fop .add .f32 (leaveS rs n k m) (ab .f32 (rs[k * n + m])) := by
        show fop .add .f32 (leaveS rs n k m) (atX rs (k * n + m)) = _
        rw [atX_get hix]
      rw [← hq] at hnx
      have HN := hid hnx
      have gc2 : ((k * n + m : Nat) : Int) = (k : Int) * (n : Int) + (m : Int) := by rw [Int.natCast_add, GC1.out]
      have W2 : IntKind.i64.wrap ((k : Int) * (n : Int) + (m : Int)) = (k : Int) * (n : Int) + (m : Int) := by rw [← gc2, IntKind.wrap_i64]; omega
      have g0 : (0 : Int) ≤ (k : Int) * (n : Int) + (m : Int) := by rw [← gc2]; omega
      have g1 : (k : Int) * (n : Int) + (m : Int) < (rs.length : Int) := by rw [← gc2]; omega
      have i1 : ((k : Int) * (n : Int) + (m : Int)).toNat = k * n + m := by rw [← gc2]; exact Int.toNat_natCast _
      have hmI : (m : Int) < (n : Int) := by omega
      clear hnx hq gc2
      generalize rs[k * n + m] = y at hcell HN
      obtain ⟨fe1, fe2, fe3, fe4⟩ := run_fres4 Try.prog
      obtain ⟨fa1, fa2, fa3, fa4⟩ := ab_fres4
      have hbl : b < wr.heap.size := World.block_lt_of_cell? wr _ hcell
      have hcl2 : c < wr.heap.size := World.block_lt_of_cell? wr _ k0
      go_wp2_with (first
        | (go_region_held (fun w' => Below wr.heap.size wr w' ∧ ∀ b o, b < wr.heap.size → w'.cell? ⟨b, o, none⟩ = wr.cell? ⟨b, o, none⟩) (first | exact keep_next ‹_› ‹_› | exact keep_start | exact keep_drew ‹_› | exact keep_of (by (repeat (first | (with_reducible assumption) | (with_reducible apply below_refl) | (with_reducible apply below_alloc1) | (with_reducible apply below_drewN1) | (with_reducible apply below_drew1))))) (fail) <;> (rename_i hHeld; obtain ⟨hB, hC⟩ := hHeld)))
      all_goals
        go_roundw
        case rel => exact ⟨m + 1, _, by omega, by go_num, rfl, by rw [HN.out]; simp only [fa1], below_trans hw (by (repeat (first | (with_reducible assumption) | (with_reducible apply below_refl) | (with_reducible apply below_alloc1) | (with_reducible apply below_drewN1) | (with_reducible apply below_drew1))))⟩
        case measure => simp [intOf]; omega
    · obtain rfl : m = n := by omega
      go_wp2_with fail
      go_ret
      exact ⟨_, rfl, hq, by (repeat (first | (with_reducible assumption) | (with_reducible apply below_refl) | (with_reducible apply below_alloc1) | (with_reducible apply below_drewN1) | (with_reducible apply below_drew1)))⟩
end Go.Proofs.Ytfnhpchgiknmpaa
