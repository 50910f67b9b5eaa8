/- Lists that are the same. -/
import Derived.Test.YtfnhpchgiknmpaaSame2
import Derived.Test.YtfnhpchgiknmpaaSeq
import Derived.Test.YtfnhpchgiknmpaaRow
namespace Go.Proofs.Ytfnhpchgiknmpaa
open Go.RowKit

def sameL (xs ys : List Nat) : Bool := decide (xs.map (ab .f32) = ys.map (ab .f32))
theorem sameL_len {xs ys : List Nat} (h : xs.length ≠ ys.length) : sameL xs ys = false := by
  unfold sameL
  rw [decide_eq_false]
  intro e
  have := congrArg List.length e
  simp at this
  exact h this
theorem sameL_no {xs ys : List Nat} (k : Nat) (hx : k < xs.length) (hy : k < ys.length) (h : sameB (ab .f32 xs[k]) (ab .f32 ys[k]) = false) : sameL xs ys = false := by
  unfold sameL
  rw [decide_eq_false]
  intro e
  have := congrArg (·[k]?) e
  simp [hx, hy] at this
  simp [sameB, this] at h
theorem sameL_yes {xs ys : List Nat} (hl : xs.length = ys.length) (h : ∀ k (hx : k < xs.length) (hy : k < ys.length), sameB (ab .f32 xs[k]) (ab .f32 ys[k]) = true) : sameL xs ys = true := by
  unfold sameL
  rw [decide_eq_true]
  apply List.ext_getElem?
  intro k
  by_cases hk : k < xs.length
  · have := h k hk (by omega)
    simp [sameB] at this
    simp [hk, show k < ys.length by omega, this]
  · simp [hk, show ¬ k < ys.length by omega]

set_option maxRecDepth 100000 in
set_option maxHeartbeats 800000 in
theorem l01SameAll_any (va vb : Value) (xs ys : List Nat) (w : World) (ha : RowAt w va (xs.map (Value.float .f32))) (hb : RowAt w vb (ys.map (Value.float .f32))) (wx : ∀ b ∈ xs, b < 4294967296) (wy : ∀ b ∈ ys, b < 4294967296) :
    Calls Try.prog 41 #[va, vb] w fun e w' => e = .returned (.bool (sameL xs ys)) ∧ Below w.heap.size w w' := by
  obtain ⟨ao, cap, b, off, rfl, hao, hl, hm, hc⟩ := ha
  obtain ⟨ao', cap', b', off', rfl, hao', hl', hm', hc'⟩ := hb
  simp only [List.length_map] at hao hl hao' hl' ⊢
  unfold maxLen at hm hm'
  have HC := hid hc; have HA := hid hao; have HC' := hid hc'; have HA' := hid hao'
  have WX := hid wx; have WY := hid wy
  clear hc hao hc' hao' wx wy
  by_cases hlen : xs.length = ys.length
  rotate_left
  · have HM := hid (sameL_len hlen)
    have g1 : ((xs.length : Int) != (ys.length : Int)) = true := by simp; omega
    have g2 : ((xs.length : Int) == (ys.length : Int)) = false := by simp; omega
    clear hlen
    go_enter Try.func41, Try.ntmps41
    go_wp2_with fail
    go_ret
    exact ⟨by rw [HM.out]; rfl, by (repeat (first | (with_reducible assumption) | (with_reducible apply below_refl) | (with_reducible apply below_alloc1) | (with_reducible apply below_drewN1) | (with_reducible apply below_drew1)))⟩
  have g1 : ((xs.length : Int) != (ys.length : Int)) = false := by simp; omega
  have g2 : ((xs.length : Int) == (ys.length : Int)) = true := by simp; omega
  have HL := hid hlen; clear hlen
  go_enter Try.func41, Try.ntmps41
  go_wp2_with fail
  go_loopw [5] (fun i wr => ∃ k : Nat, k ≤ xs.length ∧ i = .int .i64 k ∧ Hid (∀ j (hx : j < xs.length) (hy : j < ys.length), j < k → sameB (ab .f32 xs[j]) (ab .f32 ys[j]) = true) ∧ Below w.heap.size w wr) (fun i _ => xs.length - (intOf i).toNat)
  case atStart => exact ⟨0, Nat.zero_le _, rfl, hid (fun j _ _ h => by omega), below_refl _⟩
  case round =>
    obtain ⟨k, hk, rfl, hno, hw⟩ := hrel
    by_cases hlt : k < xs.length
    · obtain rfl := HA.out (by omega)
      have hlt' : k < ys.length := by rw [← HL.out]; exact hlt
      obtain rfl := HA'.out (by omega)
      have hcell := rowc HC.out hw k hlt
      have hcell' := rowc HC'.out hw k hlt'
      have bx := WX.out _ (List.getElem_mem hlt)
      have by' := WY.out _ (List.getElem_mem hlt')
      have HNO := hid (sameL_no (xs := xs) (ys := ys) k hlt hlt')
      have HX : Hid (∃ x, x = xs[k]) := hid ⟨_, rfl⟩
      generalize hx : xs[k] = x at hcell bx HNO
      generalize hy : ys[k] = y at hcell' by' HNO
      have EX := hid hx; have EY := hid hy
      clear hx hy HX
      have lb : b < wr.heap.size := World.block_lt_of_cell? wr _ hcell
      have lb' : b' < wr.heap.size := World.block_lt_of_cell? wr _ hcell'
      have q0 : (0 : Int) ≤ (k : Int) := by omega
      have q1 : (k : Int) < (xs.length : Int) := by omega
      have q2 : (k : Int) < (ys.length : Int) := by omega
      cases hs : sameB (ab .f32 x) (ab .f32 y)
      all_goals
        have HS := hid hs; clear hs
        go_wp2_with (first
          | (go_region_held (fun w' => Below wr.heap.size wr w' ∧ ∀ b o, b < wr.heap.size → w'.cell? ⟨b, o, none⟩ = wr.cell? ⟨b, o, none⟩) (first | exact keep_next ‹_› ‹_› | exact keep_start | exact keep_drew ‹_› | exact keep_of (by (repeat (first | (with_reducible assumption) | (with_reducible apply below_refl) | (with_reducible apply below_alloc1) | (with_reducible apply below_drewN1) | (with_reducible apply below_drew1))))) (first | (go_at_call 40; refine (l01Same_any x y bx by' _).mono ?_; rw [HS.out]; rintro e w' ⟨rfl, hb⟩)) <;> (rename_i hHeld; obtain ⟨hB, hC⟩ := hHeld)))
      · go_ret
        exact ⟨by rw [HNO.out HS.out]; rfl, below_trans hw (by (repeat (first | (with_reducible assumption) | (with_reducible apply below_refl) | (with_reducible apply below_alloc1) | (with_reducible apply below_drewN1) | (with_reducible apply below_drew1))))⟩
      · go_roundw
        case rel =>
          refine ⟨k + 1, by omega, by go_num, hid fun j hx hy hj => ?_, below_trans hw (by (repeat (first | (with_reducible assumption) | (with_reducible apply below_refl) | (with_reducible apply below_alloc1) | (with_reducible apply below_drewN1) | (with_reducible apply below_drew1))))⟩
          by_cases hjk : j = k
          · subst hjk
            rw [EX.out, EY.out]; exact HS.out
          · exact hno.out j hx hy (by omega)
        case measure => simp [intOf]; omega
    · obtain rfl : k = xs.length := by omega
      have HM := hid (sameL_yes HL.out (fun j hx hy => hno.out j hx hy hx))
      go_wp2_with fail
      go_ret
      exact ⟨by rw [HM.out]; rfl, hw⟩
set_option maxRecDepth 100000 in
set_option maxHeartbeats 800000 in
theorem equalFuncF (va vb : Value) (xs ys : List Nat) (w : World) (ha : RowAt w va (xs.map (Value.float .f32))) (hb : RowAt w vb (ys.map (Value.float .f32))) (wx : ∀ b ∈ xs, b < 4294967296) (wy : ∀ b ∈ ys, b < 4294967296) :
    Calls Try.prog 45 #[va, vb, .func (.func 44) #[] #[]] w fun e w' => e = .returned (.bool (sameL xs ys)) ∧ Below w.heap.size w w' := by
  obtain ⟨ao, cap, b, off, rfl, hao, hl, hm, hc⟩ := ha
  obtain ⟨ao', cap', b', off', rfl, hao', hl', hm', hc'⟩ := hb
  simp only [List.length_map] at hao hl hao' hl' ⊢
  unfold maxLen at hm hm'
  have HC := hid hc; have HA := hid hao; have HC' := hid hc'; have HA' := hid hao'
  have WX := hid wx; have WY := hid wy
  clear hc hao hc' hao' wx wy
  by_cases hlen : xs.length = ys.length
  rotate_left
  · have HM := hid (sameL_len hlen)
    have g1 : ((xs.length : Int) != (ys.length : Int)) = true := by simp; omega
    have g2 : ((xs.length : Int) == (ys.length : Int)) = false := by simp; omega
    clear hlen
    go_enter Try.func45, Try.ntmps45
    go_wp2_with fail
    go_ret
    exact ⟨by rw [HM.out]; rfl, by (repeat (first | (with_reducible assumption) | (with_reducible apply below_refl) | (with_reducible apply below_alloc1) | (with_reducible apply below_drewN1) | (with_reducible apply below_drew1)))⟩
  have g1 : ((xs.length : Int) != (ys.length : Int)) = false := by simp; omega
  have g2 : ((xs.length : Int) == (ys.length : Int)) = true := by simp; omega
  have HL := hid hlen; clear hlen
  go_enter Try.func45, Try.ntmps45
  go_wp2_with fail
  go_loopw [17] (fun i wr => ∃ k : Nat, k ≤ xs.length ∧ i = .int .i64 k ∧ Hid (∀ j (hx : j < xs.length) (hy : j < ys.length), j < k → sameB (ab .f32 xs[j]) (ab .f32 ys[j]) = true) ∧ Below w.heap.size w wr) (fun i _ => xs.length - (intOf i).toNat)
  case atStart => exact ⟨0, Nat.zero_le _, rfl, hid (fun j _ _ h => by omega), below_refl _⟩
  case round =>
    obtain ⟨k, hk, rfl, hno, hw⟩ := hrel
    by_cases hlt : k < xs.length
    · obtain rfl := HA.out (by omega)
      have hlt' : k < ys.length := by rw [← HL.out]; exact hlt
      obtain rfl := HA'.out (by omega)
      have hcell := rowc HC.out hw k hlt
      have hcell' := rowc HC'.out hw k hlt'
      have bx := WX.out _ (List.getElem_mem hlt)
      have by' := WY.out _ (List.getElem_mem hlt')
      have HNO := hid (sameL_no (xs := xs) (ys := ys) k hlt hlt')
      have HX : Hid (∃ x, x = xs[k]) := hid ⟨_, rfl⟩
      generalize hx : xs[k] = x at hcell bx HNO
      generalize hy : ys[k] = y at hcell' by' HNO
      have EX := hid hx; have EY := hid hy
      clear hx hy HX
      have lb : b < wr.heap.size := World.block_lt_of_cell? wr _ hcell
      have lb' : b' < wr.heap.size := World.block_lt_of_cell? wr _ hcell'
      have q0 : (0 : Int) ≤ (k : Int) := by omega
      have q1 : (k : Int) < (xs.length : Int) := by omega
      have q2 : (k : Int) < (ys.length : Int) := by omega
      cases hs : sameB (ab .f32 x) (ab .f32 y)
      all_goals
        have HS := hid hs; clear hs
        go_wp2_with (first
          | (go_at_call 44; refine (sameNumber_any x y bx by' _).mono ?_; rw [HS.out]; rintro e w' ⟨rfl, hb⟩; have hB : Below wr.heap.size wr w' := below_trans (by (repeat (first | (with_reducible assumption) | (with_reducible apply below_refl) | (with_reducible apply below_alloc1) | (with_reducible apply below_drewN1) | (with_reducible apply below_drew1)))) hb; clear hb))
      · go_ret
        exact ⟨by rw [HNO.out HS.out]; rfl, below_trans hw (by (repeat (first | (with_reducible assumption) | (with_reducible apply below_refl) | (with_reducible apply below_alloc1) | (with_reducible apply below_drewN1) | (with_reducible apply below_drew1))))⟩
      · go_roundw
        case rel =>
          refine ⟨k + 1, by omega, by go_num, hid fun j hx hy hj => ?_, below_trans hw (by (repeat (first | (with_reducible assumption) | (with_reducible apply below_refl) | (with_reducible apply below_alloc1) | (with_reducible apply below_drewN1) | (with_reducible apply below_drew1))))⟩
          by_cases hjk : j = k
          · subst hjk
            rw [EX.out, EY.out]; exact HS.out
          · exact hno.out j hx hy (by omega)
        case measure => simp [intOf]; omega
    · obtain rfl : k = xs.length := by omega
      have HM := hid (sameL_yes HL.out (fun j hx hy => hno.out j hx hy hx))
      go_wp2_with fail
      go_ret
      exact ⟨by rw [HM.out]; rfl, hw⟩
end Go.Proofs.Ytfnhpchgiknmpaa
