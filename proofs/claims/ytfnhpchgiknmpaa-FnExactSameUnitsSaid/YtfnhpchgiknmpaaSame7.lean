/- Numbers, lists that are the same: contracts that only draw. -/
import Derived.Test.YtfnhpchgiknmpaaSame3
import Derived.Test.YtfnhpchgiknmpaaQuiet
namespace Go.Proofs.Ytfnhpchgiknmpaa
open Go.RowKit

theorem drew_of_same {P : Program} {f : FuncId} {args : Array Value} {w : World} {r : Bool} (h : Calls P f args w fun e w' => e = .returned (.bool r) ∧ w' = w) :
    Calls P f args w fun e w' => e = .returned (.bool r) ∧ ∃ m, w' = w.drewN m := h.mono fun e w' ⟨h1, h2⟩ => ⟨h1, 0, h2⟩
set_option maxRecDepth 100000 in
set_option maxHeartbeats 400000 in
theorem l01Bits_q (x : Nat) (hx : x < 4294967296) (w : World) :
    Calls Try.prog 72 #[.float .f32 x] w fun e w' => e = .returned (.int .i64 (bitsX (ab .f32 x))) ∧ w' = w := by
  have W1 : IntKind.i64.wrap (x : Int) = (x : Int) := by rw [IntKind.wrap_i64]; omega
  cases h : ab .f32 x with
  | none =>
    have h1 : ford .f32 (ab .f32 x) (ab .f32 x) = none := by rw [h]; rfl
    have HX := hid h; clear h
    go_enter Try.func72, Try.ntmps72
    go_wp2_with fail
    go_ret
    exact ⟨rfl, rfl⟩
  | some c =>
    have h1 : ford .f32 (ab .f32 x) (ab .f32 x) = some .eq := by rw [h]; exact ford_self ((ab_some h).1 ▸ h)
    have hc : bitsX (some c) = (x : Int) := by rw [(ab_some h).1]; rfl
    have HX := hid h; have HC := hid hc; clear h hc
    go_enter Try.func72, Try.ntmps72
    go_wp2_with fail
    go_ret
    exact ⟨by rw [HC.out]; rfl, rfl⟩
set_option maxRecDepth 100000 in
set_option maxHeartbeats 400000 in
theorem l01Same_q (x y : Nat) (hx : x < 4294967296) (hy : y < 4294967296) (w : World) :
    Calls Try.prog 40 #[.float .f32 x, .float .f32 y] w fun e w' => e = .returned (.bool (sameB (ab .f32 x) (ab .f32 y))) ∧ w' = w := by
  have HS := hid (bits_same x y)
  go_enter Try.func40, Try.ntmps40
  go_wp2_with (first
    | (go_at_call 72; with_reducible refine (l01Bits_q x hx _).mono ?_; rintro e w' ⟨rfl, rfl⟩)
    | (go_at_call 72; with_reducible refine (l01Bits_q y hy _).mono ?_; rintro e w' ⟨rfl, rfl⟩))
  go_ret
  exact ⟨by rw [← HS.out]; rfl, rfl⟩
set_option maxRecDepth 100000 in
set_option maxHeartbeats 800000 in
theorem l01SameAll_q (va vb : Value) (xs ys : List Nat) (w : World) (ha : RowAt w va (xs.map (Value.float .f32))) (hb : RowAt w vb (ys.map (Value.float .f32))) (wx : ∀ b ∈ xs, b < 4294967296) (wy : ∀ b ∈ ys, b < 4294967296) :
    Calls Try.prog 41 #[va, vb] w fun e w' => e = .returned (.bool (sameL xs ys)) ∧ ∃ m, w' = w.drewN m := by
  obtain ⟨ao, cap, b, off, rfl, hao, hl, hm, hc⟩ := ha
  obtain ⟨ao', cap', b', off', rfl, hao', hl', hm', hc'⟩ := hb
  simp only [List.length_map] at hao hl hao' hl' ⊢
  unfold maxLen at hm hm'
  have HC := hid hc; have HA := hid hao; have HC' := hid hc'; have HA' := hid hao'
  have WX := hid wx; have WY := hid wy
  clear hc hao hc' hao' wx wy
  by_cases hlen : xs.length = ys.length
  rotate_left
  · have HM := hid (sameL_len hlen)
    have g1 : ((xs.length : Int) != (ys.length : Int)) = true := by simp; omega
    have g2 : ((xs.length : Int) == (ys.length : Int)) = false := by simp; omega
    clear hlen
    go_enter Try.func41, Try.ntmps41
    go_wp2_with fail
    go_ret
    exact ⟨by rw [HM.out]; rfl, 0, rfl⟩
  have g1 : ((xs.length : Int) != (ys.length : Int)) = false := by simp; omega
  have g2 : ((xs.length : Int) == (ys.length : Int)) = true := by simp; omega
  have HL := hid hlen; clear hlen
  go_enter Try.func41, Try.ntmps41
  go_wp2_with fail
  go_loopw [5] (fun i wr => ∃ k : Nat, k ≤ xs.length ∧ i = .int .i64 k ∧ Hid (∀ j (hx : j < xs.length) (hy : j < ys.length), j < k → sameB (ab .f32 xs[j]) (ab .f32 ys[j]) = true) ∧ ∃ n1, Hid (wr = w.drewN n1)) (fun i _ => xs.length - (intOf i).toNat)
  case atStart => exact ⟨0, Nat.zero_le _, rfl, hid (fun j _ _ h => by omega), 0, hid rfl⟩
  case round =>
    obtain ⟨k, hk, rfl, hno, n1, HW1⟩ := hrel
    have hw : Below w.heap.size w wr := by rw [HW1.out]; exact below_drewN _ _
    by_cases hlt : k < xs.length
    · obtain rfl := HA.out (by omega)
      have hlt' : k < ys.length := by rw [← HL.out]; exact hlt
      obtain rfl := HA'.out (by omega)
      have hcell := rowc HC.out hw k hlt
      have hcell' := rowc HC'.out hw k hlt'
      have bx := WX.out _ (List.getElem_mem hlt)
      have by' := WY.out _ (List.getElem_mem hlt')
      have HNO := hid (sameL_no (xs := xs) (ys := ys) k hlt hlt')
      have HX : Hid (∃ x, x = xs[k]) := hid ⟨_, rfl⟩
      generalize hx : xs[k] = x at hcell bx HNO
      generalize hy : ys[k] = y at hcell' by' HNO
      have EX := hid hx; have EY := hid hy
      clear hx hy HX
      have lb : b < wr.heap.size := World.block_lt_of_cell? wr _ hcell
      have lb' : b' < wr.heap.size := World.block_lt_of_cell? wr _ hcell'
      have q0 : (0 : Int) ≤ (k : Int) := by omega
      have q1 : (k : Int) < (xs.length : Int) := by omega
      have q2 : (k : Int) < (ys.length : Int) := by omega
      cases hs : sameB (ab .f32 x) (ab .f32 y)
      all_goals
        have HS := hid hs; clear hs
        go_wp2_with (first
          | go_quiet ((go_at_call 40; exact quiet_at HS.out (drew_of_same (l01Same_q x y bx by' _)))))
      · go_ret
        exact ⟨by rw [HNO.out HS.out]; rfl, _, by rw [HW1.out, World.drewN_drewN]⟩
      · go_roundw
        case rel =>
          refine ⟨k + 1, by omega, by go_num, hid fun j hx hy hj => ?_, _, hid (by rw [HW1.out, World.drewN_drewN])⟩
          by_cases hjk : j = k
          · subst hjk
            rw [EX.out, EY.out]; exact HS.out
          · exact hno.out j hx hy (by omega)
        case measure => simp [intOf]; omega
    · obtain rfl : k = xs.length := by omega
      have HM := hid (sameL_yes HL.out (fun j hx hy => hno.out j hx hy hx))
      go_wp2_with fail
      go_ret
      exact ⟨by rw [HM.out]; rfl, _, HW1.out⟩
end Go.Proofs.Ytfnhpchgiknmpaa
