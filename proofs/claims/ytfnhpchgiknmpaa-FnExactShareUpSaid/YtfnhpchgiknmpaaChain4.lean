/- Chains: validity; the specification's. -/
import Derived.Test.YtfnhpchgiknmpaaChain3
namespace Go.Proofs.Ytfnhpchgiknmpaa
open Go.RowKit

theorem chain_bad1 {rs : List Nat} {s : Int} {i : Nat} (hi : i < rs.length) (h : notLessB (ab .f32 rs[i]) = false) : chainB rs s = false := by
  have : (rs.all fun b => notLessB (ab .f32 b)) = false := by
    rw [List.all_eq_false]
    exact ⟨rs[i], List.getElem_mem hi, by simp [h]⟩
  unfold chainB
  rw [this]
  simp
theorem chain_bad2 {rs : List Nat} {n : Nat} {i : Nat} (hl : rs.length = n * n) (hi : i < rs.length) (hm : i % (n + 1) = 0) (h : (ford .f32 (ab .f32 rs[i]) (some 0) == some .eq) = false) : chainB rs n = false := by
  have e : i = i / (n + 1) * (n + 1) := by
    have := Nat.div_add_mod i (n + 1)
    rw [hm, Nat.add_zero, Nat.mul_comm] at this
    exact this.symm
  have hq : i / (n + 1) < n := by
    rcases Nat.lt_or_ge (i / (n + 1)) n with c | c
    · exact c
    · exfalso
      have : n * (n + 1) ≤ i / (n + 1) * (n + 1) := Nat.mul_le_mul_right _ c
      rw [← e, Nat.mul_add, Nat.mul_one] at this
      omega
  have e2 : i / (n + 1) * n + i / (n + 1) = i := by
    rw [Nat.mul_add, Nat.mul_one] at e
    omega
  have hd : diagB rs n = false := diag_no hq (by rw [e2, atX_get hi]; exact h)
  unfold chainB
  rw [Int.toNat_natCast, hd]
  simp
theorem chain_good {rs : List Nat} {n : Nat} (h1 : 1 ≤ n) (h8 : n ≤ 8) (hl : rs.length = n * n) (h : ∀ i (hi : i < rs.length), notLessB (ab .f32 rs[i]) = true ∧ (i % (n + 1) = 0 → ford .f32 (ab .f32 rs[i]) (some 0) = some .eq)) : chainB rs n = true := by
  unfold chainB
  rw [decide_eq_true (show (1 : Int) ≤ (n : Int) by omega), decide_eq_true (show (n : Int) ≤ 8 by omega), decide_eq_true (show (rs.length : Int) = (n : Int) * (n : Int) by rw [hl, Int.natCast_mul])]
  have a1 : (rs.all fun b => notLessB (ab .f32 b)) = true := by
    rw [List.all_eq_true]
    intro x hx
    obtain ⟨i, hi, rfl⟩ := List.getElem_of_mem hx
    exact (h i hi).1
  rw [a1, Int.toNat_natCast, diag_yes]
  · rfl
  · intro i hi
    have hb : i * n + i < rs.length := by
      rw [hl]
      have : (i + 1) * n ≤ n * n := Nat.mul_le_mul_right n hi
      have h2 : (i + 1) * n = i * n + n := by rw [Nat.add_mul, Nat.one_mul]
      omega
    rw [atX_get hb, (h _ hb).2 (by rw [show i * n + i = i * (n + 1) by rw [Nat.mul_add, Nat.mul_one]]; exact Nat.mul_mod_left _ _)]
    rfl
theorem drew_same0 {P : Program} {f : FuncId} {args : Array Value} {w : World} {r : Bool} (h : Calls P f args w fun e w' => e = .returned (.bool r) ∧ w' = w) :
    Calls P f args w fun e w' => e = .returned (.bool r) ∧ ∃ m, w' = w.drewN m := h.mono fun e w' ⟨h1, h2⟩ => ⟨h1, 0, h2⟩
set_option maxRecDepth 100000 in
set_option maxHeartbeats 3200000 in
theorem l04Is_any (c : Nat) (s : Int) (rs : List Nat) (w : World) (hv : ChainAt w c s rs) :
    Calls Try.prog 47 #[.pointer (some ⟨c, 0, none⟩)] w fun e w' => e = .returned (.bool (chainB rs s)) ∧ Below w.heap.size w w' := by
  obtain ⟨ao, cap, h0, h1, hrow⟩ := hv
  have hcl := World.block_lt_of_cell? w _ h0
  have hcap := row_caps hrow
  unfold maxLen at hcap
  obtain ⟨ao, cap, b, off, he, hao, hl2, hm, hc⟩ := hrow
  simp only [List.length_map] at he hao hl2
  cases he
  have H0 := hid h0; have H1 := hid h1; have HC := hid hc; have HA := hid hao
  clear hc hao
  by_cases q1 : 1 ≤ s ∧ s ≤ 8
  rotate_left
  · have HM := hid (show chainB rs s = false by
      unfold chainB
      by_cases q : 1 ≤ s
      · rw [decide_eq_false (show ¬ s ≤ 8 by omega)]; simp
      · rw [decide_eq_false q]; simp)
    have G1 := hid (show inB s 1 8 = false by simp [inB]; omega)
    go_enter Try.func47, Try.ntmps47
    go_wp2_with (first | go_quiet ((go_at_call 58; exact quiet_at G1.out (drew_same0 (l00In_same _ _ _ _)))))
    go_ret
    exact ⟨by rw [HM.out]; rfl, by (repeat (first | (with_reducible assumption) | (with_reducible apply below_refl) | (with_reducible apply below_alloc1) | (with_reducible apply below_drewN1) | (with_reducible apply below_drew1)))⟩
  obtain ⟨n, rfl⟩ : ∃ n : Nat, s = n := ⟨s.toNat, by omega⟩
  have G1 := hid (show inB (n : Int) 1 8 = true by simp [inB]; omega)
  have hn1 : 1 ≤ n := by omega
  have hn8 : n ≤ 8 := by omega
  have hnn : n * n ≤ 64 := Nat.le_trans (Nat.mul_le_mul hn8 hn8) (by decide)
  have gc : ((n * n : Nat) : Int) = (n : Int) * (n : Int) := Int.natCast_mul _ _
  have W1 : IntKind.i64.wrap ((n : Int) * (n : Int)) = (n : Int) * (n : Int) := by rw [← gc, IntKind.wrap_i64]; omega
  have W2 : IntKind.i64.wrap (rs.length : Int) = (rs.length : Int) := by rw [IntKind.wrap_i64]; omega
  have W3 : IntKind.i64.wrap ((n : Int) + 1) = (n : Int) + 1 := by rw [IntKind.wrap_i64]; omega
  by_cases h2 : rs.length = n * n
  rotate_left
  · have HM := hid (show chainB rs n = false by
      unfold chainB
      rw [decide_eq_false (show ¬ ((rs.length : Int) = (n : Int) * (n : Int)) by rw [← gc]; omega)]; simp)
    have g1 : ((rs.length : Int) != (n : Int) * (n : Int)) = true := by simp; rw [← gc]; omega
    have g2 : ((rs.length : Int) == (n : Int) * (n : Int)) = false := by simp; rw [← gc]; omega
    clear h2 q1 gc
    go_enter Try.func47, Try.ntmps47
    go_wp2_with (first | go_quiet ((go_at_call 58; exact quiet_at G1.out (drew_same0 (l00In_same _ _ _ _)))))
    go_ret
    exact ⟨by rw [HM.out]; rfl, by (repeat (first | (with_reducible assumption) | (with_reducible apply below_refl) | (with_reducible apply below_alloc1) | (with_reducible apply below_drewN1) | (with_reducible apply below_drew1)))⟩
  have g1 : ((rs.length : Int) != (n : Int) * (n : Int)) = false := by simp; rw [← gc]; omega
  have g2 : ((rs.length : Int) == (n : Int) * (n : Int)) = true := by simp; rw [← gc]; omega
  have HL := hid h2
  obtain rfl := HA.out (by rw [h2]; exact Nat.mul_pos hn1 hn1)
  clear h2 q1 gc
  go_enter Try.func47, Try.ntmps47
  go_wp2_with (first | go_quiet ((go_at_call 58; exact quiet_at G1.out (drew_same0 (l00In_same _ _ _ _)))))
  clear h0 h1
  go_loopw [3] (fun i wr => ∃ k : Nat, k ≤ rs.length ∧ i = .int .i64 k ∧ Hid (∀ i (hi : i < rs.length), i < k → notLessB (ab .f32 rs[i]) = true ∧ (i % (n + 1) = 0 → ford .f32 (ab .f32 rs[i]) (some 0) = some .eq)) ∧ Below w.heap.size w wr) (fun i _ => rs.length - (intOf i).toNat)
  case atStart => exact ⟨0, Nat.zero_le _, rfl, hid (fun j _ h => by omega), by (repeat (first | (with_reducible assumption) | (with_reducible apply below_refl) | (with_reducible apply below_alloc1) | (with_reducible apply below_drewN1) | (with_reducible apply below_drew1)))⟩
  case round =>
    obtain ⟨k, hk, rfl, hno, hw⟩ := hrel
    have k0 : wr.cell? ⟨c, 0, none⟩ = some (.int .i64 n) := by rw [hw.cell (p := ⟨c, 0, none⟩) hcl]; exact H0.out
    have k1 : wr.cell? ⟨c, 1, none⟩ = some (.slice (some ⟨b, off, none⟩) rs.length cap) := by rw [hw.cell (p := ⟨c, 1, none⟩) hcl]; exact H1.out
    by_cases hlt : k < rs.length
    · have hcell := rowc HC.out hw k hlt
      have hkI : (k : Int) < (rs.length : Int) := by omega
      have hkz : (0 : Int) ≤ (k : Int) := by omega
      have gm : Int.tmod (k : Int) ((n : Int) + 1) = ((k % (n + 1) : Nat) : Int) := by
        rw [Int.tmod_eq_emod_of_nonneg hkz]; simp
      have B1 := hid (chain_bad1 (s := n) hlt)
      have B2 := hid (chain_bad2 (i := k) HL.out hlt)
      have HX : Hid (∃ x, rs[k] = x) := hid ⟨_, rfl⟩
      generalize hx : rs[k] = x at hcell B1 B2
      have EX := hid hx
      clear hx HX
      have C0 := hid k0; have C1 := hid k1; have CX := hid hcell
      have hbl : b < wr.heap.size := World.block_lt_of_cell? wr _ hcell
      have hcl2 : c < wr.heap.size := World.block_lt_of_cell? wr _ k0
      cases g3 : notLessB (ab .f32 x)
      · have HM := hid (B1.out g3)
        have G3 := hid g3; clear g3
        go_wp2_with (first | (go_at_call 74; refine (l02Least_any _ _).mono ?_; rw [G3.out]; rintro e w' ⟨rfl, hb2⟩; have hB : Below w.heap.size w w' := below_trans hw (below_trans (by (repeat (first | (with_reducible assumption) | (with_reducible apply below_refl) | (with_reducible apply below_alloc1) | (with_reducible apply below_drewN1) | (with_reducible apply below_drew1)))) hb2); have hB2 : Below wr.heap.size wr w' := below_trans (by (repeat (first | (with_reducible assumption) | (with_reducible apply below_refl) | (with_reducible apply below_alloc1) | (with_reducible apply below_drewN1) | (with_reducible apply below_drew1)))) hb2; have c0w : w'.cell? ⟨c, 0, none⟩ = some (.int .i64 n) := (by rw [hB2.cell (p := ⟨c, 0, none⟩) hcl2]; exact C0.out); have c1w : w'.cell? ⟨c, 1, none⟩ = some (.slice (some ⟨b, off, none⟩) rs.length cap) := (by rw [hB2.cell (p := ⟨c, 1, none⟩) hcl2]; exact C1.out); have cxw : w'.cell? ⟨b, off + k, none⟩ = some (.float .f32 x) := (by rw [hB2.cell (p := ⟨b, off + k, none⟩) hbl]; exact CX.out); clear hb2))
        go_ret
        exact ⟨by rw [HM.out]; rfl, by assumption⟩
      have G3 := hid g3
      by_cases g4 : k % (n + 1) = 0
      · have m1 : (Int.tmod (k : Int) ((n : Int) + 1) == 0) = true := by rw [gm, g4]; rfl
        have m2 : Int.tmod (k : Int) ((n : Int) + 1) = 0 := by rw [gm, g4]; rfl
        clear gm
        by_cases g5 : ford .f32 (ab .f32 x) (some 0) = some Ordering.eq
        · have G4 := hid g4; have G5 := hid g5
          clear g3 g4
          go_wp2_with (first | (go_at_call 74; refine (l02Least_any _ _).mono ?_; rw [G3.out]; rintro e w' ⟨rfl, hb2⟩; have hB : Below w.heap.size w w' := below_trans hw (below_trans (by (repeat (first | (with_reducible assumption) | (with_reducible apply below_refl) | (with_reducible apply below_alloc1) | (with_reducible apply below_drewN1) | (with_reducible apply below_drew1)))) hb2); have hB2 : Below wr.heap.size wr w' := below_trans (by (repeat (first | (with_reducible assumption) | (with_reducible apply below_refl) | (with_reducible apply below_alloc1) | (with_reducible apply below_drewN1) | (with_reducible apply below_drew1)))) hb2; have c0w : w'.cell? ⟨c, 0, none⟩ = some (.int .i64 n) := (by rw [hB2.cell (p := ⟨c, 0, none⟩) hcl2]; exact C0.out); have c1w : w'.cell? ⟨c, 1, none⟩ = some (.slice (some ⟨b, off, none⟩) rs.length cap) := (by rw [hB2.cell (p := ⟨c, 1, none⟩) hcl2]; exact C1.out); have cxw : w'.cell? ⟨b, off + k, none⟩ = some (.float .f32 x) := (by rw [hB2.cell (p := ⟨b, off + k, none⟩) hbl]; exact CX.out); clear hb2))
          go_roundw
          case rel =>
            refine ⟨k + 1, by omega, by go_num, hid fun j hj hjk => ?_, by assumption⟩
            by_cases e : j = k
            · subst e
              rw [EX.out]; exact ⟨G3.out, fun _ => G5.out⟩
            · exact hno.out j hj (by omega)
          case measure => simp [intOf]; omega
        · have HM := hid (B2.out g4 (by simpa using g5))
          have g6 : (ford .f32 (ab .f32 x) (some 0) != some Ordering.eq) = true := by simpa using g5
          clear g3 g4
          go_wp2_with (first | (go_at_call 74; refine (l02Least_any _ _).mono ?_; rw [G3.out]; rintro e w' ⟨rfl, hb2⟩; have hB : Below w.heap.size w w' := below_trans hw (below_trans (by (repeat (first | (with_reducible assumption) | (with_reducible apply below_refl) | (with_reducible apply below_alloc1) | (with_reducible apply below_drewN1) | (with_reducible apply below_drew1)))) hb2); have hB2 : Below wr.heap.size wr w' := below_trans (by (repeat (first | (with_reducible assumption) | (with_reducible apply below_refl) | (with_reducible apply below_alloc1) | (with_reducible apply below_drewN1) | (with_reducible apply below_drew1)))) hb2; have c0w : w'.cell? ⟨c, 0, none⟩ = some (.int .i64 n) := (by rw [hB2.cell (p := ⟨c, 0, none⟩) hcl2]; exact C0.out); have c1w : w'.cell? ⟨c, 1, none⟩ = some (.slice (some ⟨b, off, none⟩) rs.length cap) := (by rw [hB2.cell (p := ⟨c, 1, none⟩) hcl2]; exact C1.out); have cxw : w'.cell? ⟨b, off + k, none⟩ = some (.float .f32 x) := (by rw [hB2.cell (p := ⟨b, off + k, none⟩) hbl]; exact CX.out); clear hb2))
          go_ret
          exact ⟨by rw [HM.out]; rfl, by assumption⟩
      · have m2 : ¬ Int.tmod (k : Int) ((n : Int) + 1) = 0 := by rw [gm]; omega
        have m1 : (Int.tmod (k : Int) ((n : Int) + 1) == 0) = false := by simpa using m2
        have G4 := hid g4
        clear gm g3 g4
        go_wp2_with (first | (go_at_call 74; refine (l02Least_any _ _).mono ?_; rw [G3.out]; rintro e w' ⟨rfl, hb2⟩; have hB : Below w.heap.size w w' := below_trans hw (below_trans (by (repeat (first | (with_reducible assumption) | (with_reducible apply below_refl) | (with_reducible apply below_alloc1) | (with_reducible apply below_drewN1) | (with_reducible apply below_drew1)))) hb2); have hB2 : Below wr.heap.size wr w' := below_trans (by (repeat (first | (with_reducible assumption) | (with_reducible apply below_refl) | (with_reducible apply below_alloc1) | (with_reducible apply below_drewN1) | (with_reducible apply below_drew1)))) hb2; have c0w : w'.cell? ⟨c, 0, none⟩ = some (.int .i64 n) := (by rw [hB2.cell (p := ⟨c, 0, none⟩) hcl2]; exact C0.out); have c1w : w'.cell? ⟨c, 1, none⟩ = some (.slice (some ⟨b, off, none⟩) rs.length cap) := (by rw [hB2.cell (p := ⟨c, 1, none⟩) hcl2]; exact C1.out); have cxw : w'.cell? ⟨b, off + k, none⟩ = some (.float .f32 x) := (by rw [hB2.cell (p := ⟨b, off + k, none⟩) hbl]; exact CX.out); clear hb2))
        go_roundw
        case rel =>
          refine ⟨k + 1, by omega, by go_num, hid fun j hj hjk => ?_, by assumption⟩
          by_cases e : j = k
          · subst e
            rw [EX.out]; exact ⟨G3.out, fun h => absurd h G4.out⟩
          · exact hno.out j hj (by omega)
        case measure => simp [intOf]; omega
    · obtain rfl : k = rs.length := by omega
      have HM := hid (chain_good hn1 hn8 HL.out (fun i hi => hno.out i hi hi))
      go_wp2_with fail
      go_ret
      exact ⟨by rw [HM.out]; rfl, hw⟩
end Go.Proofs.Ytfnhpchgiknmpaa
