/- breakPatternsOrdered at float32. -/
import Derived.Test.YtdldlfefbeflcaaSort11
namespace Go.Proofs.Ytdldlfefbeflcaa
open Go.RowKit

theorem next_ok (rb X : Nat) (hX : X < 18446744073709551616) (w : World) (hc : Box w rb (.int .u64 X)) :
    Calls Try.prog 73 #[.pointer (some ⟨rb, 0, none⟩)] w fun e w' => e = .returned (.int .u64 (Sort.xorNextN X : Nat)) ∧ Box w' rb (.int .u64 (Sort.xorNextN X : Nat)) ∧ w.grownBy w' (some rb) := by
  refine (next_any rb X hX w hc).mono ?_
  rintro e w' ⟨rfl, rfl⟩
  exact ⟨rfl, (box_set hc _).below (below_drewN _ _), grown_trans (grown_setBox _ _ _) (grown_of_below (below_drewN _ _) _)⟩
def bpR (a L M i0 : Nat) : Nat → Nat → UInt64 × Array Nat → Array Nat
  | 0, _, st => st.2
  | k + 1, t, st => bpR a L M i0 k (t + 1) (Sort.breakStep a L M st (i0 + t))
theorem bp_eq (d : Array Nat) (a b L : Nat) (hL : b - a = L) (h8 : 8 ≤ L) : Sort.breakPatterns d a b = bpR a L (1 <<< Sort.bitsLen L) (a + L / 4 * 2 - 1) 3 0 (UInt64.ofNat L, d) := by
  unfold Sort.breakPatterns
  simp only [hL]
  rw [if_pos h8]
  rfl
theorem bpR_step (a L M i0 k t : Nat) (r : UInt64) (d : Array Nat) (o : Nat) (ho : (if (Sort.xorNext r).toNat &&& (M - 1) ≥ L then ((Sort.xorNext r).toNat &&& (M - 1)) - L else (Sort.xorNext r).toNat &&& (M - 1)) = o) :
    bpR a L M i0 (k + 1) t (r, d) = bpR a L M i0 k (t + 1) (Sort.xorNext r, Sort.swp d (i0 + t) (a + o)) := by
  rw [bpR]
  unfold Sort.breakStep
  simp only [ho]
theorem grown_two (w : World) (g i j : Nat) (x y : Value) : w.grownBy ((w.setCell ⟨g, i, none⟩ x).setCell ⟨g, j, none⟩ y).drew (some g) := by
  refine ⟨rfl, rfl, rfl, by simp [World.setCell, World.drew], fun k _ hne => ?_⟩
  have : g ≠ k := fun e => hne (by rw [e])
  simp [World.setCell, World.drew, Array.getElem?_modify, this]
set_option maxRecDepth 100000 in
set_option maxHeartbeats 1600000 in
theorem brk_any (lo g cap n a b : Nat) (d : Array Nat) (hab : a + 13 ≤ b) (hb : b ≤ n) (hn : n ≤ 64) (w : World) (hlo : lo ≤ w.heap.size) (h : SRow 23 w lo g cap n d) :
    Calls Try.prog 60 #[.slice (some ⟨g, 0, none⟩) n cap, .int .i64 a, .int .i64 b] w fun e w' => SOk 23 lo g cap n (Sort.breakPatterns d a b) e w' w := by
  have HS := hid h
  have hcap := h.caps
  have q1 := hcap.1; have q2 := hcap.2
  unfold maxLen at q2
  have hg := h.lt.1
  have hgw := h.lt.2
  clear hcap h
  obtain ⟨m, hm⟩ : ∃ m, b - a = m := ⟨_, rfl⟩
  obtain ⟨q, hq⟩ : ∃ q, m / 4 = q := ⟨_, rfl⟩
  obtain ⟨c, hc⟩ : ∃ c, a + q * 2 = c := ⟨_, rfl⟩
  obtain ⟨i0, hi0⟩ : ∃ i0, c - 1 = i0 := ⟨_, rfl⟩
  obtain ⟨M, hM⟩ : ∃ M : Nat, M = 1 <<< Sort.bitsLen m := ⟨_, rfl⟩
  have hM1 : 1 ≤ M := by rw [hM, Nat.one_shiftLeft]; exact Nat.two_pow_pos _
  have hM2 : M ≤ 2 * m := by rw [hM, Nat.one_shiftLeft]; exact Sort.two_pow_bitsLen_le (by omega)
  obtain ⟨F, hF⟩ : ∃ F, Sort.breakPatterns d a b = F := ⟨_, rfl⟩
  rw [hF]
  rw [bp_eq d a b m hm (by omega), ← hM, hq, hc, hi0] at hF
  have HF := hid hF
  have hNP := fun w => npt_any m (by omega) w
  rw [← hM] at hNP
  have HNP := hid hNP
  clear hF hNP hM
  have W1 : IntKind.i64.wrap ((b : Int) - (a : Int)) = (m : Int) := by rw [IntKind.wrap_i64]; omega
  have D1 : Int.tdiv (m : Int) 4 = (q : Int) := by rw [← hq]; exact Int.ofNat_tdiv m 4
  have W2 : IntKind.i64.wrap (q : Int) = (q : Int) := by rw [IntKind.wrap_i64]; omega
  have W3 : IntKind.i64.wrap ((q : Int) * 2) = (q : Int) * 2 := by rw [IntKind.wrap_i64]; omega
  have W4 : IntKind.i64.wrap ((a : Int) + (q : Int) * 2) = (c : Int) := by rw [IntKind.wrap_i64]; omega
  have W5 : IntKind.i64.wrap ((c : Int) - 1) = (i0 : Int) := by rw [IntKind.wrap_i64]; omega
  have W6 : IntKind.i64.wrap ((c : Int) + 1) = (c : Int) + 1 := by rw [IntKind.wrap_i64]; omega
  have W7 : IntKind.u64.wrap (m : Int) = (m : Int) := by rw [IntKind.wrap_u64]; omega
  have W8 : IntKind.u64.wrap ((M : Int) - 1) = (M : Int) - 1 := by rw [IntKind.wrap_u64]; omega
  have h8 : (8 : Int) ≤ (m : Int) := by omega
  have hr0 : ((UInt64.ofNat m).toNat : Int) = (m : Int) := by simp; omega
  have HB0 := hid (show Box (w.alloc (.cells #[.int .u64 (m : Int)] 77)) w.heap.size (.int .u64 ((UInt64.ofNat m).toNat : Int)) by rw [hr0]; exact box_alloc w _ _)
  have hm64 : m ≤ 64 := by omega
  have ham : a + m ≤ n := by omega
  have hin : c + 1 < n := by omega
  have hi1 : i0 + 1 = c := by omega
  clear hr0 hm hq hc hi0 hab
  go_enter Try.func60, Try.ntmps60
  go_wp2_with (first | (go_at_call 72; refine (HNP.out _).mono ?_; rintro e w' ⟨rfl, rfl⟩))
  go_loopw [9] (fun vi wr => ∃ (t I : Nat) (r : UInt64) (dk : Array Nat), t ≤ 3 ∧ Hid (I = i0 + t) ∧ vi = .int .i64 (I : Int) ∧ Hid (bpR a m M i0 (3 - t) t (r, dk) = F) ∧ Hid (SRow 23 wr lo g cap n dk) ∧ Hid (Box wr w.heap.size (.int .u64 (r.toNat : Int))) ∧ Below lo w wr) (fun vi _ => i0 + 3 - (intOf vi).toNat)
  case atStart => exact ⟨0, i0, UInt64.ofNat m, d, by omega, hid rfl, rfl, HF, hid (HS.out.below (by (repeat (first | (with_reducible assumption) | (with_reducible apply below_refl) | (with_reducible apply below_alloc1) | (with_reducible apply below_drewN1) | (with_reducible apply below_drew1))))), hid (HB0.out.below (by (repeat (first | (with_reducible assumption) | (with_reducible apply below_refl) | (with_reducible apply below_alloc1) | (with_reducible apply below_drewN1) | (with_reducible apply below_drew1))))), Below.mono (show Below w.heap.size w _ by (repeat (first | (with_reducible assumption) | (with_reducible apply below_refl) | (with_reducible apply below_alloc1) | (with_reducible apply below_drewN1) | (with_reducible apply below_drew1)))) hlo⟩
  case round =>
    obtain ⟨t, I, r, dk, ht, hI, rfl, hF, hs, hx, hw⟩ := hrel
    have hlow := Nat.le_trans hlo hw.size
    have hI2 := hI.out
    by_cases h3 : t < 3
    · have gI : (I : Int) ≤ (c : Int) + 1 := by omega
      have hIn : I < n := by omega
      have hIz : (I : Int) < (n : Int) := by omega
      have hI0 : (0 : Int) ≤ (I : Int) := by omega
      have WI : IntKind.i64.wrap ((I : Int) + 1) = (I : Int) + 1 := by rw [IntKind.wrap_i64]; omega
      clear hI2
      obtain ⟨R', hR'⟩ : ∃ R' : Nat, Sort.xorNextN r.toNat = R' := ⟨_, rfl⟩
      have lR' : R' < 18446744073709551616 := by rw [← hR']; exact Sort.xorNextN_lt _ r.toNat_lt
      have eR : R' = (Sort.xorNext r).toNat := by rw [← hR', Sort.xorNext_toNat]
      obtain ⟨O, hO⟩ : ∃ O : Nat, O = R' &&& (M - 1) := ⟨_, rfl⟩
      have lO : O ≤ M - 1 := by rw [hO]; exact Nat.and_le_right
      have eAnd : bits .and .u64 (R' : Int) ((M : Int) - 1) = (O : Int) := by
        rw [show ((M : Int) - 1) = ((M - 1 : Nat) : Int) by omega, bits_and_u64_nat _ _ lR' (by omega), hO]
      have HN := hid (show O = (Sort.xorNext r).toNat &&& (M - 1) by rw [hO, eR])
      have HNX := hid (next_ok w.heap.size r.toNat r.toNat_lt)
      rw [hR'] at HNX
      have HER := hid eR
      clear hR' eR hO
      have WO : IntKind.i64.wrap (O : Int) = (O : Int) := by rw [IntKind.wrap_i64]; omega
      have WO2 : IntKind.i64.wrap ((O : Int) - (m : Int)) = (O : Int) - (m : Int) := by rw [IntKind.wrap_i64]; omega
      by_cases hLO : m ≤ O
      · have hLOi : (m : Int) ≤ (O : Int) := by omega
        obtain ⟨P, hP⟩ : ∃ P, a + (O - m) = P := ⟨_, rfl⟩
        have hPn : P < n := by omega
        have hPz : (P : Int) < (n : Int) := by omega
        have hP0 : (0 : Int) ≤ (P : Int) := by omega
        have WP : IntKind.i64.wrap ((a : Int) + ((O : Int) - (m : Int))) = (P : Int) := by rw [IntKind.wrap_i64]; omega
        have hst := bpR_step a m M i0 (2 - t) t r dk (O - m) (by rw [← HN.out]; exact if_pos hLO)
        rw [hP, ← hI.out, show 2 - t + 1 = 3 - t by omega] at hst
        have HST := hid hst
        clear hst hP
        go_wp2_with (first | (go_at_call 73; refine (HNX.out wr hx.out).mono ?_; rintro e w2 ⟨rfl, hx2, hg2⟩; have hs2 := hid (hs.out.grown hg2 (by omega)); have hw2 := below_box hw hg2 hlow hlo; have hl2 := Nat.le_trans hlo hw2.size; have X2 := hid hx2; obtain ⟨x, y, c1, c2, f1, f2, p1, p2, ov, -, -, hsw⟩ := hs2.out.pair (i := I) (j := P) hIn hPn; have hs3 := hid ((hsw.out w2 (below_refl _)).below (below_drew _)); clear hsw hx2 hg2))
        generalize hW3 : ((w2.setCell ⟨g, I, none⟩ (.float .f32 y)).setCell ⟨g, P, none⟩ (.float .f32 x)).drew = w3 at hs3
        have hg3 : w2.grownBy w3 (some g) := by rw [← hW3]; exact grown_two _ _ _ _ _ _
        have hw3 : Below lo w w3 := by rw [← hW3]; exact ((hw2.setCell hg _).setCell hg _).drew
        have X3 := hid (X2.out.grown hg3 (by intro e; cases e; omega))
        have hl3 := Nat.le_trans hlo hw3.size
        clear hg3
        go_big_region
        go_wp2_with (first | (with_reducible refine sWorld hW3 ?_; clear hW3))
        refine ⟨⟨t + 1, I + 1, Sort.xorNext r, Sort.swp dk I P, by omega, hid (by have := hI.out; omega), by first | rfl | go_num, ?_, hid (hs3.out.below (by (repeat (first | (with_reducible assumption) | (with_reducible apply below_refl) | (with_reducible apply below_alloc1) | (with_reducible apply below_drewN1) | (with_reducible apply below_drew1))))), ?_, hw3.trans (Below.mono (show Below _ _ _ by (repeat (first | (with_reducible assumption) | (with_reducible apply below_refl) | (with_reducible apply below_alloc1) | (with_reducible apply below_drewN1) | (with_reducible apply below_drew1)))) hl3)⟩, by have := hI.out; simp [intOf]; omega⟩
        · have e := HST.out
          rw [show 3 - (t + 1) = 2 - t by omega]
          exact hid (e.symm.trans hF.out)
        · rw [← HER.out]
          exact hid (X3.out.below (by (repeat (first | (with_reducible assumption) | (with_reducible apply below_refl) | (with_reducible apply below_alloc1) | (with_reducible apply below_drewN1) | (with_reducible apply below_drew1)))))
      · have hLOi : ¬ (m : Int) ≤ (O : Int) := by omega
        have hLOj : (O : Int) < (m : Int) := by omega
        obtain ⟨P, hP⟩ : ∃ P, a + O = P := ⟨_, rfl⟩
        have hPn : P < n := by omega
        have hPz : (P : Int) < (n : Int) := by omega
        have hP0 : (0 : Int) ≤ (P : Int) := by omega
        have WP : IntKind.i64.wrap ((a : Int) + (O : Int)) = (P : Int) := by rw [IntKind.wrap_i64]; omega
        have hst := bpR_step a m M i0 (2 - t) t r dk O (by rw [← HN.out]; exact if_neg hLO)
        rw [hP, ← hI.out, show 2 - t + 1 = 3 - t by omega] at hst
        have HST := hid hst
        clear hst hP
        go_wp2_with (first | (go_at_call 73; refine (HNX.out wr hx.out).mono ?_; rintro e w2 ⟨rfl, hx2, hg2⟩; have hs2 := hid (hs.out.grown hg2 (by omega)); have hw2 := below_box hw hg2 hlow hlo; have hl2 := Nat.le_trans hlo hw2.size; have X2 := hid hx2; obtain ⟨x, y, c1, c2, f1, f2, p1, p2, ov, -, -, hsw⟩ := hs2.out.pair (i := I) (j := P) hIn hPn; have hs3 := hid ((hsw.out w2 (below_refl _)).below (below_drew _)); clear hsw hx2 hg2))
        generalize hW3 : ((w2.setCell ⟨g, I, none⟩ (.float .f32 y)).setCell ⟨g, P, none⟩ (.float .f32 x)).drew = w3 at hs3
        have hg3 : w2.grownBy w3 (some g) := by rw [← hW3]; exact grown_two _ _ _ _ _ _
        have hw3 : Below lo w w3 := by rw [← hW3]; exact ((hw2.setCell hg _).setCell hg _).drew
        have X3 := hid (X2.out.grown hg3 (by intro e; cases e; omega))
        have hl3 := Nat.le_trans hlo hw3.size
        clear hg3
        go_big_region
        go_wp2_with (first | (with_reducible refine sWorld hW3 ?_; clear hW3))
        refine ⟨⟨t + 1, I + 1, Sort.xorNext r, Sort.swp dk I P, by omega, hid (by have := hI.out; omega), by first | rfl | go_num, ?_, hid (hs3.out.below (by (repeat (first | (with_reducible assumption) | (with_reducible apply below_refl) | (with_reducible apply below_alloc1) | (with_reducible apply below_drewN1) | (with_reducible apply below_drew1))))), ?_, hw3.trans (Below.mono (show Below _ _ _ by (repeat (first | (with_reducible assumption) | (with_reducible apply below_refl) | (with_reducible apply below_alloc1) | (with_reducible apply below_drewN1) | (with_reducible apply below_drew1)))) hl3)⟩, by have := hI.out; simp [intOf]; omega⟩
        · have e := HST.out
          rw [show 3 - (t + 1) = 2 - t by omega]
          exact hid (e.symm.trans hF.out)
        · rw [← HER.out]
          exact hid (X3.out.below (by (repeat (first | (with_reducible assumption) | (with_reducible apply below_refl) | (with_reducible apply below_alloc1) | (with_reducible apply below_drewN1) | (with_reducible apply below_drew1)))))
    · have gI : ¬ (I : Int) ≤ (c : Int) + 1 := by omega
      obtain rfl : t = 3 := by omega
      have hF2 : dk = F := hF.out
      subst hF2
      clear hI2
      go_wp2_with fail
      go_end0
      exact ⟨rfl, hs.out.below (by (repeat (first | (with_reducible assumption) | (with_reducible apply below_refl) | (with_reducible apply below_alloc1) | (with_reducible apply below_drewN1) | (with_reducible apply below_drew1)))), hw.trans (Below.mono (show Below wr.heap.size wr _ by (repeat (first | (with_reducible assumption) | (with_reducible apply below_refl) | (with_reducible apply below_alloc1) | (with_reducible apply below_drewN1) | (with_reducible apply below_drew1)))) hlow)⟩
end Go.Proofs.Ytdldlfefbeflcaa
