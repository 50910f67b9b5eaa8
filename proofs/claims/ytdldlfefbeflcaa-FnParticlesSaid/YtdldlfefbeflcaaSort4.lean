/- siftDownOrdered at float32. -/
import Derived.Test.YtdldlfefbeflcaaSort3
namespace Go.Proofs.Ytdldlfefbeflcaa
open Go.RowKit

theorem sift_exit {hi first R : Nat} {d : Array Nat} (h : hi ≤ 2 * R + 1) : Sort.siftDown ltN hi first R d = d := by
  rw [Sort.siftDown, dif_pos h]
/-- The child that is looked at. -/
def sChild (hi first R : Nat) (d : Array Nat) : Nat := if 2 * R + 2 < hi ∧ ltN d[first + (2 * R + 1)]! d[first + (2 * R + 2)]! = true then 2 * R + 2 else 2 * R + 1
theorem sift_step {hi first R : Nat} {d : Array Nat} (h : ¬ hi ≤ 2 * R + 1) : Sort.siftDown ltN hi first R d = if ltN d[first + R]! d[first + sChild hi first R d]! = true then Sort.siftDown ltN hi first (sChild hi first R d) (Sort.swp d (first + R) (first + sChild hi first R d)) else d := by
  rw [Sort.siftDown, dif_neg h]
  by_cases c : 2 * R + 2 < hi ∧ ltN d[first + (2 * R + 1)]! d[first + (2 * R + 2)]! = true
  · have c' : (decide (2 * R + 1 + 1 < hi) && ltN d[first + (2 * R + 1)]! d[first + (2 * R + 1) + 1]!) = true := by
      rw [show first + (2 * R + 1) + 1 = first + (2 * R + 2) by omega, show 2 * R + 1 + 1 = 2 * R + 2 by omega]
      simpa using c
    rw [if_pos c']
    have e : sChild hi first R d = 2 * R + 2 := if_pos c
    rw [e]
    cases hl : ltN d[first + R]! d[first + (2 * R + 2)]!
    · simp
    · simp [c.1]
  · have c' : ¬ (decide (2 * R + 1 + 1 < hi) && ltN d[first + (2 * R + 1)]! d[first + (2 * R + 1) + 1]!) = true := by
      rw [show first + (2 * R + 1) + 1 = first + (2 * R + 2) by omega, show 2 * R + 1 + 1 = 2 * R + 2 by omega]
      simpa using c
    rw [if_neg c']
    have e : sChild hi first R d = 2 * R + 1 := if_neg c
    rw [e]
    cases hl : ltN d[first + R]! d[first + (2 * R + 1)]!
    · simp
    · simp
set_option maxRecDepth 100000 in
set_option maxHeartbeats 3200000 in
theorem sift_any (lo g cap n hi first R0 : Nat) (d : Array Nat) (hb : first + hi ≤ n) (hR0 : R0 ≤ 64) (hn : n ≤ 64) (w : World) (hlo : lo ≤ w.heap.size) (h : SRow 23 w lo g cap n d) :
    Calls Try.prog 71 #[.slice (some ⟨g, 0, none⟩) n cap, .int .i64 R0, .int .i64 hi, .int .i64 first] w fun e w' => SOk 23 lo g cap n (Sort.siftDown ltN hi first R0 d) e w' w := by
  have HS := hid h
  have hcap := h.caps
  have q1 := hcap.1; have q2 := hcap.2
  unfold maxLen at q2
  have hg := h.lt.1
  clear hcap h
  obtain ⟨F, hF⟩ : ∃ F, Sort.siftDown ltN hi first R0 d = F := ⟨_, rfl⟩
  rw [hF]
  have HF := hid hF
  clear hF
  go_enter Try.func71, Try.ntmps71
  go_wp2_with fail
  go_loopw [8] (fun i wr => ∃ (R : Nat) (d' : Array Nat), R ≤ 64 ∧ i = .int .i64 R ∧ Hid (Sort.siftDown ltN hi first R d' = F) ∧ Hid (SRow 23 wr lo g cap n d') ∧ Below lo w wr) (fun i _ => hi - (intOf i).toNat)
  case atStart => exact ⟨R0, d, hR0, rfl, HF, hid (HS.out.below (by (repeat (first | (with_reducible assumption) | (with_reducible apply below_refl) | (with_reducible apply below_alloc1) | (with_reducible apply below_drewN1) | (with_reducible apply below_drew1))))), Below.mono (show Below w.heap.size w _ by (repeat (first | (with_reducible assumption) | (with_reducible apply below_refl) | (with_reducible apply below_alloc1) | (with_reducible apply below_drewN1) | (with_reducible apply below_drew1)))) hlo⟩
  case round =>
    obtain ⟨R, d', hR, rfl, hF, hs, hw⟩ := hrel
    have hlow := Nat.le_trans hlo hw.size
    have W1 : IntKind.i64.wrap (2 * (R : Int)) = 2 * (R : Int) := by rw [IntKind.wrap_i64]; omega
    have W2 : IntKind.i64.wrap (2 * (R : Int) + 1) = 2 * (R : Int) + 1 := by rw [IntKind.wrap_i64]; omega
    by_cases hlt : hi ≤ 2 * R + 1
    · have hII : (hi : Int) ≤ 2 * (R : Int) + 1 := by omega
      rw [sift_exit hlt] at hF
      have hF2 := hF.out
      subst hF2
      go_wp2_with fail
      go_end0
      exact ⟨rfl, hs.out.below (by (repeat (first | (with_reducible assumption) | (with_reducible apply below_refl) | (with_reducible apply below_alloc1) | (with_reducible apply below_drewN1) | (with_reducible apply below_drew1)))), hw.trans (Below.mono (show Below wr.heap.size wr _ by (repeat (first | (with_reducible assumption) | (with_reducible apply below_refl) | (with_reducible apply below_alloc1) | (with_reducible apply below_drewN1) | (with_reducible apply below_drew1)))) hlow)⟩
    · have hII : ¬ (hi : Int) ≤ 2 * (R : Int) + 1 := by omega
      have HST := hid (sift_step (first := first) (d := d') hlt)
      have W3 : IntKind.i64.wrap (2 * (R : Int) + 1 + 1) = 2 * (R : Int) + 1 + 1 := by rw [IntKind.wrap_i64]; omega
      have W4 : IntKind.i64.wrap ((first : Int) + (2 * (R : Int) + 1)) = (first : Int) + (2 * (R : Int) + 1) := by rw [IntKind.wrap_i64]; omega
      have W5 : IntKind.i64.wrap ((first : Int) + (2 * (R : Int) + 1) + 1) = (first : Int) + (2 * (R : Int) + 1) + 1 := by rw [IntKind.wrap_i64]; omega
      have W6 : IntKind.i64.wrap ((first : Int) + (R : Int)) = (first : Int) + (R : Int) := by rw [IntKind.wrap_i64]; omega
      have i0 : ((first : Int) + (R : Int)).toNat = first + R := by omega
      have i1 : ((first : Int) + (2 * (R : Int) + 1)).toNat = first + (2 * R + 1) := by omega
      have a0 : (0 : Int) ≤ (first : Int) + (R : Int) := by omega
      have b0 : (first : Int) + (R : Int) < (n : Int) := by omega
      have a1 : (0 : Int) ≤ (first : Int) + (2 * (R : Int) + 1) := by omega
      have b1 : (first : Int) + (2 * (R : Int) + 1) < (n : Int) := by omega
      by_cases h2 : 2 * R + 2 < hi
      · have h2I : 2 * (R : Int) + 1 + 1 < (hi : Int) := by omega
        have i2 : ((first : Int) + (2 * (R : Int) + 1) + 1).toNat = first + (2 * R + 2) := by omega
        have a2 : (0 : Int) ≤ (first : Int) + (2 * (R : Int) + 1) + 1 := by omega
        have b2 : (first : Int) + (2 * (R : Int) + 1) + 1 < (n : Int) := by omega
        obtain ⟨x1, x2, c1, c2, f1, f2, p1, p2, -, l1, -, -⟩ := hs.out.pair (i := first + (2 * R + 1)) (j := first + (2 * R + 2)) (by omega) (by omega)
        by_cases hx : x1 < x2
        · have hd : decide (x1 < x2) = true := by simpa using hx
          have HC : Hid (sChild hi first R d' = 2 * R + 2) := hid (if_pos ⟨h2, by rw [l1.out]; exact hd⟩)
          rw [HC.out] at HST
          go_wp2_with fail
          go_quiet ((go_at_call 64; exact quiet_at hd (sLess_any _ _ p1 p2 _)))
          have hs2 := hid (hs.out.below (below_drewN wr nq))
          have hw2 : Below lo w (wr.drewN nq) := hw.trans (Below.mono (below_drewN wr nq) hlow)
          have hlow2 := Nat.le_trans hlo hw2.size
          generalize wr.drewN nq = wq at hs2 hw2 hlow2 ⊢
          go_wp2_with fail
          have W7 : IntKind.i64.wrap ((first : Int) + (2 * (R : Int) + 1 + 1)) = (first : Int) + (2 * (R : Int) + 1 + 1) := by rw [IntKind.wrap_i64]; omega
          have i3 : ((first : Int) + (2 * (R : Int) + 1 + 1)).toNat = first + (2 * R + 2) := by omega
          have a3 : (0 : Int) ≤ (first : Int) + (2 * (R : Int) + 1 + 1) := by omega
          have b3 : (first : Int) + (2 * (R : Int) + 1 + 1) < (n : Int) := by omega
          obtain ⟨y0, y1, k0, k1, m0, m1, r0, r1, ov, l3, -, hsw⟩ := hs2.out.pair (i := first + R) (j := first + (2 * R + 2)) (by omega) (by omega)
          by_cases hy : y0 < y1
          · have he : decide (y0 < y1) = true := by simpa using hy
            have HN := hid (show Sort.siftDown ltN hi first R d' = Sort.siftDown ltN hi first (2 * R + 2) (Sort.swp d' (first + R) (first + (2 * R + 2))) by rw [HST.out, if_pos (by rw [l3.out]; exact he)])
            clear HST HF
            go_quiet ((go_at_call 64; exact quiet_at he (sLess_any _ _ r0 r1 _)))
            go_wp2_with fail
            go_big_region
            go_wp2_with fail
            refine ⟨⟨2 * R + 2, _, by omega, by go_num, hid (by rw [← HN.out]; exact hF.out), hid (hsw.out _ (below_drewN _ _)), ?_⟩, by simp [intOf]; omega⟩
            exact ((hw2.trans (Below.mono (below_drewN _ _) hlow2)).setCell hg _).setCell hg _
          · have he : decide (y0 < y1) = false := by simpa using hy
            have HN := hid (show Sort.siftDown ltN hi first R d' = d' by rw [HST.out, if_neg (by rw [l3.out, he]; exact Bool.false_ne_true)])
            clear HST HF
            go_quiet ((go_at_call 64; exact quiet_at he (sLess_any _ _ r0 r1 _)))
            go_wp2_with fail
            (try simp only [Exit.inBlock, Exit.then]); refine bodyPost_ret (results_none rfl _ _ _) rfl ?_
            rw [HN.out] at hF
            have hF2 := hF.out
            subst hF2
            exact ⟨rfl, hs2.out.below (by (repeat (first | (with_reducible assumption) | (with_reducible apply below_refl) | (with_reducible apply below_alloc1) | (with_reducible apply below_drewN1) | (with_reducible apply below_drew1)))), hw2.trans (Below.mono (show Below wq.heap.size wq _ by (repeat (first | (with_reducible assumption) | (with_reducible apply below_refl) | (with_reducible apply below_alloc1) | (with_reducible apply below_drewN1) | (with_reducible apply below_drew1)))) hlow2)⟩
        · have hd : decide (x1 < x2) = false := by simpa using hx
          have HC : Hid (sChild hi first R d' = 2 * R + 1) := hid (if_neg (fun hh => by rw [l1.out, hd] at hh; exact Bool.false_ne_true hh.2))
          rw [HC.out] at HST
          go_wp2_with fail
          go_quiet ((go_at_call 64; exact quiet_at hd (sLess_any _ _ p1 p2 _)))
          have hs2 := hid (hs.out.below (below_drewN wr nq))
          have hw2 : Below lo w (wr.drewN nq) := hw.trans (Below.mono (below_drewN wr nq) hlow)
          have hlow2 := Nat.le_trans hlo hw2.size
          generalize wr.drewN nq = wq at hs2 hw2 hlow2 ⊢
          go_wp2_with fail
          obtain ⟨y0, y1, k0, k1, m0, m1, r0, r1, ov, l3, -, hsw⟩ := hs2.out.pair (i := first + R) (j := first + (2 * R + 1)) (by omega) (by omega)
          by_cases hy : y0 < y1
          · have he : decide (y0 < y1) = true := by simpa using hy
            have HN := hid (show Sort.siftDown ltN hi first R d' = Sort.siftDown ltN hi first (2 * R + 1) (Sort.swp d' (first + R) (first + (2 * R + 1))) by rw [HST.out, if_pos (by rw [l3.out]; exact he)])
            clear HST HF
            go_quiet ((go_at_call 64; exact quiet_at he (sLess_any _ _ r0 r1 _)))
            go_wp2_with fail
            go_big_region
            go_wp2_with fail
            refine ⟨⟨2 * R + 1, _, by omega, by go_num, hid (by rw [← HN.out]; exact hF.out), hid (hsw.out _ (below_drewN _ _)), ?_⟩, by simp [intOf]; omega⟩
            exact ((hw2.trans (Below.mono (below_drewN _ _) hlow2)).setCell hg _).setCell hg _
          · have he : decide (y0 < y1) = false := by simpa using hy
            have HN := hid (show Sort.siftDown ltN hi first R d' = d' by rw [HST.out, if_neg (by rw [l3.out, he]; exact Bool.false_ne_true)])
            clear HST HF
            go_quiet ((go_at_call 64; exact quiet_at he (sLess_any _ _ r0 r1 _)))
            go_wp2_with fail
            (try simp only [Exit.inBlock, Exit.then]); refine bodyPost_ret (results_none rfl _ _ _) rfl ?_
            rw [HN.out] at hF
            have hF2 := hF.out
            subst hF2
            exact ⟨rfl, hs2.out.below (by (repeat (first | (with_reducible assumption) | (with_reducible apply below_refl) | (with_reducible apply below_alloc1) | (with_reducible apply below_drewN1) | (with_reducible apply below_drew1)))), hw2.trans (Below.mono (show Below wq.heap.size wq _ by (repeat (first | (with_reducible assumption) | (with_reducible apply below_refl) | (with_reducible apply below_alloc1) | (with_reducible apply below_drewN1) | (with_reducible apply below_drew1)))) hlow2)⟩
      · have h2I : decide (2 * (R : Int) + 1 + 1 < (hi : Int)) = false := by simp; omega
        have HC : Hid (sChild hi first R d' = 2 * R + 1) := hid (if_neg (fun hh => h2 hh.1))
        rw [HC.out] at HST
        go_wp2_with fail
        go_quiet (fail)
        have hs2 := hid (hs.out.below (below_drewN wr nq))
        have hw2 : Below lo w (wr.drewN nq) := hw.trans (Below.mono (below_drewN wr nq) hlow)
        have hlow2 := Nat.le_trans hlo hw2.size
        generalize wr.drewN nq = wq at hs2 hw2 hlow2 ⊢
        go_wp2_with fail
        obtain ⟨y0, y1, k0, k1, m0, m1, r0, r1, ov, l3, -, hsw⟩ := hs2.out.pair (i := first + R) (j := first + (2 * R + 1)) (by omega) (by omega)
        by_cases hy : y0 < y1
        · have he : decide (y0 < y1) = true := by simpa using hy
          have HN := hid (show Sort.siftDown ltN hi first R d' = Sort.siftDown ltN hi first (2 * R + 1) (Sort.swp d' (first + R) (first + (2 * R + 1))) by rw [HST.out, if_pos (by rw [l3.out]; exact he)])
          clear HST HF
          go_quiet ((go_at_call 64; exact quiet_at he (sLess_any _ _ r0 r1 _)))
          go_wp2_with fail
          go_big_region
          go_wp2_with fail
          refine ⟨⟨2 * R + 1, _, by omega, by go_num, hid (by rw [← HN.out]; exact hF.out), hid (hsw.out _ (below_drewN _ _)), ?_⟩, by simp [intOf]; omega⟩
          exact ((hw2.trans (Below.mono (below_drewN _ _) hlow2)).setCell hg _).setCell hg _
        · have he : decide (y0 < y1) = false := by simpa using hy
          have HN := hid (show Sort.siftDown ltN hi first R d' = d' by rw [HST.out, if_neg (by rw [l3.out, he]; exact Bool.false_ne_true)])
          clear HST HF
          go_quiet ((go_at_call 64; exact quiet_at he (sLess_any _ _ r0 r1 _)))
          go_wp2_with fail
          (try simp only [Exit.inBlock, Exit.then]); refine bodyPost_ret (results_none rfl _ _ _) rfl ?_
          rw [HN.out] at hF
          have hF2 := hF.out
          subst hF2
          exact ⟨rfl, hs2.out.below (by (repeat (first | (with_reducible assumption) | (with_reducible apply below_refl) | (with_reducible apply below_alloc1) | (with_reducible apply below_drewN1) | (with_reducible apply below_drew1)))), hw2.trans (Below.mono (show Below wq.heap.size wq _ by (repeat (first | (with_reducible assumption) | (with_reducible apply below_refl) | (with_reducible apply below_alloc1) | (with_reducible apply below_drewN1) | (with_reducible apply below_drew1)))) hlow2)⟩
end Go.Proofs.Ytdldlfefbeflcaa
