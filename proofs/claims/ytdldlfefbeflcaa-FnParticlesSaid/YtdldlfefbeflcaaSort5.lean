/- heapSortOrdered, reverseRangeOrdered at float32. -/
import Derived.Test.YtdldlfefbeflcaaSort4
namespace Go.Proofs.Ytdldlfefbeflcaa
open Go.RowKit

theorem hBuild_next {hi first k : Nat} {d : Array Nat} : Sort.heapBuild ltN hi first (k + 1) d = Sort.heapBuild ltN hi first k (Sort.siftDown ltN hi first k d) := rfl
theorem hPop_next {first k : Nat} {d : Array Nat} : Sort.heapPop ltN first (k + 1) d = Sort.heapPop ltN first k (Sort.siftDown ltN k first 0 (Sort.swp d first (first + k))) := rfl
theorem sWorld {P : Program} {c : Code} {Q : Exit → Act → World → Prop} {a : Act} {W w2 : World} (h : W = w2) (hw : Code.wp P c Q a w2) : Code.wp P c Q a W := h ▸ hw
set_option maxRecDepth 100000 in
set_option maxHeartbeats 3200000 in
theorem heap_any (lo g cap n a b : Nat) (d : Array Nat) (hab : a ≤ b) (hb : b ≤ n) (hn : n ≤ 64) (w : World) (hlo : lo ≤ w.heap.size) (h : SRow 23 w lo g cap n d) :
    Calls Try.prog 59 #[.slice (some ⟨g, 0, none⟩) n cap, .int .i64 a, .int .i64 b] w fun e w' => SOk 23 lo g cap n (Sort.heapSort ltN d a b) e w' w := by
  have HS := hid h
  have hcap := h.caps
  have q1 := hcap.1; have q2 := hcap.2
  unfold maxLen at q2
  have hg := h.lt.1
  clear hcap h
  obtain ⟨G, hG⟩ : ∃ G, Sort.heapBuild ltN (b - a) a ((b - a - 1) / 2 + 1) d = G := ⟨_, rfl⟩
  obtain ⟨F, hF⟩ : ∃ F, Sort.heapSort ltN d a b = F := ⟨_, rfl⟩
  rw [hF]
  have HF := hid (show Sort.heapPop ltN a (b - a) G = F by rw [← hF, ← hG]; rfl)
  have HG := hid hG
  clear hF hG
  obtain ⟨m, hm⟩ : ∃ m, b - a = m := ⟨_, rfl⟩
  rw [hm] at HF HG
  have W1 : IntKind.i64.wrap ((b : Int) - (a : Int)) = (m : Int) := by rw [IntKind.wrap_i64]; omega
  have W2 : IntKind.i64.wrap ((m : Int) - 1) = (m : Int) - 1 := by rw [IntKind.wrap_i64]; omega
  have D1 : Int.tdiv ((m : Int) - 1) 2 = (((m - 1) / 2 : Nat) : Int) := by
    rcases Nat.eq_zero_or_pos m with e | e
    · subst e; decide
    · rw [show (m : Int) - 1 = ((m - 1 : Nat) : Int) by omega]
      exact Int.ofNat_tdiv (m - 1) 2
  have W3 : IntKind.i64.wrap (((m - 1) / 2 : Nat) : Int) = (((m - 1) / 2 : Nat) : Int) := by rw [IntKind.wrap_i64]; omega
  go_enter Try.func59, Try.ntmps59
  go_wp2_with fail
  go_loopw [9] (fun i wr => ∃ (k : Nat) (z : Int) (d' : Array Nat), k ≤ 64 ∧ z = (k : Int) - 1 ∧ i = .int .i64 z ∧ Hid (Sort.heapBuild ltN m a k d' = G) ∧ Hid (SRow 23 wr lo g cap n d') ∧ Below lo w wr) (fun i _ => (intOf i + 1).toNat)
  case atStart => exact ⟨(m - 1) / 2 + 1, _, d, by omega, by omega, rfl, HG, hid (HS.out.below (by (repeat (first | (with_reducible assumption) | (with_reducible apply below_refl) | (with_reducible apply below_alloc1) | (with_reducible apply below_drewN1) | (with_reducible apply below_drew1))))), Below.mono (show Below w.heap.size w _ by (repeat (first | (with_reducible assumption) | (with_reducible apply below_refl) | (with_reducible apply below_alloc1) | (with_reducible apply below_drewN1) | (with_reducible apply below_drew1)))) hlo⟩
  case round =>
    obtain ⟨k, z, d', hk, hz, rfl, hF, hs, hw⟩ := hrel
    have hlow := Nat.le_trans hlo hw.size
    cases k with
    | succ k =>
      obtain rfl : z = (k : Int) := by omega
      clear hz
      have hkz : (0 : Int) ≤ (k : Int) := by omega
      have W4 : IntKind.i64.wrap ((k : Int) - 1) = (k : Int) - 1 := by rw [IntKind.wrap_i64]; omega
      rw [hBuild_next] at hF
      go_wp2_with (first
        | (go_at_call 71; refine (sift_any lo g cap n m a k d' (by omega) (by omega) hn _ (Nat.le_trans hlow (Below.size (show Below wr.heap.size wr _ by (repeat (first | (with_reducible assumption) | (with_reducible apply below_refl) | (with_reducible apply below_alloc1) | (with_reducible apply below_drewN1) | (with_reducible apply below_drew1)))))) (hs.out.below (by (repeat (first | (with_reducible assumption) | (with_reducible apply below_refl) | (with_reducible apply below_alloc1) | (with_reducible apply below_drewN1) | (with_reducible apply below_drew1)))))).mono ?_; rintro e w2 ⟨rfl, hs2, hb2⟩; have HS2 := hid hs2; have HB2 := (hw.trans (Below.mono (show Below wr.heap.size wr _ by (repeat (first | (with_reducible assumption) | (with_reducible apply below_refl) | (with_reducible apply below_alloc1) | (with_reducible apply below_drewN1) | (with_reducible apply below_drew1)))) hlow)).trans hb2; clear hs2 hb2))
      refine ⟨⟨k, _, _, by omega, rfl, rfl, hF, hid (HS2.out.below (by (repeat (first | (with_reducible assumption) | (with_reducible apply below_refl) | (with_reducible apply below_alloc1) | (with_reducible apply below_drewN1) | (with_reducible apply below_drew1))))), HB2.trans (Below.mono (show Below w2.heap.size w2 _ by (repeat (first | (with_reducible assumption) | (with_reducible apply below_refl) | (with_reducible apply below_alloc1) | (with_reducible apply below_drewN1) | (with_reducible apply below_drew1)))) (Nat.le_trans hlo HB2.size))⟩, by first | (simp [intOf]; done) | (simp [intOf]; omega)⟩
    | zero =>
      have hz' : ¬ (0 : Int) ≤ z := by omega
      have hz2 : z < 0 := by omega
      have hF2 : d' = G := hF.out
      subst hF2
      clear hz
      go_wp2_with fail
      obtain ⟨wo, hwo⟩ : ∃ wo, wo = wr := ⟨_, rfl⟩
      subst hwo
      clear HG hF
      go_loopw [10] (fun i wr => ∃ (k : Nat) (z : Int) (d2 : Array Nat), k ≤ m ∧ z = (k : Int) - 1 ∧ i = .int .i64 z ∧ Hid (Sort.heapPop ltN a k d2 = F) ∧ Hid (SRow 23 wr lo g cap n d2) ∧ Below lo w wr) (fun i _ => (intOf i + 1).toNat)
      case atStart => exact ⟨m, _, d', Nat.le_refl _, rfl, rfl, HF, hid (hs.out.below (by (repeat (first | (with_reducible assumption) | (with_reducible apply below_refl) | (with_reducible apply below_alloc1) | (with_reducible apply below_drewN1) | (with_reducible apply below_drew1))))), hw.trans (Below.mono (show Below wo.heap.size wo _ by (repeat (first | (with_reducible assumption) | (with_reducible apply below_refl) | (with_reducible apply below_alloc1) | (with_reducible apply below_drewN1) | (with_reducible apply below_drew1)))) hlow)⟩
      case round =>
        obtain ⟨k, z, d2, hk, hz, rfl, hF, hs, hw⟩ := hrel
        have hlow := Nat.le_trans hlo hw.size
        cases k with
        | succ k =>
          obtain rfl : z = (k : Int) := by omega
          clear hz
          have hkz : (0 : Int) ≤ (k : Int) := by omega
          have W4 : IntKind.i64.wrap ((k : Int) - 1) = (k : Int) - 1 := by rw [IntKind.wrap_i64]; omega
          have W5 : IntKind.i64.wrap ((a : Int) + (k : Int)) = (a : Int) + (k : Int) := by rw [IntKind.wrap_i64]; omega
          have i0 : ((a : Int) + (k : Int)).toNat = a + k := by omega
          have a0 : (0 : Int) ≤ (a : Int) + (k : Int) := by omega
          have b0 : (a : Int) + (k : Int) < (n : Int) := by omega
          have a1 : (a : Int) < (n : Int) := by omega
          obtain ⟨x, y, c1, c2, f1, f2, p1, p2, ov, -, -, hsw⟩ := hs.out.pair (i := a) (j := a + k) (by omega) (by omega)
          rw [hPop_next] at hF
          have HSW := hid (hsw.out wr.drew (below_drew _))
          generalize hW2 : (wr.drew.setCell ⟨g, a, none⟩ (.float .f32 y)).setCell ⟨g, a + k, none⟩ (.float .f32 x) = w2 at HSW
          have hW3 : ((wr.setCell ⟨g, a, none⟩ (.float .f32 y)).setCell ⟨g, a + k, none⟩ (.float .f32 x)).drew = w2 := hW2
          have HL2 : Below lo w w2 := by rw [← hW2]; exact (((hw.trans (Below.mono (below_drew _) hlow)).setCell hg _).setCell hg _)
          clear hW2
          go_wp2_with fail
          go_big_region
          go_wp2_with (first
            | (with_reducible refine sWorld hW3 ?_; clear hW3)
            | (go_at_call 71; refine (sift_any lo g cap n k a 0 (Sort.swp d2 a (a + k)) (by omega) (by omega) hn _ (Nat.le_trans (Nat.le_trans hlo HL2.size) (Below.size (show Below w2.heap.size w2 _ by (repeat (first | (with_reducible assumption) | (with_reducible apply below_refl) | (with_reducible apply below_alloc1) | (with_reducible apply below_drewN1) | (with_reducible apply below_drew1)))))) (HSW.out.below (by (repeat (first | (with_reducible assumption) | (with_reducible apply below_refl) | (with_reducible apply below_alloc1) | (with_reducible apply below_drewN1) | (with_reducible apply below_drew1)))))).mono ?_; rintro e w3 ⟨rfl, hs2, hb2⟩; have HS2 := hid hs2; have HB2 := (HL2.trans (Below.mono (show Below w2.heap.size w2 _ by (repeat (first | (with_reducible assumption) | (with_reducible apply below_refl) | (with_reducible apply below_alloc1) | (with_reducible apply below_drewN1) | (with_reducible apply below_drew1)))) (Nat.le_trans hlo HL2.size))).trans hb2; clear hs2 hb2))
          refine ⟨⟨k, _, _, by omega, rfl, rfl, hF, hid (HS2.out.below (by (repeat (first | (with_reducible assumption) | (with_reducible apply below_refl) | (with_reducible apply below_alloc1) | (with_reducible apply below_drewN1) | (with_reducible apply below_drew1))))), HB2.trans (Below.mono (show Below w3.heap.size w3 _ by (repeat (first | (with_reducible assumption) | (with_reducible apply below_refl) | (with_reducible apply below_alloc1) | (with_reducible apply below_drewN1) | (with_reducible apply below_drew1)))) (Nat.le_trans hlo HB2.size))⟩, by first | (simp [intOf]; done) | (simp [intOf]; omega)⟩
        | zero =>
          have hz' : ¬ (0 : Int) ≤ z := by omega
          have hz2 : z < 0 := by omega
          have hF2 : d2 = F := hF.out
          subst hF2
          clear hz
          go_wp2_with fail
          go_end0
          exact ⟨rfl, hs.out.below (by (repeat (first | (with_reducible assumption) | (with_reducible apply below_refl) | (with_reducible apply below_alloc1) | (with_reducible apply below_drewN1) | (with_reducible apply below_drew1)))), hw.trans (Below.mono (show Below wr.heap.size wr _ by (repeat (first | (with_reducible assumption) | (with_reducible apply below_refl) | (with_reducible apply below_alloc1) | (with_reducible apply below_drewN1) | (with_reducible apply below_drew1)))) hlow)⟩
theorem rev_next {i j : Nat} {d : Array Nat} (h : i < j) : Sort.reverseLoop i j d = Sort.reverseLoop (i + 1) (j - 1) (Sort.swp d i j) := by
  rw [Sort.reverseLoop, if_pos h]
theorem rev_exit {i j : Nat} {d : Array Nat} (h : ¬ i < j) : Sort.reverseLoop i j d = d := by
  rw [Sort.reverseLoop, if_neg h]
set_option maxRecDepth 100000 in
set_option maxHeartbeats 1600000 in
theorem rev_any (lo g cap n a b : Nat) (d : Array Nat) (hab : a < b) (hb : b ≤ n) (hn : n ≤ 64) (w : World) (hlo : lo ≤ w.heap.size) (h : SRow 23 w lo g cap n d) :
    Calls Try.prog 62 #[.slice (some ⟨g, 0, none⟩) n cap, .int .i64 a, .int .i64 b] w fun e w' => SOk 23 lo g cap n (Sort.reverseRange d a b) e w' w := by
  have HS := hid h
  have hcap := h.caps
  have q1 := hcap.1; have q2 := hcap.2
  unfold maxLen at q2
  have hg := h.lt.1
  clear hcap h
  obtain ⟨F, hF⟩ : ∃ F, Sort.reverseRange d a b = F := ⟨_, rfl⟩
  rw [hF]
  have HF := hid (show Sort.reverseLoop a (b - 1) d = F from hF)
  clear hF
  have W1 : IntKind.i64.wrap ((b : Int) - 1) = ((b - 1 : Nat) : Int) := by rw [IntKind.wrap_i64]; omega
  go_enter Try.func62, Try.ntmps62
  go_wp2_with fail
  go_loopw [6, 7] (fun i j wr => ∃ (I J : Nat) (d' : Array Nat), I ≤ 64 ∧ J < b ∧ i = .int .i64 I ∧ j = .int .i64 J ∧ Hid (Sort.reverseLoop I J d' = F) ∧ Hid (SRow 23 wr lo g cap n d') ∧ Below lo w wr) (fun i j _ => (intOf j).toNat - (intOf i).toNat)
  case atStart => exact ⟨a, b - 1, d, by omega, by omega, rfl, rfl, HF, hid (HS.out.below (by (repeat (first | (with_reducible assumption) | (with_reducible apply below_refl) | (with_reducible apply below_alloc1) | (with_reducible apply below_drewN1) | (with_reducible apply below_drew1))))), Below.mono (show Below w.heap.size w _ by (repeat (first | (with_reducible assumption) | (with_reducible apply below_refl) | (with_reducible apply below_alloc1) | (with_reducible apply below_drewN1) | (with_reducible apply below_drew1)))) hlo⟩
  case round =>
    obtain ⟨I, J, d', hI, hJ, rfl, rfl, hF, hs, hw⟩ := hrel
    have hlow := Nat.le_trans hlo hw.size
    by_cases hlt : I < J
    · have hII : (I : Int) < (J : Int) := by omega
      have a0 : (0 : Int) ≤ (J : Int) := by omega
      have b0 : (J : Int) < (n : Int) := by omega
      have b1 : (I : Int) < (n : Int) := by omega
      have W2 : IntKind.i64.wrap ((J : Int) - 1) = ((J - 1 : Nat) : Int) := by rw [IntKind.wrap_i64]; omega
      obtain ⟨x, y, c1, c2, f1, f2, p1, p2, ov, -, -, hsw⟩ := hs.out.pair (i := I) (j := J) (by omega) (by omega)
      rw [rev_next hlt] at hF
      go_wp2_with fail
      go_big_region
      go_wp2_with fail
      refine ⟨⟨I + 1, J - 1, _, by omega, by omega, by go_num, rfl, hF, hid ((hsw.out wr (below_refl _)).below (by (repeat (first | (with_reducible assumption) | (with_reducible apply below_refl) | (with_reducible apply below_alloc1) | (with_reducible apply below_drewN1) | (with_reducible apply below_drew1))))), ?_⟩, by simp [intOf]; omega⟩
      exact ((hw.setCell hg _).setCell hg _).drew
    · have hII : ¬ (I : Int) < (J : Int) := by omega
      rw [rev_exit hlt] at hF
      have hF2 := hF.out
      subst hF2
      go_wp2_with fail
      go_end0
      exact ⟨rfl, hs.out.below (by (repeat (first | (with_reducible assumption) | (with_reducible apply below_refl) | (with_reducible apply below_alloc1) | (with_reducible apply below_drewN1) | (with_reducible apply below_drew1)))), hw.trans (Below.mono (show Below wr.heap.size wr _ by (repeat (first | (with_reducible assumption) | (with_reducible apply below_refl) | (with_reducible apply below_alloc1) | (with_reducible apply below_drewN1) | (with_reducible apply below_drew1)))) hlow)⟩
end Go.Proofs.Ytdldlfefbeflcaa
