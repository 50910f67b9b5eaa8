/- insertionSortOrdered, reverseRangeOrdered at float32. -/
import Derived.Test.YtdldlfefbeflcaaSort2
namespace Go.Proofs.Ytdldlfefbeflcaa
open Go.RowKit

theorem insInner_exit {a J : Nat} {d : Array Nat} (h : J = 0 ∨ ¬ a < J ∨ ltN d[J]! d[J - 1]! = false) : Sort.insInner ltN a J d = d := by
  cases J with
  | zero => rfl
  | succ j =>
    unfold Sort.insInner
    rw [if_neg]
    rcases h with h | h | h
    · omega
    · simp; omega
    · rw [Nat.add_sub_cancel] at h
      simp [h]
theorem insInner_next {a j : Nat} {d : Array Nat} (h1 : a < j + 1) (h2 : ltN d[j + 1]! d[j]! = true) : Sort.insInner ltN a (j + 1) d = Sort.insInner ltN a j (Sort.swp d (j + 1) j) := by
  rw [Sort.insInner, if_pos (by simp [h2]; omega)]
theorem insOuter_next {a b i : Nat} {d : Array Nat} (h : i < b) : Sort.insOuter ltN a b i d = Sort.insOuter ltN a b (i + 1) (Sort.insInner ltN a i d) := by
  rw [Sort.insOuter, if_pos h]
theorem insOuter_exit {a b i : Nat} {d : Array Nat} (h : ¬ i < b) : Sort.insOuter ltN a b i d = d := by
  rw [Sort.insOuter, if_neg h]
/-- What a sorting function leaves. -/
def SOk (E : TypeId) (lo g cap n : Nat) (F : Array Nat) (e : Ending) (w' : World) (w : World) : Prop := e = .returned (.tuple #[]) ∧ SRow E w' lo g cap n F ∧ Below lo w w'
set_option maxRecDepth 100000 in
set_option maxHeartbeats 1600000 in
theorem ins_any (lo g cap n a b : Nat) (d : Array Nat) (hab : a ≤ b) (hb : b ≤ n) (hn : n ≤ 64) (w : World) (hlo : lo ≤ w.heap.size) (h : SRow 23 w lo g cap n d) :
    Calls Try.prog 58 #[.slice (some ⟨g, 0, none⟩) n cap, .int .i64 a, .int .i64 b] w fun e w' => SOk 23 lo g cap n (Sort.insertionSort ltN d a b) e w' w := by
  have HS := hid h
  have hcap := h.caps
  have q1 := hcap.1; have q2 := hcap.2
  unfold maxLen at q2
  have hg := h.lt.1
  clear hcap h
  obtain ⟨F, hF⟩ : ∃ F, Sort.insertionSort ltN d a b = F := ⟨_, rfl⟩
  rw [hF]
  have HF := hid (show Sort.insOuter ltN a b (a + 1) d = F from hF)
  clear hF
  have W1 : IntKind.i64.wrap ((a : Int) + 1) = (a : Int) + 1 := by rw [IntKind.wrap_i64]; omega
  go_enter Try.func58, Try.ntmps58
  go_wp2_with fail
  go_loopw [6] (fun i wr => ∃ (I : Nat) (d' : Array Nat), a + 1 ≤ I ∧ I ≤ n + 1 ∧ i = .int .i64 I ∧ Hid (Sort.insOuter ltN a b I d' = F) ∧ Hid (SRow 23 wr lo g cap n d') ∧ Below lo w wr) (fun i _ => b - (intOf i).toNat)
  case atStart => exact ⟨a + 1, d, Nat.le_refl _, by omega, by go_num, HF, hid (HS.out.below (by (repeat (first | (with_reducible assumption) | (with_reducible apply below_refl) | (with_reducible apply below_alloc1) | (with_reducible apply below_drewN1) | (with_reducible apply below_drew1))))), Below.mono (show Below w.heap.size w _ by (repeat (first | (with_reducible assumption) | (with_reducible apply below_refl) | (with_reducible apply below_alloc1) | (with_reducible apply below_drewN1) | (with_reducible apply below_drew1)))) hlo⟩
  case round =>
    obtain ⟨I, d', hI1, hI2, rfl, hF, hs, hw⟩ := hrel
    by_cases hlt : I < b
    · have hII : (I : Int) < (b : Int) := by omega
      go_wp2_with fail
      go_loopw [7] (fun j wr => ∃ (J : Nat) (d2 : Array Nat), J ≤ I ∧ a ≤ J ∧ j = .int .i64 J ∧ Hid (Sort.insInner ltN a J d2 = Sort.insInner ltN a I d') ∧ Hid (SRow 23 wr lo g cap n d2) ∧ Below lo w wr) (fun j _ => (intOf j).toNat)
      case atStart => exact ⟨I, d', Nat.le_refl _, by omega, rfl, hid rfl, hid (hs.out.below (by (repeat (first | (with_reducible assumption) | (with_reducible apply below_refl) | (with_reducible apply below_alloc1) | (with_reducible apply below_drewN1) | (with_reducible apply below_drew1))))), hw.trans (Below.mono (show Below _ _ _ by (repeat (first | (with_reducible assumption) | (with_reducible apply below_refl) | (with_reducible apply below_alloc1) | (with_reducible apply below_drewN1) | (with_reducible apply below_drew1)))) (Nat.le_trans hlo hw.size))⟩
      case round =>
        obtain ⟨J, d2, hJI, haJ, rfl, hG, hs, hw⟩ := hrel
        by_cases hJ : a < J
        · obtain ⟨j, rfl⟩ : ∃ j, J = j + 1 := ⟨J - 1, by omega⟩
          have hjz : (0 : Int) ≤ (j : Int) := by omega
          have hja : (a : Int) < ((j + 1 : Nat) : Int) := by omega
          have hja2 : (a : Int) < (j : Int) + 1 := by omega
          have hjn : (j : Int) + 1 < (n : Int) := by omega
          have hjz1 : (0 : Int) ≤ (j : Int) + 1 := by omega
          have W2 : IntKind.i64.wrap ((j : Int) + 1 - 1) = (j : Int) := by rw [IntKind.wrap_i64]; omega
          have i1 : ((j : Int) + 1).toNat = j + 1 := by omega
          have hjn2 : (j : Int) < (n : Int) := by omega
          obtain ⟨x, y, c1, c2, f1, f2, p1, p2, ov, l1, l2, hsw⟩ := hs.out.pair (i := j + 1) (j := j) (by omega) (by omega)
          have hgl : g < wr.heap.size := hs.out.lt.2
          by_cases hxy : x < y
          · have hd : decide (x < y) = true := by simpa using hxy
            have HN := hid (insInner_next (a := a) hJ (by rw [l1.out]; exact hd))
            go_wp2_with fail
            go_quiet ((go_at_call 64; exact quiet_at hd (sLess_any _ _ p1 p2 _)))
            go_wp2_with fail
            go_big_region
            go_wp2_with fail
            refine ⟨⟨j, _, by omega, by omega, rfl, hid (by rw [← HN.out]; exact hG.out), hid (hsw.out _ (below_drewN _ _)), ?_⟩, by simp [intOf]⟩
            exact ((hw.trans (Below.mono (below_drewN _ _) (Nat.le_trans hlo hw.size))).setCell hg _).setCell hg _
          · have hd : decide (x < y) = false := by simpa using hxy
            have HN := hid (insInner_exit (a := a) (J := j + 1) (d := d2) (Or.inr (Or.inr (by rw [Nat.add_sub_cancel, l1.out]; exact hd))))
            go_wp2_with fail
            go_quiet ((go_at_call 64; exact quiet_at hd (sLess_any _ _ p1 p2 _)))
            go_wp2_with fail
            refine ⟨⟨I + 1, d2, by omega, by omega, by go_num, hid ?_, hid (hs.out.below (by (repeat (first | (with_reducible assumption) | (with_reducible apply below_refl) | (with_reducible apply below_alloc1) | (with_reducible apply below_drewN1) | (with_reducible apply below_drew1))))), hw.trans (Below.mono (show Below wr.heap.size wr _ by (repeat (first | (with_reducible assumption) | (with_reducible apply below_refl) | (with_reducible apply below_alloc1) | (with_reducible apply below_drewN1) | (with_reducible apply below_drew1)))) (Nat.le_trans hlo hw.size))⟩, by simp [intOf]; omega⟩
            rw [HN.out] at hG
            rw [hG.out, ← insOuter_next hlt]
            exact hF.out
        · obtain rfl : J = a := by omega
          have HN := hid (insInner_exit (a := J) (J := J) (d := d2) (Or.inr (Or.inl (by omega))))
          have hja : decide ((J : Int) < (J : Int)) = false := by simp
          go_wp2_with fail
          go_quiet (fail)
          go_wp2_with fail
          refine ⟨⟨I + 1, d2, by omega, by omega, by go_num, hid ?_, hid (hs.out.below (by (repeat (first | (with_reducible assumption) | (with_reducible apply below_refl) | (with_reducible apply below_alloc1) | (with_reducible apply below_drewN1) | (with_reducible apply below_drew1))))), hw.trans (Below.mono (show Below wr.heap.size wr _ by (repeat (first | (with_reducible assumption) | (with_reducible apply below_refl) | (with_reducible apply below_alloc1) | (with_reducible apply below_drewN1) | (with_reducible apply below_drew1)))) (Nat.le_trans hlo hw.size))⟩, by simp [intOf]; omega⟩
          rw [HN.out] at hG
          rw [hG.out, ← insOuter_next hlt]
          exact hF.out
    · have hII : ¬ (I : Int) < (b : Int) := by omega
      have HE := hid (insOuter_exit (a := a) (d := d') hlt)
      go_wp2_with fail
      go_end0
      rw [HE.out] at hF
      have hF2 := hF.out
      subst hF2
      exact ⟨rfl, hs.out.below (by (repeat (first | (with_reducible assumption) | (with_reducible apply below_refl) | (with_reducible apply below_alloc1) | (with_reducible apply below_drewN1) | (with_reducible apply below_drew1)))), hw.trans (Below.mono (show Below wr.heap.size wr _ by (repeat (first | (with_reducible assumption) | (with_reducible apply below_refl) | (with_reducible apply below_alloc1) | (with_reducible apply below_drewN1) | (with_reducible apply below_drew1)))) (Nat.le_trans hlo hw.size))⟩
end Go.Proofs.Ytdldlfefbeflcaa
