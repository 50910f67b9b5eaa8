/- order2Ordered, medianOrdered, medianAdjacentOrdered, choosePivotOrdered at float32. -/
import Derived.Test.YtdldlfefbeflcaaSort8
import Derived.Test.YtdldlfefbeflcaaSeed
namespace Go.Proofs.Ytdldlfefbeflcaa
open Go.RowKit

theorem SRow.grown {E : TypeId} {w w' : World} {lo g cap n sb : Nat} {d : Array Nat} (h : SRow E w lo g cap n d) (hg : w.grownBy w' (some sb)) (hne : sb ≠ g) : SRow E w' lo g cap n d :=
  ⟨h.1.kept hg (Or.inr (by simp [Value.ownBlock]; exact fun e => hne e.symm)), h.2⟩
theorem ord2_vals (d : Array Nat) (a b s : Nat) : ((Sort.order2 ltN d a b s).1 = a ∧ (Sort.order2 ltN d a b s).2.1 = b ∨ (Sort.order2 ltN d a b s).1 = b ∧ (Sort.order2 ltN d a b s).2.1 = a) ∧ (Sort.order2 ltN d a b s).2.2 ≤ s + 1 := by
  unfold Sort.order2
  split
  · exact ⟨Or.inr ⟨rfl, rfl⟩, Nat.le_refl _⟩
  · exact ⟨Or.inl ⟨rfl, rfl⟩, Nat.le_succ _⟩
set_option maxRecDepth 100000 in
set_option maxHeartbeats 1600000 in
theorem ord2_any (lo g cap n a b s sb : Nat) (d : Array Nat) (ha : a < n) (hb : b < n) (_ : n ≤ 64) (hs : s ≤ 100) (w : World) (h : SRow 23 w lo g cap n d) (hx : Box w sb (.int .i64 s)) (_ : sb ≠ g) :
    Calls Try.prog 78 #[.slice (some ⟨g, 0, none⟩) n cap, .int .i64 a, .int .i64 b, .pointer (some ⟨sb, 0, none⟩)] w fun e w' => e = .returned (.tuple #[.int .i64 ((Sort.order2 ltN d a b s).1 : Nat), .int .i64 ((Sort.order2 ltN d a b s).2.1 : Nat)]) ∧ Box w' sb (.int .i64 ((Sort.order2 ltN d a b s).2.2 : Nat)) ∧ w.grownBy w' (some sb) := by
  have hcap := h.caps
  have q1 := hcap.1; have q2 := hcap.2
  unfold maxLen at q2
  have A1 : (a : Int) < (n : Int) := by omega
  have A2 : (b : Int) < (n : Int) := by omega
  have W1 : IntKind.i64.wrap ((s : Int) + 1) = (s : Int) + 1 := by rw [IntKind.wrap_i64]; omega
  obtain ⟨x, y, c1, c2, f1, f2, p1, p2, -, l1, -, -⟩ := h.pair (i := b) (j := a) hb ha
  have HX := hid hx
  obtain ⟨x0, x1⟩ := hx
  clear hcap h
  by_cases hxy : x < y
  · have hd : decide (x < y) = true := by simpa using hxy
    have HO := hid (show Sort.order2 ltN d a b s = (b, a, s + 1) by unfold Sort.order2; rw [if_pos (by rw [l1.out]; exact hd)])
    go_enter Try.func78, Try.ntmps78
    go_wp2_with fail
    go_quiet ((go_at_call 64; exact quiet_at hd (sLess_any _ _ p1 p2 _)))
    go_wp2_with fail
    go_ret2
    rw [HO.out]
    refine ⟨rfl, ?_, ?_⟩
    · exact box_set (HX.out.below (by (repeat (first | (with_reducible assumption) | (with_reducible apply below_refl) | (with_reducible apply below_alloc1) | (with_reducible apply below_drewN1) | (with_reducible apply below_drew1))))) _
    · exact grown_trans (grown_of_below (show Below w.heap.size w _ by (repeat (first | (with_reducible assumption) | (with_reducible apply below_refl) | (with_reducible apply below_alloc1) | (with_reducible apply below_drewN1) | (with_reducible apply below_drew1)))) (some sb)) (grown_setBox _ _ _)
  · have hd : decide (x < y) = false := by simpa using hxy
    have HO := hid (show Sort.order2 ltN d a b s = (a, b, s) by unfold Sort.order2; rw [if_neg (by rw [l1.out, hd]; exact Bool.false_ne_true)])
    go_enter Try.func78, Try.ntmps78
    go_wp2_with fail
    go_quiet ((go_at_call 64; exact quiet_at hd (sLess_any _ _ p1 p2 _)))
    go_wp2_with fail
    go_ret2
    rw [HO.out]
    exact ⟨rfl, HX.out.below (by (repeat (first | (with_reducible assumption) | (with_reducible apply below_refl) | (with_reducible apply below_alloc1) | (with_reducible apply below_drewN1) | (with_reducible apply below_drew1)))), grown_of_below (show Below w.heap.size w _ by (repeat (first | (with_reducible assumption) | (with_reducible apply below_refl) | (with_reducible apply below_alloc1) | (with_reducible apply below_drewN1) | (with_reducible apply below_drew1)))) (some sb)⟩
theorem med_vals (d : Array Nat) (a b c s : Nat) : ((Sort.median ltN d a b c s).1 = a ∨ (Sort.median ltN d a b c s).1 = b ∨ (Sort.median ltN d a b c s).1 = c) ∧ (Sort.median ltN d a b c s).2 ≤ s + 3 := by
  unfold Sort.median
  simp only
  obtain ⟨h1, g1⟩ := ord2_vals d a b s
  obtain ⟨h2, g2⟩ := ord2_vals d (Sort.order2 ltN d a b s).2.1 c (Sort.order2 ltN d a b s).2.2
  obtain ⟨h3, g3⟩ := ord2_vals d (Sort.order2 ltN d a b s).1 (Sort.order2 ltN d (Sort.order2 ltN d a b s).2.1 c (Sort.order2 ltN d a b s).2.2).1 (Sort.order2 ltN d (Sort.order2 ltN d a b s).2.1 c (Sort.order2 ltN d a b s).2.2).2.2
  refine ⟨?_, by omega⟩
  rcases h1 with ⟨e1, e2⟩ | ⟨e1, e2⟩ <;> rcases h2 with ⟨e3, e4⟩ | ⟨e3, e4⟩ <;> rcases h3 with ⟨e5, e6⟩ | ⟨e5, e6⟩ <;> omega
set_option maxRecDepth 100000 in
set_option maxHeartbeats 1600000 in
theorem med_any (lo g cap n a b c s sb : Nat) (d : Array Nat) (ha : a < n) (hb : b < n) (hc : c < n) (hn : n ≤ 64) (hs : s ≤ 50) (w : World) (h : SRow 23 w lo g cap n d) (hx : Box w sb (.int .i64 s)) (hne : sb ≠ g) :
    Calls Try.prog 75 #[.slice (some ⟨g, 0, none⟩) n cap, .int .i64 a, .int .i64 b, .int .i64 c, .pointer (some ⟨sb, 0, none⟩)] w fun e w' => e = .returned (.int .i64 ((Sort.median ltN d a b c s).1 : Nat)) ∧ Box w' sb (.int .i64 ((Sort.median ltN d a b c s).2 : Nat)) ∧ w.grownBy w' (some sb) := by
  have HS := hid h
  have HX := hid hx
  obtain ⟨v1, g1⟩ := ord2_vals d a b s
  obtain ⟨v2, g2⟩ := ord2_vals d (Sort.order2 ltN d a b s).2.1 c (Sort.order2 ltN d a b s).2.2
  obtain ⟨r1, hr1⟩ : ∃ r1, Sort.order2 ltN d a b s = r1 := ⟨_, rfl⟩
  rw [hr1] at v1 g1 v2 g2
  obtain ⟨r2, hr2⟩ : ∃ r2, Sort.order2 ltN d r1.2.1 c r1.2.2 = r2 := ⟨_, rfl⟩
  rw [hr2] at v2 g2
  obtain ⟨r3, hr3⟩ : ∃ r3, Sort.order2 ltN d r1.1 r2.1 r2.2.2 = r3 := ⟨_, rfl⟩
  have HM := hid (show Sort.median ltN d a b c s = (r3.2.1, r3.2.2) by unfold Sort.median; simp only [hr1, hr2, hr3])
  have R1 := hid hr1; have R2 := hid hr2; have R3 := hid hr3
  clear h hx hr1 hr2 hr3
  obtain ⟨b1, b2, b3⟩ := r1
  obtain ⟨d1, d2, d3⟩ := r2
  obtain ⟨e1, e2, e3⟩ := r3
  simp only at v1 g1 v2 g2 R2 R3 HM
  have B1 : b1 < n := by omega
  have B2 : b2 < n := by omega
  have D1 : d1 < n := by omega
  clear v1 v2
  go_enter Try.func75, Try.ntmps75
  go_wp2_with (first
    | (go_at_call 78; (fail_if_success have := T1); refine (ord2_any lo g cap n a b s sb d ha hb hn (by omega) _ (HS.out.below (by (repeat (first | (with_reducible assumption) | (with_reducible apply below_refl) | (with_reducible apply below_alloc1) | (with_reducible apply below_drewN1) | (with_reducible apply below_drew1))))) (HX.out.below (by (repeat (first | (with_reducible assumption) | (with_reducible apply below_refl) | (with_reducible apply below_alloc1) | (with_reducible apply below_drewN1) | (with_reducible apply below_drew1))))) hne).mono ?_; rw [R1.out]; rintro e w2 ⟨rfl, hx2, hg2⟩; have T1 := hid (grown_trans (grown_of_below (show Below w.heap.size w _ by (repeat (first | (with_reducible assumption) | (with_reducible apply below_refl) | (with_reducible apply below_alloc1) | (with_reducible apply below_drewN1) | (with_reducible apply below_drew1)))) (some sb)) hg2); have X1 := hid hx2; have S1 := hid (HS.out.grown T1.out hne); clear hx2 hg2)
    | (go_at_call 78; (fail_if_success have := T2); refine (ord2_any lo g cap n b2 c b3 sb d B2 hc hn (by omega) _ (S1.out.below (by (repeat (first | (with_reducible assumption) | (with_reducible apply below_refl) | (with_reducible apply below_alloc1) | (with_reducible apply below_drewN1) | (with_reducible apply below_drew1))))) (X1.out.below (by (repeat (first | (with_reducible assumption) | (with_reducible apply below_refl) | (with_reducible apply below_alloc1) | (with_reducible apply below_drewN1) | (with_reducible apply below_drew1))))) hne).mono ?_; rw [R2.out]; rintro e w3 ⟨rfl, hx2, hg2⟩; have T2 := hid (grown_trans (grown_of_below (show Below w2.heap.size w2 _ by (repeat (first | (with_reducible assumption) | (with_reducible apply below_refl) | (with_reducible apply below_alloc1) | (with_reducible apply below_drewN1) | (with_reducible apply below_drew1)))) (some sb)) hg2); have X2 := hid hx2; have S2 := hid (S1.out.grown T2.out hne); clear hx2 hg2)
    | (go_at_call 78; refine (ord2_any lo g cap n b1 d1 d3 sb d B1 D1 hn (by omega) _ (S2.out.below (by (repeat (first | (with_reducible assumption) | (with_reducible apply below_refl) | (with_reducible apply below_alloc1) | (with_reducible apply below_drewN1) | (with_reducible apply below_drew1))))) (X2.out.below (by (repeat (first | (with_reducible assumption) | (with_reducible apply below_refl) | (with_reducible apply below_alloc1) | (with_reducible apply below_drewN1) | (with_reducible apply below_drew1))))) hne).mono ?_; rw [R3.out]; rintro e w4 ⟨rfl, hx2, hg2⟩; have T3 := hid (grown_trans (grown_of_below (show Below w3.heap.size w3 _ by (repeat (first | (with_reducible assumption) | (with_reducible apply below_refl) | (with_reducible apply below_alloc1) | (with_reducible apply below_drewN1) | (with_reducible apply below_drew1)))) (some sb)) hg2); have X3 := hid hx2; clear hx2 hg2))
  go_ret
  rw [HM.out]
  exact ⟨rfl, X3.out.below (by (repeat (first | (with_reducible assumption) | (with_reducible apply below_refl) | (with_reducible apply below_alloc1) | (with_reducible apply below_drewN1) | (with_reducible apply below_drew1)))), grown_trans (grown_trans (grown_trans T1.out T2.out) T3.out) (grown_of_below (show Below w4.heap.size w4 _ by (repeat (first | (with_reducible assumption) | (with_reducible apply below_refl) | (with_reducible apply below_alloc1) | (with_reducible apply below_drewN1) | (with_reducible apply below_drew1)))) (some sb))⟩
set_option maxRecDepth 100000 in
set_option maxHeartbeats 1600000 in
theorem adj_any (lo g cap n a s sb : Nat) (d : Array Nat) (h1 : 1 ≤ a) (ha : a + 1 < n) (hn : n ≤ 64) (hs : s ≤ 50) (w : World) (h : SRow 23 w lo g cap n d) (hx : Box w sb (.int .i64 s)) (hne : sb ≠ g) :
    Calls Try.prog 74 #[.slice (some ⟨g, 0, none⟩) n cap, .int .i64 a, .pointer (some ⟨sb, 0, none⟩)] w fun e w' => e = .returned (.int .i64 ((Sort.medianAdjacent ltN d a s).1 : Nat)) ∧ Box w' sb (.int .i64 ((Sort.medianAdjacent ltN d a s).2 : Nat)) ∧ w.grownBy w' (some sb) := by
  have HS := hid h
  have HX := hid hx
  clear h hx
  have W1 : IntKind.i64.wrap ((a : Int) - 1) = ((a - 1 : Nat) : Int) := by rw [IntKind.wrap_i64]; omega
  have W2 : IntKind.i64.wrap ((a : Int) + 1) = ((a + 1 : Nat) : Int) := by rw [IntKind.wrap_i64]; omega
  have HM := hid (med_any lo g cap n (a - 1) a (a + 1) s sb d (by omega) (by omega) ha hn hs)
  go_enter Try.func74, Try.ntmps74
  go_wp2_with (first
    | (go_at_call 75; refine (HM.out _ (HS.out.below (by (repeat (first | (with_reducible assumption) | (with_reducible apply below_refl) | (with_reducible apply below_alloc1) | (with_reducible apply below_drewN1) | (with_reducible apply below_drew1))))) (HX.out.below (by (repeat (first | (with_reducible assumption) | (with_reducible apply below_refl) | (with_reducible apply below_alloc1) | (with_reducible apply below_drewN1) | (with_reducible apply below_drew1))))) hne).mono ?_; rintro e w2 ⟨rfl, hx2, hg2⟩; have T1 := hid (grown_trans (grown_of_below (show Below w.heap.size w _ by (repeat (first | (with_reducible assumption) | (with_reducible apply below_refl) | (with_reducible apply below_alloc1) | (with_reducible apply below_drewN1) | (with_reducible apply below_drew1)))) (some sb)) hg2); have X1 := hid hx2; clear hx2 hg2))
  go_ret
  exact ⟨rfl, X1.out.below (by (repeat (first | (with_reducible assumption) | (with_reducible apply below_refl) | (with_reducible apply below_alloc1) | (with_reducible apply below_drewN1) | (with_reducible apply below_drew1)))), grown_trans T1.out (grown_of_below (show Below w2.heap.size w2 _ by (repeat (first | (with_reducible assumption) | (with_reducible apply below_refl) | (with_reducible apply below_alloc1) | (with_reducible apply below_drewN1) | (with_reducible apply below_drew1)))) (some sb))⟩
end Go.Proofs.Ytdldlfefbeflcaa
