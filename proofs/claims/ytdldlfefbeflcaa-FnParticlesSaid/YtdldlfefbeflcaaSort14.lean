/- slices.Sort at float32. -/
import Derived.Test.YtdldlfefbeflcaaSort13
namespace Go.Proofs.Ytdldlfefbeflcaa
open Go.RowKit

set_option maxHeartbeats 1600000 in
theorem sort_any (lo g cap n : Nat) (d : Array Nat) (hn : n ≤ 64) (w : World) (hlo : lo ≤ w.heap.size) (h : SRow 23 w lo g cap n d) :
    Calls Try.prog 29 #[.slice (some ⟨g, 0, none⟩) n cap] w fun e w' => SOk 23 lo g cap n (Sort.sort ltN d) e w' w := by
  have HS := hid h
  have hsz := hid (show d.size = n from h.2.1)
  clear h
  have hk : Sort.bitsLen n ≤ 62 := (Sort.bitsLen_le_iff n 62).2 (by omega)
  obtain ⟨k, hk2⟩ : ∃ k, Sort.bitsLen n = k := ⟨_, rfl⟩
  have HL := hid (fun w => len_any n hn w)
  rw [hk2] at HL hk
  have HP := hid (show ∀ w : World, SRow 23 w lo g cap n d → lo ≤ w.heap.size → Sort.Below ltN 0 n d → Calls Try.prog 50 #[.slice (some ⟨g, 0, none⟩) n cap, .int .i64 0, .int .i64 n, .int .i64 k] w fun e w' => e = .returned (.tuple #[]) ∧ At2 23 lo g cap n w (Sort.pdq ltN d 0 n k true true) w' from fun w h1 h2 h3 => pdq_any lo g cap n hn (n + 1) 0 n k d w (by omega) h1 h2 (Nat.zero_le _) (Nat.le_refl _) (by omega) h3)
  have HR := hid (show Sort.pdq ltN d 0 n k true true = Sort.sort ltN d by rw [← hk2, ← hsz.out]; rfl)
  clear hk2
  have W1 : IntKind.u64.wrap (n : Int) = (n : Int) := by rw [IntKind.wrap_u64]; omega
  have B0 := hid (show Sort.Below ltN 0 n d from Or.inl rfl)
  go_enter Try.func29, Try.ntmps29
  go_wp2_with (first
    | (go_at_call 51; refine (HL.out _).mono ?_; rintro e w' ⟨rfl, hw⟩; replace hw := hw.symm; subst hw)
    | (go_at_call 50; go_loud (refine (HP.out _ (HS.out.below (by (repeat (first | (with_reducible assumption) | (with_reducible apply below_refl) | (with_reducible apply below_alloc1) | (with_reducible apply below_drewN1) | (with_reducible apply below_drew1))))) (Nat.le_trans hlo (Below.size (show Below w.heap.size w _ by (repeat (first | (with_reducible assumption) | (with_reducible apply below_refl) | (with_reducible apply below_alloc1) | (with_reducible apply below_drewN1) | (with_reducible apply below_drew1)))))) B0.out).mono ?_; rintro e w2 ⟨rfl, hw2⟩)))
  go_end0
  rw [← HR.out]
  exact ⟨rfl, hw2.1.below (by (repeat (first | (with_reducible assumption) | (with_reducible apply below_refl) | (with_reducible apply below_alloc1) | (with_reducible apply below_drewN1) | (with_reducible apply below_drew1)))), (Below.mono (show Below w.heap.size w _ by (repeat (first | (with_reducible assumption) | (with_reducible apply below_refl) | (with_reducible apply below_alloc1) | (with_reducible apply below_drewN1) | (with_reducible apply below_drew1)))) hlo).trans (hw2.2.1.trans (Below.mono (show Below w2.heap.size w2 _ by (repeat (first | (with_reducible assumption) | (with_reducible apply below_refl) | (with_reducible apply below_alloc1) | (with_reducible apply below_drewN1) | (with_reducible apply below_drew1)))) hw2.2.2))⟩
theorem sort_list (xs : List Nat) : (Sort.sort ltN xs.toArray).toList = xs.mergeSort (fun x y => decide (x ≤ y)) := by
  obtain ⟨hp, hs⟩ := Sort.sort_sorts ltN swoN xs.toArray
  have := Sort.sorted_unique_holds (lt := ltN) swoN ltN_eq xs.toArray _ hp hs
  rw [this]
  congr 1
  funext x y
  have : (decide (x ≤ y)) = !(decide (y < x)) := by
    by_cases h : y < x
    · simp [h, Nat.not_le.2 h]
    · simp [h, Nat.not_lt.1 h]
  rw [this]
  rfl
end Go.Proofs.Ytdldlfefbeflcaa
