/- Contracts: best ages, best times for groups, best gaps. -/
import Derived.Test.YtkgbbagklkffpaaBestC
namespace Go.Proofs.Ytkgbbagklkffpaa
open Go.RowKit
set_option linter.unusedVariables false

set_option maxRecDepth 100000 in
set_option maxHeartbeats 1600000 in
theorem bestAge_any {k : Int} {p s to n pl fl : Nat} {α β ρ σ τ : Rat} (hL : LawOk k (ab .f32 p) (ab .f32 s) ρ σ) (ht : RV .f32 (ab .f32 to) τ) (t0 : 0 < τ) (n1 : 1 ≤ n) (n2 : n ≤ 256) (h : ∀ j, 1 ≤ j → j ≤ n → Mn k (ab .f32 p) (ab .f32 s) (tO (ab .f32 to) n j) n) (hp : RV .f32 (ab .f32 pl) α) (a0 : 0 ≤ α) (hf : RV .f32 (ab .f32 fl) β) (b0 : 0 ≤ β) (w : World) :
    Calls Try.prog 9 #[.agg #[.int .i64 k, .float .f32 p, .float .f32 s], .float .f32 to, .float .f32 pl, .float .f32 fl, .int .i64 n] w (BestRes (tO (ab .f32 to) n) (fun j => ageM k (ab .f32 p) (ab .f32 s) (tO (ab .f32 to) n j) (ab .f32 pl) (ab .f32 fl) n) n w) := by
  obtain ⟨M, hM⟩ : ∃ M, M = (fun j => ageM k (ab .f32 p) (ab .f32 s) (tO (ab .f32 to) n j) (ab .f32 pl) (ab .f32 fl) n) := ⟨_, rfl⟩
  have HG := hid (fun w => isGrid_any hL ht t0 n1 n2 w)
  have HCL := hid (show ∀ j t, 1 ≤ j → j ≤ n → ab .f32 t = tO (ab .f32 to) n j → ∀ (w : World) (b1 b2 b3 b4 : Nat), LawAt w b1 k p s → w.cell? ⟨b2, 0, none⟩ = some (.float .f32 pl) → w.cell? ⟨b3, 0, none⟩ = some (.float .f32 fl) → w.cell? ⟨b4, 0, none⟩ = some (.int .i64 n) →
      Calls Try.prog 28 #[.int .i64 j, .float .f32 t, .pointer (some ⟨b1, 0, none⟩), .pointer (some ⟨b2, 0, none⟩), .pointer (some ⟨b3, 0, none⟩), .pointer (some ⟨b4, 0, none⟩)] w (NumOk (M j) w) from fun j t j1 j2 htj w b1 b2 b3 b4 q1 q2 q3 q4 => by
    have hj := h j j1 j2
    rw [← htj] at hj
    have := bestAge1_any (j := j) hj hp a0 hf b0 w b1 b2 b3 b4 q1 q2 q3 q4
    rw [hM]
    rwa [htj] at this)
  have HCELL := hid (show ∀ w', Below ((((w.alloc (.cells #[.int .i64 k, .float .f32 p, .float .f32 s] 26)).alloc (.cells #[.float .f32 pl] 24)).alloc (.cells #[.float .f32 fl] 24)).alloc (.cells #[.int .i64 n] 2)).heap.size ((((w.alloc (.cells #[.int .i64 k, .float .f32 p, .float .f32 s] 26)).alloc (.cells #[.float .f32 pl] 24)).alloc (.cells #[.float .f32 fl] 24)).alloc (.cells #[.int .i64 n] 2)) w' → LawAt w' w.heap.size k p s ∧ w'.cell? ⟨w.heap.size + 1, 0, none⟩ = some (.float .f32 pl) ∧ w'.cell? ⟨w.heap.size + 1 + 1, 0, none⟩ = some (.float .f32 fl) ∧ w'.cell? ⟨w.heap.size + 1 + 1 + 1, 0, none⟩ = some (.int .i64 n) from fun w' hb => by
    have hcc := (bcell hb).1
    refine ⟨⟨?_, ?_, ?_⟩, ?_, ?_, ?_⟩ <;> (rw [hcc _ _ (by simp; try omega)]; go_simp))
  rw [← hM]
  clear hL ht h hp hf hM
  go_enter Try.func9, Try.ntmps9
  go_wp2_with (first
    | (go_at_call 21; (refine (HG.out _).mono ?_); rintro e wa ⟨rfl, hb⟩; have hBA : Below ((((w.alloc (.cells #[.int .i64 k, .float .f32 p, .float .f32 s] 26)).alloc (.cells #[.float .f32 pl] 24)).alloc (.cells #[.float .f32 fl] 24)).alloc (.cells #[.int .i64 n] 2)).heap.size ((((w.alloc (.cells #[.int .i64 k, .float .f32 p, .float .f32 s] 26)).alloc (.cells #[.float .f32 pl] 24)).alloc (.cells #[.float .f32 fl] 24)).alloc (.cells #[.int .i64 n] 2)) wa := below_trans (by (repeat (first | (with_reducible assumption) | (with_reducible apply below_refl) | (with_reducible apply below_alloc1) | (with_reducible apply below_drewN1) | (with_reducible apply below_drew1)))) hb; clear hb; obtain ⟨⟨c0, c1, c2⟩, c3, c4, c5⟩ := HCELL.out _ hBA)
    | (go_at_call 27; (refine (best_any 28 #[.pointer (some ⟨w.heap.size, 0, none⟩), .pointer (some ⟨w.heap.size + 1, 0, none⟩), .pointer (some ⟨w.heap.size + 1 + 1, 0, none⟩), .pointer (some ⟨w.heap.size + 1 + 1 + 1, 0, none⟩)] to n M n2 _ (fun j t j1 j2 htj w1 hb => by
        have hBB : Below ((((w.alloc (.cells #[.int .i64 k, .float .f32 p, .float .f32 s] 26)).alloc (.cells #[.float .f32 pl] 24)).alloc (.cells #[.float .f32 fl] 24)).alloc (.cells #[.int .i64 n] 2)).heap.size ((((w.alloc (.cells #[.int .i64 k, .float .f32 p, .float .f32 s] 26)).alloc (.cells #[.float .f32 pl] 24)).alloc (.cells #[.float .f32 fl] 24)).alloc (.cells #[.int .i64 n] 2)) w1 := below_trans (show Below ((((w.alloc (.cells #[.int .i64 k, .float .f32 p, .float .f32 s] 26)).alloc (.cells #[.float .f32 pl] 24)).alloc (.cells #[.float .f32 fl] 24)).alloc (.cells #[.int .i64 n] 2)).heap.size ((((w.alloc (.cells #[.int .i64 k, .float .f32 p, .float .f32 s] 26)).alloc (.cells #[.float .f32 pl] 24)).alloc (.cells #[.float .f32 fl] 24)).alloc (.cells #[.int .i64 n] 2)) _ by (repeat (first | (with_reducible assumption) | (with_reducible apply below_refl) | (with_reducible apply below_alloc1) | (with_reducible apply below_drewN1) | (with_reducible apply below_drew1)))) hb
        obtain ⟨e1, e2, e3, e4⟩ := HCELL.out _ hBB
        exact HCL.out j t j1 j2 htj w1 _ _ _ _ e1 e2 e3 e4) (fun _ _ => by kernel_rfl)).mono ?_); rintro e w' ⟨a, c, rfl, r1, r2, hb⟩; have R1 := hid r1; have R2 := hid r2; have hB3 := below_trans (show Below ((((w.alloc (.cells #[.int .i64 k, .float .f32 p, .float .f32 s] 26)).alloc (.cells #[.float .f32 pl] 24)).alloc (.cells #[.float .f32 fl] 24)).alloc (.cells #[.int .i64 n] 2)).heap.size ((((w.alloc (.cells #[.int .i64 k, .float .f32 p, .float .f32 s] 26)).alloc (.cells #[.float .f32 pl] 24)).alloc (.cells #[.float .f32 fl] 24)).alloc (.cells #[.int .i64 n] 2)) _ by (repeat (first | (with_reducible assumption) | (with_reducible apply below_refl) | (with_reducible apply below_alloc1) | (with_reducible apply below_drewN1) | (with_reducible apply below_drew1)))) hb; clear hb r1 r2))
  go_ret3
  exact ⟨a, c, rfl, R1.out, R2.out, below_trans (below_alloc1 (below_alloc1 (below_alloc1 (below_alloc w _)))) (by (repeat (first | (with_reducible assumption) | (with_reducible apply below_refl) | (with_reducible apply below_alloc1) | (with_reducible apply below_drewN1) | (with_reducible apply below_drew1))))⟩
set_option maxRecDepth 100000 in
set_option maxHeartbeats 1600000 in
theorem bestGroup_any {k : Int} {p s to n pl fl : Nat} {α β ρ σ τ : Rat} (hL : LawOk k (ab .f32 p) (ab .f32 s) ρ σ) (ht : RV .f32 (ab .f32 to) τ) (t0 : 0 < τ) (n1 : 1 ≤ n) (n2 : n ≤ 256) (h : ∀ j, 1 ≤ j → j ≤ n → Gr k (ab .f32 p) (ab .f32 s) (tO (ab .f32 to) n j) j) (hp : RV .f32 (ab .f32 pl) α) (a0 : 0 ≤ α) (hf : RV .f32 (ab .f32 fl) β) (b0 : 0 ≤ β) (w : World) :
    Calls Try.prog 10 #[.agg #[.int .i64 k, .float .f32 p, .float .f32 s], .float .f32 to, .float .f32 pl, .float .f32 fl, .int .i64 n] w (BestRes (tO (ab .f32 to) n) (fun j => grpM k (ab .f32 p) (ab .f32 s) (tO (ab .f32 to) n j) (ab .f32 pl) (ab .f32 fl) j) n w) := by
  obtain ⟨M, hM⟩ : ∃ M, M = (fun j => grpM k (ab .f32 p) (ab .f32 s) (tO (ab .f32 to) n j) (ab .f32 pl) (ab .f32 fl) j) := ⟨_, rfl⟩
  have HG := hid (fun w => isGrid_any hL ht t0 n1 n2 w)
  have HCL := hid (show ∀ j t, 1 ≤ j → j ≤ n → ab .f32 t = tO (ab .f32 to) n j → ∀ (w : World) (b1 b2 b3 : Nat), LawAt w b1 k p s → w.cell? ⟨b2, 0, none⟩ = some (.float .f32 pl) → w.cell? ⟨b3, 0, none⟩ = some (.float .f32 fl) →
      Calls Try.prog 29 #[.int .i64 j, .float .f32 t, .pointer (some ⟨b1, 0, none⟩), .pointer (some ⟨b2, 0, none⟩), .pointer (some ⟨b3, 0, none⟩)] w (NumOk (M j) w) from fun j t j1 j2 htj w b1 b2 b3 q1 q2 q3 => by
    have hj := h j j1 j2
    rw [← htj] at hj
    have := bestGroup1_any (j := j) hj hp a0 hf b0 w b1 b2 b3 q1 q2 q3
    rw [hM]
    rwa [htj] at this)
  have HCELL := hid (show ∀ w', Below (((w.alloc (.cells #[.int .i64 k, .float .f32 p, .float .f32 s] 26)).alloc (.cells #[.float .f32 pl] 24)).alloc (.cells #[.float .f32 fl] 24)).heap.size (((w.alloc (.cells #[.int .i64 k, .float .f32 p, .float .f32 s] 26)).alloc (.cells #[.float .f32 pl] 24)).alloc (.cells #[.float .f32 fl] 24)) w' → LawAt w' w.heap.size k p s ∧ w'.cell? ⟨w.heap.size + 1, 0, none⟩ = some (.float .f32 pl) ∧ w'.cell? ⟨w.heap.size + 1 + 1, 0, none⟩ = some (.float .f32 fl) from fun w' hb => by
    have hcc := (bcell hb).1
    refine ⟨⟨?_, ?_, ?_⟩, ?_, ?_⟩ <;> (rw [hcc _ _ (by simp; try omega)]; go_simp))
  rw [← hM]
  clear hL ht h hp hf hM
  go_enter Try.func10, Try.ntmps10
  go_wp2_with (first
    | (go_at_call 21; (refine (HG.out _).mono ?_); rintro e wa ⟨rfl, hb⟩; have hBA : Below (((w.alloc (.cells #[.int .i64 k, .float .f32 p, .float .f32 s] 26)).alloc (.cells #[.float .f32 pl] 24)).alloc (.cells #[.float .f32 fl] 24)).heap.size (((w.alloc (.cells #[.int .i64 k, .float .f32 p, .float .f32 s] 26)).alloc (.cells #[.float .f32 pl] 24)).alloc (.cells #[.float .f32 fl] 24)) wa := below_trans (by (repeat (first | (with_reducible assumption) | (with_reducible apply below_refl) | (with_reducible apply below_alloc1) | (with_reducible apply below_drewN1) | (with_reducible apply below_drew1)))) hb; clear hb; obtain ⟨⟨c0, c1, c2⟩, c3, c4⟩ := HCELL.out _ hBA)
    | (go_at_call 27; (refine (best_any 29 #[.pointer (some ⟨w.heap.size, 0, none⟩), .pointer (some ⟨w.heap.size + 1, 0, none⟩), .pointer (some ⟨w.heap.size + 1 + 1, 0, none⟩)] to n M n2 _ (fun j t j1 j2 htj w1 hb => by
        have hBB : Below (((w.alloc (.cells #[.int .i64 k, .float .f32 p, .float .f32 s] 26)).alloc (.cells #[.float .f32 pl] 24)).alloc (.cells #[.float .f32 fl] 24)).heap.size (((w.alloc (.cells #[.int .i64 k, .float .f32 p, .float .f32 s] 26)).alloc (.cells #[.float .f32 pl] 24)).alloc (.cells #[.float .f32 fl] 24)) w1 := below_trans (show Below (((w.alloc (.cells #[.int .i64 k, .float .f32 p, .float .f32 s] 26)).alloc (.cells #[.float .f32 pl] 24)).alloc (.cells #[.float .f32 fl] 24)).heap.size (((w.alloc (.cells #[.int .i64 k, .float .f32 p, .float .f32 s] 26)).alloc (.cells #[.float .f32 pl] 24)).alloc (.cells #[.float .f32 fl] 24)) _ by (repeat (first | (with_reducible assumption) | (with_reducible apply below_refl) | (with_reducible apply below_alloc1) | (with_reducible apply below_drewN1) | (with_reducible apply below_drew1)))) hb
        obtain ⟨e1, e2, e3⟩ := HCELL.out _ hBB
        exact HCL.out j t j1 j2 htj w1 _ _ _ e1 e2 e3) (fun _ _ => by kernel_rfl)).mono ?_); rintro e w' ⟨a, c, rfl, r1, r2, hb⟩; have R1 := hid r1; have R2 := hid r2; have hB3 := below_trans (show Below (((w.alloc (.cells #[.int .i64 k, .float .f32 p, .float .f32 s] 26)).alloc (.cells #[.float .f32 pl] 24)).alloc (.cells #[.float .f32 fl] 24)).heap.size (((w.alloc (.cells #[.int .i64 k, .float .f32 p, .float .f32 s] 26)).alloc (.cells #[.float .f32 pl] 24)).alloc (.cells #[.float .f32 fl] 24)) _ by (repeat (first | (with_reducible assumption) | (with_reducible apply below_refl) | (with_reducible apply below_alloc1) | (with_reducible apply below_drewN1) | (with_reducible apply below_drew1)))) hb; clear hb r1 r2))
  go_ret3
  exact ⟨a, c, rfl, R1.out, R2.out, below_trans (below_alloc1 (below_alloc1 (below_alloc w _))) (by (repeat (first | (with_reducible assumption) | (with_reducible apply below_refl) | (with_reducible apply below_alloc1) | (with_reducible apply below_drewN1) | (with_reducible apply below_drew1))))⟩
set_option maxRecDepth 100000 in
set_option maxHeartbeats 1600000 in
theorem bestGap_any {k : Int} {p s to n pl fl c0 : Nat} {α β ρ σ τ : Rat} (hL : LawOk k (ab .f32 p) (ab .f32 s) ρ σ) (ht : RV .f32 (ab .f32 to) τ) (t0 : 0 < τ) (n1 : 1 ≤ n) (n2 : n ≤ 256) (h : ∀ j, 1 ≤ j → j ≤ n → Lk k (ab .f32 p) (ab .f32 s) (tO (ab .f32 to) n j) c0) (hp : RV .f32 (ab .f32 pl) α) (a0 : 0 ≤ α) (hf : RV .f32 (ab .f32 fl) β) (b0 : 0 ≤ β) (w : World) :
    Calls Try.prog 11 #[.agg #[.int .i64 k, .float .f32 p, .float .f32 s], .float .f32 to, .float .f32 pl, .float .f32 fl, .int .i64 n, .int .i64 c0] w (BestRes (tO (ab .f32 to) n) (fun j => inM k (ab .f32 p) (ab .f32 s) (tO (ab .f32 to) n j) (ab .f32 pl) (ab .f32 fl) c0) n w) := by
  obtain ⟨M, hM⟩ : ∃ M, M = (fun j => inM k (ab .f32 p) (ab .f32 s) (tO (ab .f32 to) n j) (ab .f32 pl) (ab .f32 fl) c0) := ⟨_, rfl⟩
  have HG := hid (fun w => isGrid_any hL ht t0 n1 n2 w)
  have HCL := hid (show ∀ j t, 1 ≤ j → j ≤ n → ab .f32 t = tO (ab .f32 to) n j → ∀ (w : World) (b1 b2 b3 b4 : Nat), LawAt w b1 k p s → w.cell? ⟨b2, 0, none⟩ = some (.float .f32 pl) → w.cell? ⟨b3, 0, none⟩ = some (.float .f32 fl) → w.cell? ⟨b4, 0, none⟩ = some (.int .i64 c0) →
      Calls Try.prog 30 #[.int .i64 j, .float .f32 t, .pointer (some ⟨b1, 0, none⟩), .pointer (some ⟨b2, 0, none⟩), .pointer (some ⟨b3, 0, none⟩), .pointer (some ⟨b4, 0, none⟩)] w (NumOk (M j) w) from fun j t j1 j2 htj w b1 b2 b3 b4 q1 q2 q3 q4 => by
    have hj := h j j1 j2
    rw [← htj] at hj
    have := bestGap1_any (j := j) hj hp a0 hf b0 w b1 b2 b3 b4 q1 q2 q3 q4
    rw [hM]
    rwa [htj] at this)
  have HCELL := hid (show ∀ w', Below ((((w.alloc (.cells #[.int .i64 k, .float .f32 p, .float .f32 s] 26)).alloc (.cells #[.float .f32 pl] 24)).alloc (.cells #[.float .f32 fl] 24)).alloc (.cells #[.int .i64 c0] 2)).heap.size ((((w.alloc (.cells #[.int .i64 k, .float .f32 p, .float .f32 s] 26)).alloc (.cells #[.float .f32 pl] 24)).alloc (.cells #[.float .f32 fl] 24)).alloc (.cells #[.int .i64 c0] 2)) w' → LawAt w' w.heap.size k p s ∧ w'.cell? ⟨w.heap.size + 1, 0, none⟩ = some (.float .f32 pl) ∧ w'.cell? ⟨w.heap.size + 1 + 1, 0, none⟩ = some (.float .f32 fl) ∧ w'.cell? ⟨w.heap.size + 1 + 1 + 1, 0, none⟩ = some (.int .i64 c0) from fun w' hb => by
    have hcc := (bcell hb).1
    refine ⟨⟨?_, ?_, ?_⟩, ?_, ?_, ?_⟩ <;> (rw [hcc _ _ (by simp; try omega)]; go_simp))
  rw [← hM]
  clear hL ht h hp hf hM
  go_enter Try.func11, Try.ntmps11
  go_wp2_with (first
    | (go_at_call 21; (refine (HG.out _).mono ?_); rintro e wa ⟨rfl, hb⟩; have hBA : Below ((((w.alloc (.cells #[.int .i64 k, .float .f32 p, .float .f32 s] 26)).alloc (.cells #[.float .f32 pl] 24)).alloc (.cells #[.float .f32 fl] 24)).alloc (.cells #[.int .i64 c0] 2)).heap.size ((((w.alloc (.cells #[.int .i64 k, .float .f32 p, .float .f32 s] 26)).alloc (.cells #[.float .f32 pl] 24)).alloc (.cells #[.float .f32 fl] 24)).alloc (.cells #[.int .i64 c0] 2)) wa := below_trans (by (repeat (first | (with_reducible assumption) | (with_reducible apply below_refl) | (with_reducible apply below_alloc1) | (with_reducible apply below_drewN1) | (with_reducible apply below_drew1)))) hb; clear hb; obtain ⟨⟨d0, d1, d2⟩, d3, d4, d5⟩ := HCELL.out _ hBA)
    | (go_at_call 27; (refine (best_any 30 #[.pointer (some ⟨w.heap.size, 0, none⟩), .pointer (some ⟨w.heap.size + 1, 0, none⟩), .pointer (some ⟨w.heap.size + 1 + 1, 0, none⟩), .pointer (some ⟨w.heap.size + 1 + 1 + 1, 0, none⟩)] to n M n2 _ (fun j t j1 j2 htj w1 hb => by
        have hBB : Below ((((w.alloc (.cells #[.int .i64 k, .float .f32 p, .float .f32 s] 26)).alloc (.cells #[.float .f32 pl] 24)).alloc (.cells #[.float .f32 fl] 24)).alloc (.cells #[.int .i64 c0] 2)).heap.size ((((w.alloc (.cells #[.int .i64 k, .float .f32 p, .float .f32 s] 26)).alloc (.cells #[.float .f32 pl] 24)).alloc (.cells #[.float .f32 fl] 24)).alloc (.cells #[.int .i64 c0] 2)) w1 := below_trans (show Below ((((w.alloc (.cells #[.int .i64 k, .float .f32 p, .float .f32 s] 26)).alloc (.cells #[.float .f32 pl] 24)).alloc (.cells #[.float .f32 fl] 24)).alloc (.cells #[.int .i64 c0] 2)).heap.size ((((w.alloc (.cells #[.int .i64 k, .float .f32 p, .float .f32 s] 26)).alloc (.cells #[.float .f32 pl] 24)).alloc (.cells #[.float .f32 fl] 24)).alloc (.cells #[.int .i64 c0] 2)) _ by (repeat (first | (with_reducible assumption) | (with_reducible apply below_refl) | (with_reducible apply below_alloc1) | (with_reducible apply below_drewN1) | (with_reducible apply below_drew1)))) hb
        obtain ⟨e1, e2, e3, e4⟩ := HCELL.out _ hBB
        exact HCL.out j t j1 j2 htj w1 _ _ _ _ e1 e2 e3 e4) (fun _ _ => by kernel_rfl)).mono ?_); rintro e w' ⟨a, c, rfl, r1, r2, hb⟩; have R1 := hid r1; have R2 := hid r2; have hB3 := below_trans (show Below ((((w.alloc (.cells #[.int .i64 k, .float .f32 p, .float .f32 s] 26)).alloc (.cells #[.float .f32 pl] 24)).alloc (.cells #[.float .f32 fl] 24)).alloc (.cells #[.int .i64 c0] 2)).heap.size ((((w.alloc (.cells #[.int .i64 k, .float .f32 p, .float .f32 s] 26)).alloc (.cells #[.float .f32 pl] 24)).alloc (.cells #[.float .f32 fl] 24)).alloc (.cells #[.int .i64 c0] 2)) _ by (repeat (first | (with_reducible assumption) | (with_reducible apply below_refl) | (with_reducible apply below_alloc1) | (with_reducible apply below_drewN1) | (with_reducible apply below_drew1)))) hb; clear hb r1 r2))
  go_ret3
  exact ⟨a, c, rfl, R1.out, R2.out, below_trans (below_alloc1 (below_alloc1 (below_alloc1 (below_alloc w _)))) (by (repeat (first | (with_reducible assumption) | (with_reducible apply below_refl) | (with_reducible apply below_alloc1) | (with_reducible apply below_drewN1) | (with_reducible apply below_drew1))))⟩
end Go.Proofs.Ytkgbbagklkffpaa
