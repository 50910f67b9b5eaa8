/- Contracts: drawing a law. -/
import Derived.Test.YtkgbbagklkffpaaSrc
import Derived.Test.YtkgbbagklkffpaaHalf
import Derived.Test.YtkgbbagklkffpaaShareA
namespace Go.Proofs.Ytkgbbagklkffpaa
open Go.RowKit
set_option linter.unusedVariables false

/-- The result's cells and the local's. -/
structure LB (w : World) (R B : Nat) (x y z : Value) : Prop where
  r0 : w.cell? ⟨R, 0, none⟩ = some (.int .i64 0)
  r1 : w.cell? ⟨R, 1, none⟩ = some (.float .f32 0)
  r2 : w.cell? ⟨R, 2, none⟩ = some (.float .f32 0)
  g0 : w.frozen? ⟨R, 0, none⟩ = false
  g1 : w.frozen? ⟨R, 1, none⟩ = false
  g2 : w.frozen? ⟨R, 2, none⟩ = false
  b0 : w.cell? ⟨B, 0, none⟩ = some x
  b1 : w.cell? ⟨B, 1, none⟩ = some y
  b2 : w.cell? ⟨B, 2, none⟩ = some z
  f1 : w.frozen? ⟨B, 1, none⟩ = false
  f2 : w.frozen? ⟨B, 2, none⟩ = false
section
variable {w w' : World} {R B b : Nat} {x y z : Value} (h : LB w R B x y z)
include h
theorem LB.box (hg : w.grownBy w' (some b)) (nR : R ≠ b) (nB : B ≠ b) : LB w' R B x y z := by
  have hR : R < w.heap.size := World.block_lt_of_cell? w _ h.r0
  have hB : B < w.heap.size := World.block_lt_of_cell? w _ h.b0
  have n1 : some R ≠ some b := fun e => nR (Option.some.inj e)
  have n2 : some B ≠ some b := fun e => nB (Option.some.inj e)
  have fz : ∀ (A o : Nat), A < w.heap.size → some A ≠ some b → w'.frozen? ⟨A, o, none⟩ = w.frozen? ⟨A, o, none⟩ := by
    intro A o hA hne
    simp only [World.frozen?, hg.block A hA hne]
  exact ⟨hg.cell h.r0 n1, hg.cell h.r1 n1, hg.cell h.r2 n1, by rw [fz _ _ hR n1]; exact h.g0, by rw [fz _ _ hR n1]; exact h.g1, by rw [fz _ _ hR n1]; exact h.g2, hg.cell h.b0 n2, hg.cell h.b1 n2, hg.cell h.b2 n2, by rw [fz _ _ hB n2]; exact h.f1, by rw [fz _ _ hB n2]; exact h.f2⟩
theorem LB.drewN (n : Nat) : LB (w.drewN n) R B x y z := by
  obtain ⟨a1, a2, a3, a4, a5, a6, a7, a8, a9, b1, b2⟩ := h
  exact ⟨a1, a2, a3, a4, a5, a6, a7, a8, a9, b1, b2⟩
theorem LB.set1 (hne : R ≠ B) (v : Value) : LB (w.setCell ⟨B, 1, none⟩ v) R B x v z := by
  have hR : R < w.heap.size := World.block_lt_of_cell? w _ h.r0
  have hB : B < w.heap.size := World.block_lt_of_cell? w _ h.b0
  obtain ⟨a1, a2, a3, a4, a5, a6, a7, a8, a9, b1, b2⟩ := h
  constructor <;> go_simp
theorem LB.set2 (hne : R ≠ B) (v : Value) : LB (w.setCell ⟨B, 2, none⟩ v) R B x y v := by
  have hR : R < w.heap.size := World.block_lt_of_cell? w _ h.r0
  have hB : B < w.heap.size := World.block_lt_of_cell? w _ h.b0
  obtain ⟨a1, a2, a3, a4, a5, a6, a7, a8, a9, b1, b2⟩ := h
  constructor <;> go_simp
end
theorem lb_made (w w1 : World) (b : Nat) (x1 : Int) (hg : (w.alloc (.cells #[.int .i64 0, .float .f32 0, .float .f32 0] 26)).grownBy w1 (some b)) (nR : w.heap.size ≠ b) : LB (w1.alloc (.cells #[.int .i64 x1, .float .f32 0, .float .f32 0] 26)) w.heap.size w1.heap.size (.int .i64 x1) (.float .f32 0) (.float .f32 0) := by
  have n1 : some w.heap.size ≠ some b := fun e => nR (Option.some.inj e)
  have hz : w.heap.size < w1.heap.size := Nat.lt_of_lt_of_le (by simp) hg.size
  have fz : ∀ o, w1.frozen? ⟨w.heap.size, o, none⟩ = (w.alloc (.cells #[.int .i64 0, .float .f32 0, .float .f32 0] 26)).frozen? ⟨w.heap.size, o, none⟩ := by
    intro o
    simp only [World.frozen?, hg.block w.heap.size (by simp) n1]
  have q0 : w1.cell? ⟨w.heap.size, 0, none⟩ = some (.int .i64 0) := hg.cell (by simp) n1
  have q1 : w1.cell? ⟨w.heap.size, 1, none⟩ = some (.float .f32 0) := hg.cell (by simp) n1
  have q2 : w1.cell? ⟨w.heap.size, 2, none⟩ = some (.float .f32 0) := hg.cell (by simp) n1
  have f0 : w1.frozen? ⟨w.heap.size, 0, none⟩ = false := by rw [fz]; simp
  have f1 : w1.frozen? ⟨w.heap.size, 1, none⟩ = false := by rw [fz]; simp
  have f2 : w1.frozen? ⟨w.heap.size, 2, none⟩ = false := by rw [fz]; simp
  have hne : w.heap.size ≠ w1.heap.size := by omega
  constructor <;> first | (simp; done) | go_simp
theorem lb_done {w : World} {R B : Nat} {x y z u v t : Value} (h : LB w R B x y z) : (((w.setCell ⟨R, 0, none⟩ u).setCell ⟨R, 1, none⟩ v).setCell ⟨R, 2, none⟩ t).cell? ⟨R, 0, none⟩ = some u ∧ (((w.setCell ⟨R, 0, none⟩ u).setCell ⟨R, 1, none⟩ v).setCell ⟨R, 2, none⟩ t).cell? ⟨R, 1, none⟩ = some v ∧ (((w.setCell ⟨R, 0, none⟩ u).setCell ⟨R, 1, none⟩ v).setCell ⟨R, 2, none⟩ t).cell? ⟨R, 2, none⟩ = some t := by
  obtain ⟨a1, a2, a3, a4, a5, a6, a7, a8, a9, b1, b2⟩ := h
  refine ⟨?_, ?_, ?_⟩ <;> go_simp
set_option maxRecDepth 100000 in
set_option maxHeartbeats 3200000 in
theorem drawLaw_any (w0 : World) (b : Nat) (vc : Value) (cs : List Int) (at_ sd : Int) (w : World) (hat : at_ ≤ 1000000) (h : SrcAt w0 w b vc cs at_ sd) :
    Calls Try.prog 20 #[.pointer (some ⟨b, 0, none⟩)] w fun e w' => ∃ K P Q : Nat, e = .returned (.agg #[.int .i64 K, .float .f32 (fq (2 + P)), .float .f32 (fq (2 * (1 + Q)))]) ∧ K < 4 ∧ P < 11 ∧ Q < 32 ∧ Below w0.heap.size w0 w' := by
  have HS := hid h
  have hbl := h.lt
  have hfar := h.far
  have hsz := h.below.size
  clear h
  have nR : w.heap.size ≠ b := fun e => by omega
  go_enter Try.func20, Try.ntmps20
  go_wp2_with (first
    | ((fail_if_success (have := HS1)); go_at_call 39; (refine (pick_any w0 b vc cs at_ sd 4 (by omega) _ (by omega) (HS.out.keep (by (repeat (first | (with_reducible assumption) | (with_reducible apply below_refl) | (with_reducible apply below_alloc1) | (with_reducible apply below_drewN1) | (with_reducible apply below_drew1)))))).mono ?_); rintro e w1 ⟨x1, sd1, rfl, hx0, hx1, hS, hg⟩; have HS1 := hid hS; have hz1 : w.heap.size < w1.heap.size := Nat.lt_of_lt_of_le (by simp) hg.size; obtain ⟨K, rfl⟩ := Int.eq_ofNat_of_zero_le hx0; have LB1 := hid (lb_made w w1 b (K : Int) hg nR); clear hS hg)
    | ((fail_if_success (have := HS2)); go_at_call 39; (refine (pick_any w0 b vc cs (at_ + 1) sd1 11 (by omega) _ (by omega) (HS1.out.keep (by (repeat (first | (with_reducible assumption) | (with_reducible apply below_refl) | (with_reducible apply below_alloc1) | (with_reducible apply below_drewN1) | (with_reducible apply below_drew1)))))).mono ?_); rintro e w2 ⟨x2, sd2, rfl, hy0, hy1, hS, hg⟩; have HS2 := hid hS; have hz2 : w1.heap.size < w2.heap.size := Nat.lt_of_lt_of_le (by simp) hg.size; obtain ⟨P, rfl⟩ := Int.eq_ofNat_of_zero_le hy0; have LB2 := hid (LB1.out.box hg nR (by omega)); have W2 : IntKind.i64.wrap (2 + (P : Int)) = ((2 + P : Nat) : Int) := (by rw [IntKind.wrap_i64]; omega); obtain ⟨b0, b1, b2, f1, f2⟩ := And.intro LB2.out.b0 (And.intro LB2.out.b1 (And.intro LB2.out.b2 (And.intro LB2.out.f1 LB2.out.f2))); clear hS hg)
    | ((fail_if_success (have := HX2)); refine upon_float rfl ?_; intro r2 n2 hr; go_simp; (obtain rfl : fq (2 + P) = r2 := (by have h1 := (fq_some (2 + P) (by omega)).1; unfold fqX at h1; rw [ab_ofInt, show ab .f32 1082130432 = some cfour from by decide, show (2 : Int) + (P : Int) = ((2 + P : Nat) : Int) by omega, h1] at hr; exact (ab_some hr).1)); have HX2 := hid (LB.set1 (LB.drewN LB2.out n2) (by omega) (.float .f32 (fq (2 + P)))); clear hr)
    | ((fail_if_success (have := HS3)); go_at_call 39; (refine (pick_any w0 b vc cs (at_ + 1 + 1) sd2 32 (by omega) _ (by omega) (HS2.out.keepB (B := w1.heap.size) (((below_drewN w2 n2).mono (Nat.le_of_lt hz2)).setCell (p := ⟨w1.heap.size, 1, none⟩) (Nat.le_refl _) _) HS1.out.lt)).mono ?_); rintro e w3 ⟨x3, sd3, rfl, hw0, hw1, hS, hg⟩; have HS3 := hid hS; have hz3 : w2.heap.size ≤ w3.heap.size := Nat.le_trans (by simp [World.setCell]) hg.size; obtain ⟨Q, rfl⟩ := Int.eq_ofNat_of_zero_le hw0; have LB3 := hid (HX2.out.box hg nR (by have := HS1.out.lt; omega)); clear b0 b1 b2 f1 f2; have W3 : IntKind.i64.wrap (1 + (Q : Int)) = ((1 + Q : Nat) : Int) := (by rw [IntKind.wrap_i64]; omega); obtain ⟨b0, b1, b2, f1, f2⟩ := And.intro LB3.out.b0 (And.intro LB3.out.b1 (And.intro LB3.out.b2 (And.intro LB3.out.f1 LB3.out.f2))); obtain ⟨r0, r1, r2, g0, g1, g2⟩ := And.intro LB3.out.r0 (And.intro LB3.out.r1 (And.intro LB3.out.r2 (And.intro LB3.out.g0 (And.intro LB3.out.g1 LB3.out.g2)))); have hne : w.heap.size ≠ w1.heap.size := (by omega); clear hS hg)
    | ((fail_if_success (have := HX3)); refine upon_float rfl ?_; intro r4 n3 hr; go_simp; (obtain rfl : fq (2 * (1 + Q)) = r4 := (by have h1 := half_some (1 + Q) (by omega); rw [ab_ofInt, show ab .f32 1073741824 = some 1073741824 from by decide, show (1 : Int) + (Q : Int) = ((1 + Q : Nat) : Int) by omega, h1] at hr; exact (ab_some hr).1)); have HX3 := hid (LB.set2 (LB.drewN LB3.out n3) (by omega) (.float .f32 (fq (2 * (1 + Q))))); clear hr))
  obtain ⟨c0, c1, c2⟩ := lb_done (u := .int .i64 K) (v := .float .f32 (fq (2 + P))) (t := .float .f32 (fq (2 * (1 + Q)))) HX3.out
  have hb9 : Below w0.heap.size w0 (((((w3.drewN n3).setCell ⟨w1.heap.size, 2, none⟩ (.float .f32 (fq (2 * (1 + Q))))).setCell ⟨w.heap.size, 0, none⟩ (.int .i64 K)).setCell ⟨w.heap.size, 1, none⟩ (.float .f32 (fq (2 + P)))).setCell ⟨w.heap.size, 2, none⟩ (.float .f32 (fq (2 * (1 + Q))))) :=
    below_setCell1 (below_setCell1 (below_setCell1 (below_setCell1 (below_drewN1 HS3.out.below) (by show w0.heap.size ≤ w1.heap.size; omega)) hsz) hsz) hsz
  (try simp only [Exit.inBlock, Exit.then])
  refine bodyPost_ret (by simp [results, Try.results20, go_sem, c0, c1, c2]; try rfl) rfl ?_
  exact ⟨K, P, Q, rfl, by omega, by omega, by omega, hb9⟩
set_option maxRecDepth 100000 in
set_option maxHeartbeats 1600000 in
theorem r8Law_any (vc : Value) (cs : List Int) (w : World) (hrow : RowAt w vc (cs.map (Value.int .u8))) (hby : ∀ c ∈ cs, 0 ≤ c ∧ c ≤ 255) :
    Calls Try.prog 5 #[vc] w fun e w' => ∃ K P Q : Nat, e = .returned (.agg #[.int .i64 K, .float .f32 (fq (2 + P)), .float .f32 (fq (2 * (1 + Q)))]) ∧ K < 4 ∧ P < 11 ∧ Q < 32 ∧ Below w.heap.size w w' := by
  have HR := hid hrow; have HB := hid hby
  clear hrow hby
  go_enter Try.func5, Try.ntmps5
  go_wp2_with (first
    | (go_at_call 19; (refine (from_any (w.alloc (.cells #[.int .i64 0, .float .f32 0, .float .f32 0] 26)) vc cs _ (HR.out.below (by (repeat (first | (with_reducible assumption) | (with_reducible apply below_refl) | (with_reducible apply below_alloc1) | (with_reducible apply below_drewN1) | (with_reducible apply below_drew1))))) HB.out (below_refl _)).mono ?_); rintro e w1 ⟨b, rfl, hb0, hS, hb⟩; have HS := hid hS; have HB1 := hid hb; clear hS hb)
    | (go_at_call 20; (refine (drawLaw_any (w.alloc (.cells #[.int .i64 0, .float .f32 0, .float .f32 0] 26)) b vc cs 0 0 _ (by omega) (HS.out.keep (by (repeat (first | (with_reducible assumption) | (with_reducible apply below_refl) | (with_reducible apply below_alloc1) | (with_reducible apply below_drewN1) | (with_reducible apply below_drew1)))))).mono ?_); rintro e w2 ⟨K, P, Q, rfl, hK, hP, hQ, hb⟩; have HB2 := hid hb; have r0 : w2.cell? ⟨w.heap.size, 0, none⟩ = some (.int .i64 0) := (by rw [hb.cell (p := ⟨w.heap.size, 0, none⟩) (by simp)]; simp); have r1 : w2.cell? ⟨w.heap.size, 1, none⟩ = some (.float .f32 0) := (by rw [hb.cell (p := ⟨w.heap.size, 1, none⟩) (by simp)]; simp); have r2 : w2.cell? ⟨w.heap.size, 2, none⟩ = some (.float .f32 0) := (by rw [hb.cell (p := ⟨w.heap.size, 2, none⟩) (by simp)]; simp); have g0 : w2.frozen? ⟨w.heap.size, 0, none⟩ = false := (by rw [hb.frozen (p := ⟨w.heap.size, 0, none⟩) (by simp)]; simp); have g1 : w2.frozen? ⟨w.heap.size, 1, none⟩ = false := (by rw [hb.frozen (p := ⟨w.heap.size, 1, none⟩) (by simp)]; simp); have g2 : w2.frozen? ⟨w.heap.size, 2, none⟩ = false := (by rw [hb.frozen (p := ⟨w.heap.size, 2, none⟩) (by simp)]; simp); clear hb))
  have c0 : (((w2.setCell ⟨w.heap.size, 0, none⟩ (.int .i64 K)).setCell ⟨w.heap.size, 1, none⟩ (.float .f32 (fq (2 + P)))).setCell ⟨w.heap.size, 2, none⟩ (.float .f32 (fq (2 * (1 + Q))))).cell? ⟨w.heap.size, 0, none⟩ = some (.int .i64 K) := by go_simp
  have c1 : (((w2.setCell ⟨w.heap.size, 0, none⟩ (.int .i64 K)).setCell ⟨w.heap.size, 1, none⟩ (.float .f32 (fq (2 + P)))).setCell ⟨w.heap.size, 2, none⟩ (.float .f32 (fq (2 * (1 + Q))))).cell? ⟨w.heap.size, 1, none⟩ = some (.float .f32 (fq (2 + P))) := by go_simp
  have c2 : (((w2.setCell ⟨w.heap.size, 0, none⟩ (.int .i64 K)).setCell ⟨w.heap.size, 1, none⟩ (.float .f32 (fq (2 + P)))).setCell ⟨w.heap.size, 2, none⟩ (.float .f32 (fq (2 * (1 + Q))))).cell? ⟨w.heap.size, 2, none⟩ = some (.float .f32 (fq (2 * (1 + Q)))) := by go_simp
  have hb9 : Below w.heap.size w (((w2.setCell ⟨w.heap.size, 0, none⟩ (.int .i64 K)).setCell ⟨w.heap.size, 1, none⟩ (.float .f32 (fq (2 + P)))).setCell ⟨w.heap.size, 2, none⟩ (.float .f32 (fq (2 * (1 + Q))))) := below_setCell1 (below_setCell1 (below_setCell1 (below_trans (below_alloc _ _) HB2.out) (Nat.le_refl _)) (Nat.le_refl _)) (Nat.le_refl _)
  (try simp only [Exit.inBlock, Exit.then])
  refine bodyPost_ret (by simp [results, Try.results5, go_sem, c0, c1, c2]; try rfl) rfl ?_
  exact ⟨K, P, Q, rfl, hK, hP, hQ, hb9⟩
end Go.Proofs.Ytkgbbagklkffpaa
