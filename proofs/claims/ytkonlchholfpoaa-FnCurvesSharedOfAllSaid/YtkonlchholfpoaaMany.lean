/- areWithin, areMany: lists of numbers within bounds. -/
import Derived.Test.YtkonlchholfpoaaSeq
import Derived.Test.YtkonlchholfpoaaInt
namespace Go.Proofs.Ytkonlchholfpoaa
open Go.RowKit

def allIn (xs : List Int) (low high : Int) : Bool := xs.all fun x => inB x low high

theorem row_cell {w wr : World} {c : Int → Value} {xs : List Int} {b off : Nat} {B : Nat} (hc : ∀ i x, (xs.map c)[i]? = some x → w.cell? ⟨b, off + i, none⟩ = some x) (hw : Below w.heap.size w wr) (k : Nat) (h : k < xs.length) :
    wr.cell? ⟨b, off + k, none⟩ = some (c xs[k]) := by
  have h1 := hc k (c xs[k]) (by simp [h])
  rw [hw.cell (p := ⟨b, off + k, none⟩) (World.block_lt_of_cell? w _ h1)]; exact h1
set_option maxHeartbeats 400000 in
theorem areWithin_pred (x low high : Int) (b1 b2 : Nat) (w : World) (h1 : w.cell? ⟨b1, 0, none⟩ = some (.int .i64 low)) (h2 : w.cell? ⟨b2, 0, none⟩ = some (.int .i64 high)) :
    Calls Try.prog 97 #[.int .i64 x, .pointer (some ⟨b1, 0, none⟩), .pointer (some ⟨b2, 0, none⟩)] w fun e w' => e = .returned (.bool (!inB x low high)) ∧ Below w.heap.size w w' := by
  go_enter Try.func97, Try.ntmps97
  go_wp2_with (first | (go_at_call 52; refine (within_any _ _ _ _).mono ?_; rintro e w' ⟨rfl, hb⟩; have hB : Below w.heap.size w w' := below_trans (by (repeat (first | (with_reducible assumption) | (with_reducible apply below_refl) | (with_reducible apply below_alloc1) | (with_reducible apply below_drewN1) | (with_reducible apply below_drew1)))) hb; have hC := (bcell hB).1; clear hb))
  go_ret
  exact ⟨rfl, by assumption⟩

set_option maxHeartbeats 800000 in
theorem areWithin_any (v : Value) (xs : List Int) (low high : Int) (w : World) (hv : RowAt w v (xs.map (Value.int .i64))) :
    Calls Try.prog 91 #[v, .int .i64 low, .int .i64 high] w fun e w' => e = .returned (.bool (allIn xs low high)) ∧ Below w.heap.size w w' := by
  have HV := hid hv; clear hv
  go_enter Try.func91, Try.ntmps91
  go_wp2_with fail
  obtain ⟨w1, hw1⟩ : ∃ w1 : World, w1 = ((w.alloc (Obj.cells #[.int .i64 low] 2)).alloc (Obj.cells #[.int .i64 high] 2)) := ⟨_, rfl⟩
  have c0 : w1.cell? ⟨w.heap.size, 0, none⟩ = some (.int .i64 low) := by subst hw1; go_simp
  have c1 : w1.cell? ⟨w.heap.size + 1, 0, none⟩ = some (.int .i64 high) := by subst hw1; go_simp
  rw [← hw1]
  have hb1 : Below w.heap.size w w1 := by subst hw1; exact below_trans (below_alloc _ _) (below_alloc _ _)
  have s0 : w.heap.size + 1 < w1.heap.size := by subst hw1; simp
  clear hw1
  have H := containsFuncI 97 #[.pointer (some ⟨w.heap.size, 0, none⟩), .pointer (some ⟨w.heap.size + 1, 0, none⟩)] (fun x => !inB x low high) (fun _ _ => by kernel_rfl) v xs w1
    (fun x w2 _ hb2 => areWithin_pred x low high _ _ w2 (by rw [hb2.cell (by simp; omega)]; exact c0) (by rw [hb2.cell (by simp; omega)]; exact c1)) (HV.out.below hb1)
  have H2 := hid H; clear H
  go_wp2_with (go_at_call 76; refine (H2.out).mono ?_; rintro e w' ⟨rfl, hb'⟩)
  go_ret
  exact ⟨by simp [allIn, List.all_eq_not_any_not], below_trans hb1 hb'⟩
theorem areWithin_val (v : Value) (xs : List Int) (low high : Int) (r : Bool) (h : allIn xs low high = r) (w : World) (hv : RowAt w v (xs.map (Value.int .i64))) :
    Calls Try.prog 91 #[v, .int .i64 low, .int .i64 high] w fun e w' => e = .returned (.bool r) ∧ Below w.heap.size w w' := h ▸ areWithin_any v xs low high w hv
def manyI (xs : List Int) (few many low high : Int) : Bool := inB xs.length few many && allIn xs low high
set_option maxHeartbeats 400000 in
theorem areMany_any (v : Value) (xs : List Int) (few many low high : Int) (w : World) (hv : RowAt w v (xs.map (Value.int .i64))) :
    Calls Try.prog 73 #[v, .int .i64 few, .int .i64 many, .int .i64 low, .int .i64 high] w fun e w' => e = .returned (.bool (manyI xs few many low high)) ∧ Below w.heap.size w w' := by
  have HV := hid hv
  obtain ⟨ao, cap, b, off, rfl, hao, hl, hm, hc⟩ := hv
  simp only [List.length_map] at hl HV ⊢
  unfold maxLen at hm
  clear hc hao
  cases hx : inB xs.length few many
  · have hr : manyI xs few many low high = false := by simp [manyI, hx]
    rw [hr]; clear hr
    go_enter Try.func73, Try.ntmps73
    go_wp2_with (first | (go_at_call 52; refine (within_any _ _ _ _).mono ?_; rw [hx]; rintro e w' ⟨rfl, hb⟩; have hB : Below w.heap.size w w' := below_trans (by (repeat (first | (with_reducible assumption) | (with_reducible apply below_refl) | (with_reducible apply below_alloc1) | (with_reducible apply below_drewN1) | (with_reducible apply below_drew1)))) hb; have hC := (bcell hB).1; clear hb) | (go_at_call 91; refine (areWithin_any _ xs _ _ _ (HV.out.below (by (repeat (first | (with_reducible assumption) | (with_reducible apply below_refl) | (with_reducible apply below_alloc1) | (with_reducible apply below_drewN1) | (with_reducible apply below_drew1)))))).mono ?_; rintro e w' ⟨rfl, hb⟩; have hB : Below w.heap.size w w' := below_trans (by (repeat (first | (with_reducible assumption) | (with_reducible apply below_refl) | (with_reducible apply below_alloc1) | (with_reducible apply below_drewN1) | (with_reducible apply below_drew1)))) hb; have hC := (bcell hB).1; clear hb))
    go_ret
    exact ⟨rfl, by assumption⟩
  · have hr : manyI xs few many low high = allIn xs low high := by simp [manyI, hx]
    rw [hr]; clear hr
    go_enter Try.func73, Try.ntmps73
    go_wp2_with (first | (go_at_call 52; refine (within_any _ _ _ _).mono ?_; rw [hx]; rintro e w' ⟨rfl, hb⟩; have hB : Below w.heap.size w w' := below_trans (by (repeat (first | (with_reducible assumption) | (with_reducible apply below_refl) | (with_reducible apply below_alloc1) | (with_reducible apply below_drewN1) | (with_reducible apply below_drew1)))) hb; have hC := (bcell hB).1; clear hb) | (go_at_call 91; refine (areWithin_any _ xs _ _ _ (HV.out.below (by (repeat (first | (with_reducible assumption) | (with_reducible apply below_refl) | (with_reducible apply below_alloc1) | (with_reducible apply below_drewN1) | (with_reducible apply below_drew1)))))).mono ?_; rintro e w' ⟨rfl, hb⟩; have hB : Below w.heap.size w w' := below_trans (by (repeat (first | (with_reducible assumption) | (with_reducible apply below_refl) | (with_reducible apply below_alloc1) | (with_reducible apply below_drewN1) | (with_reducible apply below_drew1)))) hb; have hC := (bcell hB).1; clear hb))
    go_ret
    exact ⟨rfl, by assumption⟩
end Go.Proofs.Ytkonlchholfpoaa
