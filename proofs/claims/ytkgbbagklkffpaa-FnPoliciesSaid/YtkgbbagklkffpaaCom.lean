/- Contracts of the functions that many laws reach. -/
import Derived.Test.YtkgbbagklkffpaaRows
import Derived.Test.YtkgbbagklkffpaaLib
import Derived.Test.YtkgbbagklkffpaaFlo
import Derived.Test.YtkgbbagklkffpaaSeq
namespace Go.Proofs.Ytkgbbagklkffpaa
open Go.RowKit

def fin (k : FloatKind) (x : Option Nat) : Bool := ford k (fop .sub k x x) (some 0) == some .eq
def finite32 (x : Option Nat) : Bool := fin .f32 x


set_option maxHeartbeats 400000 in
theorem implFinite_any (x : Nat) (w : World) :
    Calls Try.prog 41 #[.float .f32 x] w fun e w' => e = .returned (.bool (finite32 (ab .f32 x))) ∧ Below w.heap.size w w' := by
  go_enter Try.func41, Try.ntmps41
  go_wp2_with (refine upon_float rfl ?_; intro r n hr; go_simp)
  go_ret
  exact ⟨rfl, below_drewN _ _⟩

/-- Finite, and at least 0; finite, and more than 0. -/
def notLessB (x : Option Nat) : Bool := finite32 x && (ford .f32 x (some 0) == some .gt || ford .f32 x (some 0) == some .eq)
def moreB (x : Option Nat) : Bool := finite32 x && (ford .f32 x (some 0) == some .gt)
def finB (x : Option Nat) : Bool := finite32 x
set_option maxHeartbeats 400000 in
theorem areFinite_pred (x : Nat) (w : World) :
    Calls Try.prog 48 #[.float .f32 x] w fun e w' => e = .returned (.bool (!finB (ab .f32 x))) ∧ Below w.heap.size w w' := by
  unfold finB
  cases h : finite32 (ab .f32 x)
  all_goals
    go_enter Try.func48, Try.ntmps48
    go_wp2_with (go_at_call 41; refine (implFinite_any _ _).mono ?_; rintro e w' ⟨rfl, hb⟩; have hB : Below w.heap.size w w' := below_trans (by (repeat (first | (with_reducible assumption) | (with_reducible apply below_refl) | (with_reducible apply below_alloc1) | (with_reducible apply below_drewN1) | (with_reducible apply below_drew1)))) hb; have hC := (bcell hB).1; clear hb)
    go_ret
    exact ⟨by simp, by assumption⟩

set_option maxHeartbeats 400000 in
theorem areFinite_any (v : Value) (bs : List Nat) (w : World) (hv : RowAt w v (bs.map (Value.float .f32))) :
    Calls Try.prog 40 #[v] w fun e w' => e = .returned (.bool (bs.all fun b => finB (ab .f32 b))) ∧ Below w.heap.size w w' := by
  have H := containsFuncF 48 #[] (fun b => !finB (ab .f32 b)) (fun _ _ => by kernel_rfl) v bs w (fun x w1 _ _ => by simpa using areFinite_pred x w1) hv
  have H2 := hid H; clear H hv
  go_enter Try.func40, Try.ntmps40
  go_wp2_with (go_at_call 44; refine (H2.out).mono ?_; rintro e w' ⟨rfl, hb'⟩)
  go_ret
  exact ⟨by simp [List.all_eq_not_any_not], hb'⟩
theorem areFinite_val (v : Value) (bs : List Nat) (r : Bool) (h : (bs.all fun b => finB (ab .f32 b)) = r) (w : World) (hv : RowAt w v (bs.map (Value.float .f32))) :
    Calls Try.prog 40 #[v] w fun e w' => e = .returned (.bool r) ∧ Below w.heap.size w w' := h ▸ areFinite_any v bs w hv
set_option maxHeartbeats 400000 in
theorem areNotLess_pred (x : Nat) (w : World) :
    Calls Try.prog 45 #[.float .f32 x] w fun e w' => e = .returned (.bool (!notLessB (ab .f32 x))) ∧ Below w.heap.size w w' := by
  unfold notLessB
  cases h : finite32 (ab .f32 x)
  all_goals
    go_enter Try.func45, Try.ntmps45
    go_wp2_with (go_at_call 41; refine (implFinite_any _ _).mono ?_; rintro e w' ⟨rfl, hb⟩; have hB : Below w.heap.size w w' := below_trans (by (repeat (first | (with_reducible assumption) | (with_reducible apply below_refl) | (with_reducible apply below_alloc1) | (with_reducible apply below_drewN1) | (with_reducible apply below_drew1)))) hb; have hC := (bcell hB).1; clear hb)
    go_ret
    exact ⟨by simp, by assumption⟩

set_option maxHeartbeats 400000 in
theorem areNotLess_any (v : Value) (bs : List Nat) (w : World) (hv : RowAt w v (bs.map (Value.float .f32))) :
    Calls Try.prog 31 #[v] w fun e w' => e = .returned (.bool (bs.all fun b => notLessB (ab .f32 b))) ∧ Below w.heap.size w w' := by
  have H := containsFuncF 45 #[] (fun b => !notLessB (ab .f32 b)) (fun _ _ => by kernel_rfl) v bs w (fun x w1 _ _ => by simpa using areNotLess_pred x w1) hv
  have H2 := hid H; clear H hv
  go_enter Try.func31, Try.ntmps31
  go_wp2_with (go_at_call 44; refine (H2.out).mono ?_; rintro e w' ⟨rfl, hb'⟩)
  go_ret
  exact ⟨by simp [List.all_eq_not_any_not], hb'⟩
theorem areNotLess_val (v : Value) (bs : List Nat) (r : Bool) (h : (bs.all fun b => notLessB (ab .f32 b)) = r) (w : World) (hv : RowAt w v (bs.map (Value.float .f32))) :
    Calls Try.prog 31 #[v] w fun e w' => e = .returned (.bool r) ∧ Below w.heap.size w w' := h ▸ areNotLess_any v bs w hv
set_option maxHeartbeats 400000 in
theorem areMore_pred (x : Nat) (w : World) :
    Calls Try.prog 46 #[.float .f32 x] w fun e w' => e = .returned (.bool (!moreB (ab .f32 x))) ∧ Below w.heap.size w w' := by
  unfold moreB
  cases h : finite32 (ab .f32 x)
  all_goals
    go_enter Try.func46, Try.ntmps46
    go_wp2_with (go_at_call 41; refine (implFinite_any _ _).mono ?_; rintro e w' ⟨rfl, hb⟩; have hB : Below w.heap.size w w' := below_trans (by (repeat (first | (with_reducible assumption) | (with_reducible apply below_refl) | (with_reducible apply below_alloc1) | (with_reducible apply below_drewN1) | (with_reducible apply below_drew1)))) hb; have hC := (bcell hB).1; clear hb)
    go_ret
    exact ⟨by simp, by assumption⟩

set_option maxHeartbeats 400000 in
theorem areMore_any (v : Value) (bs : List Nat) (w : World) (hv : RowAt w v (bs.map (Value.float .f32))) :
    Calls Try.prog 36 #[v] w fun e w' => e = .returned (.bool (bs.all fun b => moreB (ab .f32 b))) ∧ Below w.heap.size w w' := by
  have H := containsFuncF 46 #[] (fun b => !moreB (ab .f32 b)) (fun _ _ => by kernel_rfl) v bs w (fun x w1 _ _ => by simpa using areMore_pred x w1) hv
  have H2 := hid H; clear H hv
  go_enter Try.func36, Try.ntmps36
  go_wp2_with (go_at_call 44; refine (H2.out).mono ?_; rintro e w' ⟨rfl, hb'⟩)
  go_ret
  exact ⟨by simp [List.all_eq_not_any_not], hb'⟩
theorem areMore_val (v : Value) (bs : List Nat) (r : Bool) (h : (bs.all fun b => moreB (ab .f32 b)) = r) (w : World) (hv : RowAt w v (bs.map (Value.float .f32))) :
    Calls Try.prog 36 #[v] w fun e w' => e = .returned (.bool r) ∧ Below w.heap.size w w' := h ▸ areMore_any v bs w hv
set_option maxHeartbeats 400000 in
theorem ifFinite_any (x : Nat) (w : World) :
    Calls Try.prog 25 #[.float .f32 x] w fun e w' => e = .returned (if finite32 (ab .f32 x) then .tuple #[.float .f32 x, .bool true] else .tuple #[.float .f32 0, .bool false]) ∧ Below w.heap.size w w' := by
  cases h : finite32 (ab .f32 x)
  all_goals
    go_enter Try.func25, Try.ntmps25
    go_wp2_with (go_at_call 41; refine (implFinite_any _ _).mono ?_; rintro e w' ⟨rfl, hb⟩)
    go_ret2
    exact ⟨rfl, hb⟩


/-- Two results that are a number and a sign: bits are told up to the NaN's. -/
def NumOk (M : Option Nat × Bool) (w : World) (e : Ending) (w' : World) : Prop := ∃ r, e = .returned (.tuple #[.float .f32 r, .bool M.2]) ∧ ab .f32 r = M.1 ∧ Below w.heap.size w w'

/-- One result that is a number. -/
def FltOk (M : Option Nat) (w : World) (e : Ending) (w' : World) : Prop := ∃ r, e = .returned (.float .f32 r) ∧ ab .f32 r = M ∧ Below w.heap.size w w'
theorem numOk_no {w w' : World} {M : Option Nat × Bool} (h : M = (some 0, false)) (hb : Below w.heap.size w w') : NumOk M w (.returned (.tuple #[.float .f32 0, .bool false])) w' := ⟨0, by rw [h], by rw [h]; exact ab_z32, hb⟩

/-- A number, if it is finite. -/
def ifFin (x : Option Nat) : Option Nat × Bool := if finite32 x then (x, true) else (some 0, false)
theorem ifFin_yes {x : Option Nat} (h : finite32 x = true) : ifFin x = (x, true) := by simp [ifFin, h]
theorem ifFin_no {x : Option Nat} (h : finite32 x = false) : ifFin x = (some 0, false) := by simp [ifFin, h]
theorem ifFinite_num (x : Nat) (w : World) : Calls Try.prog 25 #[.float .f32 x] w (NumOk (ifFin (ab .f32 x)) w) := by
  refine (ifFinite_any x w).mono ?_
  rintro e w' ⟨rfl, hb⟩
  cases h : finite32 (ab .f32 x)
  · exact ⟨0, by rw [ifFin_no h]; rfl, by rw [ifFin_no h]; exact ab_z32, hb⟩
  · exact ⟨x, by rw [ifFin_yes h]; rfl, by rw [ifFin_yes h], hb⟩
end Go.Proofs.Ytkgbbagklkffpaa
