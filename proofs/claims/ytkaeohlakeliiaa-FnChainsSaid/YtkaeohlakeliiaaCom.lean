/- Contracts of the functions that many laws reach. -/
import Derived.Test.YtkaeohlakeliiaaRows
import Derived.Test.YtkaeohlakeliiaaLib
import Derived.Test.YtkaeohlakeliiaaFlo
import Derived.Test.YtkaeohlakeliiaaSeq
namespace Go.Proofs.Ytkaeohlakeliiaa
open Go.RowKit

def fin (k : FloatKind) (x : Option Nat) : Bool := ford k (fop .sub k x x) (some 0) == some .eq
def finite32 (x : Option Nat) : Bool := fin .f32 x

set_option maxHeartbeats 400000 in
theorem specFinite_any (x : Nat) (w : World) :
    Calls Try.prog 64 #[.float .f32 x] w fun e w' => e = .returned (.bool (finite32 (ab .f32 x))) ∧ Below w.heap.size w w' := by
  go_enter Try.func64, Try.ntmps64
  go_wp2_with (refine upon_float rfl ?_; intro r n hr; go_simp)
  go_ret
  exact ⟨rfl, below_drewN _ _⟩

set_option maxHeartbeats 400000 in
theorem implFinite_any (x : Nat) (w : World) :
    Calls Try.prog 81 #[.float .f32 x] w fun e w' => e = .returned (.bool (finite32 (ab .f32 x))) ∧ Below w.heap.size w w' := by
  go_enter Try.func81, Try.ntmps81
  go_wp2_with (refine upon_float rfl ?_; intro r n hr; go_simp)
  go_ret
  exact ⟨rfl, below_drewN _ _⟩

/-- Finite, and at least 0; finite, and more than 0. -/
def notLessB (x : Option Nat) : Bool := finite32 x && (ford .f32 x (some 0) == some .gt || ford .f32 x (some 0) == some .eq)
def moreB (x : Option Nat) : Bool := finite32 x && (ford .f32 x (some 0) == some .gt)
def finB (x : Option Nat) : Bool := finite32 x
set_option maxHeartbeats 400000 in
theorem areFinite_pred (x : Nat) (w : World) :
    Calls Try.prog 115 #[.float .f32 x] w fun e w' => e = .returned (.bool (!finB (ab .f32 x))) ∧ Below w.heap.size w w' := by
  unfold finB
  cases h : finite32 (ab .f32 x)
  all_goals
    go_enter Try.func115, Try.ntmps115
    go_wp2_with (go_at_call 81; refine (implFinite_any _ _).mono ?_; rintro e w' ⟨rfl, hb⟩; have hB : Below w.heap.size w w' := below_trans (by (repeat (first | (with_reducible assumption) | (with_reducible apply below_refl) | (with_reducible apply below_alloc1) | (with_reducible apply below_drewN1) | (with_reducible apply below_drew1)))) hb; have hC := (bcell hB).1; clear hb)
    go_ret
    exact ⟨by simp, by assumption⟩

set_option maxHeartbeats 400000 in
theorem areFinite_any (v : Value) (bs : List Nat) (w : World) (hv : RowAt w v (bs.map (Value.float .f32))) :
    Calls Try.prog 58 #[v] w fun e w' => e = .returned (.bool (bs.all fun b => finB (ab .f32 b))) ∧ Below w.heap.size w w' := by
  have H := containsFuncF 115 #[] (fun b => !finB (ab .f32 b)) (fun _ _ => by kernel_rfl) v bs w (fun x w1 _ _ => by simpa using areFinite_pred x w1) hv
  have H2 := hid H; clear H hv
  go_enter Try.func58, Try.ntmps58
  go_wp2_with (go_at_call 113; refine (H2.out).mono ?_; rintro e w' ⟨rfl, hb'⟩)
  go_ret
  exact ⟨by simp [List.all_eq_not_any_not], hb'⟩
theorem areFinite_val (v : Value) (bs : List Nat) (r : Bool) (h : (bs.all fun b => finB (ab .f32 b)) = r) (w : World) (hv : RowAt w v (bs.map (Value.float .f32))) :
    Calls Try.prog 58 #[v] w fun e w' => e = .returned (.bool r) ∧ Below w.heap.size w w' := h ▸ areFinite_any v bs w hv
set_option maxHeartbeats 400000 in
theorem areNotLess_pred (x : Nat) (w : World) :
    Calls Try.prog 123 #[.float .f32 x] w fun e w' => e = .returned (.bool (!notLessB (ab .f32 x))) ∧ Below w.heap.size w w' := by
  unfold notLessB
  cases h : finite32 (ab .f32 x)
  all_goals
    go_enter Try.func123, Try.ntmps123
    go_wp2_with (go_at_call 81; refine (implFinite_any _ _).mono ?_; rintro e w' ⟨rfl, hb⟩; have hB : Below w.heap.size w w' := below_trans (by (repeat (first | (with_reducible assumption) | (with_reducible apply below_refl) | (with_reducible apply below_alloc1) | (with_reducible apply below_drewN1) | (with_reducible apply below_drew1)))) hb; have hC := (bcell hB).1; clear hb)
    go_ret
    exact ⟨by simp, by assumption⟩

set_option maxHeartbeats 400000 in
theorem areNotLess_any (v : Value) (bs : List Nat) (w : World) (hv : RowAt w v (bs.map (Value.float .f32))) :
    Calls Try.prog 86 #[v] w fun e w' => e = .returned (.bool (bs.all fun b => notLessB (ab .f32 b))) ∧ Below w.heap.size w w' := by
  have H := containsFuncF 123 #[] (fun b => !notLessB (ab .f32 b)) (fun _ _ => by kernel_rfl) v bs w (fun x w1 _ _ => by simpa using areNotLess_pred x w1) hv
  have H2 := hid H; clear H hv
  go_enter Try.func86, Try.ntmps86
  go_wp2_with (go_at_call 113; refine (H2.out).mono ?_; rintro e w' ⟨rfl, hb'⟩)
  go_ret
  exact ⟨by simp [List.all_eq_not_any_not], hb'⟩
theorem areNotLess_val (v : Value) (bs : List Nat) (r : Bool) (h : (bs.all fun b => notLessB (ab .f32 b)) = r) (w : World) (hv : RowAt w v (bs.map (Value.float .f32))) :
    Calls Try.prog 86 #[v] w fun e w' => e = .returned (.bool r) ∧ Below w.heap.size w w' := h ▸ areNotLess_any v bs w hv
set_option maxHeartbeats 400000 in
theorem areMore_pred (x : Nat) (w : World) :
    Calls Try.prog 114 #[.float .f32 x] w fun e w' => e = .returned (.bool (!moreB (ab .f32 x))) ∧ Below w.heap.size w w' := by
  unfold moreB
  cases h : finite32 (ab .f32 x)
  all_goals
    go_enter Try.func114, Try.ntmps114
    go_wp2_with (go_at_call 81; refine (implFinite_any _ _).mono ?_; rintro e w' ⟨rfl, hb⟩; have hB : Below w.heap.size w w' := below_trans (by (repeat (first | (with_reducible assumption) | (with_reducible apply below_refl) | (with_reducible apply below_alloc1) | (with_reducible apply below_drewN1) | (with_reducible apply below_drew1)))) hb; have hC := (bcell hB).1; clear hb)
    go_ret
    exact ⟨by simp, by assumption⟩

set_option maxHeartbeats 400000 in
theorem areMore_any (v : Value) (bs : List Nat) (w : World) (hv : RowAt w v (bs.map (Value.float .f32))) :
    Calls Try.prog 56 #[v] w fun e w' => e = .returned (.bool (bs.all fun b => moreB (ab .f32 b))) ∧ Below w.heap.size w w' := by
  have H := containsFuncF 114 #[] (fun b => !moreB (ab .f32 b)) (fun _ _ => by kernel_rfl) v bs w (fun x w1 _ _ => by simpa using areMore_pred x w1) hv
  have H2 := hid H; clear H hv
  go_enter Try.func56, Try.ntmps56
  go_wp2_with (go_at_call 113; refine (H2.out).mono ?_; rintro e w' ⟨rfl, hb'⟩)
  go_ret
  exact ⟨by simp [List.all_eq_not_any_not], hb'⟩
theorem areMore_val (v : Value) (bs : List Nat) (r : Bool) (h : (bs.all fun b => moreB (ab .f32 b)) = r) (w : World) (hv : RowAt w v (bs.map (Value.float .f32))) :
    Calls Try.prog 56 #[v] w fun e w' => e = .returned (.bool r) ∧ Below w.heap.size w w' := h ▸ areMore_any v bs w hv
set_option maxHeartbeats 400000 in
theorem l02Above_any (x : Nat) (w : World) :
    Calls Try.prog 71 #[.float .f32 x] w fun e w' => e = .returned (.bool (moreB (ab .f32 x))) ∧ Below w.heap.size w w' := by
  unfold moreB
  cases h : finite32 (ab .f32 x)
  all_goals
    go_enter Try.func71, Try.ntmps71
    go_wp2_with (go_at_call 64; refine (specFinite_any _ _).mono ?_; rintro e w' ⟨rfl, hb⟩; have hB : Below w.heap.size w w' := below_trans (by (repeat (first | (with_reducible assumption) | (with_reducible apply below_refl) | (with_reducible apply below_alloc1) | (with_reducible apply below_drewN1) | (with_reducible apply below_drew1)))) hb; have hC := (bcell hB).1; clear hb)
    go_ret
    exact ⟨rfl, by assumption⟩
theorem all_take {α : Type} (p : α → Bool) (bs : List α) (hno : ∀ j x, j < bs.length → bs[j]? = some x → p x = true) : bs.all p = true := by
  rw [List.all_eq_true]
  intro x hx
  obtain ⟨j, hj, rfl⟩ := List.getElem_of_mem hx
  exact hno j _ hj (List.getElem?_eq_getElem hj)
theorem all_not {α : Type} (p : α → Bool) (bs : List α) (k : Nat) (h : k < bs.length) (hp : p bs[k] = false) : bs.all p = false := by
  rw [List.all_eq_false]
  exact ⟨bs[k], List.getElem_mem h, by simp [hp]⟩
set_option maxHeartbeats 400000 in
theorem l02Finite_any (v : Value) (bs : List Nat) (w : World) (hv : RowAt w v (bs.map (Value.float .f32))) :
    Calls Try.prog 68 #[v] w fun e w' => e = .returned (.bool (bs.all fun b => finB (ab .f32 b))) ∧ Below w.heap.size w w' := by
  obtain ⟨ao, cap, b, off, rfl, hao, hl, hm, hc⟩ := hv
  simp only [List.length_map] at hao hl ⊢
  unfold maxLen at hm
  go_enter Try.func68, Try.ntmps68
  go_wp2_with fail
  go_loopw [3] (fun i wr => ∃ k : Nat, k ≤ bs.length ∧ i = .int .i64 k ∧ (∀ j x, j < k → bs[j]? = some x → finB (ab .f32 x) = true) ∧ Below w.heap.size w wr) (fun i _ => bs.length - (intOf i).toNat)
  case atStart => exact ⟨0, Nat.zero_le _, rfl, fun j x h => absurd h (Nat.not_lt_zero _), Below.refl _ _⟩
  case round =>
    obtain ⟨k, hk, rfl, hno, hb⟩ := hrel
    have HN := hid hno; clear hno
    by_cases hlt : k < bs.length
    · obtain rfl := hao (by omega)
      have hcell : wr.cell? ⟨b, off + k, none⟩ = some (.float .f32 bs[k]) := by
        have h := hc k (.float .f32 bs[k]) (by simp [hlt])
        rw [hb.cell (p := ⟨b, off + k, none⟩) (World.block_lt_of_cell? w _ h)]; exact h
      have HC := hid hc; clear hc hao
      cases hp : finite32 (ab .f32 bs[k])
      all_goals go_wp2_with (go_at_call 64; refine (specFinite_any _ _).mono ?_; rintro e w' ⟨rfl, hb⟩; have hB : Below w.heap.size w w' := below_trans (by (repeat (first | (with_reducible assumption) | (with_reducible apply below_refl) | (with_reducible apply below_alloc1) | (with_reducible apply below_drewN1) | (with_reducible apply below_drew1)))) hb; have hC := (bcell hB).1; clear hb)
      · go_ret
        exact ⟨by rw [all_not (fun b => finB (ab .f32 b)) bs k hlt hp]; rfl, by assumption⟩
      · go_roundw
        case rel =>
          refine ⟨k + 1, by omega, by go_num, fun j x hj hx => ?_, by assumption⟩
          by_cases hjk : j = k
          · subst hjk
            rw [List.getElem?_eq_getElem hlt] at hx
            cases hx; exact hp
          · exact HN.out j x (by omega) hx
        case measure => simp [intOf]; omega
    · go_wp2_with fail
      go_ret
      exact ⟨by rw [all_take (fun b => finB (ab .f32 b)) bs (fun j x hj hx => HN.out j x (by omega) hx)]; rfl, hb⟩
set_option maxHeartbeats 400000 in
theorem ifFinite_any (x : Nat) (w : World) :
    Calls Try.prog 60 #[.float .f32 x] w fun e w' => e = .returned (if finite32 (ab .f32 x) then .tuple #[.float .f32 x, .bool true] else .tuple #[.float .f32 0, .bool false]) ∧ Below w.heap.size w w' := by
  cases h : finite32 (ab .f32 x)
  all_goals
    go_enter Try.func60, Try.ntmps60
    go_wp2_with (go_at_call 81; refine (implFinite_any _ _).mono ?_; rintro e w' ⟨rfl, hb⟩)
    go_ret2
    exact ⟨rfl, hb⟩

set_option maxHeartbeats 400000 in
theorem l02Number_any (x : Nat) (w : World) :
    Calls Try.prog 75 #[.float .f32 x] w fun e w' => e = .returned (if finite32 (ab .f32 x) then .tuple #[.float .f32 x, .bool true] else .tuple #[.float .f32 0, .bool false]) ∧ Below w.heap.size w w' := by
  cases h : finite32 (ab .f32 x)
  all_goals
    go_enter Try.func75, Try.ntmps75
    go_wp2_with (go_at_call 64; refine (specFinite_any _ _).mono ?_; rintro e w' ⟨rfl, hb⟩)
    go_ret2
    exact ⟨rfl, hb⟩

/-- Two results that are a number and a sign: bits are told up to the NaN's. -/
def NumOk (M : Option Nat × Bool) (w : World) (e : Ending) (w' : World) : Prop := ∃ r, e = .returned (.tuple #[.float .f32 r, .bool M.2]) ∧ ab .f32 r = M.1 ∧ Below w.heap.size w w'

/-- One result that is a number. -/
def FltOk (M : Option Nat) (w : World) (e : Ending) (w' : World) : Prop := ∃ r, e = .returned (.float .f32 r) ∧ ab .f32 r = M ∧ Below w.heap.size w w'
theorem numOk_no {w w' : World} {M : Option Nat × Bool} (h : M = (some 0, false)) (hb : Below w.heap.size w w') : NumOk M w (.returned (.tuple #[.float .f32 0, .bool false])) w' := ⟨0, by rw [h], by rw [h]; exact ab_z32, hb⟩

/-- A number, if it is finite. -/
def ifFin (x : Option Nat) : Option Nat × Bool := if finite32 x then (x, true) else (some 0, false)
theorem ifFin_yes {x : Option Nat} (h : finite32 x = true) : ifFin x = (x, true) := by simp [ifFin, h]
theorem ifFin_no {x : Option Nat} (h : finite32 x = false) : ifFin x = (some 0, false) := by simp [ifFin, h]
theorem ifFinite_num (x : Nat) (w : World) : Calls Try.prog 60 #[.float .f32 x] w (NumOk (ifFin (ab .f32 x)) w) := by
  refine (ifFinite_any x w).mono ?_
  rintro e w' ⟨rfl, hb⟩
  cases h : finite32 (ab .f32 x)
  · exact ⟨0, by rw [ifFin_no h]; rfl, by rw [ifFin_no h]; exact ab_z32, hb⟩
  · exact ⟨x, by rw [ifFin_yes h]; rfl, by rw [ifFin_yes h], hb⟩
theorem l02Number_num (x : Nat) (w : World) : Calls Try.prog 75 #[.float .f32 x] w (NumOk (ifFin (ab .f32 x)) w) := by
  refine (l02Number_any x w).mono ?_
  rintro e w' ⟨rfl, hb⟩
  cases h : finite32 (ab .f32 x)
  · exact ⟨0, by rw [ifFin_no h]; rfl, by rw [ifFin_no h]; exact ab_z32, hb⟩
  · exact ⟨x, by rw [ifFin_yes h]; rfl, by rw [ifFin_yes h], hb⟩
end Go.Proofs.Ytkaeohlakeliiaa
