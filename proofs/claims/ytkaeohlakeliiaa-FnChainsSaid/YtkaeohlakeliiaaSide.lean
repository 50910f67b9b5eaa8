/- Contracts: lists of a chart, SameSide. -/
import Derived.Test.YtkaeohlakeliiaaCom
import Derived.Test.YtkaeohlakeliiaaInt
import Derived.Test.YtkaeohlakeliiaaRow
import Derived.Test.YtkaeohlakeliiaaMag3
namespace Go.Proofs.Ytkaeohlakeliiaa
open Go.RowKit

def toldB (xs : List Nat) : Bool := inB xs.length 1 256 && xs.all fun b => finB (ab .f32 b)
theorem toldB_true {xs : List Nat} (h : toldB xs = true) : 1 ≤ xs.length ∧ xs.length ≤ 256 ∧ ∀ k (h : k < xs.length), finite32 (ab .f32 xs[k]) = true := by
  simp only [toldB, Bool.and_eq_true, List.all_eq_true] at h
  have := inB_true h.1
  exact ⟨by omega, by omega, fun k hk => h.2 _ (List.getElem_mem hk)⟩


/-- Runs above and below so far. -/
def sideSt (c : Option Nat) (s : Int × Int) (x : Nat) : Int × Int :=
  (if ford .f32 (ab .f32 x) c == some .gt then s.1 + 1 else 0, if ford .f32 (ab .f32 x) c == some .lt then s.2 + 1 else 0)
def sideAt (c : Option Nat) (xs : List Nat) (k : Nat) : Int × Int := (xs.take k).foldl (sideSt c) (0, 0)
theorem sideAt_next (c : Option Nat) (xs : List Nat) (k : Nat) (h : k < xs.length) : sideAt c xs (k + 1) = sideSt c (sideAt c xs k) xs[k] := foldl_next _ _ xs k h
theorem sideAt_bd (c : Option Nat) (xs : List Nat) (k : Nat) (hk : k ≤ xs.length) : 0 ≤ (sideAt c xs k).1 ∧ (sideAt c xs k).1 ≤ k ∧ 0 ≤ (sideAt c xs k).2 ∧ (sideAt c xs k).2 ≤ k := by
  induction k with
  | zero => simp [sideAt]
  | succ k ih =>
    have := ih (by omega)
    rw [sideAt_next c xs k (by omega)]
    simp only [sideSt]
    split <;> split <;> omega
def sideHit (c : Option Nat) (L : Int) (xs : List Nat) (k : Nat) : Bool := decide (L ≤ (sideAt c xs (k + 1)).1) || decide (L ≤ (sideAt c xs (k + 1)).2)
def sideOk (xs : List Nat) (c : Option Nat) (L : Int) : Bool := toldB xs && finite32 c && inB L 1 256
def sideM (xs : List Nat) (c : Option Nat) (L : Int) : Value :=
  if sideOk xs c L then
    match firstAt (sideHit c L xs) xs.length with
    | some k => .tuple #[.int .i64 k, .bool true]
    | none => .tuple #[.int .i64 0, .bool false]
  else .tuple #[.int .i64 0, .bool false]
theorem sideM_no {xs : List Nat} {c : Option Nat} {L : Int} (h : sideOk xs c L = false) : sideM xs c L = .tuple #[.int .i64 0, .bool false] := by simp [sideM, h]
theorem sideM_hit {xs : List Nat} {c : Option Nat} {L : Int} {k : Nat} (h : sideOk xs c L = true) (hk : k < xs.length) (hp : sideHit c L xs k = true) (hno : ∀ j, j < k → sideHit c L xs j = false) : sideM xs c L = .tuple #[.int .i64 k, .bool true] := by
  simp only [sideM, h, if_true, firstAt_some hk hp hno]
theorem sideM_none {xs : List Nat} {c : Option Nat} {L : Int} (h : sideOk xs c L = true) (hno : ∀ j, j < xs.length → sideHit c L xs j = false) : sideM xs c L = .tuple #[.int .i64 0, .bool false] := by
  simp only [sideM, h, if_true, firstAt_none hno]
theorem sideM_form (xs : List Nat) (c : Option Nat) (L : Int) : ∃ n z, sideM xs c L = .tuple #[.int .i64 n, .bool z] := by
  unfold sideM
  split
  · split <;> exact ⟨_, _, rfl⟩
  · exact ⟨_, _, rfl⟩
def sideNo (c : Option Nat) (L : Int) (xs : List Nat) (k : Nat) : Prop := ∀ j, j < k → sideHit c L xs j = false
theorem sideNo_next {c : Option Nat} {L : Int} {xs : List Nat} {k : Nat} (h : sideNo c L xs k) (hk : sideHit c L xs k = false) : sideNo c L xs (k + 1) := by
  intro j hj
  by_cases e : j = k
  · rw [e]; exact hk
  · exact h j (by omega)
theorem sideNo_lt {c : Option Nat} {L : Int} {xs : List Nat} {k : Nat} (h : sideNo c L xs k) (hL : 1 ≤ L) : (sideAt c xs k).1 < L ∧ (sideAt c xs k).2 < L := by
  cases k with
  | zero => simp [sideAt]; omega
  | succ k =>
    have := h k (by omega)
    simp only [sideHit, Bool.or_eq_false_iff, decide_eq_false_iff_not] at this
    omega

end Go.Proofs.Ytkaeohlakeliiaa
