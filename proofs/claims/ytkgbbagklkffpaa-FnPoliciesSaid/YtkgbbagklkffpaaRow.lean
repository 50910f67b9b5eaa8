/- Small lemmas: cells of rows that are only read, first indices. No program in sight. -/
import Derived.Test.YtkgbbagklkffpaaLib
namespace Go.Proofs.Ytkgbbagklkffpaa
open Go.RowKit

theorem rowc {α : Type} {w wr : World} {c : α → Value} {xs : List α} {b off : Nat} (hc : ∀ i x, (xs.map c)[i]? = some x → w.cell? ⟨b, off + i, none⟩ = some x) (hw : Below w.heap.size w wr) (k : Nat) (h : k < xs.length) :
    wr.cell? ⟨b, off + k, none⟩ = some (c xs[k]) := by
  have h1 := hc k (c xs[k]) (by simp [h])
  rw [hw.cell (p := ⟨b, off + k, none⟩) (World.block_lt_of_cell? w _ h1)]; exact h1

/-- The first index below n that p holds at. -/
def firstAt (p : Nat → Bool) (n : Nat) : Option Nat := (List.range n).find? p
theorem firstAt_some {p : Nat → Bool} {n k : Nat} (hk : k < n) (hp : p k = true) (hno : ∀ j, j < k → p j = false) : firstAt p n = some k := by
  unfold firstAt
  rw [List.find?_range_eq_some]
  exact ⟨hp, by simpa using hk, fun j hj => by simp [hno j hj]⟩
theorem firstAt_none {p : Nat → Bool} {n : Nat} (hno : ∀ j, j < n → p j = false) : firstAt p n = none := by
  unfold firstAt
  rw [List.find?_range_eq_none]
  intro j hj; simp [hno j hj]
theorem foldl_next {α β : Type} (f : β → α → β) (z : β) (xs : List α) (k : Nat) (h : k < xs.length) : (xs.take (k + 1)).foldl f z = f ((xs.take k).foldl f z) xs[k] := by
  rw [List.take_succ_eq_append_getElem h, List.foldl_append]; rfl
end Go.Proofs.Ytkgbbagklkffpaa
