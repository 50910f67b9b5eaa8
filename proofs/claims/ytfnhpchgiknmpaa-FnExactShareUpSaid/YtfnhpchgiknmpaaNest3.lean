/- Contracts of the laws' own helpers on rows of rows: copies, comparisons, marks. -/
import Derived.Test.YtfnhpchgiknmpaaNest2
import Derived.Test.YtfnhpchgiknmpaaPush
namespace Go.Proofs.Ytfnhpchgiknmpaa
open Go.RowKit

theorem get_append_one {α : Type} (vs : List α) (u : α) (i : Nat) (x : α) (h : (vs ++ [u])[i]? = some x) : (i < vs.length ∧ vs[i]? = some x) ∨ (i = vs.length ∧ x = u) := by
  by_cases hi : i < vs.length
  · left; rw [List.getElem?_append_left hi] at h; exact ⟨hi, h⟩
  · rw [List.getElem?_append_right (by omega)] at h
    by_cases h2 : i = vs.length
    · right; subst h2; simp at h; exact ⟨rfl, h.symm⟩
    · rw [List.getElem?_eq_none (by simp; omega)] at h; cases h
end Go.Proofs.Ytfnhpchgiknmpaa
