/- A struct's field that is a row of floats: an argument opened. No program in sight. -/
import Derived.Test.YtfnhpchgiknmpaaOpen
namespace Go.Proofs.Ytfnhpchgiknmpaa
open Go.ChangeShapes Go.WideShapes Go.ChangeAt Go.RowKit Go.Deep
section
variable {H : Type} {enc : TypeId × Value → H} {P : Program} {w : World}
theorem open_field {t e : TypeId} {m : Nat} {v : Value} {y : DataW H × List MemPlace} (ht : P.underlying t = some (.slice e)) (he : P.underlying e = some (.float .f32)) (hc : P.cellsOf e = 1)
    (h : DataW.trod enc P w 0 (fun _ => true) true m t [v] = some y) : ∃ bs : List Nat, RowAt w v (bs.map (Value.float .f32)) ∧ ∀ b ∈ bs, b < 4294967296 := by
  have hs : ∃ sa n sc, v = Value.slice sa n sc := by
    rcases open_slice1 ht hc h with ⟨hcs, _⟩ | ⟨ad2, l2, c2', _, _, _, _, _, hcs, _⟩
    · simp at hcs; exact ⟨_, _, _, hcs⟩
    · simp at hcs; exact ⟨_, _, _, hcs⟩
  obtain ⟨sa, n, sc, rfl⟩ := hs
  exact open_floats ht he hc (d := y.1) (ps := y.2) ⟨m, by simpa [Value.cells] using h⟩
end
end Go.Proofs.Ytfnhpchgiknmpaa
