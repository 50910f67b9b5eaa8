/- Contracts: seeds, shares that they tell. -/
import Derived.Test.YtkgbbagklkffpaaCom
import Derived.Test.YtkgbbagklkffpaaInt
import Derived.Test.YtkgbbagklkffpaaOwn
namespace Go.Proofs.Ytkgbbagklkffpaa
open Go.RowKit

/-- One cell that may be written. -/
def Box (w : World) (b : Nat) (v : Value) : Prop := w.cell? ⟨b, 0, none⟩ = some v ∧ w.frozen? ⟨b, 0, none⟩ = false
theorem grown_of_below {w w' : World} (h : Below w.heap.size w w') (row : Option Nat) : w.grownBy w' row := ⟨h.os, h.tape, h.output, h.size, fun i hi _ => h.block i hi⟩
theorem Box.lt {w : World} {b : Nat} {v : Value} (h : Box w b v) : b < w.heap.size := World.block_lt_of_cell? w _ h.1
theorem Box.grown {w w' : World} {b : Nat} {v : Value} {row : Option Nat} (h : Box w b v) (hg : w.grownBy w' row) (hne : some b ≠ row) : Box w' b v :=
  ⟨by have := h.1; simp only [World.cell?, hg.block b h.lt hne] at this ⊢; exact this, by have := h.2; simp only [World.frozen?, hg.block b h.lt hne] at this ⊢; exact this⟩
theorem Box.below {w w' : World} {b : Nat} {v : Value} (h : Box w b v) (hb : Below w.heap.size w w') : Box w' b v := h.grown (grown_of_below hb none) (by simp)
theorem box_alloc (w : World) (v : Value) (t : TypeId) : Box (w.alloc (.cells #[v] t)) w.heap.size v := by
  exact ⟨by go_simp, by go_simp⟩
theorem grown_setBox (w : World) (b : Nat) (u : Value) : w.grownBy (w.setCell ⟨b, 0, none⟩ u) (some b) := by
  refine ⟨rfl, rfl, rfl, by simp [World.setCell], fun i _ hne => ?_⟩
  have : b ≠ i := fun e => hne (by rw [e])
  simp [World.setCell, Array.getElem?_modify, this]

theorem box_set {w : World} {b : Nat} {v : Value} (h : Box w b v) (u : Value) : Box (w.setCell ⟨b, 0, none⟩ u) b u := by
  have hlt := h.lt
  obtain ⟨h1, h2⟩ := h
  refine ⟨?_, by go_simp⟩
  unfold World.cell? at h1
  simp only at h1
  split at h1
  · rename_i c t fr he
    have h3 : c[0]? = some v := by simpa using h1
    have h4 : 0 < c.size := (Array.getElem?_eq_some_iff.1 h3).1
    simp [World.cell?, World.setCell, Array.getElem?_modify, he, h4]
  · cases h1
theorem grown_trans {a b c : World} {row : Option Nat} (h : a.grownBy b row) (k : b.grownBy c row) : a.grownBy c row :=
  ⟨k.os.trans h.os, k.tape.trans h.tape, k.output.trans h.output, Nat.le_trans h.size k.size, fun q hq hne => (k.block q (Nat.lt_of_lt_of_le hq h.size) hne).trans (h.block q hq hne)⟩

theorem Box.keep {w w' : World} {b B : Nat} {v : Value} (h : Box w b v) (hb : Below B w w') (hlt : b < B) : Box w' b v :=
  ⟨by rw [hb.cell (p := ⟨b, 0, none⟩) hlt]; exact h.1, by rw [hb.frozen (p := ⟨b, 0, none⟩) hlt]; exact h.2⟩
theorem ownsRow_box {w w' : World} {lo b : Nat} {E : TypeId} {v : Value} {xs : List Value} (h : w.ownsRow lo E 1 v xs.length xs) (hg : w.grownBy w' (some b)) (hb : b < lo) : w'.ownsRow lo E 1 v xs.length xs := by
  refine h.kept hg ?_
  cases hv : v.ownBlock with
  | none => exact Or.inl rfl
  | some g =>
    right
    intro e
    cases e
    have := (h.lt _ hv).1
    omega
theorem below_box {w1 w w' : World} {B b : Nat} (h : Below B w1 w) (hg : w.grownBy w' (some b)) (hB : B ≤ w.heap.size) (hb : B ≤ b) : Below B w1 w' := h.grown hg hB (fun k hk => by cases hk; exact hb)

def nextS (s : Int) : Int := (1664525 * s + 1013904223) % 4294967296
theorem nextS_bd (s : Int) : 0 ≤ nextS s ∧ nextS s ≤ 4294967295 := by unfold nextS; omega
def shareS (s : Int) : Option Nat := fop .quo .f32 (some (floatOfInt .f32 (s / 256))) (some 1266679808)
theorem ab_share : ab .f32 1266679808 = some 1266679808 := by decide

end Go.Proofs.Ytkgbbagklkffpaa
