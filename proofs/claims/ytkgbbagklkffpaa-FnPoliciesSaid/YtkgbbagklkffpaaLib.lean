/- Small lemmas on worlds that grow, over any program (no program in sight). -/
import Derived.WalkKit
import Derived.WalkSpells
import Derived.WalkLawsBesides
import Derived.Deep.RegionHeld3
import Derived.Deep.QuietTactic
import Derived.BigQuiet
import Derived.Deep.Draws
namespace Go.Proofs.Ytkgbbagklkffpaa
open Go.RowKit

theorem bcell {W w1 : World} (hb : Below W.heap.size W w1) : (∀ b o, b < W.heap.size → w1.cell? ⟨b, o, none⟩ = W.cell? ⟨b, o, none⟩) ∧ (∀ b o, b < W.heap.size → w1.frozen? ⟨b, o, none⟩ = W.frozen? ⟨b, o, none⟩) :=
  ⟨fun b o h => hb.cell (p := ⟨b, o, none⟩) h, fun b o h => hb.frozen (p := ⟨b, o, none⟩) h⟩

/-- A fact behind a name that no rewriting looks into. -/
theorem hid {p : Prop} (h : p) : Hid p := h

theorem below_refl (w : World) : Below w.heap.size w w := Below.refl _ _
theorem below_alloc (w : World) (o : Obj) : Below w.heap.size w (w.alloc o) := (Below.refl _ _).alloc (Nat.le_refl _) o
theorem below_drew (w : World) : Below w.heap.size w w.drew := (Below.refl _ _).drew
theorem below_drewN (w : World) (n : Nat) : Below w.heap.size w (w.drewN n) := ⟨rfl, rfl, rfl, Nat.le_refl _, fun _ _ => rfl⟩
theorem below_trans {a b c : World} (h : Below a.heap.size a b) (k : Below b.heap.size b c) : Below a.heap.size a c := h.trans (k.mono h.size)
theorem below_alloc1 {a b : World} {o : Obj} (h : Below a.heap.size a b) : Below a.heap.size a (b.alloc o) := h.alloc h.size o
theorem below_drewN1 {a b : World} {n : Nat} (h : Below a.heap.size a b) : Below a.heap.size a (b.drewN n) := below_trans h (below_drewN _ _)
theorem below_drew1 {a b : World} (h : Below a.heap.size a b) : Below a.heap.size a b.drew := h.drew
theorem below_setCell1 {a b : World} {p : Addr} {u : Value} (h : Below a.heap.size a b) (hp : a.heap.size ≤ p.block) : Below a.heap.size a (b.setCell p u) := h.setCell hp u
theorem below_trans' {B : Nat} {a b c : World} (h : Below B a b) (hB : B ≤ a.heap.size) (k : Below b.heap.size b c) : Below B a c := h.trans (k.mono (Nat.le_trans hB h.size))

/-- What a region that draws its order keeps: below the heap's size nothing turns. -/
theorem keep_start {w1 : World} : Below w1.heap.size w1 w1.drew ∧ ∀ b o, b < w1.heap.size → w1.drew.cell? ⟨b, o, none⟩ = w1.cell? ⟨b, o, none⟩ :=
  ⟨below_drew _, (bcell (below_drew _)).1⟩
theorem keep_drew {w1 wp : World} (h : Below w1.heap.size w1 wp ∧ ∀ b o, b < w1.heap.size → wp.cell? ⟨b, o, none⟩ = w1.cell? ⟨b, o, none⟩) :
    Below w1.heap.size w1 wp.drew ∧ ∀ b o, b < w1.heap.size → wp.drew.cell? ⟨b, o, none⟩ = w1.cell? ⟨b, o, none⟩ :=
  ⟨h.1.drew, (bcell h.1.drew).1⟩
theorem keep_of {w1 wp : World} (h : Below w1.heap.size w1 wp) : Below w1.heap.size w1 wp ∧ ∀ b o, b < w1.heap.size → wp.cell? ⟨b, o, none⟩ = w1.cell? ⟨b, o, none⟩ := ⟨h, (bcell h).1⟩
theorem keep_next {w1 wp w' : World} (h : Below w1.heap.size w1 wp ∧ ∀ b o, b < w1.heap.size → wp.cell? ⟨b, o, none⟩ = w1.cell? ⟨b, o, none⟩) (hb : Below wp.heap.size wp w') :
    Below w1.heap.size w1 w' ∧ ∀ b o, b < w1.heap.size → w'.cell? ⟨b, o, none⟩ = w1.cell? ⟨b, o, none⟩ :=
  ⟨below_trans h.1 hb, (bcell (below_trans h.1 hb)).1⟩

/-! ### Slices that are only read -/

/-- v is a slice that reads as the cells xs (elements of one cell). -/
def RowAt (w : World) (v : Value) (xs : List Value) : Prop :=
  ∃ ao cap b off, v = .slice ao xs.length cap ∧ (0 < xs.length → ao = some ⟨b, off, none⟩) ∧ xs.length ≤ cap ∧ cap ≤ maxLen ∧ ∀ i x, xs[i]? = some x → w.cell? ⟨b, off + i, none⟩ = some x

/-- A slice literal: a new block. -/
theorem rowAt_alloc (w : World) (t : TypeId) (cs : List Value) (h : cs.length ≤ maxLen) : RowAt (w.alloc (.cells cs.toArray t)) (.slice (some ⟨w.heap.size, 0, none⟩) cs.length cs.length) cs := by
  refine ⟨_, _, w.heap.size, 0, rfl, fun _ => rfl, Nat.le_refl _, h, fun i x hx => ?_⟩
  have hh : (w.alloc (.cells cs.toArray t)).heap[w.heap.size]? = some (.cells cs.toArray t) := heap_alloc_new w _
  simp only [World.cell?, hh]
  simpa using hx

theorem RowAt.below {w w' : World} {v : Value} {xs : List Value} (h : RowAt w v xs) (hb : Below w.heap.size w w') : RowAt w' v xs := by
  obtain ⟨ao, cap, b, off, h1, h2, h3, h4, h5⟩ := h
  refine ⟨ao, cap, b, off, h1, h2, h3, h4, fun i x hx => ?_⟩
  have hc := h5 i x hx
  rw [hb.cell (p := ⟨b, off + i, none⟩) (World.block_lt_of_cell? w _ hc)]
  exact hc

theorem RowAt.keep {w w' : World} {v : Value} {xs : List Value} {B : Nat} (h : RowAt w v xs) (hb : Below B w w') (hB : w.heap.size ≤ B) : RowAt w' v xs := h.below (hb.mono hB)

end Go.Proofs.Ytkgbbagklkffpaa
