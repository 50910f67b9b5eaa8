/- A row of the call's own that is sorted in place: what is read, what two stores make; the comparison. -/
import Derived.Test.YtdldlfefbeflcaaSort1
import Derived.Test.YtdldlfefbeflcaaOwn
import Derived.Test.YtdldlfefbeflcaaQuiet
import Derived.BigRegion
namespace Go.Proofs.Ytdldlfefbeflcaa
open Go.RowKit

/-- The row holds the numbers d, all from +0 on. -/
def SRow (E : TypeId) (w : World) (lo g cap n : Nat) (d : Array Nat) : Prop := w.ownsRow lo E 1 (.slice (some ⟨g, 0, none⟩) n cap) n (d.toList.map (Value.float .f32)) ∧ d.size = n ∧ ∀ i, i < n → PosN d[i]!
section
variable {E : TypeId} {w w' : World} {lo g cap n : Nat} {d : Array Nat}
theorem SRow.below (h : SRow E w lo g cap n d) (hb : Below w.heap.size w w') : SRow E w' lo g cap n d := ⟨ownsRow_below h.1 hb, h.2⟩
theorem SRow.lt (h : SRow E w lo g cap n d) : lo ≤ g ∧ g < w.heap.size := h.1.lt g rfl
theorem SRow.caps (h : SRow E w lo g cap n d) : n ≤ cap ∧ cap ≤ maxLen := by
  rcases h.1.2 with ⟨e, _⟩ | ⟨_, c, cur, e, _, _, q1, q2, _⟩
  · cases e
  · cases e; exact ⟨q1, q2⟩
theorem SRow.cell (h : SRow E w lo g cap n d) {i : Nat} (hi : i < n) : w.cell? ⟨g, i, none⟩ = some (.float .f32 d[i]!) ∧ w.frozen? ⟨g, i, none⟩ = false ∧ PosN d[i]! := by
  refine ⟨?_, h.1.frozenAt i, h.2.2 i hi⟩
  rw [h.1.cellAt i (by omega)]
  have hs : i < d.size := by rw [h.2.1]; exact hi
  simp [hs]
theorem set_over2 {w : World} {p q : Addr} {u v : Value} (hp : w.cell? p = some u) (hq : w.cell? q = some v) : (w.setCell p v).cell? q = some v := by
  by_cases h : q = p
  · subst h
    exact World.cell?_setCell_same _ _ _ hp
  · rw [World.cell?_setCell_other _ _ _ _ (fun e => h e.symm)]; exact hq
theorem SRow.stored (h : SRow E w lo g cap n d) {i q : Nat} (hi : i < n) (hq : PosN q) : SRow E (w.setCell ⟨g, i, none⟩ (.float .f32 q)) lo g cap n (d.setIfInBounds i q) := by
  have hst := h.1.stored i (.float .f32 q)
  refine ⟨?_, by simpa using h.2.1, fun j hj => ?_⟩
  · have := hst.1
    simpa [List.map_set] using this
  · have hs : j < d.size := by rw [h.2.1]; exact hj
    by_cases e : j = i
    · subst e
      rw [getElem!_pos (d.setIfInBounds j q) j (by simpa using hs)]
      simpa using hq
    · have hjj : (d.setIfInBounds i q)[j]! = d[j]! := by
        rw [getElem!_pos (d.setIfInBounds i q) j (by simpa using hs), getElem!_pos d j hs]
        exact Array.getElem_setIfInBounds_ne (h := fun x => e x.symm) ..
      rw [hjj]
      exact h.2.2 j hj
/-- The exchange of two numbers. -/
theorem SRow.swp (h : SRow E w lo g cap n d) {i j : Nat} (hi : i < n) (hj : j < n) : SRow E ((w.setCell ⟨g, i, none⟩ (.float .f32 d[j]!)).setCell ⟨g, j, none⟩ (.float .f32 d[i]!)) lo g cap n (Sort.swp d i j) :=
  (h.stored hi (h.2.2 j hj)).stored hj (h.2.2 i hi)
/-- Two numbers that are read, perhaps to change places. -/
theorem SRow.pair (h : SRow E w lo g cap n d) {i j : Nat} (hi : i < n) (hj : j < n) : ∃ x y, w.cell? ⟨g, i, none⟩ = some (.float .f32 x) ∧ w.cell? ⟨g, j, none⟩ = some (.float .f32 y) ∧ w.frozen? ⟨g, i, none⟩ = false ∧ w.frozen? ⟨g, j, none⟩ = false ∧ PosN x ∧ PosN y ∧
    (w.setCell ⟨g, i, none⟩ (.float .f32 y)).cell? ⟨g, j, none⟩ = some (.float .f32 y) ∧ Hid (ltN d[i]! d[j]! = decide (x < y)) ∧ Hid (ltN d[j]! d[i]! = decide (y < x)) ∧
    Hid (∀ wz : World, Below w.heap.size w wz → SRow E ((wz.setCell ⟨g, i, none⟩ (.float .f32 y)).setCell ⟨g, j, none⟩ (.float .f32 x)) lo g cap n (Sort.swp d i j)) := by
  obtain ⟨c1, f1, p1⟩ := h.cell hi
  obtain ⟨c2, f2, p2⟩ := h.cell hj
  exact ⟨d[i]!, d[j]!, c1, c2, f1, f2, p1, p2, set_over2 c1 c2, rfl, rfl, fun wz hz => (h.below hz).swp hi hj⟩
theorem SRow.of_row {xs : List Nat} (h : w.ownsRow lo E 1 (.slice (some ⟨g, 0, none⟩) xs.length cap) xs.length (xs.map (Value.float .f32))) (hp : ∀ x ∈ xs, PosN x) : SRow E w lo g cap xs.length xs.toArray := by
  refine ⟨by simpa using h, by simp, fun i hi => ?_⟩
  have : (xs.toArray)[i]! = xs[i] := by simp [hi]
  rw [this]
  exact hp _ (List.getElem_mem hi)
end
set_option maxHeartbeats 400000 in
theorem sNan_any (x : Nat) (w : World) :
    Calls Try.prog 76 #[.float .f32 x] w fun e w' => e = .returned (.bool !(ford .f32 (ab .f32 x) (ab .f32 x) == some .eq)) ∧ w' = w := by
  go_enter Try.func76, Try.ntmps76
  go_wp2
  go_ret
  exact ⟨rfl, rfl⟩
set_option maxHeartbeats 400000 in
theorem sLess_any (x y : Nat) (hx : PosN x) (hy : PosN y) (w : World) :
    Calls Try.prog 64 #[.float .f32 x, .float .f32 y] w fun e w' => e = .returned (.bool (decide (x < y))) ∧ ∃ m, w' = w.drewN m := by
  have HX := hid (self_pos hx)
  have HL := hid (less_pos hx hy)
  clear hx hy
  go_enter Try.func64, Try.ntmps64
  go_wp2_with (go_at_call 76; refine (sNan_any _ _).mono ?_; rw [HX.out]; rintro e w' ⟨rfl, rfl⟩)
  go_ret
  exact ⟨by rw [← HL.out]; rfl, 0, rfl⟩
end Go.Proofs.Ytdldlfefbeflcaa
