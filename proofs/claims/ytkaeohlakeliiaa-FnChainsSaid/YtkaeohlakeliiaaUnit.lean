/- Rows of units: what is read of them; their sizes. -/
import Derived.Test.YtkaeohlakeliiaaOpen
namespace Go.Proofs.Ytkaeohlakeliiaa
open Go.RowKit

/-! ## Unit -/
structure Un where
  t : Nat
  f : Bool
  cs : List Nat

/-- v is a slice that reads as the units us. -/
def UnitsAt (w : World) (v : Value) (us : List Un) : Prop :=
  ∃ ao cap b off, v = .slice ao us.length cap ∧ (0 < us.length → ao = some ⟨b, off, none⟩) ∧ us.length ≤ cap ∧ cap ≤ maxLen ∧
    ∀ k (h : k < us.length), ∃ sa sc, w.cell? ⟨b, off + k * 3, none⟩ = some (.float .f32 us[k].t) ∧ w.cell? ⟨b, off + k * 3 + 1, none⟩ = some (.bool us[k].f) ∧ w.cell? ⟨b, off + k * 3 + 2, none⟩ = some (.slice sa us[k].cs.length sc) ∧
      RowAt w (.slice sa us[k].cs.length sc) (us[k].cs.map (Value.float .f32))
theorem UnitsAt.below {w w' : World} {v : Value} {us : List Un} (h : UnitsAt w v us) (hb : Below w.heap.size w w') : UnitsAt w' v us := by
  obtain ⟨ao, cap, b, off, h1, h2, h3, h4, h5⟩ := h
  refine ⟨ao, cap, b, off, h1, h2, h3, h4, fun k hk => ?_⟩
  obtain ⟨sa, sc, c0, c1, c2, c3⟩ := h5 k hk
  have hlt : b < w.heap.size := World.block_lt_of_cell? w _ c0
  exact ⟨sa, sc, by rw [hb.cell (p := ⟨b, _, none⟩) hlt]; exact c0, by rw [hb.cell (p := ⟨b, _, none⟩) hlt]; exact c1, by rw [hb.cell (p := ⟨b, _, none⟩) hlt]; exact c2, c3.below hb⟩
def coverLen (us : List Un) : Nat := us.foldr (fun u n => u.cs.length + n) 0
theorem cover_take (us : List Un) (k : Nat) (h : k < us.length) : coverLen (us.take (k + 1)) = coverLen (us.take k) + (us[k]).cs.length := by
  induction us generalizing k with
  | nil => simp at h
  | cons a t ih =>
    cases k with
    | zero => simp [coverLen]
    | succ k =>
      have := ih k (by simpa using h)
      simp only [List.take_succ_cons, List.getElem_cons_succ]
      unfold coverLen at this ⊢
      simp only [List.foldr_cons]
      omega
theorem cover_mono (us : List Un) (k : Nat) : coverLen (us.take k) ≤ coverLen us := by
  induction us generalizing k with
  | nil => simp [coverLen]
  | cons a t ih =>
    cases k with
    | zero => simp [coverLen]
    | succ k =>
      have := ih k
      simp only [List.take_succ_cons]
      unfold coverLen at this ⊢
      simp only [List.foldr_cons]
      omega
theorem row_caps {w : World} {sa : Option Addr} {n sc : Nat} {xs : List Value} (h : RowAt w (.slice sa n sc) xs) : n ≤ sc ∧ sc ≤ maxLen := by
  obtain ⟨_, c2, _, _, e, _, e3, e4, _⟩ := h
  cases e
  exact ⟨e3, e4⟩


/-! ## Unit2 -/
theorem ownsRow_setBelow {w : World} {lo : Nat} {E : TypeId} {size : Nat} {v : Value} {n : Nat} {xs : List Value} {p : Addr} {u : Value} (h : w.ownsRow lo E size v n xs) (hp : p.block < lo) : (w.setCell p u).ownsRow lo E size v n xs := by
  obtain ⟨h1, h2⟩ := h
  refine ⟨h1, ?_⟩
  rcases h2 with h2 | ⟨g, cap, cur, hv, hb, hg, r⟩
  · exact Or.inl h2
  · refine Or.inr ⟨g, cap, cur, hv, hb, ?_, r⟩
    rw [heap_setCell_other w p g u (by omega)]
    exact hg
theorem three_made (us : List Un) (k : Nat) (n : Nat) (h : k < n) (ws : List Value) (hw : ws.length = k * 3) (z0 z1 z2 : Value) (j : Nat) (hj : j < 3) :
    (ws ++ (List.replicate (n - k) [z0, z1, z2]).flatten)[k * 3 + j]? = [z0, z1, z2][j]? := by
  rw [List.getElem?_append_right (by omega), hw, show n - k = (n - (k + 1)) + 1 by omega, List.replicate_succ, List.flatten_cons, List.getElem?_append_left (by simp; omega)]
  congr 1
  omega
theorem three_set (k n : Nat) (h : k < n) (ws : List Value) (hw : ws.length = k * 3) (z0 z1 z2 a b c : Value) :
    (((ws ++ (List.replicate (n - k) [z0, z1, z2]).flatten).set (k * 3) a).set (k * 3 + 1) b).set (k * 3 + 2) c = (ws ++ [a, b, c]) ++ (List.replicate (n - (k + 1)) [z0, z1, z2]).flatten := by
  rw [List.set_append_right _ _ (by omega), List.set_append_right _ _ (by omega), List.set_append_right _ _ (by omega), hw, show n - k = (n - (k + 1)) + 1 by omega, List.replicate_succ, List.flatten_cons, List.append_assoc]
  congr 1
  rw [Nat.sub_self, show k * 3 + 1 - k * 3 = 1 by omega, show k * 3 + 2 - k * 3 = 2 by omega]
  rfl
theorem three_cells (z0 z1 z2 : Value) (n : Nat) : (madeCells #[z0, z1, z2] (n * 3)).toList = (List.replicate n [z0, z1, z2]).flatten := by
  have key : ∀ (n j : Nat), (List.replicate n [z0, z1, z2]).flatten[j]? = if j < n * 3 then some (#[z0, z1, z2][j % 3]!) else none := by
    intro n
    induction n with
    | zero => intro j; simp
    | succ n ih =>
      intro j
      rw [List.replicate_succ, List.flatten_cons]
      by_cases hj : j < 3
      · rw [List.getElem?_append_left (by simpa using hj), if_pos (by omega)]
        have : j = 0 ∨ j = 1 ∨ j = 2 := by omega
        rcases this with rfl | rfl | rfl <;> rfl
      · rw [List.getElem?_append_right (by simp; omega), ih]
        simp only [List.length_cons, List.length_nil]
        rw [show (j - (0 + 1 + 1 + 1)) % 3 = j % 3 by omega]
        by_cases h2 : j < (n + 1) * 3
        · rw [if_pos h2, if_pos (by omega)]
        · rw [if_neg h2, if_neg (by omega)]
  apply List.ext_getElem?
  intro j
  rw [key]
  by_cases hj : j < n * 3
  · simp [madeCells, hj]
  · simp [madeCells, hj]
theorem ownsRow_belowN {w w' : World} {lo : Nat} {E : TypeId} {size : Nat} {v : Value} {n : Nat} {xs : List Value} (h : w.ownsRow lo E size v n xs) (hb : Below w.heap.size w w') : w'.ownsRow lo E size v n xs := by
  obtain ⟨h1, h2⟩ := h
  refine ⟨h1, ?_⟩
  rcases h2 with h2 | ⟨g, cap, cur, hv, hlo, hg, r⟩
  · exact Or.inl h2
  · refine Or.inr ⟨g, cap, cur, hv, hlo, ?_, r⟩
    rw [hb.block g (Array.getElem?_eq_some_iff.1 hg).1]
    exact hg
theorem three_get (ws : List Value) (k : Nat) (hw : ws.length = k * 3) (a b c : Value) : (ws ++ [a, b, c])[k * 3]? = some a ∧ (ws ++ [a, b, c])[k * 3 + 1]? = some b ∧ (ws ++ [a, b, c])[k * 3 + 2]? = some c := by
  refine ⟨?_, ?_, ?_⟩ <;> (rw [List.getElem?_append_right (by omega), hw])
  · rw [Nat.sub_self]; rfl
  · rw [show k * 3 + 1 - k * 3 = 1 by omega]; rfl
  · rw [show k * 3 + 2 - k * 3 = 2 by omega]; rfl

end Go.Proofs.Ytkaeohlakeliiaa
