/- Slices that the call itself makes: rows of one-cell elements. No program in sight. -/
import Derived.Test.YtkgbbagklkffpaaLib
namespace Go.Proofs.Ytkgbbagklkffpaa
open Go.RowKit

/-- v is a row of the call's own, in a block from lo on and below hi (or nil), that reads xs. -/
def Own (w : World) (lo hi : Nat) (E : TypeId) (v : Value) (xs : List Value) : Prop :=
  w.ownsRow lo E 1 v xs.length xs ∧ ∀ g, v.ownBlock = some g → g < hi

theorem ownsRow_low {w : World} {lo lo' : Nat} {E : TypeId} {v : Value} {n : Nat} {xs : List Value} (h : w.ownsRow lo E 1 v n xs) (hl : lo' ≤ lo) : w.ownsRow lo' E 1 v n xs := by
  obtain ⟨h1, h2⟩ := h
  refine ⟨h1, ?_⟩
  rcases h2 with h2 | ⟨g, cap, cur, hv, hb, r⟩
  · exact Or.inl h2
  · exact Or.inr ⟨g, cap, cur, hv, Nat.le_trans hl hb, r⟩

theorem ownsRow_below {w w' : World} {lo : Nat} {E : TypeId} {v : Value} {n : Nat} {xs : List Value} (h : w.ownsRow lo E 1 v n xs) (hb : Below w.heap.size w w') : w'.ownsRow lo E 1 v n xs := by
  obtain ⟨h1, h2⟩ := h
  refine ⟨h1, ?_⟩
  rcases h2 with h2 | ⟨g, cap, cur, hv, hlo, hg, r⟩
  · exact Or.inl h2
  · refine Or.inr ⟨g, cap, cur, hv, hlo, ?_, r⟩
    rw [hb.block g (Array.getElem?_eq_some_iff.1 hg).1]
    exact hg
theorem Own.mk' {w : World} {lo : Nat} {E : TypeId} {v : Value} {xs : List Value} (h : w.ownsRow lo E 1 v xs.length xs) : Own w lo w.heap.size E v xs := ⟨h, fun g hg => (h.lt g hg).2⟩
theorem Own.nil (w : World) (lo hi : Nat) (E : TypeId) : Own w lo hi E (.slice none 0 0) [] := ⟨World.ownsRow_nil w lo E 1, fun g hg => by simp [Value.ownBlock] at hg⟩
theorem Own.low {w : World} {lo lo' hi hi' : Nat} {E : TypeId} {v : Value} {xs : List Value} (h : Own w lo hi E v xs) (hl : lo' ≤ lo) (hh : hi ≤ hi') : Own w lo' hi' E v xs :=
  ⟨ownsRow_low h.1 hl, fun g hg => Nat.lt_of_lt_of_le (h.2 g hg) hh⟩

theorem Own.below {w w' : World} {lo hi : Nat} {E : TypeId} {v : Value} {xs : List Value} (h : Own w lo hi E v xs) (hb : Below hi w w') : Own w' lo hi E v xs := by
  obtain ⟨⟨h1, h2⟩, h3⟩ := h
  refine ⟨⟨h1, ?_⟩, h3⟩
  rcases h2 with h2 | ⟨g, cap, cur, hv, hlo, hg, r⟩
  · exact Or.inl h2
  · refine Or.inr ⟨g, cap, cur, hv, hlo, ?_, r⟩
    rw [hb.block g (h3 g (by rw [hv]; rfl))]
    exact hg

/-- A row kept while another one is written: that one lies outside [lo, hi). -/
theorem Own.apart {w w' : World} {lo hi : Nat} {E : TypeId} {v u : Value} {xs : List Value} (h : Own w lo hi E v xs) (hg : w.grownBy w' u.ownBlock) (ha : ∀ g, u.ownBlock = some g → g < lo ∨ hi ≤ g) : Own w' lo hi E v xs := by
  refine ⟨h.1.kept hg ?_, h.2⟩
  cases hv : v.ownBlock with
  | none => exact Or.inl rfl
  | some g =>
    right
    cases hu : u.ownBlock with
    | none => simp
    | some g' =>
      have h1 := h.2 g hv
      have h2 := (h.1.lt g hv).1
      intro e
      cases e
      rcases ha g hu with h3 | h3 <;> omega

theorem Own.row {w : World} {lo hi : Nat} {E : TypeId} {v : Value} {xs : List Value} (h : Own w lo hi E v xs) : RowAt w v xs := by
  obtain ⟨⟨h1, h2⟩, _⟩ := h
  rcases h2 with ⟨rfl, hn⟩ | ⟨g, cap, cur, rfl, hlo, hg, hn, hm, hs, ht⟩
  · have : xs = [] := List.eq_nil_of_length_eq_zero hn
    subst this
    exact ⟨none, 0, 0, 0, rfl, by simp, by simp, by simp, by simp⟩
  · refine ⟨_, cap, g, 0, rfl, fun _ => rfl, hn, hm, fun i x hx => ?_⟩
    simp only [World.cell?, hg]
    rw [Nat.mul_one] at ht
    rw [← ht] at hx
    have hi : i < xs.length := by
      have := (List.getElem?_eq_some_iff.1 hx).1
      rw [List.length_take] at this; omega
    rw [List.getElem?_take, if_pos hi] at hx
    simpa using hx

/-- What is written from lo on leaves what lies below. -/
theorem wrote_below {w w' : World} {lo : Nat} {u : Value} (hg : w.grownBy w' u.ownBlock) (hlo : ∀ g, u.ownBlock = some g → lo ≤ g) (hs : lo ≤ w.heap.size) : Below lo w w' :=
  (Below.refl lo w).grown hg hs hlo

/-- append of one element to a row of the call's own. -/
theorem wpList_push {P : Program} {ops : Array Oper} {rest : List Oper} {o : Oper} {a : Act} {Q : Exit → Act → World → Prop} {w : World} {E : TypeId} {i : TypeInfo} {z y : Value} {bytes : Nat}
    (hgd : o.guard = none) (s x : Operand) (t : TypeId) (ho : o.op = .call { callee := .builtin .append, args := #[s, x], argTypes := #[t, t] })
    (ht : P.underlying t = some (.slice E)) (hi : P.info? E = some i) (hz : i.zero = some z) (hsz : i.size = 1) (hby : i.bytes = bytes) (hzc : z.cells.size = 1)
    (base : Nat) (v : Value) (xs : List Value) (hs : a.eval s = v) (hx : a.eval x = .slice (some ⟨w.heap.size, 0, none⟩) 1 1)
    (hown : w.ownsRow base E 1 v xs.length xs) (h1 : y.oneCell' = true) (hn : xs.length ≤ 1000000) (hb : bytes ≤ 64) (hbase : base ≤ w.heap.size)
    (h : ∀ v' w', w'.ownsRow base E 1 v' (xs ++ [y]).length (xs ++ [y]) → Below base w w' → wpList P ops Q rest (a.put o.dst v') w') :
    wpList P ops Q (o :: rest) a (w.alloc (.cells #[y] E)) := by
  have hown' : (w.alloc (.cells #[y] E)).ownsRow base E 1 v xs.length xs := hown.alloc _
  have hsize : (w.alloc (.cells #[y] E)).heap.size = w.heap.size + 1 := by simp
  have hnb : (xs.length + 1) * bytes ≤ 140737488355328 := by
    have : (xs.length + 1) * bytes ≤ 1000001 * 64 := Nat.mul_le_mul (by omega) hb
    omega
  refine wpList_append_own _ hgd s x t ho base E i z 1 bytes ht hi hz hsz hby hzc (by decide) v xs.length xs hs hown' ⟨w.heap.size, 0, none⟩ 1 1 [y] hx rfl ?_ (by simpa using h1) (by simp only [maxLen]; omega) hnb (by omega) ?_
  · exact cell_one_new _ _ _
  · intro v' w' ho' hg _
    refine h v' w' (by simpa using ho') ?_
    have hb1 : Below base w (w.alloc (.cells #[y] E)) := (Below.refl base w).alloc hbase _
    exact hb1.grown hg (by omega) (fun k hk => (hown.lt k hk).1)

/-- A row of the call's own with the room that it lies in, both below the world's size. -/
def OwnAt (w : World) (lo hi : Nat) (E : TypeId) (v : Value) (xs : List Value) : Prop := Own w lo hi E v xs ∧ hi ≤ w.heap.size
theorem OwnAt.mk' {w w' : World} {E : TypeId} {v : Value} {xs : List Value} (h : w'.ownsRow w.heap.size E 1 v xs.length xs) : OwnAt w' w.heap.size w'.heap.size E v xs := ⟨Own.mk' h, Nat.le_refl _⟩
theorem OwnAt.step {w w' : World} {lo hi : Nat} {E : TypeId} {v : Value} {xs : List Value} (h : OwnAt w lo hi E v xs) (hb : Below w.heap.size w w') : OwnAt w' lo hi E v xs :=
  ⟨h.1.below (hb.mono h.2), Nat.le_trans h.2 hb.size⟩
theorem OwnAt.row {w w' : World} {lo hi : Nat} {E : TypeId} {v : Value} {xs : List Value} (h : OwnAt w lo hi E v xs) (hb : Below w.heap.size w w') : RowAt w' v xs := (h.step hb).1.row
theorem OwnAt.owns {w w' : World} {lo hi : Nat} {E : TypeId} {v : Value} {xs : List Value} (h : OwnAt w lo hi E v xs) (hb : Below w.heap.size w w') : w'.ownsRow lo E 1 v xs.length xs := (h.step hb).1.1
/-- Other cells are written into the row's own block; it may move into a new one. -/
theorem OwnAt.marked {w wc w' : World} {lo hi : Nat} {E : TypeId} {v : Value} {xs ms : List Value} (h : OwnAt w lo hi E v xs) (hb : Below w.heap.size w wc) (ho : w'.ownsRow lo E 1 v ms.length ms) (hg : wc.grownBy w' v.ownBlock) : OwnAt w' lo hi E v ms :=
  ⟨⟨ho, h.1.2⟩, Nat.le_trans (Nat.le_trans h.2 hb.size) hg.size⟩
theorem OwnAt.apart {w wm wc w' : World} {lo hi lo2 hi2 : Nat} {E E2 : TypeId} {v u : Value} {xs ys : List Value} (h : OwnAt w lo hi E u ys) (hb : Below w.heap.size w wc) (hm : OwnAt wm lo2 hi2 E2 v xs) (hg : wc.grownBy w' v.ownBlock) (hd : hi ≤ lo2 ∨ hi2 ≤ lo) : OwnAt w' lo hi E u ys := by
  refine ⟨(h.step hb).1.apart hg fun g hv => ?_, Nat.le_trans (h.step hb).2 hg.size⟩
  have h1 := (hm.1.1.lt g hv).1
  have h2 := hm.1.2 g hv
  omega
theorem OwnAt.wrote {wb w wc w' : World} {lo hi : Nat} {E : TypeId} {v : Value} {xs : List Value} (h : OwnAt w lo hi E v xs) (_ : Below w.heap.size w wc) (hB : Below wb.heap.size wb wc) (hg : wc.grownBy w' v.ownBlock) (hl : wb.heap.size ≤ lo) : Below wb.heap.size wb w' :=
  hB.trans ((wrote_below (lo := wb.heap.size) hg (fun g hv => Nat.le_trans hl (h.1.1.lt g hv).1) hB.size))
theorem new_lo {a b c : World} (h : Below a.heap.size a b) (_ : Below b.heap.size b c) : a.heap.size ≤ b.heap.size := h.size
theorem row_apart {w wc w' : World} {lo hi : Nat} {E : TypeId} {v : Value} {xs : List Value} (h : OwnAt w lo hi E v xs) (hb : Below w.heap.size w wc) (_ : Below wc.heap.size wc w') : hi ≤ wc.heap.size := Nat.le_trans h.2 hb.size

end Go.Proofs.Ytkgbbagklkffpaa
