/- Rows of rows of floats. No program in sight. -/
import Derived.Test.YtkaeohlakeliiaaOpen
import Derived.Test.YtkaeohlakeliiaaRow
import Derived.Test.YtkaeohlakeliiaaPush
namespace Go.Proofs.Ytkaeohlakeliiaa
open Go.RowKit

/-! ## Nest -/
open Go.ChangeShapes Go.WideShapes Go.ChangeAt Go.RowKit Go.Deep

/-- v reads as rows of floats. -/
def RowsAt (w : World) (v : Value) (xss : List (List Nat)) : Prop :=
  ∃ vs : List Value, RowAt w v vs ∧ vs.length = xss.length ∧ ∀ (i : Nat) (u : Value) (xs : List Nat), vs[i]? = some u → xss[i]? = some xs → RowAt w u (xs.map (Value.float .f32))
theorem RowsAt.below {w w' : World} {v : Value} {xss : List (List Nat)} (h : RowsAt w v xss) (hb : Below w.heap.size w w') : RowsAt w' v xss := by
  obtain ⟨vs, h1, h2, h3⟩ := h
  exact ⟨vs, h1.below hb, h2, fun i u xs hu hx => (h3 i u xs hu hx).below hb⟩
/-- One row of rows. -/
theorem RowsAt.one {w : World} {v : Value} {xss : List (List Nat)} (h : RowsAt w v xss) : ∃ ao cap b off, v = .slice ao xss.length cap ∧ (0 < xss.length → ao = some ⟨b, off, none⟩) ∧ xss.length ≤ cap ∧ cap ≤ maxLen ∧
    ∀ k (hk : k < xss.length), ∃ ao2 cap2, w.cell? ⟨b, off + k, none⟩ = some (.slice ao2 (xss[k]).length cap2) ∧ RowAt w (.slice ao2 (xss[k]).length cap2) ((xss[k]).map (Value.float .f32)) := by
  obtain ⟨vs, ⟨ao, cap, b, off, h1, h2, h3, h4, h5⟩, hlen, hr⟩ := h
  rw [hlen] at h1 h2 h3
  refine ⟨ao, cap, b, off, h1, h2, h3, h4, fun k hk => ?_⟩
  have hk' : k < vs.length := by omega
  have hrow := hr k vs[k] xss[k] (List.getElem?_eq_getElem hk') (List.getElem?_eq_getElem hk)
  have hcell := h5 k vs[k] (List.getElem?_eq_getElem hk')
  have hrow' := hrow
  obtain ⟨ao2, cap2, _, _, e, _⟩ := hrow'
  simp only [List.length_map] at e
  rw [e] at hrow hcell
  exact ⟨ao2, cap2, hcell, hrow⟩
section
variable {H : Type} {enc : TypeId × Value → H} {P : Program} {w : World}
theorem open_frows {t e q : TypeId} {a : Option Addr} {len cap : Nat} {d : DataW H} {ps : List MemPlace} (ht : P.underlying t = some (.slice e)) (hc : P.cellsOf e = 1) (he : P.underlying e = some (.slice q)) (hq : P.underlying q = some (.float .f32)) (hcq : P.cellsOf q = 1) (h : DataW.Trod enc P w 0 (fun _ => true) true t (.slice a len cap) d ps) :
    ∃ xss : List (List Nat), RowsAt w (.slice a len cap) xss ∧ ∀ xs ∈ xss, ∀ b ∈ xs, b < 4294967296 := by
  obtain ⟨vs, hr, hx⟩ := open_row1 ht hc h
  have each : ∀ i, i < vs.length → ∃ xs : List Nat, RowAt w (vs.getD i default) (xs.map (Value.float .f32)) ∧ ∀ b ∈ xs, b < 4294967296 := by
    intro i hi
    obtain ⟨n, D, Pl, h1⟩ := hx vs[i] (List.getElem_mem hi)
    have hg : vs.getD i default = vs[i] := by simp [hi]
    rw [hg]
    rcases open_slice1 he hcq h1 with ⟨hcs, _⟩ | ⟨ad, l, c, _, _, _, _, _, hcs, _⟩
    · have hv : vs[i] = .slice none 0 0 := by simpa using hcs
      rw [hv] at h1 ⊢
      exact open_floats he hq hcq (d := D) (ps := Pl) ⟨n, by simpa [Value.cells] using h1⟩
    · have hv : vs[i] = .slice (some ad) l c := by simpa using hcs
      rw [hv] at h1 ⊢
      exact open_floats he hq hcq (d := D) (ps := Pl) ⟨n, by simpa [Value.cells] using h1⟩
  obtain ⟨f, hf⟩ := choose_lt each
  refine ⟨(List.range vs.length).map f, ⟨vs, hr, by simp, ?_⟩, fun xs hxs => ?_⟩
  · intro i u xs hu hxs
    obtain ⟨hi, rfl⟩ := List.getElem?_eq_some_iff.1 hu
    have hg : vs.getD i default = vs[i] := by simp [hi]
    have := (hf i hi).1
    rw [hg] at this
    simp [hi] at hxs
    subst hxs
    exact this
  · obtain ⟨i, hi, rfl⟩ := List.mem_map.1 hxs
    exact (hf i (List.mem_range.1 hi)).2
end

/-! ## Nest2 -/
/-- Rows that do not share blocks, one behind the other. -/
def Rising (vs : List Value) : Prop := ∀ (i j : Nat) (u u' : Value), i < j → vs[i]? = some u → vs[j]? = some u' → ∃ c : Nat, (∀ g, u.ownBlock = some g → g < c) ∧ (∀ g, u'.ownBlock = some g → c ≤ g)
def Inner (E : TypeId) (w : World) (lo : Nat) (vs : List Value) (xss : List (List Nat)) : Prop :=
  ∀ (i : Nat) (u : Value) (xs : List Nat), vs[i]? = some u → xss[i]? = some xs → w.ownsRow lo E 1 u (xs.map (Value.float .f32)).length (xs.map (Value.float .f32))
/-- Rows of rows of the call's own: all blocks from lo on and below hi. -/
def NestAt (E2 E : TypeId) (w : World) (lo hi : Nat) (v : Value) (xss : List (List Nat)) : Prop :=
  ∃ (G : Nat) (vs : List Value), v = .slice (some ⟨G, 0, none⟩) xss.length xss.length ∧ lo ≤ G ∧ G < hi ∧ hi ≤ w.heap.size ∧ vs.length = xss.length ∧ w.ownsRow lo E2 1 v vs.length vs ∧ Inner E w (G + 1) vs xss ∧
    (∀ (i : Nat) (u : Value), vs[i]? = some u → ∀ g, u.ownBlock = some g → g < hi) ∧ Rising vs
theorem Inner.below {E : TypeId} {w w' : World} {lo : Nat} {vs : List Value} {xss : List (List Nat)} (h : Inner E w lo vs xss) (hb : Below w.heap.size w w') : Inner E w' lo vs xss :=
  fun i u xs hu hx => ownsRow_below (h i u xs hu hx) hb
theorem NestAt.step {E2 E : TypeId} {w w' : World} {lo hi : Nat} {v : Value} {xss : List (List Nat)} (h : NestAt E2 E w lo hi v xss) (hb : Below w.heap.size w w') : NestAt E2 E w' lo hi v xss := by
  obtain ⟨G, vs, h1, h2, h3, h4, h5, h6, h7, h8, h9⟩ := h
  exact ⟨G, vs, h1, h2, h3, Nat.le_trans h4 hb.size, h5, ownsRow_below h6 hb, h7.below hb, h8, h9⟩
theorem NestAt.rows {E2 E : TypeId} {w : World} {lo hi : Nat} {v : Value} {xss : List (List Nat)} (h : NestAt E2 E w lo hi v xss) : RowsAt w v xss := by
  obtain ⟨G, vs, h1, h2, h3, h4, h5, h6, h7, h8, h9⟩ := h
  exact ⟨vs, (Own.mk' h6).row, h5, fun i u xs hu hx => (Own.mk' (h7 i u xs hu hx)).row⟩
/-- Nothing turns but what lies from lo on and below hi. -/
def Outside (lo hi : Nat) (w w' : World) : Prop := w'.os = w.os ∧ w'.tape = w.tape ∧ w'.output = w.output ∧ w.heap.size ≤ w'.heap.size ∧ ∀ b, b < w.heap.size → (b < lo ∨ hi ≤ b) → w'.heap[b]? = w.heap[b]?
theorem Outside.refl (lo hi : Nat) (w : World) : Outside lo hi w w := ⟨rfl, rfl, rfl, Nat.le_refl _, fun _ _ _ => rfl⟩
theorem Outside.below {lo hi : Nat} {w w' : World} (h : Outside lo hi w w') (hl : lo ≤ w.heap.size) : Below lo w w' := by
  obtain ⟨h1, h2, h3, h4, h5⟩ := h
  exact ⟨h1, h2, h3, h4, fun b hb => h5 b (by omega) (Or.inl hb)⟩
theorem Outside.wrote {lo hi : Nat} {w a b : World} {u : Value} (h : Outside lo hi w a) (hg : a.grownBy b u.ownBlock) (hu : ∀ g, u.ownBlock = some g → lo ≤ g ∧ g < hi) : Outside lo hi w b := by
  obtain ⟨h1, h2, h3, h4, h5⟩ := h
  refine ⟨hg.os.trans h1, hg.tape.trans h2, hg.output.trans h3, Nat.le_trans h4 hg.size, fun q hq ho => ?_⟩
  rw [hg.block q (by omega) (fun e => by have := hu q e.symm; omega)]
  exact h5 q hq ho
theorem Outside.next {lo hi : Nat} {w a b : World} (h : Outside lo hi w a) (hb : Below a.heap.size a b) : Outside lo hi w b := by
  obtain ⟨h1, h2, h3, h4, h5⟩ := h
  refine ⟨hb.os.trans h1, hb.tape.trans h2, hb.output.trans h3, Nat.le_trans h4 hb.size, fun q hq ho => ?_⟩
  rw [hb.block q (by omega)]
  exact h5 q hq ho
theorem OwnAt.outside {w wc w' : World} {lo hi lo2 hi2 : Nat} {E : TypeId} {v : Value} {xs : List Value} (h : OwnAt w lo hi E v xs) (hb : Below w.heap.size w wc) (ho : Outside lo2 hi2 wc w') (hd : hi ≤ lo2 ∨ hi2 ≤ lo) : OwnAt w' lo hi E v xs := by
  have h1 := h.step hb
  obtain ⟨⟨hown, hlt⟩, hs⟩ := h1
  obtain ⟨q1, q2, q3, q4, q5⟩ := ho
  refine ⟨⟨?_, hlt⟩, Nat.le_trans hs q4⟩
  obtain ⟨a1, a2⟩ := hown
  refine ⟨a1, ?_⟩
  rcases a2 with a2 | ⟨g, cap, cur, hv, hlo, hg, r⟩
  · exact Or.inl a2
  · refine Or.inr ⟨g, cap, cur, hv, hlo, ?_, r⟩
    have hgh := hlt g (by rw [hv]; rfl)
    rw [q5 g (by omega) (by omega)]
    exact hg
def totalLen (xss : List (List Nat)) : Nat := xss.foldr (fun xs n => xs.length + n) 0
theorem total_take (xss : List (List Nat)) (k : Nat) (h : k < xss.length) : totalLen (xss.take (k + 1)) = totalLen (xss.take k) + (xss[k]).length := by
  induction xss generalizing k with
  | nil => simp at h
  | cons a t ih =>
    cases k with
    | zero => simp [totalLen]
    | succ k =>
      have := ih k (by simpa using h)
      simp only [List.take_succ_cons, List.getElem_cons_succ]
      unfold totalLen at this ⊢
      simp only [List.foldr_cons]
      omega
theorem total_mono (xss : List (List Nat)) (k : Nat) : totalLen (xss.take k) ≤ totalLen xss := by
  induction xss generalizing k with
  | nil => simp [totalLen]
  | cons a t ih =>
    cases k with
    | zero => simp [totalLen]
    | succ k =>
      have := ih k
      simp only [List.take_succ_cons]
      unfold totalLen at this ⊢
      simp only [List.foldr_cons]
      omega


/-! ## Nest3 -/
theorem get_append_one {α : Type} (vs : List α) (u : α) (i : Nat) (x : α) (h : (vs ++ [u])[i]? = some x) : (i < vs.length ∧ vs[i]? = some x) ∨ (i = vs.length ∧ x = u) := by
  by_cases hi : i < vs.length
  · left; rw [List.getElem?_append_left hi] at h; exact ⟨hi, h⟩
  · rw [List.getElem?_append_right (by omega)] at h
    by_cases h2 : i = vs.length
    · right; subst h2; simp at h; exact ⟨rfl, h.symm⟩
    · rw [List.getElem?_eq_none (by simp; omega)] at h; cases h
end Go.Proofs.Ytkaeohlakeliiaa
