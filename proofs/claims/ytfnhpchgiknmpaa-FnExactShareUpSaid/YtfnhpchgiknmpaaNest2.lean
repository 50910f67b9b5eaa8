/- Contracts of the laws' own helpers on rows of rows: copies, sizes, comparisons, marks. -/
import Derived.Test.YtfnhpchgiknmpaaNest
import Derived.Test.YtfnhpchgiknmpaaEq
namespace Go.Proofs.Ytfnhpchgiknmpaa
open Go.RowKit

/-- Rows that do not share blocks, one behind the other. -/
def Rising (vs : List Value) : Prop := ∀ (i j : Nat) (u u' : Value), i < j → vs[i]? = some u → vs[j]? = some u' → ∃ c : Nat, (∀ g, u.ownBlock = some g → g < c) ∧ (∀ g, u'.ownBlock = some g → c ≤ g)
def Inner (E : TypeId) (w : World) (lo : Nat) (vs : List Value) (xss : List (List Nat)) : Prop :=
  ∀ (i : Nat) (u : Value) (xs : List Nat), vs[i]? = some u → xss[i]? = some xs → w.ownsRow lo E 1 u (xs.map (Value.float .f32)).length (xs.map (Value.float .f32))
/-- Rows of rows of the call's own: all blocks from lo on and below hi. -/
def NestAt (E2 E : TypeId) (w : World) (lo hi : Nat) (v : Value) (xss : List (List Nat)) : Prop :=
  ∃ (G : Nat) (vs : List Value), v = .slice (some ⟨G, 0, none⟩) xss.length xss.length ∧ lo ≤ G ∧ G < hi ∧ hi ≤ w.heap.size ∧ vs.length = xss.length ∧ w.ownsRow lo E2 1 v vs.length vs ∧ Inner E w (G + 1) vs xss ∧
    (∀ (i : Nat) (u : Value), vs[i]? = some u → ∀ g, u.ownBlock = some g → g < hi) ∧ Rising vs
theorem Inner.below {E : TypeId} {w w' : World} {lo : Nat} {vs : List Value} {xss : List (List Nat)} (h : Inner E w lo vs xss) (hb : Below w.heap.size w w') : Inner E w' lo vs xss :=
  fun i u xs hu hx => ownsRow_below (h i u xs hu hx) hb
theorem NestAt.step {E2 E : TypeId} {w w' : World} {lo hi : Nat} {v : Value} {xss : List (List Nat)} (h : NestAt E2 E w lo hi v xss) (hb : Below w.heap.size w w') : NestAt E2 E w' lo hi v xss := by
  obtain ⟨G, vs, h1, h2, h3, h4, h5, h6, h7, h8, h9⟩ := h
  exact ⟨G, vs, h1, h2, h3, Nat.le_trans h4 hb.size, h5, ownsRow_below h6 hb, h7.below hb, h8, h9⟩
theorem NestAt.rows {E2 E : TypeId} {w : World} {lo hi : Nat} {v : Value} {xss : List (List Nat)} (h : NestAt E2 E w lo hi v xss) : RowsAt w v xss := by
  obtain ⟨G, vs, h1, h2, h3, h4, h5, h6, h7, h8, h9⟩ := h
  exact ⟨vs, (Own.mk' h6).row, h5, fun i u xs hu hx => (Own.mk' (h7 i u xs hu hx)).row⟩
/-- Nothing turns but what lies from lo on and below hi. -/
def Outside (lo hi : Nat) (w w' : World) : Prop := w'.os = w.os ∧ w'.tape = w.tape ∧ w'.output = w.output ∧ w.heap.size ≤ w'.heap.size ∧ ∀ b, b < w.heap.size → (b < lo ∨ hi ≤ b) → w'.heap[b]? = w.heap[b]?
theorem Outside.refl (lo hi : Nat) (w : World) : Outside lo hi w w := ⟨rfl, rfl, rfl, Nat.le_refl _, fun _ _ _ => rfl⟩
theorem Outside.below {lo hi : Nat} {w w' : World} (h : Outside lo hi w w') (hl : lo ≤ w.heap.size) : Below lo w w' := by
  obtain ⟨h1, h2, h3, h4, h5⟩ := h
  exact ⟨h1, h2, h3, h4, fun b hb => h5 b (by omega) (Or.inl hb)⟩
theorem Outside.wrote {lo hi : Nat} {w a b : World} {u : Value} (h : Outside lo hi w a) (hg : a.grownBy b u.ownBlock) (hu : ∀ g, u.ownBlock = some g → lo ≤ g ∧ g < hi) : Outside lo hi w b := by
  obtain ⟨h1, h2, h3, h4, h5⟩ := h
  refine ⟨hg.os.trans h1, hg.tape.trans h2, hg.output.trans h3, Nat.le_trans h4 hg.size, fun q hq ho => ?_⟩
  rw [hg.block q (by omega) (fun e => by have := hu q e.symm; omega)]
  exact h5 q hq ho
theorem Outside.next {lo hi : Nat} {w a b : World} (h : Outside lo hi w a) (hb : Below a.heap.size a b) : Outside lo hi w b := by
  obtain ⟨h1, h2, h3, h4, h5⟩ := h
  refine ⟨hb.os.trans h1, hb.tape.trans h2, hb.output.trans h3, Nat.le_trans h4 hb.size, fun q hq ho => ?_⟩
  rw [hb.block q (by omega)]
  exact h5 q hq ho
theorem OwnAt.outside {w wc w' : World} {lo hi lo2 hi2 : Nat} {E : TypeId} {v : Value} {xs : List Value} (h : OwnAt w lo hi E v xs) (hb : Below w.heap.size w wc) (ho : Outside lo2 hi2 wc w') (hd : hi ≤ lo2 ∨ hi2 ≤ lo) : OwnAt w' lo hi E v xs := by
  have h1 := h.step hb
  obtain ⟨⟨hown, hlt⟩, hs⟩ := h1
  obtain ⟨q1, q2, q3, q4, q5⟩ := ho
  refine ⟨⟨?_, hlt⟩, Nat.le_trans hs q4⟩
  obtain ⟨a1, a2⟩ := hown
  refine ⟨a1, ?_⟩
  rcases a2 with a2 | ⟨g, cap, cur, hv, hlo, hg, r⟩
  · exact Or.inl a2
  · refine Or.inr ⟨g, cap, cur, hv, hlo, ?_, r⟩
    have hgh := hlt g (by rw [hv]; rfl)
    rw [q5 g (by omega) (by omega)]
    exact hg
def totalLen (xss : List (List Nat)) : Nat := xss.foldr (fun xs n => xs.length + n) 0
theorem total_take (xss : List (List Nat)) (k : Nat) (h : k < xss.length) : totalLen (xss.take (k + 1)) = totalLen (xss.take k) + (xss[k]).length := by
  induction xss generalizing k with
  | nil => simp at h
  | cons a t ih =>
    cases k with
    | zero => simp [totalLen]
    | succ k =>
      have := ih k (by simpa using h)
      simp only [List.take_succ_cons, List.getElem_cons_succ]
      unfold totalLen at this ⊢
      simp only [List.foldr_cons]
      omega
theorem total_mono (xss : List (List Nat)) (k : Nat) : totalLen (xss.take k) ≤ totalLen xss := by
  induction xss generalizing k with
  | nil => simp [totalLen]
  | cons a t ih =>
    cases k with
    | zero => simp [totalLen]
    | succ k =>
      have := ih k
      simp only [List.take_succ_cons]
      unfold totalLen at this ⊢
      simp only [List.foldr_cons]
      omega

set_option maxHeartbeats 400000 in
theorem szFloat32S_any (ao : Option Addr) (n cap : Nat) (left : Int) (hl : 0 ≤ left ∧ left ≤ 1048576) (hn : n ≤ cap ∧ cap ≤ maxLen) (w : World) :
    Calls Try.prog 46 #[.slice ao n cap, .int .i64 left] w fun e w' => e = .returned (.int .i64 (if left - n < 0 then -1 else left - n)) ∧ Below w.heap.size w w' := by
  have hm := hn.2
  unfold maxLen at hm
  have W1 : IntKind.i64.wrap (left - (n : Int)) = left - (n : Int) := by rw [IntKind.wrap_i64]; omega
  by_cases h : left - (n : Int) < 0
  · have h' := h
    rw [if_pos h]
    go_enter Try.func46, Try.ntmps46
    go_wp2_with fail
    go_ret
    exact ⟨rfl, below_refl _⟩
  · rw [if_neg h]
    go_enter Try.func46, Try.ntmps46
    go_wp2_with fail
    go_ret
    exact ⟨rfl, below_refl _⟩
end Go.Proofs.Ytfnhpchgiknmpaa
