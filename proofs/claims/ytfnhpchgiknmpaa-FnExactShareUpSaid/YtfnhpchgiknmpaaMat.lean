/- A matrix in rows of a call's own, a right side beside it: what is read, written, swapped. No program in sight. -/
import Derived.Test.YtfnhpchgiknmpaaBack
namespace Go.Proofs.Ytfnhpchgiknmpaa
open Go.RowKit

/-- Rows of the call's own that hold the matrix B. -/
def MatV (E2 E : TypeId) (w : World) (lo : Nat) (G cap n c : Nat) (B : Mat) (vs : List Value) : Prop := ∃ xss : List (List Nat), GridV E2 E w lo (.slice (some ⟨G, 0, none⟩) n cap) xss vs ∧ Reads xss n c B
theorem GridV.lt {E2 E : TypeId} {w : World} {lo : Nat} {v : Value} {xss : List (List Nat)} {vs : List Value} (h : GridV E2 E w lo v xss vs) : (∀ g, v.ownBlock = some g → lo ≤ g ∧ g < w.heap.size) ∧ ∀ u ∈ vs, ∀ g, u.ownBlock = some g → lo ≤ g ∧ g < w.heap.size := by
  obtain ⟨h1, h2, h3, h4⟩ := h
  refine ⟨fun g hg => h2.lt g hg, fun u hu g hg => ?_⟩
  obtain ⟨j, hj⟩ := List.getElem?_of_mem hu
  have hjl : j < xss.length := by have := (List.getElem?_eq_some_iff.1 hj).1; omega
  exact (h3 j u xss[j] hj (List.getElem?_eq_getElem hjl)).2.1.lt g hg
section
variable {E2 E : TypeId} {w : World} {lo G cap n c : Nat} {B : Mat} {vs : List Value}
theorem MatV.below {w' : World} (h : MatV E2 E w lo G cap n c B vs) (hb : Below w.heap.size w w') : MatV E2 E w' lo G cap n c B vs := by
  obtain ⟨xss, h1, h2⟩ := h
  exact ⟨xss, h1.below hb, h2⟩
theorem MatV.kept {w' : World} {r : Nat} (h : MatV E2 E w lo G cap n c B vs) (hg : w.grownBy w' (some r)) (hG : G ≠ r) (hr : ∀ x ∈ vs, x.ownBlock ≠ some r) : MatV E2 E w' lo G cap n c B vs := by
  obtain ⟨xss, h1, h2⟩ := h
  exact ⟨xss, h1.kept hg (Or.inr (by simpa [Value.ownBlock] using hG)) (fun x hx => Or.inr (hr x hx)), h2⟩
theorem MatV.congr {B' : Mat} (h : MatV E2 E w lo G cap n c B vs) (he : ∀ i j, i < n → j < c → B i j = B' i j) : MatV E2 E w lo G cap n c B' vs := by
  obtain ⟨xss, h1, h2, h3, h4⟩ := h
  exact ⟨xss, h1, h2, h3, fun i j hi hj => by rw [h4 i j hi hj]; exact he i j (by omega) (by rw [← h3 i hi]; exact hj)⟩
theorem MatV.lt (h : MatV E2 E w lo G cap n c B vs) : lo ≤ G ∧ G < w.heap.size ∧ ∀ x ∈ vs, ∀ g, x.ownBlock = some g → lo ≤ g ∧ g < w.heap.size := by
  obtain ⟨xss, h1, _⟩ := h
  have := h1.lt.1 G rfl
  exact ⟨this.1, this.2, h1.lt.2⟩
/-- What is read of the matrix. -/
theorem MatV.at (h : MatV E2 E w lo G cap n c B vs) {i : Nat} (hi : i < n) : w.frozen? ⟨G, i, none⟩ = false ∧ G < w.heap.size ∧ lo ≤ G ∧ n ≤ cap ∧ cap ≤ maxLen ∧ ∃ g cp, c ≤ cp ∧ cp ≤ maxLen ∧ lo ≤ g ∧ g ≠ G ∧ g < w.heap.size ∧ w.cell? ⟨G, i, none⟩ = some (.slice (some ⟨g, 0, none⟩) c cp) ∧
    ∀ j, j < c → ∃ x, w.cell? ⟨g, j, none⟩ = some (.float .f32 x) ∧ ab .f32 x = B i j ∧ w.frozen? ⟨g, j, none⟩ = false := by
  obtain ⟨xss, h1, h2, h3, h4⟩ := h
  obtain ⟨G', cap', hv, q1, q2, q3⟩ := Grid.at ⟨vs, h1⟩
  rcases hv with hv | hv
  · omega
  · cases hv
    obtain ⟨a1, a2, a3, g, cp, b1, b2, b3, b4, b5, b6, b7⟩ := q3 i (by omega)
    rw [h3 i (by omega)] at b1 b6
    refine ⟨a3, a1, a2, by omega, q2, g, cp, b1, b2, b3, b4, b5, b6, fun j hj => ?_⟩
    have hjl : j < (xss[i]'(by omega)).length := by rw [h3 i (by omega)]; exact hj
    exact ⟨_, (b7 j hjl).1, h4 i j (by omega) hjl, (b7 j hjl).2⟩
/-- One number is written. -/
theorem MatV.stored {B' : Mat} (h : MatV E2 E w lo G cap n c B vs) {i j g m cp q : Nat} (hi : i < n) (hj : j < c) (hc : w.cell? ⟨G, i, none⟩ = some (.slice (some ⟨g, 0, none⟩) m cp)) (hq : ab .f32 q = B' i j)
    (he : ∀ r s, r < n → s < c → ¬ (r = i ∧ s = j) → B r s = B' r s) :
    MatV E2 E (w.setCell ⟨g, j, none⟩ (.float .f32 q)) lo G cap n c B' vs ∧ w.grownBy (w.setCell ⟨g, j, none⟩ (.float .f32 q)) (some g) ∧ ∃ x ∈ vs, x.ownBlock = some g := by
  obtain ⟨xss, h1, h2, h3, h4⟩ := h
  have hix : i < xss.length := by omega
  have hjl : j < (xss[i]).length := by rw [h3 i hix]; exact hj
  have hs := h1.stored hix hjl q (G := G) (c := cap) (by rw [h2]) hc
  refine ⟨⟨_, hs.1, by rw [List.length_set]; exact h2, fun r hr => ?_, fun r s hr hs => ?_⟩, hs.2.1, hs.2.2⟩
  · rw [List.length_set] at hr
    by_cases e : r = i
    · subst e
      rw [List.getElem_set_self, List.length_set]; exact h3 r (by simpa using hr)
    · rw [List.getElem_set_ne (fun x => e x.symm)]; exact h3 r hr
  · rw [List.length_set] at hr
    by_cases e : r = i
    · subst e
      simp only [List.getElem_set_self] at hs ⊢
      rw [List.length_set] at hs
      by_cases e2 : s = j
      · subst e2
        rw [List.getElem_set_self]; exact hq
      · rw [List.getElem_set_ne (fun x => e2 x.symm), h4 r s (by simpa using hr) hs]
        exact he r s (by omega) (by rw [← h3 r (by simpa using hr)]; exact hs) (fun x => e2 x.2)
    · simp only [List.getElem_set_ne (fun x => e x.symm)] at hs ⊢
      rw [h4 r s hr hs]
      exact he r s (by omega) (by rw [← h3 r hr]; exact hs) (fun x => e x.1)
/-- Two rows change places. -/
theorem MatV.swapped (h : MatV E2 E w lo G cap n c B vs) {b k : Nat} (hb : b < n) (hk : k < n) {x y : Value} (hx : w.cell? ⟨G, b, none⟩ = some x) (hy : w.cell? ⟨G, k, none⟩ = some y) :
    MatV E2 E ((w.setCell ⟨G, b, none⟩ y).setCell ⟨G, k, none⟩ x) lo G cap n c (swp B k b) ((vs.set b y).set k x) ∧ w.grownBy ((w.setCell ⟨G, b, none⟩ y).setCell ⟨G, k, none⟩ x) (some G) ∧ ∀ z ∈ (vs.set b y).set k x, z ∈ vs := by
  obtain ⟨xss, h1, h2, h3, h4⟩ := h
  have hbx : b < xss.length := by omega
  have hkx : k < xss.length := by omega
  have hs := h1.swapped hbx hkx (G := G) (c := cap) (by rw [h2]) hx hy
  have hpick : ∀ r (hr : r < ((xss.set b xss[k]).set k xss[b]).length), ((xss.set b xss[k]).set k xss[b])[r] = if r = k then xss[b] else if r = b then xss[k] else xss[r]'(by simpa using hr) := fun r hr => by
    by_cases e : r = k
    · subst e; rw [List.getElem_set_self, if_pos rfl]
    · rw [List.getElem_set_ne (fun z => e z.symm), if_neg e]
      by_cases e2 : r = b
      · subst e2; rw [List.getElem_set_self, if_pos rfl]
      · rw [List.getElem_set_ne (fun z => e2 z.symm), if_neg e2]
  refine ⟨⟨_, hs.1, by simpa using h2, fun r hr => ?_, fun r s hr hs => ?_⟩, hs.2⟩
  · rw [hpick r hr]
    have hr' : r < xss.length := by simpa using hr
    by_cases e : r = k
    · rw [if_pos e]; exact h3 b hbx
    · rw [if_neg e]
      by_cases e2 : r = b
      · rw [if_pos e2]; exact h3 k hkx
      · rw [if_neg e2]; exact h3 r hr'
  · have hr' : r < xss.length := by simpa using hr
    simp only [hpick r hr] at hs ⊢
    unfold swp
    by_cases e : r = k
    · simp only [if_pos e] at hs ⊢
      by_cases e2 : r = b
      · refine (h4 b s hbx hs).trans ?_
        rw [if_pos e2, ← e2, e]
      · refine (h4 b s hbx hs).trans ?_
        rw [if_neg e2]
    · simp only [if_neg e] at hs ⊢
      by_cases e2 : r = b
      · simp only [if_pos e2] at hs ⊢
        exact h4 k s hkx hs
      · simp only [if_neg e2] at hs ⊢
        exact h4 r s hr' hs
theorem MatV.rows (h : MatV E2 E w lo G cap n c B vs) : ∃ xss : List (List Nat), Reads xss n c B ∧ RowsAt w (.slice (some ⟨G, 0, none⟩) n cap) xss := by
  obtain ⟨xss, h1, h2⟩ := h
  exact ⟨xss, h2, Grid.rows ⟨vs, h1⟩⟩
end
theorem GridV.mat {E2 E : TypeId} {w : World} {lo n c : Nat} {B : Mat} {v : Value} {xss : List (List Nat)} {vs : List Value} (hn : 1 ≤ n) (h : GridV E2 E w lo v xss vs) (hr : Reads xss n c B) : ∃ G cap, v = .slice (some ⟨G, 0, none⟩) n cap ∧ MatV E2 E w lo G cap n c B vs := by
  have hxl : xss.length = n := hr.1
  obtain ⟨G, cap, e1, _⟩ := slice_of_own h.2.1 (by rw [h.1]; omega)
  rw [h.1, hxl] at e1
  subst e1
  exact ⟨G, cap, rfl, xss, h, hr⟩
theorem swp_comm (B : Mat) (k b : Nat) : swp B b k = swp B k b := by
  funext i j
  unfold swp
  by_cases c1 : i = k <;> by_cases c2 : i = b
  · subst c1; subst c2; rfl
  · rw [if_pos c1, if_neg c2, if_pos c1]
  · rw [if_neg c1, if_pos c2, if_pos c2]
  · rw [if_neg c1, if_neg c2, if_neg c2, if_neg c1]
/-- A matrix of n rows and n columns, and a right side, its column n. -/
def SolveAt (E2 E : TypeId) (w : World) (lo G cap R capR n : Nat) (B : Mat) : Prop := ∃ (vs : List Value) (rs : List Nat), MatV E2 E w lo G cap n n B vs ∧ w.ownsRow lo E 1 (.slice (some ⟨R, 0, none⟩) n capR) n (rs.map (Value.float .f32)) ∧ G ≠ R ∧ (∀ x ∈ vs, x.ownBlock ≠ some R) ∧ rs.length = n ∧ ∀ i (hi : i < rs.length), ab .f32 rs[i] = B i n
section
variable {E2 E : TypeId} {w : World} {lo G cap R capR n : Nat} {B : Mat}
theorem SolveAt.below {w' : World} (h : SolveAt E2 E w lo G cap R capR n B) (hb : Below w.heap.size w w') : SolveAt E2 E w' lo G cap R capR n B := by
  obtain ⟨vs, rs, h1, h2, h3⟩ := h
  exact ⟨vs, rs, h1.below hb, ownsRow_below h2 hb, h3⟩
theorem SolveAt.congr {B' : Mat} (h : SolveAt E2 E w lo G cap R capR n B) (he : ∀ i j, i < n → j < n + 1 → B i j = B' i j) : SolveAt E2 E w lo G cap R capR n B' := by
  obtain ⟨vs, rs, h1, h2, h3, h4, h5, h6⟩ := h
  exact ⟨vs, rs, h1.congr (fun i j hi hj => he i j hi (by omega)), h2, h3, h4, h5, fun i hi => by rw [h6 i hi]; exact he i n (by omega) (by omega)⟩
/-- What is read. -/
theorem SolveAt.at (h : SolveAt E2 E w lo G cap R capR n B) {i : Nat} (hi : i < n) : w.frozen? ⟨G, i, none⟩ = false ∧ G < w.heap.size ∧ lo ≤ G ∧ n ≤ cap ∧ cap ≤ maxLen ∧ ∃ g cp, n ≤ cp ∧ cp ≤ maxLen ∧ lo ≤ g ∧ g ≠ G ∧ g < w.heap.size ∧ w.cell? ⟨G, i, none⟩ = some (.slice (some ⟨g, 0, none⟩) n cp) ∧
    ∀ j, j < n → ∃ x, w.cell? ⟨g, j, none⟩ = some (.float .f32 x) ∧ ab .f32 x = B i j ∧ w.frozen? ⟨g, j, none⟩ = false := by
  obtain ⟨vs, rs, h1, _⟩ := h
  exact h1.at hi
theorem SolveAt.right (h : SolveAt E2 E w lo G cap R capR n B) {i : Nat} (hi : i < n) : R < w.heap.size ∧ lo ≤ R ∧ n ≤ capR ∧ capR ≤ maxLen ∧ w.frozen? ⟨R, i, none⟩ = false ∧ ∃ x, w.cell? ⟨R, i, none⟩ = some (.float .f32 x) ∧ ab .f32 x = B i n := by
  obtain ⟨vs, rs, h1, h2, h3, h4, h5, h6⟩ := h
  have hl := h2.lt R rfl
  have hc : n ≤ capR ∧ capR ≤ maxLen := by
    rcases h2.2 with ⟨e, _⟩ | ⟨g, c, cur, e, _, _, q1, q2, _⟩
    · cases e
    · cases e; exact ⟨q1, q2⟩
  refine ⟨hl.2, hl.1, hc.1, hc.2, h2.frozenAt i, rs[i]'(by omega), ?_, h6 i (by omega)⟩
  rw [h2.cellAt i (by omega)]
  simp [show i < rs.length by omega]
/-- One number of the matrix is written. -/
theorem SolveAt.stored {B' : Mat} (h : SolveAt E2 E w lo G cap R capR n B) {i j g m cp q : Nat} (hi : i < n) (hj : j < n) (hc : w.cell? ⟨G, i, none⟩ = some (.slice (some ⟨g, 0, none⟩) m cp)) (hq : ab .f32 q = B' i j)
    (he : ∀ r s, r < n → s < n + 1 → ¬ (r = i ∧ s = j) → B r s = B' r s) : SolveAt E2 E (w.setCell ⟨g, j, none⟩ (.float .f32 q)) lo G cap R capR n B' := by
  obtain ⟨vs, rs, h1, h2, h3, h4, h5, h6⟩ := h
  obtain ⟨k1, k2, x, hx, k3⟩ := h1.stored (B' := B') hi hj hc hq (fun r s hr hs hn => he r s hr (by omega) hn)
  refine ⟨vs, rs, k1, h2.kept k2 (Or.inr ?_), h3, h4, h5, fun r hr => ?_⟩
  · have := h4 x hx
    rw [k3] at this
    intro e
    exact this (e.symm)
  · rw [h6 r hr]; exact he r n (by omega) (by omega) (by omega)
/-- One number of the right side is written. -/
theorem SolveAt.storedR {B' : Mat} (h : SolveAt E2 E w lo G cap R capR n B) {i q : Nat} (hi : i < n) (hq : ab .f32 q = B' i n)
    (he : ∀ r s, r < n → s < n + 1 → ¬ (r = i ∧ s = n) → B r s = B' r s) : SolveAt E2 E (w.setCell ⟨R, i, none⟩ (.float .f32 q)) lo G cap R capR n B' := by
  obtain ⟨vs, rs, h1, h2, h3, h4, h5, h6⟩ := h
  have hst := h2.stored i (.float .f32 q)
  refine ⟨vs, rs.set i q, (h1.kept hst.2 h3 h4).congr (fun r s hr hs => he r s hr (by omega) (by omega)), ?_, h3, h4, by rw [List.length_set]; exact h5, fun r hr => ?_⟩
  · have := hst.1
    simpa [List.map_set] using this
  · rw [List.length_set] at hr
    by_cases e : r = i
    · subst e
      rw [List.getElem_set_self]; exact hq
    · rw [List.getElem_set_ne (fun z => e z.symm), h6 r hr]
      exact he r n (by omega) (by omega) (fun z => e z.1)
/-- Two rows of the matrix change places. -/
theorem SolveAt.swapped (h : SolveAt E2 E w lo G cap R capR n B) {b k : Nat} (hb : b < n) (hk : k < n) {x y : Value} (hx : w.cell? ⟨G, b, none⟩ = some x) (hy : w.cell? ⟨G, k, none⟩ = some y) :
    SolveAt E2 E ((w.setCell ⟨G, b, none⟩ y).setCell ⟨G, k, none⟩ x) lo G cap R capR n (fun i j => if j < n then swp B k b i j else B i j) := by
  obtain ⟨vs, rs, h1, h2, h3, h4, h5, h6⟩ := h
  obtain ⟨k1, k2, k3⟩ := h1.swapped hb hk hx hy
  refine ⟨_, rs, k1.congr (fun i j _ hj => by rw [if_pos hj]), h2.kept k2 (Or.inr ?_), h3, fun z hz => h4 z (k3 z hz), h5, fun r hr => ?_⟩
  · intro e
    exact h3 (Option.some.inj e).symm
  · rw [h6 r hr]
    show _ = if n < n then _ else _
    rw [if_neg (by omega)]
/-- Two numbers of the right side change places too. -/
theorem SolveAt.swappedR (b k : Nat) (h : SolveAt E2 E w lo G cap R capR n (fun i j => if j < n then swp B k b i j else B i j)) (hb : b < n) (hk : k < n) {x y : Nat} (hx : ab .f32 x = B b n) (hy : ab .f32 y = B k n) :
    SolveAt E2 E ((w.setCell ⟨R, b, none⟩ (.float .f32 y)).setCell ⟨R, k, none⟩ (.float .f32 x)) lo G cap R capR n (swp B k b) := by
  have h1 := h.storedR (B' := fun i j => if j < n then swp B k b i j else if i = b then B k j else B i j) hb (q := y) (by simp [hy]) (fun r s hr hs hn => by
    by_cases c : s < n
    · simp [c]
    · have : ¬ r = b := fun e => hn ⟨e, by omega⟩
      simp [c, this])
  have h2 := h1.storedR (B' := fun i j => if j < n then swp B k b i j else if i = k then B b j else if i = b then B k j else B i j) hk (q := x) (by simp [hx]) (fun r s hr hs hn => by
    by_cases c : s < n
    · simp [c]
    · have : ¬ r = k := fun e => hn ⟨e, by omega⟩
      simp [c, this])
  refine h2.congr (fun i j hi hj => ?_)
  by_cases c : j < n
  · simp [c]
  · simp only [c, if_false]
    unfold swp
    by_cases c1 : i = k <;> by_cases c2 : i = b
    · subst c1; subst c2; simp
    · rw [if_pos c1, if_neg c2, if_pos c1]
    · rw [if_neg c1, if_pos c2, if_pos c2]
    · rw [if_neg c1, if_neg c2, if_neg c2, if_neg c1]
end
end Go.Proofs.Ytfnhpchgiknmpaa
