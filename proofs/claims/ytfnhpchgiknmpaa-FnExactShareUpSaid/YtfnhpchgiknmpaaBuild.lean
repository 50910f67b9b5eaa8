/- Rows and a right side that a call builds side by side. No program in sight. -/
import Derived.Test.YtfnhpchgiknmpaaSolve
namespace Go.Proofs.Ytfnhpchgiknmpaa
open Go.RowKit

/-- append of one element to a row of the call's own; where the new row lies. -/
theorem wpList_pushR {P : Program} {ops : Array Oper} {rest : List Oper} {o : Oper} {a : Act} {Q : Exit → Act → World → Prop} {w : World} {E : TypeId} {i : TypeInfo} {z y : Value} {bytes : Nat}
    (hgd : o.guard = none) (s x : Operand) (t : TypeId) (ho : o.op = .call { callee := .builtin .append, args := #[s, x], argTypes := #[t, t] })
    (ht : P.underlying t = some (.slice E)) (hi : P.info? E = some i) (hz : i.zero = some z) (hsz : i.size = 1) (hby : i.bytes = bytes) (hzc : z.cells.size = 1)
    (base : Nat) (v : Value) (xs : List Value) (hs : a.eval s = v) (hx : a.eval x = .slice (some ⟨w.heap.size, 0, none⟩) 1 1)
    (hown : w.ownsRow base E 1 v xs.length xs) (h1 : y.oneCell' = true) (hn : xs.length ≤ 2097152) (hb : bytes ≤ 64) (hbase : base ≤ w.heap.size)
    (h : ∀ v' w', w'.ownsRow base E 1 v' (xs ++ [y]).length (xs ++ [y]) → w.grownBy w' v.ownBlock → (v'.ownBlock = v.ownBlock ∨ v'.ownBlock = some (w.heap.size + 1)) → Below base w w' → wpList P ops Q rest (a.put o.dst v') w') :
    wpList P ops Q (o :: rest) a (w.alloc (.cells #[y] E)) := by
  have hown' : (w.alloc (.cells #[y] E)).ownsRow base E 1 v xs.length xs := hown.alloc _
  have hsize : (w.alloc (.cells #[y] E)).heap.size = w.heap.size + 1 := by simp
  have hnb : (xs.length + 1) * bytes ≤ 140737488355328 := by
    have : (xs.length + 1) * bytes ≤ 2097153 * 64 := Nat.mul_le_mul (by omega) hb
    omega
  refine wpList_append_own_at _ hgd s x t ho base E i z 1 bytes ht hi hz hsz hby hzc (by decide) v xs.length xs hs hown' ⟨w.heap.size, 0, none⟩ 1 1 [y] hx rfl ?_ (by simpa using h1) (by simp only [maxLen]; omega) hnb (by omega) ?_
  · exact cell_one_new _ _ _
  · intro v' w' ho' hg _ hblk
    refine h v' w' (by simpa using ho') ((World.grownBy_alloc w _ _).trans hg) (by simpa [hsize] using hblk) ?_
    have hb1 : Below base w (w.alloc (.cells #[y] E)) := (Below.refl base w).alloc hbase _
    exact hb1.grown hg (by omega) (fun k hk => (hown.lt k hk).1)
/-- A grid and a row beside it. -/
def BuildV (E2 E : TypeId) (w : World) (lo : Nat) (v u : Value) (xss : List (List Nat)) (rs : List Nat) (vs : List Value) : Prop :=
  GridV E2 E w lo v xss vs ∧ w.ownsRow lo E 1 u (rs.map (Value.float .f32)).length (rs.map (Value.float .f32)) ∧ Twain u v ∧ ∀ x ∈ vs, Twain x u
theorem twain_fresh {w : World} {lo : Nat} {E : TypeId} {u v v' : Value} {n : Nat} {xs : List Value} (hu : w.ownsRow lo E 1 u n xs) (h : Twain u v) (hb : v'.ownBlock = v.ownBlock ∨ v'.ownBlock = some (w.heap.size + 1)) : Twain u v' := by
  rcases hb with e | e
  · rcases h with h2 | h2
    · exact Or.inl h2
    · right; rw [e]; exact h2
  · cases hub : u.ownBlock with
    | none => exact Or.inl hub
    | some g =>
      right
      rw [hub, e]
      have := (hu.lt g hub).2
      intro e2
      have := Option.some.inj e2
      omega
section
variable {E2 E : TypeId} {w w' : World} {lo : Nat} {v u v' u' y : Value} {xss : List (List Nat)} {rs ys : List Nat} {vs : List Value}
theorem BuildV.below (h : BuildV E2 E w lo v u xss rs vs) (hb : Below w.heap.size w w') : BuildV E2 E w' lo v u xss rs vs := ⟨h.1.below hb, ownsRow_below h.2.1 hb, h.2.2⟩
theorem BuildV.row (h : BuildV E2 E w lo v u xss rs vs) (hgv : GridV E2 E w' lo v' (xss ++ [ys]) (vs ++ [y])) (hg : w.grownBy w' v.ownBlock) (hb : v'.ownBlock = v.ownBlock ∨ v'.ownBlock = some (w.heap.size + 1)) (hy : Twain y u) : BuildV E2 E w' lo v' u (xss ++ [ys]) rs (vs ++ [y]) := by
  obtain ⟨h1, h2, h3, h4⟩ := h
  refine ⟨hgv, h2.kept hg h3, twain_fresh h2 h3 hb, fun x hx => ?_⟩
  rcases List.mem_append.1 hx with hx | hx
  · exact h4 x hx
  · have : x = y := by simpa using hx
    rw [this]; exact hy
theorem BuildV.right {q : Nat} (h : BuildV E2 E w lo v u xss rs vs) (ho : w'.ownsRow lo E 1 u' (rs.map (Value.float .f32) ++ [Value.float .f32 q]).length (rs.map (Value.float .f32) ++ [Value.float .f32 q])) (hg : w.grownBy w' u.ownBlock) (hb : u'.ownBlock = u.ownBlock ∨ u'.ownBlock = some (w.heap.size + 1)) : BuildV E2 E w' lo v u' xss (rs ++ [q]) vs := by
  obtain ⟨h1, h2, h3, h4⟩ := h
  have hv : ∃ vs', w.ownsRow lo E2 1 v vs'.length vs' := ⟨_, h1.2.1⟩
  obtain ⟨vs', hv⟩ := hv
  refine ⟨h1.kept hg h3.symm (fun x hx => h4 x hx), by rw [fl_vals]; exact ho, (twain_fresh hv h3.symm hb).symm, fun x hx => ?_⟩
  obtain ⟨j, hj⟩ := List.getElem?_of_mem hx
  have hjl : j < xss.length := by have := (List.getElem?_eq_some_iff.1 hj).1; have := h1.1; omega
  have hx2 := (h1.2.2.1 j x xss[j] hj (List.getElem?_eq_getElem hjl)).2.1
  exact twain_fresh hx2 (h4 x hx) hb
/-- The blocks lie below the world's size. -/
theorem BuildV.lt (h : BuildV E2 E w lo v u xss rs vs) : (∀ g, v.ownBlock = some g → g < w.heap.size) ∧ (∀ x ∈ vs, ∀ g, x.ownBlock = some g → g < w.heap.size) ∧ ∀ g, u.ownBlock = some g → g < w.heap.size := by
  obtain ⟨h1, h2, h3, h4⟩ := h
  exact ⟨fun g hg => (h1.lt.1 g hg).2, fun x hx g hg => (h1.lt.2 x hx g hg).2, fun g hg => (h2.lt g hg).2⟩
theorem BuildV.nil (E2 E : TypeId) (w : World) (lo : Nat) : BuildV E2 E w lo (.slice none 0 0) (.slice none 0 0) [] [] [] :=
  ⟨⟨rfl, World.ownsRow_nil w lo E2 1, fun i u xs hu => by simp at hu, fun i j u u' _ hu => by simp at hu⟩, World.ownsRow_nil w lo E 1, Or.inl rfl, fun x hx => by cases hx⟩
theorem build_made (E2 E : TypeId) (w : World) : BuildV E2 E ((w.alloc (.cells #[] E2)).alloc (.cells #[] E)) w.heap.size (.slice (some ⟨w.heap.size, 0, none⟩) 0 0) (.slice (some ⟨w.heap.size + 1, 0, none⟩) 0 0) [] [] [] := by
  refine ⟨⟨rfl, ?_, fun i u xs hu => by simp at hu, fun i j u u' _ hu => by simp at hu⟩, ?_, Or.inr ?_, fun x hx => by cases hx⟩
  · exact (World.ownsRow_made w #[] 0 (Nat.le_refl _) (by simp [maxLen]) rfl).alloc _
  · have := World.ownsRow_made (base := w.heap.size) (e := E) (size := 1) (w.alloc (.cells #[] E2)) #[] 0 (by simp) (by simp [maxLen]) rfl
    simpa using this
  · simp [Value.ownBlock]
theorem BuildV.solve {n : Nat} {B : Mat} (h : BuildV E2 E w lo v u xss rs vs) (hn : 1 ≤ n) (hr : Reads xss n n B) (hl : rs.length = n) (hb : ∀ i (hi : i < rs.length), ab .f32 rs[i] = B i n) :
    ∃ G cap R capR, v = .slice (some ⟨G, 0, none⟩) n cap ∧ u = .slice (some ⟨R, 0, none⟩) n capR ∧ SolveAt E2 E w lo G cap R capR n B := by
  obtain ⟨h1, h2, h3, h4⟩ := h
  have hxl : xss.length = n := hr.1
  obtain ⟨G, cap, e1, _⟩ := slice_of_own h1.2.1 (by rw [h1.1]; omega)
  obtain ⟨R, capR, e2, _⟩ := slice_of_own h2 (by simp; omega)
  rw [h1.1, hxl] at e1
  rw [List.length_map, hl] at e2
  subst e1 e2
  refine ⟨G, cap, R, capR, rfl, rfl, vs, rs, ⟨xss, h1, hr⟩, by rw [← hl] at h2 ⊢; simpa using h2, ?_, fun x hx => ?_, hl, hb⟩
  · rcases h3 with h3 | h3
    · simp [Value.ownBlock] at h3
    · intro e
      exact h3 (by simp [Value.ownBlock, e])
  · obtain ⟨j, hj⟩ := List.getElem?_of_mem hx
    have hjl : j < xss.length := by have := (List.getElem?_eq_some_iff.1 hj).1; have := h1.1; omega
    have hx2 := h1.2.2.1 j x xss[j] hj (List.getElem?_eq_getElem hjl)
    obtain ⟨g, c, e, _⟩ := slice_of_own hx2.2.1 (by simpa using hx2.1)
    rcases h4 x hx with h | h
    · rw [e] at h; simp [Value.ownBlock] at h
    · exact h
end
/-- The answer, out of the raw one. -/
def balAll : Option (List (Option Nat)) → Bool
  | some L => finL L
  | none => false
def balXs : Option (List (Option Nat)) → List Nat
  | some L => if finL L then bitsOf L else []
  | none => []
theorem reads_push {xss : List (List Nat)} {ys : List Nat} {k c : Nat} {B : Mat} (h : Reads xss k c B) (hl : ys.length = c) (hy : ∀ j (hj : j < ys.length), ab .f32 ys[j] = B k j) : Reads (xss ++ [ys]) (k + 1) c B := by
  obtain ⟨h1, h2, h3⟩ := h
  refine ⟨by simp [h1], fun i hi => ?_, fun i j hi hj => ?_⟩
  · by_cases e : i < xss.length
    · rw [List.getElem_append_left e]; exact h2 i e
    · have : i = xss.length := by simp at hi; omega
      subst this
      simpa using hl
  · by_cases e : i < xss.length
    · simp only [List.getElem_append_left e] at hj ⊢
      exact h3 i j e hj
    · have : i = xss.length := by simp at hi; omega
      subst this
      simp only [List.getElem_concat_length] at hj ⊢
      exact (hy j hj).trans (by rw [h1])
end Go.Proofs.Ytfnhpchgiknmpaa
