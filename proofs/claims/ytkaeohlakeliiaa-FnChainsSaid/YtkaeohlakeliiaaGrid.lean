/- Rows of rows that a call itself makes, writes and swaps. No program in sight. -/
import Derived.Test.YtkaeohlakeliiaaNest
namespace Go.Proofs.Ytkaeohlakeliiaa
open Go.RowKit

/-- v is a row of rows of the call's own, all in blocks of their own from lo on. -/
def GridV (E2 E : TypeId) (w : World) (lo : Nat) (v : Value) (xss : List (List Nat)) (vs : List Value) : Prop :=
  vs.length = xss.length ∧ w.ownsRow lo E2 1 v vs.length vs ∧
    (∀ (i : Nat) (u : Value) (xs : List Nat), vs[i]? = some u → xss[i]? = some xs → 0 < xs.length ∧ w.ownsRow lo E 1 u (xs.map (Value.float .f32)).length (xs.map (Value.float .f32)) ∧ Twain u v) ∧
    (∀ (i j : Nat) (u u' : Value), i ≠ j → vs[i]? = some u → vs[j]? = some u' → Twain u u')
def Grid (E2 E : TypeId) (w : World) (lo : Nat) (v : Value) (xss : List (List Nat)) : Prop := ∃ vs : List Value, GridV E2 E w lo v xss vs
theorem GridV.below {E2 E : TypeId} {w w' : World} {lo : Nat} {v : Value} {xss : List (List Nat)} {vs : List Value} (h : GridV E2 E w lo v xss vs) (hb : Below w.heap.size w w') : GridV E2 E w' lo v xss vs := by
  obtain ⟨h1, h2, h3, h4⟩ := h
  refine ⟨h1, ownsRow_below h2 hb, fun i u xs hu hx => ?_, h4⟩
  obtain ⟨a, b, c⟩ := h3 i u xs hu hx
  exact ⟨a, ownsRow_below b hb, c⟩
/-- What is written elsewhere leaves the grid. -/
theorem GridV.kept {E2 E : TypeId} {w w' : World} {lo : Nat} {v : Value} {xss : List (List Nat)} {vs : List Value} {r : Option Nat} (h : GridV E2 E w lo v xss vs) (hg : w.grownBy w' r) (hv : v.ownBlock = none ∨ v.ownBlock ≠ r) (hr : ∀ x ∈ vs, x.ownBlock = none ∨ x.ownBlock ≠ r) : GridV E2 E w' lo v xss vs := by
  obtain ⟨h1, h2, h3, h4⟩ := h
  refine ⟨h1, h2.kept hg hv, fun i u xs hu hx => ?_, h4⟩
  obtain ⟨a, b, c⟩ := h3 i u xs hu hx
  exact ⟨a, b.kept hg (hr u (List.mem_of_getElem? hu)), c⟩
theorem Grid.below {E2 E : TypeId} {w w' : World} {lo : Nat} {v : Value} {xss : List (List Nat)} (h : Grid E2 E w lo v xss) (hb : Below w.heap.size w w') : Grid E2 E w' lo v xss := by
  obtain ⟨vs, h⟩ := h
  exact ⟨vs, h.below hb⟩
theorem Grid.nil (E2 E : TypeId) (w : World) (lo : Nat) : Grid E2 E w lo (.slice none 0 0) [] :=
  ⟨[], rfl, World.ownsRow_nil w lo E2 1, fun i u xs hu => by simp at hu, fun i j u u' _ hu => by simp at hu⟩
theorem Grid.rows {E2 E : TypeId} {w : World} {lo : Nat} {v : Value} {xss : List (List Nat)} (h : Grid E2 E w lo v xss) : RowsAt w v xss := by
  obtain ⟨vs, h1, h2, h3, h4⟩ := h
  exact ⟨vs, (Own.mk' h2).row, h1, fun i u xs hu hx => (Own.mk' (h3 i u xs hu hx).2.1).row⟩
theorem slice_of_own {w : World} {lo : Nat} {E : TypeId} {u : Value} {xs : List Value} (h : w.ownsRow lo E 1 u xs.length xs) (hp : 0 < xs.length) : ∃ g cap, u = .slice (some ⟨g, 0, none⟩) xs.length cap ∧ xs.length ≤ cap ∧ cap ≤ maxLen ∧ lo ≤ g ∧ g < w.heap.size := by
  rcases h.2 with ⟨_, h2⟩ | ⟨g, cap, cur, rfl, hb, hg, h3, h4, _⟩
  · omega
  · exact ⟨g, cap, rfl, h3, h4, hb, (Array.getElem?_eq_some_iff.1 hg).1⟩
/-- What is read of a row of the grid. -/
theorem Grid.at {E2 E : TypeId} {w : World} {lo : Nat} {v : Value} {xss : List (List Nat)} (h : Grid E2 E w lo v xss) : ∃ G cap, (xss.length = 0 ∨ v = .slice (some ⟨G, 0, none⟩) xss.length cap) ∧ xss.length ≤ cap ∧ cap ≤ maxLen ∧
    ∀ i (hi : i < xss.length), G < w.heap.size ∧ lo ≤ G ∧ w.frozen? ⟨G, i, none⟩ = false ∧ ∃ g c, xss[i].length ≤ c ∧ c ≤ maxLen ∧ lo ≤ g ∧ g ≠ G ∧ g < w.heap.size ∧ w.cell? ⟨G, i, none⟩ = some (.slice (some ⟨g, 0, none⟩) xss[i].length c) ∧
      ∀ j (hj : j < xss[i].length), w.cell? ⟨g, j, none⟩ = some (.float .f32 (xss[i][j])) ∧ w.frozen? ⟨g, j, none⟩ = false := by
  obtain ⟨vs, h1, h2, h3, h4⟩ := h
  by_cases hz : xss.length = 0
  · refine ⟨0, 0, Or.inl hz, by omega, by simp [maxLen], fun i hi => by omega⟩
  · obtain ⟨G, cap, rfl, q1, q2, q3, q4⟩ := slice_of_own h2 (by omega)
    rw [h1] at q1
    refine ⟨G, cap, Or.inr (by rw [h1]), q1, q2, fun i hi => ?_⟩
    have hvi : i < vs.length := by omega
    obtain ⟨hp, hown, htw⟩ := h3 i vs[i] xss[i] (List.getElem?_eq_getElem hvi) (List.getElem?_eq_getElem hi)
    obtain ⟨g, c, e, r1, r2, r3, r4⟩ := slice_of_own hown (by simpa using hp)
    rw [List.length_map] at e r1
    refine ⟨q4, q3, h2.frozenAt i, g, c, r1, r2, r3, ?_, r4, ?_, fun j hj => ?_⟩
    · rw [e] at htw
      rcases htw with t | t
      · simp [Value.ownBlock] at t
      · simpa [Value.ownBlock] using t
    · rw [h2.cellAt i (by omega), List.getElem?_eq_getElem hvi, e]
    · rw [e] at hown
      have hown' := hown
      rw [List.length_map] at hown'
      refine ⟨?_, hown'.frozenAt j⟩
      rw [hown'.cellAt j (by omega)]
      simp [hj]
/-- One number of a row is written. -/
theorem GridV.stored {E2 E : TypeId} {w : World} {lo : Nat} {v : Value} {xss : List (List Nat)} {vs : List Value} (h : GridV E2 E w lo v xss vs) {i j : Nat} (hi : i < xss.length) (hj : j < xss[i].length) (q : Nat) {g c G : Nat} (hv : v = .slice (some ⟨G, 0, none⟩) xss.length c)
    {n cp : Nat} (hc : w.cell? ⟨G, i, none⟩ = some (.slice (some ⟨g, 0, none⟩) n cp)) :
    GridV E2 E (w.setCell ⟨g, j, none⟩ (.float .f32 q)) lo v (xss.set i (xss[i].set j q)) vs ∧ w.grownBy (w.setCell ⟨g, j, none⟩ (.float .f32 q)) (some g) ∧ ∃ x ∈ vs, x.ownBlock = some g := by
  obtain ⟨h1, h2, h3, h4⟩ := h
  have hvi : i < vs.length := by omega
  have hvu : vs[i]? = some vs[i] := List.getElem?_eq_getElem hvi
  obtain ⟨hp, hown, htw⟩ := h3 i vs[i] xss[i] hvu (List.getElem?_eq_getElem hi)
  have he : vs[i] = .slice (some ⟨g, 0, none⟩) n cp := by
    have h2' := h2
    rw [hv, ← h1] at h2'
    rw [h2'.cellAt i (by omega), hvu] at hc
    exact Option.some.inj hc
  rw [he] at hown htw
  have hn : n = (xss[i].map (Value.float .f32)).length := by
    obtain ⟨_, _, _, _, e, _⟩ := (Own.mk' hown).row
    cases e; rfl
  subst hn
  have hst := hown.stored j (.float .f32 q)
  refine ⟨⟨by rw [List.length_set]; exact h1, h2.kept hst.2 ?_, fun i' u xs hu hx => ?_, h4⟩, hst.2, vs[i], List.getElem_mem hvi, by rw [he]; rfl⟩
  · exact htw.symm
  · by_cases hii : i' = i
    · subst hii
      rw [hvu] at hu
      have hu' := Option.some.inj hu
      rw [List.getElem?_set_self hi] at hx
      cases hx
      rw [← hu', he]
      refine ⟨by simpa using hp, ?_, htw⟩
      have := hst.1
      simpa [List.map_set] using this
    · rw [List.getElem?_set_ne (fun e => hii e.symm)] at hx
      obtain ⟨a, b, d⟩ := h3 i' u xs hu hx
      refine ⟨a, b.kept hst.2 ?_, d⟩
      have := h4 i' i u vs[i] hii hu hvu
      rw [he] at this
      exact this
/-- Two rows change places. -/
theorem GridV.swapped {E2 E : TypeId} {w : World} {lo : Nat} {v : Value} {xss : List (List Nat)} {vs : List Value} (h : GridV E2 E w lo v xss vs) {i k : Nat} (hi : i < xss.length) (hk : k < xss.length) {G c : Nat} (hv : v = .slice (some ⟨G, 0, none⟩) xss.length c)
    {a b : Value} (ha : w.cell? ⟨G, i, none⟩ = some a) (hb : w.cell? ⟨G, k, none⟩ = some b) :
    GridV E2 E ((w.setCell ⟨G, i, none⟩ b).setCell ⟨G, k, none⟩ a) lo v ((xss.set i xss[k]).set k xss[i]) ((vs.set i b).set k a) ∧ w.grownBy ((w.setCell ⟨G, i, none⟩ b).setCell ⟨G, k, none⟩ a) (some G) ∧ ∀ x ∈ (vs.set i b).set k a, x ∈ vs := by
  obtain ⟨h1, h2, h3, h4⟩ := h
  have hvi : i < vs.length := by omega
  have hvk : k < vs.length := by omega
  have h2' := h2
  rw [hv, ← h1] at h2'
  have ea : vs[i] = a := by
    rw [h2'.cellAt i (by omega), List.getElem?_eq_getElem hvi] at ha
    exact Option.some.inj ha
  have eb : vs[k] = b := by
    rw [h2'.cellAt k (by omega), List.getElem?_eq_getElem hvk] at hb
    exact Option.some.inj hb
  have s1 := h2'.stored i b
  have s2 := s1.1.stored k a
  have hpick : ∀ (j : Nat) (u : Value), ((vs.set i b).set k a)[j]? = some u → ∃ j' : Nat, j' < xss.length ∧ vs[j']? = some u ∧ ((xss.set i xss[k]).set k xss[i])[j]? = xss[j']? ∧ (j' = if j = k then i else if j = i then k else j) := by
    intro j u hu
    by_cases hjk : j = k
    · subst hjk
      rw [List.getElem?_set_self (by simpa using hvk)] at hu
      cases hu
      refine ⟨i, hi, by rw [← ea]; exact List.getElem?_eq_getElem hvi, ?_, by simp⟩
      rw [List.getElem?_set_self (by simpa using hk), List.getElem?_eq_getElem hi]
    · rw [List.getElem?_set_ne (fun e => hjk e.symm)] at hu ⊢
      by_cases hji : j = i
      · subst hji
        rw [List.getElem?_set_self hvi] at hu
        cases hu
        refine ⟨k, hk, by rw [← eb]; exact List.getElem?_eq_getElem hvk, ?_, by simp [hjk]⟩
        rw [List.getElem?_set_self hi, List.getElem?_eq_getElem hk]
      · rw [List.getElem?_set_ne (fun e => hji e.symm)] at hu ⊢
        exact ⟨j, by have := (List.getElem?_eq_some_iff.1 hu).1; omega, hu, rfl, by simp [hjk, hji]⟩
  have kept : ∀ (u : Value) (xs : List Value), Twain u v → w.ownsRow lo E 1 u xs.length xs → ((w.setCell ⟨G, i, none⟩ b).setCell ⟨G, k, none⟩ a).ownsRow lo E 1 u xs.length xs := fun u xs ht ho => by
    have t : u.ownBlock = none ∨ u.ownBlock ≠ some G := by rw [hv] at ht; exact ht
    exact (ho.kept s1.2 t).kept s2.2 t
  refine ⟨⟨by simp [h1], ?_, fun j u xs hu hx => ?_, fun j j2 u u' hjj hu hu' => ?_⟩, s1.2.trans s2.2, fun x hx => ?_⟩
  rotate_left 3
  · obtain ⟨j, hj⟩ := List.getElem?_of_mem hx
    obtain ⟨j', _, q2, _, _⟩ := hpick j x hj
    exact List.mem_of_getElem? q2
  · have := s2.1
    rw [hv, ← h1]
    simpa using this
  · obtain ⟨j', q1, q2, q3, _⟩ := hpick j u hu
    rw [q3] at hx
    obtain ⟨r1, r2, r3⟩ := h3 j' u xs q2 hx
    exact ⟨r1, kept u _ r3 r2, r3⟩
  · obtain ⟨j', q1, q2, _, q4⟩ := hpick j u hu
    obtain ⟨j2', p1, p2, _, p4⟩ := hpick j2 u' hu'
    refine h4 j' j2' u u' ?_ q2 p2
    rw [q4, p4]
    by_cases c1 : j = k <;> by_cases c2 : j2 = k <;> by_cases c3 : j = i <;> by_cases c4 : j2 = i <;> simp_all <;> omega
/-- append of one more row. -/
theorem wpList_pushG {P : Program} {ops : Array Oper} {rest : List Oper} {o : Oper} {a : Act} {Q : Exit → Act → World → Prop} {w : World} {E2 E : TypeId} {i : TypeInfo} {z y : Value} {bytes : Nat}
    (hgd : o.guard = none) (s x : Operand) (t : TypeId) (ho : o.op = .call { callee := .builtin .append, args := #[s, x], argTypes := #[t, t] })
    (ht : P.underlying t = some (.slice E2)) (hi : P.info? E2 = some i) (hz : i.zero = some z) (hsz : i.size = 1) (hby : i.bytes = bytes) (hzc : z.cells.size = 1)
    (base : Nat) (v : Value) (xss : List (List Nat)) (vs : List Value) (hs : a.eval s = v) (hx : a.eval x = .slice (some ⟨w.heap.size, 0, none⟩) 1 1)
    (hg : GridV E2 E w base v xss vs) (h1 : y.oneCell' = true) (hn : xss.length ≤ 2097152) (hb : bytes ≤ 64) (hbase : base ≤ w.heap.size)
    (ys : List Nat) (hyp : 0 < ys.length) (hy : w.ownsRow base E 1 y (ys.map (Value.float .f32)).length (ys.map (Value.float .f32))) (c0 : Nat) (hyc : ∀ g, y.ownBlock = some g → c0 ≤ g)
    (hgc : (∀ g, v.ownBlock = some g → g < c0) ∧ ∀ u ∈ vs, ∀ g, u.ownBlock = some g → g < c0)
    (h : ∀ v' w', GridV E2 E w' base v' (xss ++ [ys]) (vs ++ [y]) → w.grownBy w' v.ownBlock → (v'.ownBlock = v.ownBlock ∨ v'.ownBlock = some (w.heap.size + 1)) → Below base w w' → wpList P ops Q rest (a.put o.dst v') w') :
    wpList P ops Q (o :: rest) a (w.alloc (.cells #[y] E2)) := by
  obtain ⟨g1, g2, g3, g4⟩ := hg
  have hown' : (w.alloc (.cells #[y] E2)).ownsRow base E2 1 v vs.length vs := g2.alloc _
  have hsize : (w.alloc (.cells #[y] E2)).heap.size = w.heap.size + 1 := by simp
  have hnb : (vs.length + 1) * bytes ≤ 140737488355328 := by
    have : (vs.length + 1) * bytes ≤ 2097153 * 64 := Nat.mul_le_mul (by omega) hb
    omega
  have hyv : Twain y v := by
    cases hyb : y.ownBlock with
    | none => exact Or.inl hyb
    | some g =>
      right
      rw [hyb]
      intro e
      have := hyc g hyb
      have := hgc.1 g e.symm
      omega
  refine wpList_append_own_at _ hgd s x t ho base E2 i z 1 bytes ht hi hz hsz hby hzc (by decide) v vs.length vs hs hown' ⟨w.heap.size, 0, none⟩ 1 1 [y] hx rfl ?_ (by simpa using h1) (by simp only [maxLen]; omega) hnb (by omega) ?_
  · exact cell_one_new _ _ _
  · intro v' w' ho' hgr _ hblk
    have turn : ∀ (u : Value) (n : Nat) (us : List Value), Twain u v → w.ownsRow base E 1 u n us → w'.ownsRow base E 1 u n us ∧ Twain u v' := by
      intro u n us htw hou
      refine ⟨(hou.alloc _).kept hgr htw, ?_⟩
      rcases hblk with e | e
      · rcases htw with h2 | h2
        · exact Or.inl h2
        · right; rw [e]; exact h2
      · cases hub : u.ownBlock with
        | none => exact Or.inl hub
        | some g =>
          right
          rw [hub, e]
          have := (hou.lt g hub).2
          intro e2
          have := Option.some.inj e2
          omega
    refine h v' w' ⟨by simp [g1], by simpa using ho', fun j u xs hu hxs => ?_, fun j j2 u u' hjj hu hu' => ?_⟩ ?_ (by simpa [hsize] using hblk) ?_
    · rcases get_append_one vs y j u hu with ⟨q1, q2⟩ | ⟨q1, q2⟩
      · rw [List.getElem?_append_left (by omega)] at hxs
        obtain ⟨r1, r2, r3⟩ := g3 j u xs q2 hxs
        have := turn u _ _ r3 r2
        exact ⟨r1, this.1, this.2⟩
      · subst q2
        rw [q1, g1, List.getElem?_append_right (Nat.le_refl _), Nat.sub_self] at hxs
        simp at hxs
        subst hxs
        have := turn u _ _ hyv hy
        exact ⟨hyp, this.1, this.2⟩
    · have far : ∀ (j : Nat) (u : Value), vs[j]? = some u → Twain u y := fun j u hu => by
        cases hub : u.ownBlock with
        | none => exact Or.inl hub
        | some g =>
          right
          rw [hub]
          intro e
          have := hyc g e.symm
          have := hgc.2 u (List.mem_of_getElem? hu) g hub
          omega
      rcases get_append_one vs y j u hu with ⟨q1, q2⟩ | ⟨q1, q2⟩ <;> rcases get_append_one vs y j2 u' hu' with ⟨p1, p2⟩ | ⟨p1, p2⟩
      · exact g4 j j2 u u' hjj q2 p2
      · subst p2; exact far j u q2
      · subst q2; exact (far j2 u' p2).symm
      · omega
    · exact (World.grownBy_alloc w _ _).trans hgr
    · have hb1 : Below base w (w.alloc (.cells #[y] E2)) := (Below.refl base w).alloc hbase _
      exact hb1.grown hgr (by omega) (fun k hk => (g2.lt k hk).1)
end Go.Proofs.Ytkaeohlakeliiaa
