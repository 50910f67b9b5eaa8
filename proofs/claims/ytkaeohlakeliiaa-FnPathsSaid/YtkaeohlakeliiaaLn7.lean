/- FnPaths: the contracts at the law's numbers. -/
import Derived.Test.YtkaeohlakeliiaaLn6
import Derived.Test.YtkaeohlakeliiaaPaths
import Derived.Test.YtkaeohlakeliiaaCross2
import Derived.Test.YtkaeohlakeliiaaStF
import Derived.Test.YtkaeohlakeliiaaStress2
import Derived.Test.YtkaeohlakeliiaaAge2
namespace Go.Proofs.Ytkaeohlakeliiaa
open Go.RowKit

/-! ## Ln7 -/
theorem ab_det {x y : Nat} (h : ab .f32 x = some y) : y = x := (ab_some h).1
theorem num_det {q : Nat} {t : Bool} {M : Option Nat × Bool} {w w' : World} {e : Ending} (h : NumOk M w e w') (hM : M = (some q, t)) : e = .returned (.tuple #[.float .f32 q, .bool t]) ∧ Below w.heap.size w w' := by
  subst hM
  obtain ⟨r, h1, h2, h3⟩ := h
  obtain rfl := ab_det h2
  exact ⟨h1, h3⟩
theorem num3_det {a b c : Nat} {t : Bool} {M : (Option Nat × Option Nat × Option Nat) × Bool} {w w' : World} {e : Ending} (h : Num3Ok M w e w') (hM : M = ((some a, some b, some c), t)) : e = .returned (.tuple #[.float .f32 a, .float .f32 b, .float .f32 c, .bool t]) ∧ Below w.heap.size w w' := by
  subst hM
  obtain ⟨x, y, z, h1, h2, h3, h4, h5⟩ := h
  obtain rfl := ab_det h2
  obtain rfl := ab_det h3
  obtain rfl := ab_det h4
  exact ⟨h1, h5⟩
theorem two_det {a b : Nat} {t : Bool} {M : Option Nat × Option Nat × Bool} {w w' : World} {e : Ending} (h : TwoOk M w e w') (hM : M = (some a, some b, t)) : e = .returned (.tuple #[.float .f32 a, .float .f32 b, .bool t]) ∧ Below w.heap.size w w' := by
  subst hM
  obtain ⟨x, y, h1, h2, h3, h4⟩ := h
  obtain rfl := ab_det h2
  obtain rfl := ab_det h3
  exact ⟨h1, h4⟩
theorem paths_two {xs ys : List Nat} {a s c : Nat} (hM : lnM xs ys = ((some a, some s, some c), true)) (K : Nat) (h1 : 1 ≤ K) (h8 : K ≤ 8) : pathsXs [xs, xs] ys (K : Int) = [s, s] ∧ pathsAll [xs, xs] ys (K : Int) = true := by
  have hk : inB (K : Int) 1 8 = true := by simp [inB]; omega
  have hall : pathsAll [xs, xs] ys (K : Int) = true := by simp [pathsAll, pathsOk, hk, hM]
  refine ⟨?_, hall⟩
  rw [paths_yes hall]
  simp [slopeX, hM, bitsOf]
/-- Two rows that are one. -/
theorem rows_two {w : World} {v u : Value} {xs : List Nat} (hv : RowAt w v [u, u]) (hu : RowAt w u (xs.map (Value.float .f32))) : RowsAt w v [xs, xs] := by
  refine ⟨[u, u], hv, rfl, fun i u' xs' h1 h2 => ?_⟩
  match i, h1, h2 with
  | 0, h1, h2 => obtain rfl := Option.some.inj h1; obtain rfl := Option.some.inj h2; exact hu
  | 1, h1, h2 => obtain rfl := Option.some.inj h1; obtain rfl := Option.some.inj h2; exact hu
  | i + 2, h1, _ => simp at h1
/-- The limit's numbers. -/
theorem lim_bits {a b : Nat} {x y : Rat} (ha : RV .f32 (some a) x) (hb : RV .f32 (some b) y) (x1 : -24 ≤ x) (x2 : x ≤ 24) (y1 : -24 ≤ y) (y2 : y ≤ 24) (h : x + 1 / 16 ≤ y) :
    ∃ d e l z, fop .sub .f32 (some b) (some a) = some d ∧ ab .f32 d = some d ∧ fop .quo .f32 (some d) (some ktwo) = some e ∧ ab .f32 e = some e ∧ fop .add .f32 (some a) (some e) = some l ∧ ab .f32 l = some l ∧ RV .f32 (some l) z ∧ x < z ∧ z ≤ y := by
  obtain ⟨l, hl, l1, l2⟩ := lim_rv ha hb x1 x2 y1 y2 h
  obtain ⟨d, hd, -, -, d1, d2⟩ := near32 (wn_sub hb ha) 48 (by grind) (by grind) (by grind)
  rw [tiny_eq] at d1 d2
  obtain ⟨e, he, -, -, e1, e2⟩ := near32 (wn_div hd rv_two (by grind)) 50 (by grind) (by grind) (by grind)
  obtain ⟨d', a1, a2⟩ := hd.some
  rw [a1] at he
  obtain ⟨e', b1, b2⟩ := he.some
  have hl' := hl
  unfold limX at hl
  rw [a1, b1] at hl
  obtain ⟨l', c1, c2⟩ := hl.some
  rw [c1] at hl
  exact ⟨d', e', l', l, a1, a2, b1, b2, c1, c2, hl, l1, l2⟩

/-! ## Ln8 -/
theorem rv_base (B : Nat) (hB : B < 33) : RV .f32 (ab .f32 (fz B)) (((B : Int) - 16 : Int) / 4) :=
  (rv_fz B hB).eq (by rw [Rat.intCast_mul, show ((4 : Int) : Rat) = 4 from rfl]; grind)
theorem cond_left {q0 : Nat} {Q : Rat} (hQ : RV .f32 (some q0) Q) (Q0 : 0 ≤ Q) (Q1 : Q ≤ 1 / 5000) : (ford .f32 (some q0) (some 0) == some .lt) = false ∧ (ford .f32 (some q0) (some 981668463) == some .gt) = false := by
  obtain ⟨r, hr, r1, r2⟩ := rv_mil32
  have hz := rvz .f32
  exact ⟨not_lt_of hQ hz (by grind), not_gt_of hQ hr (by grind)⟩
theorem cond_base {p1 p2 : Nat} {x y : Rat} (h1 : RV .f64 (ab .f64 p1) x) (h2 : RV .f64 (ab .f64 p2) y) (a1 : x ≤ y + 5 / 1000) (a2 : y ≤ x + 5 / 1000) : ∃ G, gapX (ab .f64 p1) (ab .f64 p2) = some G ∧ (ford .f64 (ab .f64 G) (ab .f64 4576918229304087675) == some .gt) = false := by
  obtain ⟨G, e1, e2, e3⟩ := gap_c01 h1 h2 (by grind) (by grind)
  exact ⟨G, e1, by rw [e2, show ab .f64 4576918229304087675 = some c01q from by decide]; exact e3⟩
theorem cond_slope {p1 p2 : Nat} {x y : Rat} (h1 : RV .f64 (ab .f64 p1) x) (h2 : RV .f64 (ab .f64 p2) y) (a1 : x ≤ y + 42 / 100000) (a2 : y ≤ x + 42 / 100000) : ∃ G, gapX (ab .f64 p1) (ab .f64 p2) = some G ∧ (ford .f64 (ab .f64 G) (ab .f64 4562254508917369340) == some .gt) = false := by
  obtain ⟨G, e1, e2, e3⟩ := gap_mil h1 h2 (by grind) (by grind)
  exact ⟨G, e1, by rw [e2, show ab .f64 4562254508917369340 = some cmil from by decide]; exact e3⟩
theorem cond_cross {p1 p2 : Nat} {c t s z : Rat} (h1 : RV .f64 (ab .f64 p1) c) (h2 : RV .f64 (ab .f64 p2) t) (s0 : 1 / 4 ≤ s) (c1 : s * c ≤ z + 1 / 10000) (c2 : z ≤ s * c + 1 / 10000) (t1 : s * t ≤ z + 1 / 10000) (t2 : z ≤ s * t + 1 / 10000) : ∃ G, gapX (ab .f64 p1) (ab .f64 p2) = some G ∧ (ford .f64 (ab .f64 G) (ab .f64 4576918229304087675) == some .gt) = false := by
  obtain ⟨n1, n2⟩ := near_c s0 c1 c2 t1 t2
  obtain ⟨G, e1, e2, e3⟩ := gap_c01 h1 h2 n1 n2
  exact ⟨G, e1, by rw [e2, show ab .f64 4576918229304087675 = some c01q from by decide]; exact e3⟩
/-- The line of small values, in bits. -/
theorem Sml.bits {xs ys : List Nat} {n : Nat} {X Y : Nat → Int} (h : Sml xs ys n X Y) : ∃ b s q, lnM xs ys = ((some b, some s, some q), true) ∧ ab .f32 b = some b ∧ ab .f32 s = some s ∧ ab .f32 q = some q := by
  obtain ⟨S, B, Q, hM, -, hS, hB, hQ⟩ := h.told
  obtain ⟨s, es, es2⟩ := hS.some
  obtain ⟨b, eb, eb2⟩ := hB.some
  obtain ⟨q, eq, eq2⟩ := hQ.some
  rw [es, eb, eq] at hM
  exact ⟨b, s, q, hM, eb2, es2, eq2⟩
/-- Where the path of small values passes 2, in bits. -/
theorem Sml.crossB {xs ys : List Nat} {n : Nat} {X Y : Nat → Int} (h : Sml xs ys n X Y) :
    ∃ q t, crossM xs ys (ab .f32 1073741824) = (some q, t) ∧ ab .f32 q = some q ∧ (t = true → ∃ c, RV .f32 (ab .f32 q) c ∧ (X 0 : Rat) / 16 ≤ c ∧ c ≤ (X (n - 1) : Rat) / 16 + 1 / 2000) := by
  have hL : RV .f32 (ab .f32 1073741824) 2 := by rw [show ab .f32 1073741824 = some ktwo by decide]; exact rv_two
  rcases h.cross hL with e | ⟨q, c, e, hc, c1, c2⟩
  · exact ⟨0, false, e, by decide, fun h => by cases h⟩
  · obtain ⟨q', e1, e2⟩ := hc.some
    subst e1
    exact ⟨q', true, e, e2, fun _ => ⟨c, by rw [e2]; exact hc, c1, c2⟩⟩
/-- The comparisons of a passage with the first time and the last. -/
theorem cond_at {q a z' q' : Nat} {c x y : Rat} (hq : RV .f32 (ab .f32 q) c) (ha : RV .f32 (ab .f32 a) x) (hz : RV .f64 (ab .f64 z') y) (hq' : RV .f64 (ab .f64 q') c) (h1 : x ≤ c) (h2 : c ≤ y + 1 / 2000) (y0 : 0 ≤ y) (y1 : y ≤ 11) :
    (ford .f32 (ab .f32 q) (ab .f32 a) == some .lt) = false ∧ ∃ M, fop .add .f64 (ab .f64 z') (ab .f64 4562254508917369340) = some M ∧ (ford .f64 (ab .f64 q') (ab .f64 M) == some .gt) = false := by
  refine ⟨not_lt_of hq ha h1, ?_⟩
  obtain ⟨r, hr, r1, r2⟩ := rv_mil
  obtain ⟨m, hm, -, -, m1, m2⟩ := near64 (wn_add hz hr) 20 (by grind) (by grind) (by grind)
  rw [tiny_eq] at m1 m2
  obtain ⟨M, e1, e2⟩ := hm.some
  rw [e1] at hm
  rw [show ab .f64 4562254508917369340 = some cmil from by decide]
  exact ⟨M, e1, by rw [e2]; exact not_gt_of hq' hm (by grind)⟩
theorem cond_at16 {q z' q' : Nat} {a b : Nat} {c : Rat} (ha : a ≤ 44) (hb : b ≤ 44) (hq : RV .f32 (ab .f32 q) c) (hz : ab .f64 z' = wid (ab .f32 (fq b))) (hq' : ab .f64 q' = wid (ab .f32 q)) (h1 : ((4 * (a : Int) : Int) : Rat) / 16 ≤ c) (h2 : c ≤ ((4 * (b : Int) : Int) : Rat) / 16 + 1 / 2000) :
    (ford .f32 (ab .f32 q) (ab .f32 (fq a)) == some .lt) = false ∧ ∃ M, fop .add .f64 (ab .f64 z') (ab .f64 4562254508917369340) = some M ∧ (ford .f64 (ab .f64 q') (ab .f64 M) == some .gt) = false := by
  have b1 := intr_le (show 4 * (b : Int) ≤ 176 by omega)
  have b0 := intr_le (show 0 ≤ 4 * (b : Int) by omega)
  rw [show ((176 : Int) : Rat) = 176 from rfl] at b1
  rw [show ((0 : Int) : Rat) = 0 from rfl] at b0
  exact cond_at hq (rv_fq16 a (by omega)) (hz ▸ rv_wid (rv_fq16 b (by omega))) (hq' ▸ rv_wid hq) h1 h2 (by grind) (by grind)

/-! ## Ln9 -/
theorem ab_readable (op : BinOp) (k : FloatKind) (x y : Option Nat) {b : Nat} (h : fop op k x y = some b) : ab k b = some b := by
  cases x with
  | none => rw [fop_none_left] at h; cases h
  | some a =>
    cases y with
    | none => rw [fop_none_right] at h; cases h
    | some c => exact (floatBits_nan (op := op) (x := a) (y := c) h).1
theorem lt_some {k : FloatKind} {x y : Option Nat} (h : (ford k x y == some .lt) = true) : ∃ a, x = some a := by
  cases x with
  | none => rw [ford_none_left] at h; cases h
  | some a => exact ⟨a, rfl⟩
theorem fin_somq {x : Option Nat} (h : finite32 x = true) : ∃ a, x = some a := by
  cases x with
  | none => unfold finite32 fin at h; rw [fop_none_left, ford_none_left] at h; cases h
  | some a => exact ⟨a, rfl⟩
theorem gap_left {x y z : Option Nat} (h : (ford .f64 (gapX x y) z == some .lt) = true) : ∃ a G, x = some a ∧ gapX x y = some G ∧ ab .f64 G = some G := by
  obtain ⟨G, hG⟩ := lt_some h
  have hG2 := hG
  unfold gapX at hG
  have hx : ∃ a, x = some a := by
    cases x with
    | none => split at hG <;> simp [fop_none_left, fop_none_right] at hG
    | some a => exact ⟨a, rfl⟩
  obtain ⟨a, ha⟩ := hx
  refine ⟨a, G, ha, hG2, ?_⟩
  split at hG
  · exact ab_readable _ _ _ _ hG
  · exact ab_readable _ _ _ _ hG
theorem ab_c1 : ab .f32 1065353216 = some kone := by decide
theorem ab_c2 : ab .f32 1073741824 = some ktwo := by decide
theorem ab_ch : ab .f32 1056964608 = some khalf := by decide
theorem ab_q15 : ab .f32 1069547520 = some k15 := by decide
theorem ab_c64 : ab .f64 4562254508917369340 = some cmil := by decide
theorem ab_q2 : ab .f64 4611686018427387904 = some two64 := by decide
theorem ab_one64' : ab .f64 4607182418800017408 = some one64 := by decide
/-- A factor's bits. -/
theorem sf_bits {D : Nat} {b y u t : Option Nat} (h : sfB D b y u t = true) : ∃ a r, sfV D b y u t = some a ∧ ab .f32 a = some a ∧ RV .f32 (ab .f32 a) r := by
  simp only [sfB, Bool.and_eq_true] at h
  have hf := h.1.1.2
  obtain ⟨a, ha⟩ := fin_somq hf
  have ha2 : ab .f32 a = some a := ab_readable .mul .f32 _ _ ha
  rw [ha, ← ha2] at hf
  obtain ⟨r, hr⟩ := rv_of_fin (k := .f32) (b := a) hf
  exact ⟨a, r, ha, ha2, hr⟩
/-- The three factors. -/
theorem sf_told (D S : Nat) (hD : D < 3) (h0 : 0 < S) (h9 : S < 9) :
    fop .add .f32 (some kone) (some (fq S)) = some (fq (S + 4)) ∧
    sfB D (some k15) (some ktwo) (some (fq S)) (some (fq S)) = true ∧ sfB D (some khalf) (some kone) (some kone) (some (fq (S + 4))) = true ∧ sfB D (some khalf) (some kone) (some (fq (S + 4))) (some kone) = true ∧
    (ford .f64 (gapX (wid (sfV D (some k15) (some ktwo) (some (fq S)) (some (fq S)))) (some two64)) (some cmil) == some .lt) = true ∧
    (ford .f64 (gapX (fop .mul .f64 (wid (sfV D (some khalf) (some kone) (some kone) (some (fq (S + 4))))) (wid (sfV D (some khalf) (some kone) (some (fq (S + 4))) (some kone)))) (some one64)) (some cmil) == some .lt) = true ∧
    (ford .f32 (sfV D (some khalf) (some kone) (some kone) (some (fq (S + 4)))) (some kone) == some .gt) = true := by
  have h := sf_all D S hD h0 h9
  simp only [sfCk, sfSame, sfThere, sfBack, Bool.and_eq_true] at h
  obtain ⟨⟨⟨⟨⟨⟨h1, h2⟩, h3⟩, h4⟩, h5⟩, h6⟩, h7⟩ := h
  exact ⟨eq_of_beq h7, h1, h2, h3, h4, h5, h6⟩
theorem age_ab : ∀ q, q < 33 → ab .f32 ((ageT q).1.getD 0) = (ageT q).1 := by decide +kernel
theorem age_told (T : Nat) (hT : T < 33) : ∃ a r, ageM [kone, kone, kone] [0, kone, kthree] (ab .f32 (fq T)) = (some a, true) ∧ ab .f32 a = some a ∧ RV .f32 (ab .f32 a) r ∧ (ford .f64 (gapX (wid (some a)) (wid (ab .f32 (fq T)))) (some cmil) == some .lt) = true ∧ ageM [0] [0] (ab .f32 (fq T)) = (some 0, true) := by
  have h := age_all T hT
  simp only [ageCk, Bool.and_eq_true] at h
  obtain ⟨⟨⟨h1, h2⟩, h3⟩, h4⟩ := h
  obtain ⟨a, ha⟩ := fin_somq h2
  have ha2 : ab .f32 a = some a := by have := age_ab T hT; rw [ha] at this; exact this
  rw [ha] at h2 h3
  rw [← ha2] at h2
  obtain ⟨r, hr⟩ := rv_of_fin (k := .f32) (b := a) h2
  refine ⟨a, r, ?_, ha2, hr, h3, eq_of_beq h4⟩
  show ageT T = _
  rw [← ha, ← h1]
theorem fit_ab : ab .f32 (fitT3.1.getD 0) = fitT3.1 ∧ ab .f32 (fitT3.2.1.getD 0) = fitT3.2.1 := by decide +kernel
theorem fit_told : ∃ a b r s, fitM 2 [kone, ktwo, kthree] [kone, kone, kone] = (some a, some b, true) ∧ ab .f32 a = some a ∧ ab .f32 b = some b ∧ RV .f32 (ab .f32 a) r ∧ RV .f32 (ab .f32 b) s ∧ (ford .f64 (gapX (wid (some a)) (some 0)) (some cmil) == some .lt) = true ∧ (ford .f64 (gapX (wid (some b)) (some 0)) (some cmil) == some .lt) = true := by
  have h := fit_ck
  simp only [fitCk, Bool.and_eq_true] at h
  obtain ⟨⟨⟨⟨h1, h2⟩, h3⟩, h4⟩, h5⟩ := h
  obtain ⟨a, ha⟩ := fin_somq h2
  obtain ⟨b, hb⟩ := fin_somq h3
  have ha2 : ab .f32 a = some a := by have := fit_ab.1; rw [ha] at this; exact this
  have hb2 : ab .f32 b = some b := by have := fit_ab.2; rw [hb] at this; exact this
  rw [ha] at h2 h4
  rw [hb] at h3 h5
  rw [← ha2] at h2
  rw [← hb2] at h3
  obtain ⟨r, hr⟩ := rv_of_fin (k := .f32) (b := a) h2
  obtain ⟨s, hs⟩ := rv_of_fin (k := .f32) (b := b) h3
  refine ⟨a, b, r, s, ?_, ha2, hb2, hr, hs, h4, h5⟩
  show fitT3 = _
  rw [← ha, ← hb, ← h1]

/-! ## Ln10 -/
theorem two_rows (w : World) (t : TypeId) (cs ds : List Value) (hc : cs.length ≤ maxLen) (hd : ds.length ≤ maxLen) :
    RowAt ((w.alloc (.cells cs.toArray t)).alloc (.cells ds.toArray t)) (.slice (some ⟨w.heap.size, 0, none⟩) cs.length cs.length) cs ∧ RowAt ((w.alloc (.cells cs.toArray t)).alloc (.cells ds.toArray t)) (.slice (some ⟨w.heap.size + 1, 0, none⟩) ds.length ds.length) ds ∧ Below w.heap.size w ((w.alloc (.cells cs.toArray t)).alloc (.cells ds.toArray t)) := by
  have h1 := rowAt_alloc w t cs hc
  have h2 := rowAt_alloc (w.alloc (.cells cs.toArray t)) t ds hd
  rw [show (w.alloc (.cells cs.toArray t)).heap.size = w.heap.size + 1 from Array.size_push ..] at h2
  exact ⟨h1.below (below_alloc1 (below_refl _)), h2, below_alloc1 (below_alloc1 (below_refl _))⟩
theorem age3_at (t a : Nat) (h : ageM [kone, kone, kone] [0, kone, kthree] (ab .f32 t) = (some a, true)) (w W : World) (b : Nat) (hb : b = w.heap.size) (hW : W = (w.alloc (.cells #[.float .f32 1065353216, .float .f32 1065353216, .float .f32 1065353216] 27)).alloc (.cells #[.float .f32 0, .float .f32 1065353216, .float .f32 1077936128] 27)) :
    Calls Try.prog 28 #[.slice (some ⟨b, 0, none⟩) 3 3, .slice (some ⟨b + 1, 0, none⟩) 3 3, .float .f32 t] W fun e w2 => e = .returned (.tuple #[.float .f32 a, .bool true]) ∧ Below w.heap.size w w2 := by
  subst hb hW
  obtain ⟨h1, h2, h3⟩ := two_rows w 27 [.float .f32 1065353216, .float .f32 1065353216, .float .f32 1065353216] [.float .f32 0, .float .f32 1065353216, .float .f32 1077936128] (by simp [maxLen]) (by simp [maxLen])
  refine (implAge_any _ _ [kone, kone, kone] [0, kone, kthree] t _ h1 h2).mono ?_
  intro e w2 hN
  obtain ⟨rfl, hb⟩ := num_det hN h
  exact ⟨rfl, below_trans h3 hb⟩
theorem age1_at (t a : Nat) (h : ageM [0] [0] (ab .f32 t) = (some a, true)) (w W : World) (b : Nat) (hb : b = w.heap.size) (hW : W = (w.alloc (.cells #[.float .f32 0] 27)).alloc (.cells #[.float .f32 0] 27)) :
    Calls Try.prog 28 #[.slice (some ⟨b, 0, none⟩) 1 1, .slice (some ⟨b + 1, 0, none⟩) 1 1, .float .f32 t] W fun e w2 => e = .returned (.tuple #[.float .f32 a, .bool true]) ∧ Below w.heap.size w w2 := by
  subst hb hW
  obtain ⟨h1, h2, h3⟩ := two_rows w 27 [.float .f32 0] [.float .f32 0] (by simp [maxLen]) (by simp [maxLen])
  refine (implAge_any _ _ [0] [0] t _ h1 h2).mono ?_
  intro e w2 hN
  obtain ⟨rfl, hb⟩ := num_det hN h
  exact ⟨rfl, below_trans h3 hb⟩
theorem fit3_at (a c : Nat) (h : fitM 2 [kone, ktwo, kthree] [kone, kone, kone] = (some a, some c, true)) (w W : World) (b : Nat) (hb : b = w.heap.size) (hW : W = (w.alloc (.cells #[.float .f32 1065353216, .float .f32 1073741824, .float .f32 1077936128] 27)).alloc (.cells #[.float .f32 1065353216, .float .f32 1065353216, .float .f32 1065353216] 27)) :
    Calls Try.prog 29 #[.int .i64 2, .slice (some ⟨b, 0, none⟩) 3 3, .slice (some ⟨b + 1, 0, none⟩) 3 3] W fun e w2 => e = .returned (.tuple #[.float .f32 a, .float .f32 c, .bool true]) ∧ Below w.heap.size w w2 := by
  subst hb hW
  obtain ⟨h1, h2, h3⟩ := two_rows w 27 [.float .f32 1065353216, .float .f32 1073741824, .float .f32 1077936128] [.float .f32 1065353216, .float .f32 1065353216, .float .f32 1065353216] (by simp [maxLen]) (by simp [maxLen])
  refine (implFit_any _ _ 2 [kone, ktwo, kthree] [kone, kone, kone] _ h1 h2 (by simp) (by simp)).mono ?_
  intro e w2 hN
  obtain ⟨rfl, hb⟩ := two_det hN h
  exact ⟨rfl, below_trans h3 hb⟩
end Go.Proofs.Ytkaeohlakeliiaa
