/- FnPaths: where a path crosses a limit. No program in sight. -/
import Derived.Test.YtkaeohlakeliiaaLn1
import Derived.Test.YtkaeohlakeliiaaCross
import Derived.Test.YtkaeohlakeliiaaGen
namespace Go.Proofs.Ytkaeohlakeliiaa
open Go.RowKit

def ttlM (b s l : Option Nat) : Option Nat × Bool := if finite32 b && finite32 s && finite32 l && !(ford .f32 s (some 0) == some .eq) then ifFin (fop .quo .f32 (fop .sub .f32 l b) s) else (some 0, false)
theorem ttlM_yes {b s l : Option Nat} (h : (finite32 b && finite32 s && finite32 l && !(ford .f32 s (some 0) == some .eq)) = true) : ttlM b s l = ifFin (fop .quo .f32 (fop .sub .f32 l b) s) := by simp only [ttlM, h]; rfl
theorem rv_le_of {k : FloatKind} {x y : Option Nat} {a b : Rat} {u v : Int} (hx : IsV k x u) (hy : IsV k y v) (ha : RV k x a) (hb : RV k y b) (h : u ≤ v) : a ≤ b := by
  obtain ⟨u', hu', e⟩ := ha
  obtain ⟨v', hv', e'⟩ := hb
  obtain rfl := hx.val hu'
  obtain rfl := hy.val hv'
  exact (RV.le_iff (x := x) (y := y) e e').1 h
/-- What is at least a number that the format has is not rounded below it. -/
theorem wn_ge {x y : Option Nat} {z a r : Rat} (h : Wn .f32 x z) (hy : RV .f32 y a) (h1 : a ≤ z) (h2 : z ≤ 1000) (hr : RV .f32 x r) : a ≤ r := by
  have hu := unit_pos .f32
  have hy' := hy
  obtain ⟨v, hv, e⟩ := hy
  obtain ⟨w, hw, w1, w2⟩ := h v (1000 * (unit .f32 : Int)) hv.rep (rep_whole .f32 1000 (by decide)) (by rw [e]; exact Rat.mul_le_mul_of_nonneg_right h1 (Rat.le_of_lt hu)) (by
    rw [Rat.intCast_mul, Rat.intCast_natCast]
    exact Rat.mul_le_mul_of_nonneg_right h2 (Rat.le_of_lt hu))
  exact rv_le_of hv hw hy' hr w1
theorem idxOf_first {α : Type} (p : α → Bool) (bs : List α) (d : α) (i : Nat) (hi : i < bs.length) (h1 : p (bs.getD i d) = true) (h2 : ∀ j, j < i → p (bs.getD j d) = false) : idxOf p bs = i := by
  have : bs.findIdx? p = some i := by
    rw [List.findIdx?_eq_some_iff_getElem]
    refine ⟨hi, ?_, fun j hj => ?_⟩
    · have := h1; simp only [List.getD_eq_getElem?_getD, List.getElem?_eq_getElem hi, Option.getD_some] at this; exact this
    · have := h2 j hj; simp only [List.getD_eq_getElem?_getD, List.getElem?_eq_getElem (show j < bs.length by omega), Option.getD_some] at this; simp [this]
  unfold idxOf; rw [this]
theorem idxOf_inv {α : Type} (p : α → Bool) (bs : List α) (d : α) (i : Nat) (h : idxOf p bs = i) : i < bs.length ∧ p (bs.getD i d) = true ∧ ∀ j, j < i → p (bs.getD j d) = false := by
  unfold idxOf at h
  cases hf : bs.findIdx? p with
  | none => rw [hf] at h; simp at h
  | some m =>
    rw [hf] at h
    have h' : (m : Int) = (i : Int) := h
    obtain rfl : m = i := by omega
    rw [List.findIdx?_eq_some_iff_getElem] at hf
    obtain ⟨hi, h1, h2⟩ := hf
    refine ⟨hi, ?_, fun j hj => ?_⟩
    · simp only [List.getD_eq_getElem?_getD, List.getElem?_eq_getElem hi, Option.getD_some]; exact h1
    · have := h2 j hj
      simp only [List.getD_eq_getElem?_getD, List.getElem?_eq_getElem (show j < bs.length by omega), Option.getD_some]
      simpa using this
theorem reach_iff {L : Option Nat} {y : Nat} {l a : Rat} (hL : RV .f32 L l) (hy : RV .f32 (ab .f32 y) a) : reachB L y = true ↔ l ≤ a := by
  unfold reachB
  rcases Rat.le_total (a := l) (b := a) with h | h
  · by_cases e : a = l
    · rw [rv_eq hy hL e]; simp; grind
    · rw [rv_gt hy hL (by grind)]; simp; grind
  · by_cases e : a = l
    · rw [rv_eq hy hL e]; simp; grind
    · rw [rv_lt hy hL (by grind)]; simp; grind
section
variable {xs : List Nat} {n : Nat} {X : Nat → Int} (h : Tms xs n X)
include h
theorem Tms.mono (i j : Nat) (hij : i ≤ j) (hj : j < n) : X i ≤ X j := by
  induction j with
  | zero => obtain rfl : i = 0 := by omega
            exact Int.le_refl _
  | succ j ih =>
    by_cases e : i = j + 1
    · subst e; exact Int.le_refl _
    · have := ih (by omega) (by omega)
      have := h.up j hj
      omega
theorem Tms.riseB : riseB xs = true := by
  refine riseB_yes (fun j hj => ?_)
  have hj' : j + 1 < n := by rw [← h.len]; exact hj
  have h1 := h.at j (by omega)
  have h2 := h.at (j + 1) hj'
  have h3 := intr_le (h.up j hj')
  rw [Rat.intCast_sub, show ((4 : Int) : Rat) = 4 from rfl] at h3
  have := rv_gt h2.1 h1.1 (by grind)
  unfold riseAt
  rw [show ab .f32 (xs.getD (j + 1) 0) = atX xs (j + 1) from rfl, show ab .f32 (xs.getD j 0) = atX xs j from rfl, this]
  rfl
end
theorem fin_crossOk {xs ys : List Nat} {n : Nat} {X : Nat → Int} (h : Tms xs n X) (hy : ys.length = n) (fy : ∀ k, k < n → ∃ r, RV .f32 (atX ys k) r) {L : Option Nat} {l : Rat} (hL : RV .f32 L l) : crossOk xs ys L = true := by
  have hp : pathB xs ys = true := by
    simp only [pathB, Bool.and_eq_true, decide_eq_true_eq, List.all_eq_true]
    have := h.len; have := h.lo; have := h.hi
    refine ⟨⟨⟨⟨by omega, by omega⟩, by omega⟩, fun b hb => ?_⟩, fun b hb => ?_⟩
    · obtain ⟨k, hk, rfl⟩ := List.getElem_of_mem hb
      have hr := (h.at k (by omega)).1
      rw [atX_get hk] at hr
      exact hr.fin
    · obtain ⟨k, hk, rfl⟩ := List.getElem_of_mem hb
      obtain ⟨r, hr⟩ := fy k (by omega)
      rw [atX_get hk] at hr
      exact hr.fin
  have h3 : finite32 L = true := hL.fin
  rw [crossOk, hp, h.riseB, h3]; rfl
theorem idx_reach {L : Option Nat} {ys : List Nat} (h : ∃ k, k < ys.length ∧ reachB L (ys.getD k 0) = true) : ∃ k : Nat, idxOf (reachB L) ys = k := by
  rcases idx_cases (reachB L) ys with e | ⟨k, _, e⟩
  · exfalso
    obtain ⟨k, hk, hr⟩ := h
    have := idxOf_any (reachB L) ys
    rw [e] at this
    have h2 : ys.any (reachB L) = true := by
      rw [List.any_eq_true]
      rw [getD_at ys k hk] at hr
      exact ⟨_, List.getElem_mem hk, hr⟩
    rw [h2] at this
    simp at this
  · exact ⟨k, e⟩
/-- Differences of sixteenths are exact. -/
theorem diff16 {x y : Option Nat} {a b : Int} (hx : RV .f32 x ((a : Rat) / 16)) (hy : RV .f32 y ((b : Rat) / 16)) (h : (a - b).natAbs < 16777216) : RV .f32 (fop .sub .f32 x y) ((a : Rat) / 16 - (b : Rat) / 16) := by
  have e : (a : Rat) / 16 - (b : Rat) / 16 = ((a - b : Int) : Rat) / 16 := by rw [Rat.intCast_sub]; grind
  have hw := wn_sub hx hy
  rw [e] at hw ⊢
  exact ex16 _ hw h rfl
/-- The middle of a line is passed where it says. -/
theorem Lin.cross {xs ys : List Nat} {n : Nat} {X Y : Nat → Int} {b s : Rat} (h : Lin xs ys n X Y b s) {L : Option Nat} {l : Rat} (hL : RV .f32 L l) (h1 : (Y 0 : Rat) / 16 < l) (h2 : l ≤ (Y (n - 1) : Rat) / 16) :
    ∃ q c, crossM xs ys L = (q, true) ∧ RV .f32 q c ∧ s * c ≤ l - b + 1 / 10000 ∧ l - b ≤ s * c + 1 / 10000 ∧ -1 ≤ c ∧ c ≤ 23 := by
  have hn := h.t.lo
  have hy : ∀ k, k < n → RV .f32 (ab .f32 (ys.getD k 0)) ((Y k : Rat) / 16) := fun k hk => (h.six k hk).1
  obtain ⟨i, hi⟩ := idx_reach (L := L) (ys := ys) ⟨n - 1, by rw [h.len]; omega, (reach_iff hL (hy (n - 1) (by omega))).2 h2⟩
  obtain ⟨i1, i2, i3⟩ := idxOf_inv _ _ 0 _ hi
  rw [h.len] at i1
  have hl2 := (reach_iff hL (hy i i1)).1 i2
  obtain ⟨j, rfl⟩ : ∃ j, i = j + 1 := by
    cases i with
    | zero => grind
    | succ j => exact ⟨j, rfl⟩
  have hl1 : (Y j : Rat) / 16 < l := by
    have e := i3 j (by omega)
    rcases Rat.le_total (a := l) (b := (Y j : Rat) / 16) with c | c
    · have := (reach_iff hL (hy j (by omega))).2 c
      rw [e] at this; cases this
    · by_cases d : (Y j : Rat) / 16 = l
      · have := (reach_iff hL (hy j (by omega))).2 (by grind)
        rw [e] at this; cases this
      · grind
  have hx1 := h.t.at j (by omega)
  have hx2 := h.t.at (j + 1) i1
  have hup := intr_le (h.t.up j i1)
  rw [Rat.intCast_sub, show ((4 : Int) : Rat) = 4 from rfl] at hup
  have hX1 := (h.t.six j (by omega)).2
  have hX2 := (h.t.six (j + 1) i1).2
  have hY1 := (h.six j (by omega)).2
  have hY2 := (h.six (j + 1) i1).2
  have hdx := diff16 hx2.1 hx1.1 (by omega)
  have hdy := diff16 (hy (j + 1) i1) (hy j (by omega)) (by omega)
  have hyj := hy j (by omega)
  have e1 := h.eq j (by omega)
  have e2 := h.eq (j + 1) i1
  rw [e1] at hyj hdy hl1
  rw [e2] at hdy hl2
  have hx1' := hx1.1
  have x0 := hx1.2.1
  have x1 := hx2.2.2
  have hs0 := h.s0
  have hs2 := h.s2
  have hc := cross_at (fin_crossOk h.t h.len (fun k hk => ⟨_, hy k hk⟩) hL) j hi
  have hup2 : 1 / 4 ≤ (X (j + 1) : Rat) / 16 - (X j : Rat) / 16 := by grind
  clear hx1 hx2 hup e1 e2 hy i2 i3 hX1 hX2 hY1 hY2
  obtain ⟨dx, hdxe⟩ : ∃ dx, (X (j + 1) : Rat) / 16 = (X j : Rat) / 16 + dx := ⟨(X (j + 1) : Rat) / 16 - (X j : Rat) / 16, by grind⟩
  rw [hdxe] at hdx hdy hl2 x1 hup2
  generalize (X j : Rat) / 16 = x at *
  rw [show x + dx - x = dx by grind] at hdx hup2
  rw [show b + s * (x + dx) - (b + s * x) = s * dx by grind] at hdy
  obtain ⟨sd1, sd2⟩ : 1 / 16 ≤ s * dx ∧ s * dx ≤ 22 := by
    have p1 := Rat.mul_nonneg (show 0 ≤ s - 1 / 4 by grind) (show 0 ≤ dx - 1 / 4 by grind)
    have p2 := abs_mul_le (a := s) (b := dx) (α := 2) (β := 11) (by grind) (by grind) (by grind) (by grind)
    constructor <;> grind
  rw [show b + s * (x + dx) = b + s * x + s * dx by grind] at hl2
  obtain ⟨y, hye⟩ : ∃ y, b + s * x = y := ⟨_, rfl⟩
  rw [hye] at hyj hl1 hl2
  obtain ⟨a, ha, -, a0, a1, a2⟩ := near32 (wn_sub hL hyj) 22 (by grind) (by grind) (by grind)
  rw [tiny_eq] at a1 a2
  have hd0 : 0 < s * dx := by grind
  obtain ⟨g, hg⟩ : ∃ g, a / (s * dx) = g := ⟨_, rfl⟩
  have e : g * (s * dx) = a := by rw [← hg]; exact Rat.div_mul_cancel (by grind)
  have hwq := wn_div ha hdy hd0
  rw [hg] at hwq
  have a0 := a0 (by grind)
  have g1 : g ≤ 1 + 1 / 20000 := Rat.le_of_mul_le_mul_right (c := s * dx) (by rw [e]; grind) hd0
  have g0 : 0 ≤ g := Rat.le_of_mul_le_mul_right (c := s * dx) (by rw [e]; grind) hd0
  obtain ⟨q, hq, -, q0, q1, q2⟩ := near32 hwq 2 (by grind) (by grind) (by grind)
  rw [tiny_eq] at q1 q2
  obtain ⟨m1, m2⟩ := abs_mul_le (a := q - g) (b := dx) (α := 3 / 10000000) (β := 11) (by grind) (by grind) (by grind) (by grind)
  obtain ⟨m3, m4⟩ := abs_mul_le (a := q) (b := dx) (α := 1 + 1 / 10000) (β := 11) (by grind) (by grind) (by grind) (by grind)
  have qd := Rat.mul_nonneg (q0 g0) (show 0 ≤ dx by grind)
  obtain ⟨m, hm, -, -, r1, r2⟩ := near32 (wn_mul hq hdx) 12 (by grind) (by grind) (by grind)
  rw [tiny_eq] at r1 r2
  obtain ⟨c, hc2, -, -, c1, c2⟩ := near32 (wn_add hx1' hm) 23 (by grind) (by grind) (by grind)
  rw [tiny_eq] at c1 c2
  have hcX : RV .f32 (crossX xs ys L j) c := hc2
  rw [ifFin_yes hcX.fin] at hc
  have s1 := abs_mul_le (a := s) (b := c - (x + g * dx)) (α := 2) (β := 1 / 100000) (by grind) (by grind) (by grind) (by grind)
  have e3 : s * (c - (x + g * dx)) = s * c - s * x - a := by rw [← e]; grind
  rw [e3] at s1
  exact ⟨_, c, hc, hcX, by grind, by grind, by grind, by grind⟩
theorem Lin.ttl {b0 s0 L : Option Nat} {b s l : Rat} (hb : RV .f32 b0 b) (hs : RV .f32 s0 s) (hL : RV .f32 L l) (s1 : 1 / 4 ≤ s) (s2 : s ≤ 2) (l1 : -1 ≤ l - b) (l2 : l - b ≤ 23) :
    ∃ q c, ttlM b0 s0 L = (q, true) ∧ RV .f32 q c ∧ s * c ≤ l - b + 1 / 10000 ∧ l - b ≤ s * c + 1 / 10000 ∧ -5 ≤ c ∧ c ≤ 100 := by
  have hok : (finite32 b0 && finite32 s0 && finite32 L && !(ford .f32 s0 (some 0) == some .eq)) = true := by
    have h1 : finite32 b0 = true := hb.fin
    have h2 : finite32 s0 = true := hs.fin
    have h3 : finite32 L = true := hL.fin
    rw [h1, h2, h3, rv_gt hs (rvz .f32) (by grind)]; rfl
  obtain ⟨p, hp, -, -, p1, p2⟩ := near32 (wn_sub hL hb) 23 (by grind) (by grind) (by grind)
  rw [tiny_eq] at p1 p2
  have hs0 : 0 < s := by grind
  have e : p / s * s = p := Rat.div_mul_cancel (by grind)
  have g1 : p / s ≤ 93 := Rat.le_of_mul_le_mul_right (c := s) (by rw [e]; grind) hs0
  have g0 : -5 + 1 / 10 ≤ p / s := Rat.le_of_mul_le_mul_right (c := s) (by rw [e]; grind) hs0
  have hw := wn_div hp hs hs0
  generalize p / s = g at *
  obtain ⟨c, hc, -, -, c1, c2⟩ := near32 hw 93 (by grind) (by grind) (by grind)
  rw [tiny_eq] at c1 c2
  have s1 := abs_mul_le (a := s) (b := c - g) (α := 2) (β := 2 / 100000) (by grind) (by grind) (by grind) (by grind)
  have e3 : s * (c - g) = s * c - p := by rw [← e]; grind
  rw [e3] at s1
  have hM := ttlM_yes hok
  rw [ifFin_yes hc.fin] at hM
  exact ⟨_, c, hM, hc, by grind, by grind, by grind, by grind⟩
/-- Where a path of small values passes 2. -/
theorem Sml.cross {xs ys : List Nat} {n : Nat} {X Y : Nat → Int} (h : Sml xs ys n X Y) {L : Option Nat} (hL : RV .f32 L 2) :
    crossM xs ys L = (some 0, false) ∨ ∃ q c, crossM xs ys L = (q, true) ∧ RV .f32 q c ∧ (X 0 : Rat) / 16 ≤ c ∧ c ≤ (X (n - 1) : Rat) / 16 + 1 / 2000 := by
  have hn := h.t.lo
  have hy : ∀ k, k < n → RV .f32 (ab .f32 (ys.getD k 0)) ((Y k : Rat) / 16) := fun k hk => (h.six k hk).1
  have hok := fin_crossOk h.t h.len (fun k hk => ⟨_, hy k hk⟩) hL
  rcases idx_cases (reachB L) ys with e | ⟨i, _, hi⟩
  · exact Or.inl (cross_none e)
  right
  obtain ⟨i1, i2, i3⟩ := idxOf_inv _ _ 0 _ hi
  rw [h.len] at i1
  have hl2 := (reach_iff hL (hy i i1)).1 i2
  cases i with
  | zero =>
    have h0 := (h.t.at 0 (by omega)).1
    have := intr_le (h.t.mono 0 (n - 1) (by omega) (by omega))
    exact ⟨_, _, cross_zero hok hi, h0, by grind, by grind⟩
  | succ j =>
  have hl1 : (Y j : Rat) / 16 < 2 := by
    have e := i3 j (by omega)
    rcases Rat.le_total (a := 2) (b := (Y j : Rat) / 16) with c | c
    · have := (reach_iff hL (hy j (by omega))).2 c
      rw [e] at this; cases this
    · by_cases d : (Y j : Rat) / 16 = 2
      · have := (reach_iff hL (hy j (by omega))).2 (by grind)
        rw [e] at this; cases this
      · grind
  have hx1 := h.t.at j (by omega)
  have hx2 := h.t.at (j + 1) i1
  have hup := intr_le (h.t.up j i1)
  rw [Rat.intCast_sub, show ((4 : Int) : Rat) = 4 from rfl] at hup
  have hX1 := (h.t.six j (by omega)).2
  have hX2 := (h.t.six (j + 1) i1).2
  have hY1 := (h.six j (by omega)).2
  have hY2 := (h.six (j + 1) i1).2
  have hdx := diff16 hx2.1 hx1.1 (by omega)
  have hdy := diff16 (hy (j + 1) i1) (hy j (by omega)) (by omega)
  have hyj := hy j (by omega)
  have hx1' := hx1.1
  have x0 := hx1.2.1
  have x1 := hx2.2.2
  have ylo := (six_rat hY1).1
  rw [show ((64 : Nat) : Rat) = 64 from rfl] at ylo
  have yhi := (six_rat hY2).2
  rw [show ((64 : Nat) : Rat) = 64 from rfl] at yhi
  have hst : 1 / 16 ≤ (Y (j + 1) : Rat) / 16 - (Y j : Rat) / 16 := by
    have hlt : (Y j : Rat) < (Y (j + 1) : Rat) := by grind
    have := intr_le (show Y j + 1 ≤ Y (j + 1) by have := Rat.intCast_lt_intCast.1 hlt; omega)
    rw [Rat.intCast_add, show ((1 : Int) : Rat) = 1 from rfl] at this
    grind
  have hc := cross_at hok j hi
  have hm1 := intr_le (h.t.mono 0 j (by omega) (by omega))
  have hm2 := intr_le (h.t.mono (j + 1) (n - 1) (by omega) (by omega))
  have hm1' : (X 0 : Rat) / 16 ≤ (X j : Rat) / 16 := by grind
  have hm2' : (X (j + 1) : Rat) / 16 ≤ (X (n - 1) : Rat) / 16 := by grind
  have hup2 : 1 / 4 ≤ (X (j + 1) : Rat) / 16 - (X j : Rat) / 16 := by grind
  clear hx1 hx2 hup hy i2 i3 hX1 hX2 hY1 hY2 hm1 hm2
  generalize (X (j + 1) : Rat) / 16 = x2 at *
  generalize (X j : Rat) / 16 = x at *
  generalize (Y (j + 1) : Rat) / 16 = y2 at *
  generalize (Y j : Rat) / 16 = y at *
  obtain ⟨d, hd⟩ : ∃ d, y2 - y = d := ⟨_, rfl⟩
  rw [hd] at hdy hst
  obtain ⟨dx, hde⟩ : ∃ dx, x2 - x = dx := ⟨_, rfl⟩
  rw [hde] at hdx hup2
  obtain ⟨a, ha, -, a0, a1, a2⟩ := near32 (wn_sub hL hyj) 8 (by grind) (by grind) (by grind)
  rw [tiny_eq] at a1 a2
  have hd0 : 0 < d := by grind
  obtain ⟨g, hg⟩ : ∃ g, a / d = g := ⟨_, rfl⟩
  have e : g * d = a := by rw [← hg]; exact Rat.div_mul_cancel (by grind)
  have hwq := wn_div ha hdy hd0
  rw [hg] at hwq
  have a0 := a0 (by grind)
  have g1 : g ≤ 1 + 1 / 50000 := Rat.le_of_mul_le_mul_right (c := d) (by rw [e]; grind) hd0
  have g0 : 0 ≤ g := Rat.le_of_mul_le_mul_right (c := d) (by rw [e]; grind) hd0
  obtain ⟨q, hq, -, q0, q1, q2⟩ := near32 hwq 2 (by grind) (by grind) (by grind)
  rw [tiny_eq] at q1 q2
  have q0 := q0 g0
  have qd := Rat.mul_nonneg q0 (show 0 ≤ dx by grind)
  have qd2 := Rat.mul_nonneg (show 0 ≤ 1 + 1 / 40000 - q by grind) (show 0 ≤ dx by grind)
  have qd3 : q * dx ≤ (1 + 1 / 40000) * dx := by grind
  obtain ⟨m, hm, -, m0, r1, r2⟩ := near32 (wn_mul hq hdx) 12 (by grind) (by grind) (by grind)
  rw [tiny_eq] at r1 r2
  have m0 := m0 qd
  obtain ⟨c, hc2, -, -, c1, c2⟩ := near32 (wn_add hx1' hm) 23 (by grind) (by grind) (by grind)
  rw [tiny_eq] at c1 c2
  have hge := wn_ge (wn_add hx1' hm) hx1' (by grind) (by grind) hc2
  have hcX : RV .f32 (crossX xs ys L j) c := hc2
  rw [ifFin_yes hcX.fin] at hc
  exact ⟨_, c, hc, hcX, by grind, by grind⟩
end Go.Proofs.Ytkaeohlakeliiaa
