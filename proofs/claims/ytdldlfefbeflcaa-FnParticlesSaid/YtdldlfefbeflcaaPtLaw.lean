/- FnParticles: what the numbers are. No program in sight. -/
import Derived.Test.YtdldlfefbeflcaaWgR
import Derived.Test.YtdldlfefbeflcaaLeft1
import Derived.Test.YtdldlfefbeflcaaMove
import Derived.Test.YtdldlfefbeflcaaParts
import Derived.Test.YtdldlfefbeflcaaSame2
import Derived.Test.YtdldlfefbeflcaaByte
namespace Go.Proofs.Ytdldlfefbeflcaa
open Go.RowKit

/-! ## PtLaw -/
/-! ### Bits -/
theorem w32_lt (d : Ieee.Datum) (h : d.isNaN = false) : FloatKind.f32.format.write d < 4294967296 := by
  have e1 : FloatKind.f32.format.signWeight = 2147483648 := by decide
  have e3 : FloatKind.f32.format.infRung = 2139095040 := by decide
  have key : ∀ neg r, r ≤ 2139095040 → FloatKind.f32.format.word neg r < 4294967296 := by
    intro neg r hr
    unfold Ieee.Format.word
    rw [e1]
    split <;> omega
  cases d with
  | number neg mag place =>
    show FloatKind.f32.format.nearest neg mag place < _
    rw [nearest_rung]
    exact key _ _ (rung_le _ _)
  | infinity neg =>
    show FloatKind.f32.format.word neg FloatKind.f32.format.infRung < _
    rw [e3]; exact key _ _ (Nat.le_refl _)
  | nan neg fr => simp [Ieee.Datum.isNaN] at h
theorem add_lt {x y : Option Nat} {b : Nat} (h : fop .add .f32 x y = some b) : b < 4294967296 := by
  cases x with
  | none => rw [fop_none_left] at h; cases h
  | some p =>
    cases y with
    | none => rw [fop_none_right] at h; cases h
    | some q =>
      have h' : ((FloatKind.f32.format.read p).sum (FloatKind.f32.format.read q)).map FloatKind.f32.format.write = some b := h
      obtain ⟨d, hd, hr⟩ := Option.map_eq_some_iff.1 h'
      rw [← hr]
      exact w32_lt d (sum_nan hd).1
theorem isV_ab {k : FloatKind} {b : Nat} {v : Int} (h : IsV k (some b) v) : ab k b = some b := by
  obtain ⟨c, s, m, i, hc, e, _⟩ := h.read
  cases hc
  unfold ab
  rw [e]; rfl
theorem RV.some {k : FloatKind} {x : Option Nat} {r : Rat} (h : RV k x r) : ∃ b, x = some b ∧ ab k b = some b := by
  obtain ⟨v, hv, _⟩ := h
  obtain ⟨b, rfl, h2⟩ := hv
  exact ⟨b, rfl, isV_ab ⟨b, rfl, h2⟩⟩
/-- A list of numbers made by a rule, all finite. -/
theorem list_rv {L : List (Option Nat)} {n : Nat} {f : Nat → Option Nat} (hL : L = (List.range n).map f) (h : ∀ k, k < n → ∃ r, RV .f32 (f k) r) : finL L = true ∧ (bitsOf L).length = n ∧ ∀ k, k < n → ab .f32 ((bitsOf L).getD k 0) = f k ∧ f k = some ((bitsOf L).getD k 0) := by
  subst hL
  refine ⟨?_, by simp [bitsOf], fun k hk => ?_⟩
  · unfold finL
    rw [List.all_eq_true]
    intro x hx
    obtain ⟨k, hk, rfl⟩ := List.mem_map.1 hx
    obtain ⟨r, hr⟩ := h k (List.mem_range.1 hk)
    exact hr.fin
  · obtain ⟨r, hr⟩ := h k hk
    obtain ⟨b, hb, hb2⟩ := hr.some
    have : (bitsOf ((List.range n).map f)).getD k 0 = b := by
      simp [bitsOf, hk, hb]
    rw [this, hb]
    exact ⟨hb2, rfl⟩
/-! ### Particles -/
def cm2 : Nat := 3221225472
def c3 : Nat := 1077936128
theorem rv_cm2 : RV .f32 (ab .f32 cm2) (-2) := by
  have := rv_ofInt32 (-2) (by decide)
  rw [show floatOfInt .f32 (-2) = cm2 from by decide] at this
  rwa [show ab .f32 cm2 = some cm2 from by decide]
theorem rv_c3 : RV .f32 (ab .f32 c3) 3 := by
  have := rv_ofInt32 3 (by decide)
  rw [show floatOfInt .f32 3 = c3 from by decide] at this
  rwa [show ab .f32 c3 = some c3 from by decide]
theorem rv_share (s : Int) (hs : 0 ≤ s ∧ s ≤ 4294967295) : ∃ r, RV .f32 (shareS s) r ∧ 0 ≤ r ∧ r ≤ 1 := by
  have h1 := rv_ofInt32 (s / 256) (by omega)
  have h2 : RV .f32 (some 1266679808) 16777216 := by
    refine ⟨16777216 * (unit .f32 : Int), ?_, ?_⟩
    · refine ⟨1266679808, rfl, by decide, by decide⟩
    · rw [Rat.intCast_mul, Rat.intCast_natCast]; rfl
  have a1 : (0 : Rat) ≤ ((s / 256 : Int) : Rat) := by
    have := Rat.intCast_le_intCast.2 (show (0 : Int) ≤ s / 256 by omega); exact this
  have a2 : ((s / 256 : Int) : Rat) ≤ 16777216 := by
    have := Rat.intCast_le_intCast.2 (show s / 256 ≤ (16777216 : Int) by omega); exact this
  obtain ⟨r, hr, r0, r1⟩ := wn_between (wn_div h1 h2 (by grind)) 0 1 (by decide) (by decide) (by rw [show ((0 : Int) : Rat) = 0 from rfl]; grind) (by rw [show ((1 : Int) : Rat) = 1 from rfl]; grind)
  exact ⟨r, hr, r0, r1⟩
theorem rv_part (s : Int) (hs : 0 ≤ s ∧ s ≤ 4294967295) : ∃ r, RV .f32 (partX (ab .f32 cm2) (ab .f32 c3) s) r ∧ -2 ≤ r ∧ r ≤ 3 := by
  obtain ⟨u, hu, u0, u1⟩ := rv_share s hs
  obtain ⟨d, hd, d0, d1⟩ := wn_between (wn_sub rv_c3 rv_cm2) 5 5 (by decide) (by decide) (by rw [show ((5 : Int) : Rat) = 5 from rfl]; grind) (by rw [show ((5 : Int) : Rat) = 5 from rfl]; grind)
  rw [show ((5 : Int) : Rat) = 5 from rfl] at d0 d1
  obtain rfl : d = 5 := by grind
  obtain ⟨m, hm, m0, m1⟩ := wn_between (wn_mul hd hu) 0 5 (by decide) (by decide) (by rw [show ((0 : Int) : Rat) = 0 from rfl]; grind) (by rw [show ((5 : Int) : Rat) = 5 from rfl]; grind)
  rw [show ((0 : Int) : Rat) = 0 from rfl] at m0
  rw [show ((5 : Int) : Rat) = 5 from rfl] at m1
  obtain ⟨r, hr, r0, r1⟩ := wn_between (wn_add rv_cm2 hm) (-2) 3 (by decide) (by decide) (by rw [show ((-2 : Int) : Rat) = -2 from rfl]; grind) (by rw [show ((3 : Int) : Rat) = 3 from rfl]; grind)
  exact ⟨r, hr, r0, r1⟩
/-- The particles of the law. -/
theorem parts_law (n s : Int) (hn : 1 ≤ n ∧ n ≤ 16) (hs : 0 ≤ s ∧ s ≤ 4294967295) : partAll n s (ab .f32 cm2) (ab .f32 c3) = true ∧ (partXs n s (ab .f32 cm2) (ab .f32 c3)).length = n.toNat ∧
    (∀ k, k < n.toNat → ∃ P, RV .f32 (ab .f32 ((partXs n s (ab .f32 cm2) (ab .f32 c3)).getD k 0)) P ∧ -2 ≤ P ∧ P ≤ 3) ∧ ∀ k, (partXs n s (ab .f32 cm2) (ab .f32 c3)).getD k 0 < 4294967296 := by
  have hrv : ∀ k, k < n.toNat → ∃ r, RV .f32 (partX (ab .f32 cm2) (ab .f32 c3) (seedAt s (k + 1))) r ∧ -2 ≤ r ∧ r ≤ 3 := fun k _ => rv_part _ (seedAt_bd s hs _)
  obtain ⟨f1, f2, f3⟩ := list_rv (L := partL (ab .f32 cm2) (ab .f32 c3) s n.toNat) (n := n.toNat) rfl (fun k hk => by obtain ⟨r, hr, _⟩ := hrv k hk; exact ⟨r, hr⟩)
  have hok : partAll n s (ab .f32 cm2) (ab .f32 c3) = true := by
    unfold partAll partOk
    rw [f1, inB_mk hn.1 (by omega), inB_mk hs.1 hs.2, show finite32 (ab .f32 cm2) = true from rv_cm2.fin, show finite32 (ab .f32 c3) = true from rv_c3.fin, rv_lt rv_cm2 rv_c3 (by grind)]
    rfl
  rw [(part_yes hok).1]
  refine ⟨hok, f2, fun k hk => ?_, fun k => ?_⟩
  · obtain ⟨r, hr, r0, r1⟩ := hrv k hk
    exact ⟨r, by rw [(f3 k hk).1]; exact hr, r0, r1⟩
  · by_cases hk : k < n.toNat
    · exact add_lt (f3 k hk).2
    · have : (bitsOf (partL (ab .f32 cm2) (ab .f32 c3) s n.toNat)).getD k 0 = 0 := by
        rw [List.getD_eq_getElem?_getD, List.getElem?_eq_none (by omega)]; rfl
      rw [this]; decide

/-! ## PtLaw2 -/
theorem fin_of_rv {x : Option Nat} {r : Rat} (h : RV .f32 x r) : finite32 x = true := h.fin
theorem cloud_of {xs : List Nat} {n : Nat} (hl : xs.length = n) (h1 : 1 ≤ n) (h2 : n ≤ 64) (h : ∀ k, k < n → ∃ P, RV .f32 (ab .f32 (xs.getD k 0)) P) : cloudB xs = true := by
  unfold cloudB
  rw [inB_mk (by omega) (by omega), Bool.true_and, List.all_eq_true]
  intro x hx
  obtain ⟨k, hk, rfl⟩ := List.getElem_of_mem hx
  obtain ⟨P, hP⟩ := h k (by omega)
  rw [getD_atM xs k hk] at hP
  exact fin_of_rv hP
theorem notLess_of {x : Option Nat} {r : Rat} (h : RV .f32 x r) (h0 : 0 ≤ r) : notLessB x = true := by
  unfold notLessB
  rw [fin_of_rv h, Bool.true_and]
  by_cases c : r = 0
  · rw [rv_eq h (rv_zero .f32) c]; rfl
  · rw [rv_gt h (rv_zero .f32) (by grind)]; rfl
theorem more_of {x : Option Nat} {r : Rat} (h : RV .f32 x r) (h0 : 0 < r) : moreB x = true := by
  unfold moreB
  rw [fin_of_rv h, Bool.true_and, rv_gt h (rv_zero .f32) h0]; rfl
theorem parts_of {xs ws : List Nat} {n : Nat} (hc : cloudB xs = true) (hl : xs.length = n) (hw : ws.length = n) (h : ∀ k, k < n → ∃ u, RV .f32 (ab .f32 (ws.getD k 0)) u ∧ 0 ≤ u) : partsB xs ws = true := by
  unfold partsB
  rw [hc, Bool.true_and, Bool.and_eq_true, decide_eq_true_eq, List.all_eq_true]
  refine ⟨by omega, fun x hx => ?_⟩
  obtain ⟨k, hk, rfl⟩ := List.getElem_of_mem hx
  obtain ⟨u, hu, u0⟩ := h k (by omega)
  rw [getD_atM ws k hk] at hu
  exact notLess_of hu u0
/-! ### The sum of weights -/
theorem sumX_near {ws : List Nat} {n : Nat} (hn : n ≤ 16) (h : ∀ k, k < n → ∃ u, RV .f32 (ab .f32 (ws.getD k 0)) u ∧ 0 ≤ u ∧ u ≤ 1001 / 1000) (k : Nat) (hk : k ≤ n) : ∃ S, RV .f32 (sumX ws k) S ∧ S ≤ sumQ (fun j => valR .f32 (ab .f32 (ws.getD j 0))) k + (k : Rat) * (3 / 1000000) ∧ sumQ (fun j => valR .f32 (ab .f32 (ws.getD j 0))) k ≤ S + (k : Rat) * (3 / 1000000) := by
  have h' : ∀ k, k < n → 0 ≤ valR .f32 (ab .f32 (ws.getD k 0)) ∧ valR .f32 (ab .f32 (ws.getD k 0)) ≤ 1001 / 1000 := fun k hk => by
    obtain ⟨u, hu, u0, u1⟩ := h k hk
    rw [hu.valR]; exact ⟨u0, u1⟩
  induction k with
  | zero => exact ⟨0, rv_zero _, by show (0 : Rat) ≤ 0 + _; simp; grind, by show (0 : Rat) ≤ 0 + _; simp; grind⟩
  | succ k ih =>
    obtain ⟨S, hS, s1, s2⟩ := ih (by omega)
    obtain ⟨u, hu, u0, u1⟩ := h k (by omega)
    have hb := sumQ_between (f := fun j => valR .f32 (ab .f32 (ws.getD j 0))) (n := n) (a := 0) (b := 1001 / 1000) h' k (by omega)
    have hk16 := nat_le_rat (show k ≤ 15 by omega)
    have h15 : ((15 : Nat) : Rat) = 15 := rfl
    have hk0 := nat_le_rat (Nat.zero_le k)
    have h0 : ((0 : Nat) : Rat) = 0 := rfl
    rw [sumX_next, sumQ_next, Rat.natCast_add, hu.valR]
    have h1 : ((1 : Nat) : Rat) = 1 := rfl
    obtain ⟨R, hR, -, -, r1, r2⟩ := near32 (wn_add hS (show RV .f32 (atX ws k) u from hu)) 18 (by grind) (by grind) (by grind)
    rw [tiny_eq] at *
    exact ⟨R, hR, by grind, by grind⟩
/-! ### The law's weights -/
section
variable {xs : List Nat} {x : Option Nat} {n : Nat} {X : Rat}
def usOf (xs : List Nat) (x : Option Nat) (n : Nat) : List Nat := wgXs xs (List.replicate n chalf) x (some ctwo)
theorem Cloud.ok (h : Cloud xs x n X) : cloudB xs = true := cloud_of h.len h.lo (by have := h.hi; omega) (fun k hk => by obtain ⟨P, hP, _⟩ := h.part k hk; exact ⟨P, hP⟩)
theorem half_get (n k : Nat) (hk : k < n) : (List.replicate n chalf).getD k 0 = chalf := by simp [List.getD, hk]
theorem Cloud.parts (h : Cloud xs x n X) : partsB xs (List.replicate n chalf) = true :=
  parts_of h.ok h.len (by simp) (fun k hk => ⟨1 / 2, by rw [half_get n k hk]; exact rv_half, by grind⟩)
theorem more_two : moreB (some ctwo) = true := by decide
theorem Cloud.wg (h : Cloud xs x n X) : wgAll xs (List.replicate n chalf) x (some ctwo) = true ∧ (usOf xs x n).length = n ∧ ∀ k, k < n → ab .f32 ((usOf xs x n).getD k 0) = uX xs x n k := by
  obtain ⟨S, hS, s1, s2, s3⟩ := h.tot
  have hn := nat_le_rat h.lo
  have h1 : ((1 : Nat) : Rat) = 1 := rfl
  have ht : wgTot xs (List.replicate n chalf) x (some ctwo) = wT xs x n := by
    unfold wgTot wT
    rw [show wgBy (some ctwo) = some c8 from wgBy_two, h.len]
  have hres : wgRes xs (List.replicate n chalf) x (some ctwo) = (List.range n).map (uX xs x n) := by
    unfold wgRes wgMix
    rw [ht, h.len, show wgBy (some ctwo) = some c8 from wgBy_two]
    apply List.map_congr_left
    intro k hk
    rw [if_pos (List.mem_range.1 hk)]
    rfl
  obtain ⟨f1, f2, f3⟩ := list_rv hres (fun k hk => ⟨_, (h.u hk hS).1⟩)
  have hall : wgAll xs (List.replicate n chalf) x (some ctwo) = true := by
    unfold wgAll wgOk
    rw [h.parts, fin_of_rv h.at_, more_two, ht, rv_gt hS (rv_zero .f32) (by grind), f1]
    rfl
  refine ⟨hall, ?_, fun k hk => ?_⟩
  · unfold usOf; rw [wg_yes hall]; exact f2
  · unfold usOf; rw [wg_yes hall]; exact (f3 k hk).1
theorem Cloud.us (h : Cloud xs x n X) {k : Nat} (hk : k < n) : RV .f32 (ab .f32 ((usOf xs x n).getD k 0)) (uQ xs x n k) ∧ 0 ≤ uQ xs x n k ∧ uQ xs x n k ≤ 1001 / 1000 := by
  obtain ⟨S, hS, _⟩ := h.tot
  obtain ⟨a, b, c, _⟩ := h.u hk hS
  rw [h.wg.2.2 k hk]
  exact ⟨a, b, c⟩
theorem Cloud.most (h : Cloud xs x n X) : 99 / 100 ≤ sumQ (uQ xs x n) n := by
  obtain ⟨S, hS, s1, s2⟩ := h.total
  obtain ⟨T, hT, t1, t2⟩ := h.sums64 n (Nat.le_refl _)
  obtain rfl := hS.val hT
  have hn16 := nat_le_rat h.hi
  have h16 : ((16 : Nat) : Rat) = 16 := rfl
  grind
/-- Draws by the equal weights. -/
theorem pick_equal : ∀ n, n < 17 → ∀ i, i < n → drawPick (List.replicate n chalf) (drawBar (ab .f32 chalf) (sumX (List.replicate n chalf) n) n i) n n = i := by decide +kernel
theorem sum_equal : ∀ n, n < 17 → 0 < n → moreB (sumX (List.replicate n chalf) n) = true := by decide +kernel
theorem share_half : shareB (ab .f32 chalf) = true := by decide
def cquart : Nat := 1048576000
theorem share_quart : shareB (ab .f32 cquart) = true := by decide
theorem Cloud.again (h : Cloud xs x n X) : drawAll xs (List.replicate n chalf) (ab .f32 chalf) = true ∧ drawXs xs (List.replicate n chalf) (ab .f32 chalf) = xs := by
  have hall : drawAll xs (List.replicate n chalf) (ab .f32 chalf) = true := by
    unfold drawAll
    rw [h.parts, share_half, List.length_replicate, sum_equal n (by have := h.hi; omega) h.lo]; rfl
  refine ⟨hall, ?_⟩
  rw [draw_yes hall]
  apply List.ext_getElem
  · rw [drawL_len]
  · intro i h1 h2
    simp only [drawL, List.getElem_map, List.getElem_range, drawX]
    have hl := h.len
    rw [List.length_replicate, hl, pick_equal n (by have := h.hi; omega) i (by omega), getD_atM xs i h2]
theorem Cloud.drawn (h : Cloud xs x n X) : drawAll xs (usOf xs x n) (ab .f32 cquart) = true := by
  have hu := fun k hk => h.us (k := k) hk
  obtain ⟨S, hS, s1, s2⟩ := sumX_near (ws := usOf xs x n) (n := n) h.hi (fun k hk => ⟨_, hu k hk⟩) n (Nat.le_refl _)
  have hm := h.most
  have e : sumQ (fun j => valR .f32 (ab .f32 ((usOf xs x n).getD j 0))) n = sumQ (uQ xs x n) n := by
    have : ∀ k, k ≤ n → sumQ (fun j => valR .f32 (ab .f32 ((usOf xs x n).getD j 0))) k = sumQ (uQ xs x n) k := by
      intro k
      induction k with
      | zero => intro _; rfl
      | succ k ih =>
        intro hk
        rw [sumQ_next, sumQ_next, ih (by omega), (hu k (by omega)).1.valR]
    exact this n (Nat.le_refl _)
  rw [e] at s1 s2
  have hn16 := nat_le_rat h.hi
  have h16 : ((16 : Nat) : Rat) = 16 := rfl
  unfold drawAll
  rw [parts_of h.ok h.len h.wg.2.1 (fun k hk => ⟨_, (hu k hk).1, (hu k hk).2.1⟩), share_quart, h.wg.2.1, more_of hS (by grind)]
  rfl
theorem draw_lt {xs ws : List Nat} {s : Option Nat} (h : ∀ k, xs.getD k 0 < 4294967296) : ∀ b ∈ drawXs xs ws s, b < 4294967296 := by
  intro b hb
  cases hall : drawAll xs ws s
  · rw [(draw_no hall).1] at hb; cases hb
  · rw [draw_yes hall] at hb
    unfold drawL at hb
    obtain ⟨i, _, rfl⟩ := List.mem_map.1 hb
    exact h _
/-! ### Gaps -/
def gapX (a b : Option Nat) : Option Nat := if (ford .f64 a b == some .lt) = true then fop .sub .f64 b a else fop .sub .f64 a b
theorem gap_near {a b : Option Nat} {A B : Rat} (ha : RV .f64 a A) (hb : RV .f64 b B) (h1 : -100 ≤ A - B) (h2 : A - B ≤ 100) : ∃ γ N, RV .f64 (gapX a b) γ ∧ 0 ≤ N ∧ (B - A = N ∨ B - A = -N) ∧ γ ≤ N + 1 / 10000000000000 ∧ N ≤ γ + 1 / 10000000000000 := by
  by_cases c : A < B
  · obtain ⟨γ, hγ, -, -, g1, g2⟩ := near64 (wn_sub hb ha) 100 (by grind) (by grind) (by grind)
    refine ⟨γ, B - A, ?_, by grind, Or.inl rfl, ?_, ?_⟩
    · unfold gapX; rw [rv_lt ha hb c]; exact hγ
    · rw [tiny_eq] at *; grind
    · rw [tiny_eq] at *; grind
  · obtain ⟨γ, hγ, -, -, g1, g2⟩ := near64 (wn_sub ha hb) 100 (by grind) (by grind) (by grind)
    have hn : (ford .f64 a b == some .lt) = false := by
      by_cases e : A = B
      · rw [rv_eq ha hb e]; rfl
      · rw [rv_gt ha hb (by grind)]; rfl
    refine ⟨γ, A - B, ?_, by grind, Or.inr (by grind), ?_, ?_⟩
    · unfold gapX; rw [hn]; exact hγ
    · rw [tiny_eq] at *; grind
    · rw [tiny_eq] at *; grind
def cmil : Nat := 4562254508917369340
def cmil10 : Nat := 4547007122018943789
theorem rv_mil : ∃ r, RV .f64 (some cmil) r ∧ 999 / 1000000 ≤ r ∧ r ≤ 1001 / 1000000 :=
  ⟨_, RV.of (v := fv FloatKind.f64.format cmil) ⟨cmil, rfl, by decide, rfl⟩, by decide +kernel, by decide +kernel⟩
theorem rv_mil10 : ∃ r, RV .f64 (some cmil10) r ∧ 99 / 1000000 ≤ r ∧ r ≤ 101 / 1000000 :=
  ⟨_, RV.of (v := fv FloatKind.f64.format cmil10) ⟨cmil10, rfl, by decide, rfl⟩, by decide +kernel, by decide +kernel⟩
theorem not_lt_of {k : FloatKind} {a b : Option Nat} {A B : Rat} (ha : RV k a A) (hb : RV k b B) (h : B ≤ A) : (ford k a b == some .lt) = false := by
  by_cases e : A = B
  · rw [rv_eq ha hb e]; rfl
  · rw [rv_gt ha hb (by grind)]; rfl
theorem not_gt_of {k : FloatKind} {a b : Option Nat} {A B : Rat} (ha : RV k a A) (hb : RV k b B) (h : A ≤ B) : (ford k a b == some .gt) = false := by
  by_cases e : A = B
  · rw [rv_eq ha hb e]; rfl
  · rw [rv_lt ha hb (by grind)]; rfl
theorem lt_of_rv {k : FloatKind} {a b : Option Nat} {A B : Rat} (ha : RV k a A) (hb : RV k b B) (h : (ford k a b == some .lt) = true) : A < B := by
  by_cases c : B ≤ A
  · rw [not_lt_of ha hb c] at h; cases h
  · grind
/-- The nearer weigh no less, as the law asks. -/
theorem Cloud.law (h : Cloud xs x n X) {i k : Nat} (hi : i < n) (hk : k < n) :
    (ford .f64 (gapX (wid (ab .f32 (xs.getD i 0))) (wid x)) (fop .sub .f64 (gapX (wid (ab .f32 (xs.getD k 0))) (wid x)) (some cmil)) == some .lt) = true →
    (ford .f64 (wid (ab .f32 ((usOf xs x n).getD i 0))) (fop .sub .f64 (wid (ab .f32 ((usOf xs x n).getD k 0))) (some cmil10)) == some .lt) = false := by
  intro hlt
  obtain ⟨P, hP, p1, p2⟩ := h.part i hi
  obtain ⟨Q, hQ, q1, q2⟩ := h.part k hk
  have x1 := h.x1
  have x2 := h.x2
  obtain ⟨γ, N, hγ, n0, ne, g1, g2⟩ := gap_near (rv_wid hP) (rv_wid h.at_) (by grind) (by grind)
  obtain ⟨δ, M, hδ, m0, me, d1, d2⟩ := gap_near (rv_wid hQ) (rv_wid h.at_) (by grind) (by grind)
  obtain ⟨c, hc, c1, c2⟩ := rv_mil
  obtain ⟨f, hf, -, -, f1, f2⟩ := near64 (wn_sub hδ hc) 100 (by grind) (by grind) (by grind)
  have hl := lt_of_rv hγ hf hlt
  rw [tiny_eq] at *
  have hmono := h.mono hi hk hP hQ n0 ne me (by grind) (by grind)
  obtain ⟨hu, u0, u1⟩ := h.us hi
  obtain ⟨hv, v0, v1⟩ := h.us hk
  obtain ⟨c', hc', c1', c2'⟩ := rv_mil10
  obtain ⟨r, hr, -, -, r1, r2⟩ := near64 (wn_sub (rv_wid hv) hc') 2 (by grind) (by grind) (by grind)
  rw [tiny_eq] at *
  exact not_lt_of (rv_wid hu) hr (by grind)
theorem Cloud.near_one (h : Cloud xs x n X) : (ford .f64 (gapX (sum64 xs x n n) (some 4607182418800017408)) (some cmil) == some .gt) = false := by
  obtain ⟨S, hS, s1, s2⟩ := h.total
  obtain ⟨γ, N, hγ, n0, ne, g1, g2⟩ := gap_near hS rv_one64 (by grind) (by grind)
  obtain ⟨c, hc, c1, c2⟩ := rv_mil
  exact not_gt_of hγ hc (by grind)
/-! ### Moves -/
theorem rv_wideAt (s : Int) (hs : 0 ≤ s ∧ s ≤ 4294967295) (k : Nat) (hk : k ≤ 4) : ∃ r, RV .f32 (wideAt s k) r ∧ -(k : Rat) ≤ r ∧ r ≤ (k : Rat) := by
  induction k with
  | zero => exact ⟨0, rv_zero _, by show -(0 : Rat) ≤ 0; grind, by show (0 : Rat) ≤ 0; grind⟩
  | succ k ih =>
    obtain ⟨r, hr, r1, r2⟩ := ih (by omega)
    obtain ⟨u, hu, u0, u1⟩ := rv_share (nextS (seedAt s k)) (nextS_bd _)
    have hh : RV .f32 (some 1056964608) (1 / 2) := by have := rv_half; rwa [show ab .f32 chalf = some 1056964608 from by decide] at this
    obtain ⟨d, hd, -, -, d1, d2⟩ := near32 (wn_sub hu hh) (1 / 2) (by grind) (by grind) (by grind)
    have hk3 := nat_le_rat (show k ≤ 3 by omega)
    have h3 : ((3 : Nat) : Rat) = 3 := rfl
    obtain ⟨m, hm, -, -, m1, m2⟩ := near32 (wn_add hr hd) 4 (by rw [tiny_eq] at *; grind) (by rw [tiny_eq] at *; grind) (by rw [tiny_eq] at *; grind)
    have h1 : ((k + 1 : Nat) : Rat) = (k : Rat) + 1 := by rw [Rat.natCast_add]; rfl
    rw [tiny_eq] at *
    exact ⟨m, hm, by rw [h1]; grind, by rw [h1]; grind⟩
theorem rv_wideS (s : Int) (hs : 0 ≤ s ∧ s ≤ 4294967295) : ∃ r, RV .f32 (wideS s) r := by
  obtain ⟨r, hr, r1, r2⟩ := rv_wideAt s hs 4 (by omega)
  have h4 : ((4 : Nat) : Rat) = 4 := rfl
  have hc : RV .f32 (some 1071494103) ((fv FloatKind.f32.format 1071494103 : Int) / (unit .f32 : Nat)) := RV.of (v := fv FloatKind.f32.format 1071494103) ⟨1071494103, rfl, by decide, rfl⟩
  have hb : (0 : Rat) ≤ ((fv FloatKind.f32.format 1071494103 : Int) : Rat) / (unit .f32 : Nat) ∧ ((fv FloatKind.f32.format 1071494103 : Int) : Rat) / (unit .f32 : Nat) ≤ 2 := by decide +kernel
  generalize ((fv FloatKind.f32.format 1071494103 : Int) : Rat) / (unit .f32 : Nat) = c at *
  obtain ⟨b1, b2⟩ := abs_mul_le (a := r) (b := c) (α := 4) (β := 2) (by grind) (by grind) (by grind) (by grind)
  obtain ⟨m, hm, _⟩ := near32 (wn_mul hr hc) 8 (by grind) (by grind) (by grind)
  exact ⟨m, hm⟩
theorem rv_moved {xs : List Nat} {s : Int} {j : Nat} {P : Rat} (hs : 0 ≤ s ∧ s ≤ 4294967295) (hP : RV .f32 (ab .f32 (xs.getD j 0)) P) (p1 : -2 ≤ P) (p2 : P ≤ 3) : ∃ m, RV .f32 (movedX (ab .f32 chalf) (ab .f32 0) s xs j) m ∧ m ≤ P + 1 / 2 + 1 / 1000000 ∧ P + 1 / 2 ≤ m + 1 / 1000000 := by
  obtain ⟨a, ha, -, -, a1, a2⟩ := near32 (wn_add hP rv_half) 4 (by grind) (by grind) (by grind)
  obtain ⟨q, hq⟩ := rv_wideS (seedAt s (4 * j)) (seedAt_bd s hs _)
  have hz : RV .f32 (ab .f32 0) 0 := by rw [ab_z32]; exact rv_zero _
  have h0 := wn_mul hz hq
  rw [Rat.zero_mul] at h0
  have h0 := wn_same h0 (rv_zero _)
  have hm := wn_add ha h0
  rw [Rat.add_zero] at hm
  have hm := wn_same hm ha
  rw [tiny_eq] at *
  exact ⟨a, hm, by grind, by grind⟩
theorem Cloud.moved (h : Cloud xs x n X) {s : Int} (hs : 0 ≤ s ∧ s ≤ 4294967295) : movedAll xs (ab .f32 chalf) (ab .f32 0) s = true ∧ (movedXs xs (ab .f32 chalf) (ab .f32 0) s).length = n ∧ ∀ k, k < n →
    (ford .f64 (gapX (wid (ab .f32 ((movedXs xs (ab .f32 chalf) (ab .f32 0) s).getD k 0))) (fop .add .f64 (wid (ab .f32 (xs.getD k 0))) (some 4602678819172646912))) (some cmil) == some .gt) = false := by
  obtain ⟨f1, f2, f3⟩ := list_rv (L := movedL (ab .f32 chalf) (ab .f32 0) s xs n) (n := n) rfl (fun k hk => by
    obtain ⟨P, hP, p1, p2⟩ := h.part k hk
    obtain ⟨m, hm, _⟩ := rv_moved (s := s) hs hP p1 p2
    exact ⟨m, hm⟩)
  have hall : movedAll xs (ab .f32 chalf) (ab .f32 0) s = true := by
    unfold movedAll movedOk
    rw [h.ok, h.len, f1, show finite32 (ab .f32 chalf) = true from rv_half.fin, inB_mk hs.1 hs.2]
    decide
  rw [(moved_yes hall).1, h.len]
  refine ⟨hall, f2, fun k hk => ?_⟩
  obtain ⟨P, hP, p1, p2⟩ := h.part k hk
  obtain ⟨m, hm, m1, m2⟩ := rv_moved (s := s) hs hP p1 p2
  rw [(f3 k hk).1]
  have hh : RV .f64 (some 4602678819172646912) (1 / 2) := by
    have := rv_wid rv_half
    rwa [show wid (ab .f32 chalf) = some 4602678819172646912 from by decide] at this
  obtain ⟨q, hq, -, -, q1, q2⟩ := near64 (wn_add (rv_wid hP) hh) 4 (by grind) (by grind) (by grind)
  rw [tiny_eq] at *
  obtain ⟨γ, N, hγ, n0, ne, g1, g2⟩ := gap_near (rv_wid hm) hq (by grind) (by grind)
  obtain ⟨c, hc, c1, c2⟩ := rv_mil
  exact not_gt_of hγ hc (by grind)
theorem Cloud.movedV (h : Cloud xs x n X) {s : Int} (hs : 0 ≤ s ∧ s ≤ 4294967295) {k : Nat} (hk : k < n) : ∃ m, RV .f32 (ab .f32 ((movedXs xs (ab .f32 chalf) (ab .f32 0) s).getD k 0)) m ∧ -10 ≤ m ∧ m ≤ 10 := by
  obtain ⟨f1, f2, f3⟩ := list_rv (L := movedL (ab .f32 chalf) (ab .f32 0) s xs n) (n := n) rfl (fun k hk => by
    obtain ⟨P, hP, p1, p2⟩ := h.part k hk
    obtain ⟨m, hm, _⟩ := rv_moved (s := s) hs hP p1 p2
    exact ⟨m, hm⟩)
  rw [(moved_yes (h.moved hs).1).1, h.len]
  obtain ⟨P, hP, p1, p2⟩ := h.part k hk
  obtain ⟨m, hm, m1, m2⟩ := rv_moved (s := s) hs hP p1 p2
  exact ⟨m, by rw [(f3 k hk).1]; exact hm, by grind, by grind⟩
/-! ### Times that are left -/
def cfour : Nat := 1082130432
theorem rv_four : RV .f32 (ab .f32 cfour) 4 := by
  have := rv_ofInt32 4 (by decide)
  rw [show floatOfInt .f32 4 = cfour from by decide] at this
  rwa [show ab .f32 cfour = some cfour from by decide]
theorem rv_left {xs : List Nat} {j : Nat} {P : Rat} (hP : RV .f32 (ab .f32 (xs.getD j 0)) P) (p1 : -2 ≤ P) (p2 : P ≤ 3) : ∃ m, RV .f32 (leftX (ab .f32 chalf) (ab .f32 cfour) xs j) m := by
  obtain ⟨d, hd, d0, d1⟩ := wn_between (wn_sub rv_four hP) 1 6 (by decide) (by decide) (by rw [show ((1 : Int) : Rat) = 1 from rfl]; grind) (by rw [show ((6 : Int) : Rat) = 6 from rfl]; grind)
  rw [show ((1 : Int) : Rat) = 1 from rfl] at d0
  rw [show ((6 : Int) : Rat) = 6 from rfl] at d1
  have e : leftX (ab .f32 chalf) (ab .f32 cfour) xs j = fop .quo .f32 (fop .sub .f32 (ab .f32 cfour) (ab .f32 (xs.getD j 0))) (ab .f32 chalf) := by
    unfold leftX leftD
    rw [rv_gt hd (rv_zero .f32) (by grind)]
    rfl
  rw [e]
  obtain ⟨m, hm, _⟩ := near32 (wn_div hd rv_half (by grind)) 12 (by grind) (by grind) (by grind)
  exact ⟨m, hm⟩
theorem srt_le (ys : List Nat) {i j : Nat} (hij : i < j) (hj : j < (srt ys).length) : (srt ys)[i] ≤ (srt ys)[j] := by
  have hp : (srt ys).Pairwise (fun x y => decide (x ≤ y) = true) := List.pairwise_mergeSort (fun a b c => by simp; omega) (fun a b => by simp; omega) ys
  have := List.pairwise_iff_getElem.1 hp i j (by omega) hj hij
  simpa using this
theorem Cloud.left (h : Cloud xs x n X) : leftAll xs (ab .f32 chalf) (ab .f32 cfour) = true ∧ (leftXs xs (ab .f32 chalf) (ab .f32 cfour)).length = n ∧
    (∀ k, k < n → (ford .f32 (ab .f32 ((leftXs xs (ab .f32 chalf) (ab .f32 cfour)).getD k 0)) (some 0) == some .lt) = false) ∧
    ∀ k, k + 1 < n → (ford .f32 (ab .f32 ((leftXs xs (ab .f32 chalf) (ab .f32 cfour)).getD (k + 1) 0)) (ab .f32 ((leftXs xs (ab .f32 chalf) (ab .f32 cfour)).getD k 0)) == some .lt) = false := by
  obtain ⟨f1, f2, f3⟩ := list_rv (L := leftL (ab .f32 chalf) (ab .f32 cfour) xs n) (n := n) rfl (fun k hk => by
    obtain ⟨P, hP, p1, p2⟩ := h.part k hk
    exact rv_left hP p1 p2)
  have hok : leftOk xs (ab .f32 chalf) (ab .f32 cfour) = true := by
    unfold leftOk
    rw [h.ok, more_of rv_half (by grind), show finite32 (ab .f32 cfour) = true from rv_four.fin]; rfl
  have hall : leftAll xs (ab .f32 chalf) (ab .f32 cfour) = true := by
    unfold leftAll
    rw [hok, h.len, f1]; rfl
  have hpos : ∀ y ∈ bitsOf (leftL (ab .f32 chalf) (ab .f32 cfour) xs n), PosN y := by
    have hmap : (bitsOf (leftL (ab .f32 chalf) (ab .f32 cfour) xs n)).map (ab .f32) = leftL (ab .f32 chalf) (ab .f32 cfour) xs xs.length := by
      rw [h.len]
      apply List.ext_getElem
      · rw [List.length_map, f2, leftL_len]
      · intro i h1 h2
        rw [List.length_map, f2] at h1
        rw [List.getElem_map]
        have e := (f3 i h1).1
        rw [getD_atM _ i (by omega)] at e
        rw [e]
        simp [leftL]
    exact (left_bits (by decide) hok hmap).1
  rw [left_yes hall, h.len]
  generalize bitsOf (leftL (ab .f32 chalf) (ab .f32 cfour) xs n) = ys at *
  have hl : (srt ys).length = n := by rw [srt_len, f2]
  have hp2 : ∀ k (hk : k < n), PosN ((srt ys)[k]'(by omega)) := fun k hk => hpos _ ((srt_perm ys).mem_iff.1 (List.getElem_mem _))
  refine ⟨hall, hl, fun k hk => ?_, fun k hk => ?_⟩
  · rw [getD_atM _ k (by omega)]
    have e := ford_pos (hp2 k hk) (show PosN 0 by decide)
    rw [ab_z32] at e
    rw [e]
    have : compare ((srt ys)[k]'(by omega)) 0 ≠ .lt := by
      rw [Ne, Nat.compare_eq_lt]; omega
    revert this
    cases compare ((srt ys)[k]'(by omega)) 0 <;> simp
  · rw [getD_atM _ k (by omega), getD_atM _ (k + 1) (by omega)]
    have e := ford_pos (hp2 (k + 1) hk) (hp2 k (by omega))
    rw [e]
    have hle := srt_le ys (i := k) (j := k + 1) (by omega) (by omega)
    have : compare ((srt ys)[k + 1]'(by omega)) ((srt ys)[k]'(by omega)) ≠ .lt := by
      rw [Ne, Nat.compare_eq_lt]; omega
    revert this
    cases compare ((srt ys)[k + 1]'(by omega)) ((srt ys)[k]'(by omega)) <;> simp
end

/-! ## PtCon -/
set_option maxHeartbeats 400000 in
theorem b10Gap_any (a b : Nat) (w : World) :
    Calls Try.prog 19 #[.float .f64 a, .float .f64 b] w (FltOk64 (gapX (ab .f64 a) (ab .f64 b)) w) := by
  cases h : (ford .f64 (ab .f64 a) (ab .f64 b) == some .lt)
  · have HM := hid (show gapX (ab .f64 a) (ab .f64 b) = fop .sub .f64 (ab .f64 a) (ab .f64 b) by unfold gapX; rw [h]; rfl)
    go_enter Try.func19, Try.ntmps19
    go_wp2_with (refine upon_float rfl ?_; intro r n hr; go_simp)
    go_ret
    exact ⟨_, rfl, by rw [HM.out]; exact hr, by (repeat (first | (with_reducible assumption) | (with_reducible apply below_refl) | (with_reducible apply below_alloc1) | (with_reducible apply below_drewN1) | (with_reducible apply below_drew1)))⟩
  · have HM := hid (show gapX (ab .f64 a) (ab .f64 b) = fop .sub .f64 (ab .f64 b) (ab .f64 a) by unfold gapX; rw [h]; rfl)
    go_enter Try.func19, Try.ntmps19
    go_wp2_with (refine upon_float rfl ?_; intro r n hr; go_simp)
    go_ret
    exact ⟨_, rfl, by rw [HM.out]; exact hr, by (repeat (first | (with_reducible assumption) | (with_reducible apply below_refl) | (with_reducible apply below_alloc1) | (with_reducible apply below_drewN1) | (with_reducible apply below_drew1)))⟩
theorem b10Gap_at (a b : Nat) {p q M : Option Nat} (ha : ab .f64 a = p) (hb : ab .f64 b = q) (hM : gapX p q = M) (w : World) :
    Calls Try.prog 19 #[.float .f64 a, .float .f64 b] w (FltOk64 M w) := by
  subst ha hb hM; exact b10Gap_any a b w
theorem same_self (x : Option Nat) : sameB x x = true := by simp [sameB]
set_option maxHeartbeats 400000 in
theorem specSame_self (x : Nat) (hx : x < 4294967296) (w : World) :
    Calls Try.prog 40 #[.float .f32 x, .float .f32 x] w fun e w' => e = .returned (.bool true) ∧ Below w.heap.size w w' := by
  have HS := hid (same_self (ab .f32 x))
  go_enter Try.func40, Try.ntmps40
  go_wp2_with (first | (go_at_call 53; (with_reducible refine (l01Same_any x x hx hx _).mono ?_); rw [HS.out]; rintro e w' ⟨rfl, hb⟩; have hB : Below w.heap.size w w' := below_trans (by (repeat (first | (with_reducible assumption) | (with_reducible apply below_refl) | (with_reducible apply below_alloc1) | (with_reducible apply below_drewN1) | (with_reducible apply below_drew1)))) hb; have hC := (bcell hB).1; clear hb))
  go_ret
  exact ⟨rfl, by assumption⟩
set_option maxRecDepth 100000 in
set_option maxHeartbeats 800000 in
theorem b10List_same (v u : Value) (xs : List Nat) (hx : ∀ b ∈ xs, b < 4294967296) (hn : xs.length ≤ 1048576) (w : World) (hv : RowAt w v (xs.map (Value.float .f32))) (hu : RowAt w u (xs.map (Value.float .f32))) :
    Calls Try.prog 15 #[v, u] w fun e w' => e = .returned (.bool true) ∧ Below w.heap.size w w' := by
  obtain ⟨ao, cap, b, off, rfl, hao, hl, hm, hc⟩ := hv
  obtain ⟨ao', cap', b', off', rfl, hao', hl', hm', hc'⟩ := hu
  simp only [List.length_map] at hl hl' hao hao' ⊢
  unfold maxLen at hm hm'
  have HC := hid hc; have HA := hid hao; have HC' := hid hc'; have HA' := hid hao'
  clear hc hao hc' hao'
  have HX := hid hx; clear hx
  go_enter Try.func15, Try.ntmps15
  go_wp2_with fail
  go_loopw [13] (fun i wr => ∃ k : Nat, k ≤ xs.length ∧ i = .int .i64 k ∧ Below w.heap.size w wr) (fun i _ => xs.length - (intOf i).toNat)
  case atStart => exact ⟨0, Nat.zero_le _, rfl, by (repeat (first | (with_reducible assumption) | (with_reducible apply below_refl) | (with_reducible apply below_alloc1) | (with_reducible apply below_drewN1) | (with_reducible apply below_drew1)))⟩
  case round =>
    obtain ⟨k, hk, rfl, hw⟩ := hrel
    by_cases hlt : k < xs.length
    · obtain rfl := HA.out (by omega)
      obtain rfl := HA'.out (by omega)
      have hcell := rowc HC.out hw k hlt
      have hcell2 := rowc HC'.out hw k hlt
      have hbl := World.block_lt_of_cell? wr _ hcell
      have hbl2 := World.block_lt_of_cell? wr _ hcell2
      have hk0 : (0 : Int) ≤ (k : Int) := by omega
      have hltI : (k : Int) < (xs.length : Int) := by omega
      have hx4 := hid (HX.out _ (List.getElem_mem hlt))
      generalize xs[k] = x at hcell hcell2 hx4
      go_wp2_with (first
        | (go_region_held (fun w' => Below wr.heap.size wr w' ∧ ∀ b o, b < wr.heap.size → w'.cell? ⟨b, o, none⟩ = wr.cell? ⟨b, o, none⟩) (first | assumption | exact keep_next ‹_› ‹_› | exact keep_start | exact keep_drew ‹_› | exact keep_of (by (repeat (first | (with_reducible assumption) | (with_reducible apply below_refl) | (with_reducible apply below_alloc1) | (with_reducible apply below_drewN1) | (with_reducible apply below_drew1))))) (first | (go_at_call 40; (with_reducible refine (specSame_self _ hx4.out _).mono ?_); rintro e w' ⟨rfl, hb⟩)) <;> (rename_i hHeld; obtain ⟨hB, hC⟩ := hHeld)))
      go_roundw
      case rel => exact ⟨k + 1, by omega, by go_num, below_trans hw (by assumption)⟩
      case measure => simp [intOf]; omega
    · obtain rfl : k = xs.length := by omega
      go_wp2_with fail
      go_ret
      exact ⟨rfl, by (repeat (first | (with_reducible assumption) | (with_reducible apply below_refl) | (with_reducible apply below_alloc1) | (with_reducible apply below_drewN1) | (with_reducible apply below_drew1)))⟩
end Go.Proofs.Ytdldlfefbeflcaa
