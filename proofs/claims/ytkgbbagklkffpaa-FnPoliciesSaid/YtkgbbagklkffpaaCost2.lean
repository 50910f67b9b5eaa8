/- Contracts: what ages, parts of warranties and looks cost. -/
import Derived.Test.YtkgbbagklkffpaaCost
namespace Go.Proofs.Ytkgbbagklkffpaa
open Go.RowKit
set_option linter.unusedVariables false

def ageM (k : Int) (P S age pl fl : Option Nat) (n : Nat) : Option Nat × Bool :=
  if (ford .f32 (meanS k P S age n n) (some 0) == some .gt) = true then ifFin (fop .quo .f32 (fop .add .f32 (fop .mul .f32 fl (fop .sub .f32 (some 1065353216) (survO k P S age))) (fop .mul .f32 pl (survO k P S age))) (meanS k P S age n n)) else (some 0, false)
theorem ageM_no {k : Int} {P S age pl fl : Option Nat} {n : Nat} (h : (ford .f32 (meanS k P S age n n) (some 0) == some .gt) = false) : ageM k P S age pl fl n = (some 0, false) := by unfold ageM; rw [h]; rfl
theorem ageM_yes {k : Int} {P S age pl fl : Option Nat} {n : Nat} (h : (ford .f32 (meanS k P S age n n) (some 0) == some .gt) = true) : ageM k P S age pl fl n = ifFin (fop .quo .f32 (fop .add .f32 (fop .mul .f32 fl (fop .sub .f32 (some 1065353216) (survO k P S age))) (fop .mul .f32 pl (survO k P S age))) (meanS k P S age n n)) := by unfold ageM; rw [if_pos h]
set_option maxRecDepth 100000 in
set_option maxHeartbeats 1600000 in
theorem ageCost_any {k : Int} {p s age n pl fl : Nat} {α β : Rat} (h : Mn k (ab .f32 p) (ab .f32 s) (ab .f32 age) n) (hp : RV .f32 (ab .f32 pl) α) (a0 : 0 ≤ α) (hf : RV .f32 (ab .f32 fl) β) (b0 : 0 ≤ β) (w : World) : Calls Try.prog 12 #[.agg #[.int .i64 k, .float .f32 p, .float .f32 s], .float .f32 age, .float .f32 pl, .float .f32 fl, .int .i64 n] w (NumOk (ageM k (ab .f32 p) (ab .f32 s) (ab .f32 age) (ab .f32 pl) (ab .f32 fl) n) w) := by
  obtain ⟨ρ, σ, hL⟩ := h.law
  obtain ⟨τ, hτ, τ0, τk⟩ := h.pos
  have HM := hid (fun w => meanOf_any h w)
  have HG := hid (fun w => isGrid_any hL hτ τ0 h.n1 h.n2 w)
  have HK := hid (fun w => kept_any hL hτ τk w)
  have HN := hid (all_two (f := fun b => notLessB (ab .f32 b)) (a := pl) (b := fl) (notLess_rv hp a0) (notLess_rv hf b0))
  have HCELL := hid (law_cells k p s 26 w)
  clear h hL hτ hp hf
  cases hg : (ford .f32 (meanS k (ab .f32 p) (ab .f32 s) (ab .f32 age) n n) (some 0) == some .gt)
  · have HGG := hid hg
    rw [ageM_no hg]
    clear hg
    go_enter Try.func12, Try.ntmps12
    go_wp2_with (first
      | (go_at_call 21; (refine (HG.out _).mono ?_); rintro e wa ⟨rfl, hb⟩; have hBA : Below (w.alloc (.cells #[.int .i64 k, .float .f32 p, .float .f32 s] 26)).heap.size (w.alloc (.cells #[.int .i64 k, .float .f32 p, .float .f32 s] 26)) wa := below_trans (by (repeat (first | (with_reducible assumption) | (with_reducible apply below_refl) | (with_reducible apply below_alloc1) | (with_reducible apply below_drewN1) | (with_reducible apply below_drew1)))) hb; clear hb; obtain ⟨c0, c1, c2⟩ := HCELL.out _ hBA)
      | (go_at_call 31; (refine (areNotLess_any _ [pl, fl] _ (rowAt_alloc _ _ [.float .f32 pl, .float .f32 fl] (by simp [maxLen]))).mono ?_); rw [HN.out]; rintro e wb ⟨rfl, hb⟩; have hBB : Below (w.alloc (.cells #[.int .i64 k, .float .f32 p, .float .f32 s] 26)).heap.size (w.alloc (.cells #[.int .i64 k, .float .f32 p, .float .f32 s] 26)) wb := below_trans (by (repeat (first | (with_reducible assumption) | (with_reducible apply below_refl) | (with_reducible apply below_alloc1) | (with_reducible apply below_drewN1) | (with_reducible apply below_drew1)))) hb; clear hb; obtain ⟨c0, c1, c2⟩ := HCELL.out _ hBB)
      | (go_at_call 32; (refine (HM.out _).mono ?_); rintro e wc ⟨m, rfl, hm, hb⟩; have hgm : (ford .f32 (ab .f32 m) (some 0) == some .gt) = false := (by rw [show ab .f32 m = _ from hm]; exact HGG.out); have hBC : Below (w.alloc (.cells #[.int .i64 k, .float .f32 p, .float .f32 s] 26)).heap.size (w.alloc (.cells #[.int .i64 k, .float .f32 p, .float .f32 s] 26)) wc := below_trans (by (repeat (first | (with_reducible assumption) | (with_reducible apply below_refl) | (with_reducible apply below_alloc1) | (with_reducible apply below_drewN1) | (with_reducible apply below_drew1)))) hb; clear hb hm; obtain ⟨c0, c1, c2⟩ := HCELL.out _ hBC))
    go_ret2
    exact ⟨_, rfl, ab_z32, below_trans (below_alloc w _) (by (repeat (first | (with_reducible assumption) | (with_reducible apply below_refl) | (with_reducible apply below_alloc1) | (with_reducible apply below_drewN1) | (with_reducible apply below_drew1))))⟩
  · have HGG := hid hg
    rw [ageM_yes hg]
    clear hg
    obtain ⟨m0, hm0⟩ : ∃ m0, m0 = meanS k (ab .f32 p) (ab .f32 s) (ab .f32 age) n n := ⟨_, rfl⟩
    obtain ⟨s0, hs0⟩ : ∃ s0, s0 = survO k (ab .f32 p) (ab .f32 s) (ab .f32 age) := ⟨_, rfl⟩
    rw [← hm0] at HM HGG ⊢
    rw [← hs0] at HK ⊢
    clear hm0 hs0
    go_enter Try.func12, Try.ntmps12
    go_wp2_with (first
      | (go_at_call 21; (refine (HG.out _).mono ?_); rintro e wa ⟨rfl, hb⟩; have hBA : Below (w.alloc (.cells #[.int .i64 k, .float .f32 p, .float .f32 s] 26)).heap.size (w.alloc (.cells #[.int .i64 k, .float .f32 p, .float .f32 s] 26)) wa := below_trans (by (repeat (first | (with_reducible assumption) | (with_reducible apply below_refl) | (with_reducible apply below_alloc1) | (with_reducible apply below_drewN1) | (with_reducible apply below_drew1)))) hb; clear hb; obtain ⟨c0, c1, c2⟩ := HCELL.out _ hBA)
      | (go_at_call 31; (refine (areNotLess_any _ [pl, fl] _ (rowAt_alloc _ _ [.float .f32 pl, .float .f32 fl] (by simp [maxLen]))).mono ?_); rw [HN.out]; rintro e wb ⟨rfl, hb⟩; have hBB : Below (w.alloc (.cells #[.int .i64 k, .float .f32 p, .float .f32 s] 26)).heap.size (w.alloc (.cells #[.int .i64 k, .float .f32 p, .float .f32 s] 26)) wb := below_trans (by (repeat (first | (with_reducible assumption) | (with_reducible apply below_refl) | (with_reducible apply below_alloc1) | (with_reducible apply below_drewN1) | (with_reducible apply below_drew1)))) hb; clear hb; obtain ⟨c0, c1, c2⟩ := HCELL.out _ hBB)
      | (go_at_call 32; (refine (HM.out _).mono ?_); rintro e wc ⟨m, rfl, hm, hb⟩; have hgm : (ford .f32 (ab .f32 m) (some 0) == some .gt) = true := (by rw [show ab .f32 m = _ from hm]; exact HGG.out); have HMM := hid hm; have hBC : Below (w.alloc (.cells #[.int .i64 k, .float .f32 p, .float .f32 s] 26)).heap.size (w.alloc (.cells #[.int .i64 k, .float .f32 p, .float .f32 s] 26)) wc := below_trans (by (repeat (first | (with_reducible assumption) | (with_reducible apply below_refl) | (with_reducible apply below_alloc1) | (with_reducible apply below_drewN1) | (with_reducible apply below_drew1)))) hb; clear hb hm; obtain ⟨c0, c1, c2⟩ := HCELL.out _ hBC)
      | (go_at_call 33; (refine (HK.out _).mono ?_); rintro e wd ⟨q, rfl, hq, hb⟩; have HQ := hid hq; have hBD : Below (w.alloc (.cells #[.int .i64 k, .float .f32 p, .float .f32 s] 26)).heap.size (w.alloc (.cells #[.int .i64 k, .float .f32 p, .float .f32 s] 26)) wd := below_trans (by (repeat (first | (with_reducible assumption) | (with_reducible apply below_refl) | (with_reducible apply below_alloc1) | (with_reducible apply below_drewN1) | (with_reducible apply below_drew1)))) hb; clear hb hq; obtain ⟨c0, c1, c2⟩ := HCELL.out _ hBD)
      | ((fail_if_success (have := HX1)); refine upon_float rfl ?_; intro x1 m1 hx1; go_simp; have HX1 := hid hx1; clear hx1)
      | ((fail_if_success (have := HX2)); refine upon_float rfl ?_; intro x2 m2 hx2; go_simp; have HX2 := hid hx2; clear hx2)
      | ((fail_if_success (have := HX3)); refine upon_float rfl ?_; intro x3 m3 hx3; go_simp; have HX3 := hid hx3; clear hx3)
      | ((fail_if_success (have := HX4)); refine upon_float rfl ?_; intro x4 m4 hx4; go_simp; have HX4 := hid hx4; clear hx4)
      | ((fail_if_success (have := HX5)); refine upon_float rfl ?_; intro x5 m5 hx5; go_simp; have HX5 := hid (show ab .f32 x5 = fop .quo .f32 (fop .add .f32 (fop .mul .f32 (ab .f32 fl) (fop .sub .f32 (some 1065353216) s0)) (fop .mul .f32 (ab .f32 pl) s0)) m0 by rw [hx5, HX4.out, HX3.out, HX2.out, HX1.out, HQ.out, HMM.out, ab_one32]); clear hx5)
      | (go_at_call 25; (refine (ifFinite_num _ _).mono ?_); rw [HX5.out]; rintro e w'' ⟨q2, rfl, hq2, hb⟩; have hB3 := below_trans (show Below (w.alloc (.cells #[.int .i64 k, .float .f32 p, .float .f32 s] 26)).heap.size (w.alloc (.cells #[.int .i64 k, .float .f32 p, .float .f32 s] 26)) _ by (repeat (first | (with_reducible assumption) | (with_reducible apply below_refl) | (with_reducible apply below_alloc1) | (with_reducible apply below_drewN1) | (with_reducible apply below_drew1)))) hb; clear hb))
    go_ret2
    exact ⟨_, rfl, hq2, below_trans (below_alloc w _) (by (repeat (first | (with_reducible assumption) | (with_reducible apply below_refl) | (with_reducible apply below_alloc1) | (with_reducible apply below_drewN1) | (with_reducible apply below_drew1))))⟩
def partM (k : Int) (P S len pr : Option Nat) (n : Nat) : Option Nat × Bool := ifFin (fop .mul .f32 pr (fop .sub .f32 (some 1065353216) (fop .quo .f32 (meanS k P S len n n) len)))
set_option maxRecDepth 100000 in
set_option maxHeartbeats 1600000 in
theorem partWar_any {k : Int} {p s len n pr : Nat} {α : Rat} (h : Mn k (ab .f32 p) (ab .f32 s) (ab .f32 len) n) (hp : RV .f32 (ab .f32 pr) α) (a0 : 0 ≤ α) (w : World) : Calls Try.prog 16 #[.agg #[.int .i64 k, .float .f32 p, .float .f32 s], .float .f32 len, .float .f32 pr, .int .i64 n] w (NumOk (partM k (ab .f32 p) (ab .f32 s) (ab .f32 len) (ab .f32 pr) n) w) := by
  obtain ⟨ρ, σ, hL⟩ := h.law
  obtain ⟨τ, hτ, τ0, τk⟩ := h.pos
  have HM := hid (fun w => meanOf_any h w)
  have HG := hid (fun w => isGrid_any hL hτ τ0 h.n1 h.n2 w)
  have HN := hid (all_one (f := fun b => notLessB (ab .f32 b)) (a := pr) (notLess_rv hp a0))
  have HCELL := hid (law_cells k p s 26 w)
  clear h hL hτ hp
  unfold partM
  obtain ⟨m0, hm0⟩ : ∃ m0, m0 = meanS k (ab .f32 p) (ab .f32 s) (ab .f32 len) n n := ⟨_, rfl⟩
  rw [← hm0] at HM ⊢
  clear hm0
  go_enter Try.func16, Try.ntmps16
  go_wp2_with (first
    | (go_at_call 21; (refine (HG.out _).mono ?_); rintro e wa ⟨rfl, hb⟩; have hBA : Below (w.alloc (.cells #[.int .i64 k, .float .f32 p, .float .f32 s] 26)).heap.size (w.alloc (.cells #[.int .i64 k, .float .f32 p, .float .f32 s] 26)) wa := below_trans (by (repeat (first | (with_reducible assumption) | (with_reducible apply below_refl) | (with_reducible apply below_alloc1) | (with_reducible apply below_drewN1) | (with_reducible apply below_drew1)))) hb; clear hb; obtain ⟨c0, c1, c2⟩ := HCELL.out _ hBA)
    | (go_at_call 31; (refine (areNotLess_any _ [pr] _ (rowAt_alloc _ _ [.float .f32 pr] (by simp [maxLen]))).mono ?_); rw [HN.out]; rintro e wb ⟨rfl, hb⟩; have hBB : Below (w.alloc (.cells #[.int .i64 k, .float .f32 p, .float .f32 s] 26)).heap.size (w.alloc (.cells #[.int .i64 k, .float .f32 p, .float .f32 s] 26)) wb := below_trans (by (repeat (first | (with_reducible assumption) | (with_reducible apply below_refl) | (with_reducible apply below_alloc1) | (with_reducible apply below_drewN1) | (with_reducible apply below_drew1)))) hb; clear hb; obtain ⟨c0, c1, c2⟩ := HCELL.out _ hBB)
    | (go_at_call 32; (refine (HM.out _).mono ?_); rintro e wc ⟨m, rfl, hm, hb⟩; have HMM := hid hm; have hBC : Below (w.alloc (.cells #[.int .i64 k, .float .f32 p, .float .f32 s] 26)).heap.size (w.alloc (.cells #[.int .i64 k, .float .f32 p, .float .f32 s] 26)) wc := below_trans (by (repeat (first | (with_reducible assumption) | (with_reducible apply below_refl) | (with_reducible apply below_alloc1) | (with_reducible apply below_drewN1) | (with_reducible apply below_drew1)))) hb; clear hb hm; obtain ⟨c0, c1, c2⟩ := HCELL.out _ hBC)
    | ((fail_if_success (have := HX1)); refine upon_float rfl ?_; intro x1 m1 hx1; go_simp; have HX1 := hid hx1; clear hx1)
    | ((fail_if_success (have := HX2)); refine upon_float rfl ?_; intro x2 m2 hx2; go_simp; have HX2 := hid hx2; clear hx2)
    | ((fail_if_success (have := HX5)); refine upon_float rfl ?_; intro x5 m5 hx5; go_simp; have HX5 := hid (show ab .f32 x5 = fop .mul .f32 (ab .f32 pr) (fop .sub .f32 (some 1065353216) (fop .quo .f32 m0 (ab .f32 len))) by rw [hx5, HX2.out, HX1.out, HMM.out, ab_one32]); clear hx5)
    | (go_at_call 25; (refine (ifFinite_num _ _).mono ?_); rw [HX5.out]; rintro e w'' ⟨q2, rfl, hq2, hb⟩; have hB3 := below_trans (show Below (w.alloc (.cells #[.int .i64 k, .float .f32 p, .float .f32 s] 26)).heap.size (w.alloc (.cells #[.int .i64 k, .float .f32 p, .float .f32 s] 26)) _ by (repeat (first | (with_reducible assumption) | (with_reducible apply below_refl) | (with_reducible apply below_alloc1) | (with_reducible apply below_drewN1) | (with_reducible apply below_drew1)))) hb; clear hb))
  go_ret2
  exact ⟨_, rfl, hq2, below_trans (below_alloc w _) (by (repeat (first | (with_reducible assumption) | (with_reducible apply below_refl) | (with_reducible apply below_alloc1) | (with_reducible apply below_drewN1) | (with_reducible apply below_drew1))))⟩
/-! ### Looks -/
theorem below_redrew {a b : World} {n m : Nat} (h : Below a.heap.size a (b.drewN n)) : Below a.heap.size a (b.drewN m) := by
  obtain ⟨a1, a2, a3, a4, a5⟩ := h
  exact ⟨a1, a2, a3, a4, a5⟩
def inT (gap : Option Nat) (j : Nat) : Option Nat := fop .mul .f32 (k32 (j : Int)) gap
def inHalf (gap wt : Option Nat) : Option Nat := fop .mul .f32 wt (fop .quo .f32 gap (some 1073741824))
def inTerm (k : Int) (P S gap lk wt : Option Nat) (j : Nat) : Option Nat := fop .mul .f32 (fop .sub .f32 (survO k P S (fop .sub .f32 (inT gap j) gap)) (survO k P S (inT gap j))) (fop .add .f32 (fop .mul .f32 (k32 (j : Int)) lk) (inHalf gap wt))
def inS (k : Int) (P S gap lk wt : Option Nat) : Nat → Option Nat
  | 0 => some 0
  | j + 1 => fop .add .f32 (inS k P S gap lk wt j) (inTerm k P S gap lk wt (j + 1))
theorem inS_next (k : Int) (P S gap lk wt : Option Nat) (j : Nat) : inS k P S gap lk wt (j + 1) = fop .add .f32 (inS k P S gap lk wt j) (inTerm k P S gap lk wt (j + 1)) := rfl
def inA (k : Int) (P S gap : Option Nat) (c : Nat) : Option Nat := fop .sub .f32 (some 1065353216) (survO k P S (inT gap c))
def inM (k : Int) (P S gap lk wt : Option Nat) (c : Nat) : Option Nat × Bool := if (ford .f32 (inA k P S gap c) (some 0) == some .gt) = true then ifFin (fop .quo .f32 (inS k P S gap lk wt c) (inA k P S gap c)) else (some 0, false)
/-- Times of looks. -/
structure Lk (k : Int) (P S : Option Nat) (gap : Option Nat) (c : Nat) : Prop where
  law : ∃ ρ σ, LawOk k P S ρ σ
  n1 : 1 ≤ c
  n2 : c ≤ 64
  pos : ∃ τ, RV .f32 gap τ ∧ 0 < τ
  times : ∀ j, 1 ≤ j → j ≤ c → ∃ τ, RV .f32 (inT gap j) τ ∧ TimeOk τ
  back : ∀ j, 1 ≤ j → j ≤ c → ∃ τ, RV .f32 (fop .sub .f32 (inT gap j) gap) τ ∧ TimeOk τ
set_option maxRecDepth 100000 in
set_option maxHeartbeats 3200000 in
theorem inspect_any {k : Int} {p s gap c lk wt : Nat} {α β : Rat} (h : Lk k (ab .f32 p) (ab .f32 s) (ab .f32 gap) c) (hp : RV .f32 (ab .f32 lk) α) (a0 : 0 ≤ α) (hf : RV .f32 (ab .f32 wt) β) (b0 : 0 ≤ β) (w : World) : Calls Try.prog 14 #[.agg #[.int .i64 k, .float .f32 p, .float .f32 s], .float .f32 gap, .float .f32 lk, .float .f32 wt, .int .i64 c] w (NumOk (inM k (ab .f32 p) (ab .f32 s) (ab .f32 gap) (ab .f32 lk) (ab .f32 wt) c) w) := by
  obtain ⟨ρ, σ, hL⟩ := h.law
  obtain ⟨τ, hτ, τ0⟩ := h.pos
  have n1 := h.n1; have n2 := h.n2
  have HV := hid (fun w => validLaw_any hL w)
  have HMO := hid (all_one (f := fun b => moreB (ab .f32 b)) (a := gap) (more_rv hτ τ0))
  have HN := hid (all_two (f := fun b => notLessB (ab .f32 b)) (a := lk) (b := wt) (notLess_rv hp a0) (notLess_rv hf b0))
  have HIN := hid (show inB (c : Int) 1 64 = true from inB_mk (by omega) (by omega))
  have HK := hid (show ∀ (t : Nat) j, 1 ≤ j → j ≤ c → ab .f32 t = inT (ab .f32 gap) j → ∀ w, Calls Try.prog 33 #[.agg #[.int .i64 k, .float .f32 p, .float .f32 s], .float .f32 t] w (FltOk (survO k (ab .f32 p) (ab .f32 s) (inT (ab .f32 gap) j)) w) from fun t i h1 hi ht w => by
    obtain ⟨τ, hτ, ok⟩ := h.times i h1 hi
    have := kept_any (t := t) hL (by rw [ht]; exact hτ) ok w
    rwa [ht] at this)
  have HK2 := hid (show ∀ (t : Nat) j, 1 ≤ j → j ≤ c → ab .f32 t = fop .sub .f32 (inT (ab .f32 gap) j) (ab .f32 gap) → ∀ w, Calls Try.prog 33 #[.agg #[.int .i64 k, .float .f32 p, .float .f32 s], .float .f32 t] w (FltOk (survO k (ab .f32 p) (ab .f32 s) (fop .sub .f32 (inT (ab .f32 gap) j) (ab .f32 gap))) w) from fun t i h1 hi ht w => by
    obtain ⟨τ, hτ, ok⟩ := h.back i h1 hi
    have := kept_any (t := t) hL (by rw [ht]; exact hτ) ok w
    rwa [ht] at this)
  have HCELL := hid (law_cells k p s 26 w)
  clear h hL hτ hp hf
  go_enter Try.func14, Try.ntmps14
  go_wp2_with (first
    | (go_at_call 35; (refine (HV.out _).mono ?_); rintro e wa ⟨rfl, hb⟩; have hBA : Below (w.alloc (.cells #[.int .i64 k, .float .f32 p, .float .f32 s] 26)).heap.size (w.alloc (.cells #[.int .i64 k, .float .f32 p, .float .f32 s] 26)) wa := below_trans (by (repeat (first | (with_reducible assumption) | (with_reducible apply below_refl) | (with_reducible apply below_alloc1) | (with_reducible apply below_drewN1) | (with_reducible apply below_drew1)))) hb; clear hb; obtain ⟨c0, c1, c2⟩ := HCELL.out _ hBA)
    | (go_at_call 36; (refine (areMore_any _ [gap] _ (rowAt_alloc _ _ [.float .f32 gap] (by simp [maxLen]))).mono ?_); rw [HMO.out]; rintro e wb ⟨rfl, hb⟩; have hBB : Below (w.alloc (.cells #[.int .i64 k, .float .f32 p, .float .f32 s] 26)).heap.size (w.alloc (.cells #[.int .i64 k, .float .f32 p, .float .f32 s] 26)) wb := below_trans (by (repeat (first | (with_reducible assumption) | (with_reducible apply below_refl) | (with_reducible apply below_alloc1) | (with_reducible apply below_drewN1) | (with_reducible apply below_drew1)))) hb; clear hb; obtain ⟨c0, c1, c2⟩ := HCELL.out _ hBB)
    | (go_at_call 31; (refine (areNotLess_any _ [lk, wt] _ (rowAt_alloc _ _ [.float .f32 lk, .float .f32 wt] (by simp [maxLen]))).mono ?_); rw [HN.out]; rintro e wc ⟨rfl, hb⟩; have hBC : Below (w.alloc (.cells #[.int .i64 k, .float .f32 p, .float .f32 s] 26)).heap.size (w.alloc (.cells #[.int .i64 k, .float .f32 p, .float .f32 s] 26)) wc := below_trans (by (repeat (first | (with_reducible assumption) | (with_reducible apply below_refl) | (with_reducible apply below_alloc1) | (with_reducible apply below_drewN1) | (with_reducible apply below_drew1)))) hb; clear hb; obtain ⟨c0, c1, c2⟩ := HCELL.out _ hBC)
    | (go_at_call 37; (refine (within_any _ _ _ _).mono ?_); rw [HIN.out]; rintro e wd ⟨rfl, hb⟩; have hBD : Below (w.alloc (.cells #[.int .i64 k, .float .f32 p, .float .f32 s] 26)).heap.size (w.alloc (.cells #[.int .i64 k, .float .f32 p, .float .f32 s] 26)) wd := below_trans (by (repeat (first | (with_reducible assumption) | (with_reducible apply below_refl) | (with_reducible apply below_alloc1) | (with_reducible apply below_drewN1) | (with_reducible apply below_drew1)))) hb; clear hb; obtain ⟨c0, c1, c2⟩ := HCELL.out _ hBD)
    | ((fail_if_success (have := HX1)); refine upon_float rfl ?_; intro x1 m1 hx1; go_simp; have HX1 := hid hx1; clear hx1)
    | ((fail_if_success (have := HX2)); refine upon_float rfl ?_; intro x2 m2 hx2; go_simp; have HX2 := hid (show ab .f32 x2 = inHalf (ab .f32 gap) (ab .f32 wt) by rw [hx2, HX1.out, ab_two32']; rfl); clear hx2))
  go_loopw [12, 14] (fun sv tv wr => ∃ (j F : Nat), 1 ≤ j ∧ j ≤ c + 1 ∧ tv = .int .i64 j ∧ sv = .float .f32 F ∧ Hid (ab .f32 F = inS k (ab .f32 p) (ab .f32 s) (ab .f32 gap) (ab .f32 lk) (ab .f32 wt) (j - 1)) ∧ Below (w.alloc (.cells #[.int .i64 k, .float .f32 p, .float .f32 s] 26)).heap.size (w.alloc (.cells #[.int .i64 k, .float .f32 p, .float .f32 s] 26)) wr) (fun _ tv _ => c + 1 - (intOf tv).toNat)
  case atStart => exact ⟨1, 0, by omega, by omega, rfl, rfl, hid ab_z32, by (repeat (first | (with_reducible assumption) | (with_reducible apply below_refl) | (with_reducible apply below_alloc1) | (with_reducible apply below_drewN1) | (with_reducible apply below_drew1)))⟩
  case round =>
    obtain ⟨j, F, hj1, hj2, rfl, rfl, hF, hw⟩ := hrel
    obtain ⟨c0, c1, c2⟩ := HCELL.out _ hw
    have W4 : IntKind.i64.wrap ((j : Int) + 1) = ((j + 1 : Nat) : Int) := by rw [IntKind.wrap_i64]; omega
    by_cases hlt : j < c + 1
    · have hjI : (j : Int) ≤ (c : Int) := by omega
      have hjc : j ≤ c := by omega
      obtain ⟨fe1, fe2, fe3, fe4⟩ := run_fres4 Try.prog
      obtain ⟨fa1, fa2, fa3, fa4⟩ := ab_fres4
      have FA2 := hid fa2
      have FE := hid fe2
      have hbl : w.heap.size < wr.heap.size := World.block_lt_of_cell? wr _ c0
      clear fe1 fe2 fe3 fe4
      go_wp2_with (first
        | ((fail_if_success (have := HY1)); refine upon_float rfl ?_; intro y1 m1 hy1; go_simp; have HY1 := hid (show ab .f32 y1 = inT (ab .f32 gap) j by rw [hy1, ab_ofInt]; rfl); clear hy1; have fe2 := FE.out)
        | (go_region_held (fun w' => Below wr.heap.size wr w' ∧ ∀ b o, b < wr.heap.size → w'.cell? ⟨b, o, none⟩ = wr.cell? ⟨b, o, none⟩) (first | exact keep_next ‹_› ‹_› | exact keep_start | exact keep_drew ‹_› | exact keep_of (by (repeat (first | (with_reducible assumption) | (with_reducible apply below_refl) | (with_reducible apply below_alloc1) | (with_reducible apply below_drewN1) | (with_reducible apply below_drew1))))) (first | (go_at_call 33; (first | ((with_reducible refine (HK.out y1 j hj1 hjc HY1.out _).mono ?_); rintro e w' ⟨q1, rfl, hq1, hb⟩; have hbt : Below wr.heap.size wr w' := below_trans (show Below wr.heap.size wr _ by (repeat (first | (with_reducible assumption) | (with_reducible apply below_refl) | (with_reducible apply below_alloc1) | (with_reducible apply below_drewN1) | (with_reducible apply below_drew1)))) hb) | ((refine (HK2.out _ j hj1 hjc (by rw [FA2.out, HY1.out]) _).mono ?_); rintro e w' ⟨q2, rfl, hq2, hb⟩; have hbt : Below wr.heap.size wr w' := below_trans (show Below wr.heap.size wr _ by (repeat (first | (with_reducible assumption) | (with_reducible apply below_refl) | (with_reducible apply below_alloc1) | (with_reducible apply below_drewN1) | (with_reducible apply below_drew1)))) hb)))) <;> (rename_i hHeld; obtain ⟨hB, hC⟩ := hHeld))
        | ((fail_if_success (have := HY2)); refine upon_float rfl ?_; intro y2 m2 hy2; go_simp; have HY2 := hid hy2; clear hy2)
        | ((fail_if_success (have := HY3)); refine upon_float rfl ?_; intro y3 m3 hy3; go_simp; have HY3 := hid hy3; clear hy3)
        | ((fail_if_success (have := HY4)); refine upon_float rfl ?_; intro y4 m4 hy4; go_simp; have HY4 := hid hy4; clear hy4)
        | ((fail_if_success (have := HY5)); refine upon_float rfl ?_; intro y5 m5 hy5; go_simp; have HY5 := hid hy5; clear hy5))
      all_goals
        have hBW := below_trans hw hB
        refine ⟨⟨j + 1, y5, by omega, by omega, by go_num, rfl, hid ?_, below_redrew hBW⟩, by simp [intOf]; omega⟩
        obtain ⟨j', rfl⟩ : ∃ j', j = j' + 1 := ⟨j - 1, by omega⟩
        rw [Nat.add_sub_cancel, inS_next, HY5.out, HY4.out, HY3.out, HY2.out, HX2.out, FA2.out, hq1, hq2, hF.out, ab_ofInt]
        rfl
    · obtain rfl : j = c + 1 := by omega
      have hjI : ¬ (((c + 1 : Nat) : Int)) ≤ (c : Int) := by omega
      have hjI2 : ¬ (c : Int) + 1 ≤ (c : Int) := by omega
      obtain ⟨A, hA⟩ : ∃ A, A = inA k (ab .f32 p) (ab .f32 s) (ab .f32 gap) c := ⟨_, rfl⟩
      obtain ⟨Q, hQ⟩ : ∃ Q, Q = inS k (ab .f32 p) (ab .f32 s) (ab .f32 gap) (ab .f32 lk) (ab .f32 wt) c := ⟨_, rfl⟩
      rw [Nat.add_sub_cancel, ← hQ] at hF
      have HA := hid (show fop .sub .f32 (some 1065353216) (survO k (ab .f32 p) (ab .f32 s) (inT (ab .f32 gap) c)) = A by rw [hA]; rfl)
      have HIM := hid (show inM k (ab .f32 p) (ab .f32 s) (ab .f32 gap) (ab .f32 lk) (ab .f32 wt) c = if (ford .f32 A (some 0) == some .gt) = true then ifFin (fop .quo .f32 Q A) else (some 0, false) by unfold inM; rw [← hA, ← hQ])
      clear hA hQ
      cases hg : (ford .f32 A (some 0) == some .gt)
      · have HGG := hid hg
        rw [hg, if_neg (by simp)] at HIM
        clear hg
        go_wp2_with (first
          | ((fail_if_success (have := HY1)); refine upon_float rfl ?_; intro y1 m1 hy1; go_simp; have HY1 := hid (show ab .f32 y1 = inT (ab .f32 gap) c by rw [hy1, ab_ofInt]; rfl); clear hy1)
          | (go_at_call 33; (refine (HK.out y1 c n1 (Nat.le_refl c) HY1.out _).mono ?_); rintro e wf ⟨q, rfl, hq, hb⟩; have HQ := hid hq; have hBF := (below_trans (show Below (w.alloc (.cells #[.int .i64 k, .float .f32 p, .float .f32 s] 26)).heap.size (w.alloc (.cells #[.int .i64 k, .float .f32 p, .float .f32 s] 26)) _ by (repeat (first | (with_reducible assumption) | (with_reducible apply below_refl) | (with_reducible apply below_alloc1) | (with_reducible apply below_drewN1) | (with_reducible apply below_drew1)))) hb); clear hb hq)
          | ((fail_if_success (have := HY2)); refine upon_float rfl ?_; intro y2 m2 hy2; go_simp; have HY2 := hid (show ab .f32 y2 = A by rw [hy2, HQ.out, ab_one32]; exact HA.out); clear hy2; have hgg : (ford .f32 (ab .f32 y2) (some 0) == some .gt) = false := (by rw [HY2.out]; exact HGG.out)))
        go_ret2
        rw [HIM.out]
        exact ⟨_, rfl, ab_z32, below_trans (below_alloc w _) (by (repeat (first | (with_reducible assumption) | (with_reducible apply below_refl) | (with_reducible apply below_alloc1) | (with_reducible apply below_drewN1) | (with_reducible apply below_drew1))))⟩
      · have HGG := hid hg
        rw [hg, if_pos rfl] at HIM
        clear hg
        go_wp2_with (first
          | ((fail_if_success (have := HY1)); refine upon_float rfl ?_; intro y1 m1 hy1; go_simp; have HY1 := hid (show ab .f32 y1 = inT (ab .f32 gap) c by rw [hy1, ab_ofInt]; rfl); clear hy1)
          | (go_at_call 33; (refine (HK.out y1 c n1 (Nat.le_refl c) HY1.out _).mono ?_); rintro e wf ⟨q, rfl, hq, hb⟩; have HQ := hid hq; have hBF := (below_trans (show Below (w.alloc (.cells #[.int .i64 k, .float .f32 p, .float .f32 s] 26)).heap.size (w.alloc (.cells #[.int .i64 k, .float .f32 p, .float .f32 s] 26)) _ by (repeat (first | (with_reducible assumption) | (with_reducible apply below_refl) | (with_reducible apply below_alloc1) | (with_reducible apply below_drewN1) | (with_reducible apply below_drew1)))) hb); clear hb hq)
          | ((fail_if_success (have := HY2)); refine upon_float rfl ?_; intro y2 m2 hy2; go_simp; have HY2 := hid (show ab .f32 y2 = A by rw [hy2, HQ.out, ab_one32]; exact HA.out); clear hy2; have hgg : (ford .f32 (ab .f32 y2) (some 0) == some .gt) = true := (by rw [HY2.out]; exact HGG.out))
          | ((fail_if_success (have := HY3)); refine upon_float rfl ?_; intro y3 m3 hy3; go_simp; have HY3 := hid (show ab .f32 y3 = fop .quo .f32 Q A by rw [hy3, HY2.out, hF.out]); clear hy3)
          | (go_at_call 25; (refine (ifFinite_num _ _).mono ?_); rw [HY3.out]; rintro e w'' ⟨q3, rfl, hq3, hb⟩; have hB3 := below_trans (show Below (w.alloc (.cells #[.int .i64 k, .float .f32 p, .float .f32 s] 26)).heap.size (w.alloc (.cells #[.int .i64 k, .float .f32 p, .float .f32 s] 26)) _ by (repeat (first | (with_reducible assumption) | (with_reducible apply below_refl) | (with_reducible apply below_alloc1) | (with_reducible apply below_drewN1) | (with_reducible apply below_drew1)))) hb; clear hb))
        go_ret2
        rw [HIM.out]
        exact ⟨_, rfl, hq3, below_trans (below_alloc w _) (by (repeat (first | (with_reducible assumption) | (with_reducible apply below_refl) | (with_reducible apply below_alloc1) | (with_reducible apply below_drewN1) | (with_reducible apply below_drew1))))⟩
end Go.Proofs.Ytkgbbagklkffpaa
