/- Contracts: sums of renewals, means, and what they cost. -/
import Derived.Test.YtkgbbagklkffpaaRenW
namespace Go.Proofs.Ytkgbbagklkffpaa
open Go.RowKit
set_option linter.unusedVariables false

theorem law_cells (k : Int) (p s : Nat) (T : TypeId) (w : World) : ∀ w', Below (w.alloc (.cells #[.int .i64 k, .float .f32 p, .float .f32 s] T)).heap.size (w.alloc (.cells #[.int .i64 k, .float .f32 p, .float .f32 s] T)) w' →
    w'.cell? ⟨w.heap.size, 0, none⟩ = some (.int .i64 k) ∧ w'.cell? ⟨w.heap.size, 1, none⟩ = some (.float .f32 p) ∧ w'.cell? ⟨w.heap.size, 2, none⟩ = some (.float .f32 s) := fun w' hb => by
  have hcc := (bcell hb).1
  refine ⟨?_, ?_, ?_⟩ <;> (rw [hcc _ _ (by simp)]; simp)
set_option maxHeartbeats 400000 in
theorem ifAll_yes2 (v : Value) (xs : List Nat) (h : (xs.all fun b => finB (ab .f32 b)) = true) (w : World) (hv : RowAt w v (xs.map (Value.float .f32))) :
    Calls Try.prog 22 #[v] w fun e w' => e = .returned (.tuple #[v, .bool true]) ∧ Below w.heap.size w w' := by
  have HV := hid hv; have HH := hid h; clear hv h
  go_enter Try.func22, Try.ntmps22
  go_wp2_with (go_at_call 40; (with_reducible refine (areFinite_any _ xs _ (HV.out.below (by (repeat (first | (with_reducible assumption) | (with_reducible apply below_refl) | (with_reducible apply below_alloc1) | (with_reducible apply below_drewN1) | (with_reducible apply below_drew1)))))).mono ?_); rw [HH.out]; rintro e w' ⟨rfl, hb⟩; have hB : Below w.heap.size w w' := below_trans (by (repeat (first | (with_reducible assumption) | (with_reducible apply below_refl) | (with_reducible apply below_alloc1) | (with_reducible apply below_drewN1) | (with_reducible apply below_drew1)))) hb; have hC := (bcell hB).1; clear hb)
  go_ret2
  exact ⟨rfl, by assumption⟩
/-- A grid of times for a law. -/
structure Gr (k : Int) (P S : Option Nat) (to : Option Nat) (n : Nat) : Prop where
  law : ∃ ρ σ, LawOk k P S ρ σ
  n1 : 1 ≤ n
  n2 : n ≤ 256
  pos : ∃ τ, RV .f32 to τ ∧ 0 < τ
  times : ∀ i, i ≤ n → ∃ τ, RV .f32 (tO to n i) τ ∧ TimeOk τ
  fin : ∀ i, i ≤ n → finite32 (mX (fO k P S to n) i) = true
def RenPair (f : Nat → Option Nat) (n : Nat) (w : World) (e : Ending) (w' : World) : Prop :=
  ∃ (y : Value) (ys : List Nat), e = .returned (.tuple #[y, .bool true]) ∧ ys.map (ab .f32) = (List.range (n + 1)).map (mX f) ∧ w'.ownsRow w.heap.size 24 1 y (ys.map (Value.float .f32)).length (ys.map (Value.float .f32)) ∧ Below w.heap.size w w'
set_option maxRecDepth 100000 in
set_option maxHeartbeats 1600000 in
theorem renSums_any {k : Int} {p s to n : Nat} (h : Gr k (ab .f32 p) (ab .f32 s) (ab .f32 to) n) (w : World) : Calls Try.prog 7 #[.agg #[.int .i64 k, .float .f32 p, .float .f32 s], .float .f32 to, .int .i64 n] w (RenPair (fO k (ab .f32 p) (ab .f32 s) (ab .f32 to) n) n w) := by
  obtain ⟨ρ, σ, hL⟩ := h.law
  obtain ⟨τ, hτ, τ0⟩ := h.pos
  have HG := hid (fun w => isGrid_any hL hτ τ0 h.n1 h.n2 w)
  have HR := hid (fun w => renewals_any hL h.n1 h.n2 h.times w)
  have HF := hid h.fin
  have HCELL := hid (law_cells k p s 26 w)
  clear h hL hτ
  go_enter Try.func7, Try.ntmps7
  go_wp2_with (first
    | (go_at_call 21; (refine (HG.out _).mono ?_); rintro e wa ⟨rfl, hb⟩; have hBA : Below (w.alloc (.cells #[.int .i64 k, .float .f32 p, .float .f32 s] 26)).heap.size (w.alloc (.cells #[.int .i64 k, .float .f32 p, .float .f32 s] 26)) wa := below_trans (by (repeat (first | (with_reducible assumption) | (with_reducible apply below_refl) | (with_reducible apply below_alloc1) | (with_reducible apply below_drewN1) | (with_reducible apply below_drew1)))) hb; clear hb; obtain ⟨c0, c1, c2⟩ := HCELL.out _ hBA)
    | (go_at_call 23; (refine (HR.out _).mono ?_); rintro e wb ⟨y, ys, rfl, hys, ho, hb⟩; have hBB : Below (w.alloc (.cells #[.int .i64 k, .float .f32 p, .float .f32 s] 26)).heap.size (w.alloc (.cells #[.int .i64 k, .float .f32 p, .float .f32 s] 26)) wb := below_trans (by (repeat (first | (with_reducible assumption) | (with_reducible apply below_refl) | (with_reducible apply below_alloc1) | (with_reducible apply below_drewN1) | (with_reducible apply below_drew1)))) hb; have HO := hid (ownsRow_low ho (show w.heap.size ≤ wa.heap.size from (below_trans (below_alloc w _) hBA).size)); have HYS := hid hys; have HROW := hid (Own.mk' ho).row; have HFI := hid (show (ys.all fun b => finB (ab .f32 b)) = true by (refine List.all_eq_true.2 fun b hb => ?_); obtain ⟨i, hi, rfl⟩ := List.getElem_of_mem hb; have ML := map_get_ab hys; show finite32 (ab .f32 ys[i]) = true; rw [ML.2 i hi]; exact HF.out i (by have := ML.1; omega)); clear hb ho hys)
    | (go_at_call 22; (refine (ifAll_yes2 _ ys HFI.out _ (HROW.out.below (by (repeat (first | (with_reducible assumption) | (with_reducible apply below_refl) | (with_reducible apply below_alloc1) | (with_reducible apply below_drewN1) | (with_reducible apply below_drew1)))))).mono ?_); rintro e wc ⟨rfl, hb⟩; have HBC := hid hb; clear hb))
  go_ret2
  exact ⟨_, ys, rfl, HYS.out, ownsRow_below HO.out HBC.out, below_trans (below_alloc w _) (below_trans hBB HBC.out)⟩
set_option maxRecDepth 100000 in
set_option maxHeartbeats 1600000 in
theorem lastRen_any {k : Int} {p s to n : Nat} (h : Gr k (ab .f32 p) (ab .f32 s) (ab .f32 to) n) (w : World) : Calls Try.prog 34 #[.agg #[.int .i64 k, .float .f32 p, .float .f32 s], .float .f32 to, .int .i64 n] w (NumOk (mX (fO k (ab .f32 p) (ab .f32 s) (ab .f32 to) n) n, true) w) := by
  have HR := hid (fun w => renSums_any h w)
  have n2 := h.n2
  clear h
  go_enter Try.func34, Try.ntmps34
  go_wp2_with (first
    | (go_at_call 7; (refine (HR.out _).mono ?_); rintro e wb ⟨y, ys, rfl, hys, ho, hb⟩; have hBB : Below w.heap.size w wb := below_trans (by (repeat (first | (with_reducible assumption) | (with_reducible apply below_refl) | (with_reducible apply below_alloc1) | (with_reducible apply below_drewN1) | (with_reducible apply below_drew1)))) hb; obtain ⟨hl, hv⟩ := map_get_ab hys; obtain ⟨g, c, e1, -, -, -, -⟩ := slice_of_own ho (by rw [List.length_map, hl]; omega); rw [List.length_map, hl] at e1 ho; subst e1; have hn : n < ys.length := (by omega); have hce : wb.cell? ⟨g, n, none⟩ = some (.float .f32 ys[n]) := (by rw [ho.cellAt n (by omega)]; simp [hn]); have hvn := hv n hn; generalize ys[n] = x at hce hvn; have HV := hid hvn; have hnI : (0 : Int) ≤ (n : Int) := (by omega); have hnI2 : (n : Int) < ((n + 1 : Nat) : Int) := (by omega); clear hb ho hys hl hv hn hvn))
  go_ret2
  exact ⟨_, rfl, HV.out, by (repeat (first | (with_reducible assumption) | (with_reducible apply below_refl) | (with_reducible apply below_alloc1) | (with_reducible apply below_drewN1) | (with_reducible apply below_drew1)))⟩
def grpM (k : Int) (P S to pl fl : Option Nat) (n : Nat) : Option Nat × Bool := ifFin (fop .quo .f32 (fop .add .f32 pl (fop .mul .f32 fl (mX (fO k P S to n) n))) to)
set_option maxRecDepth 100000 in
set_option maxHeartbeats 1600000 in
theorem groupCost_any {k : Int} {p s to n pl fl : Nat} {α β : Rat} (h : Gr k (ab .f32 p) (ab .f32 s) (ab .f32 to) n) (hp : RV .f32 (ab .f32 pl) α) (a0 : 0 ≤ α) (hf : RV .f32 (ab .f32 fl) β) (b0 : 0 ≤ β) (w : World) : Calls Try.prog 13 #[.agg #[.int .i64 k, .float .f32 p, .float .f32 s], .float .f32 to, .float .f32 pl, .float .f32 fl, .int .i64 n] w (NumOk (grpM k (ab .f32 p) (ab .f32 s) (ab .f32 to) (ab .f32 pl) (ab .f32 fl) n) w) := by
  have HR := hid (fun w => lastRen_any h w)
  have HN := hid (all_two (f := fun b => notLessB (ab .f32 b)) (a := pl) (b := fl) (notLess_rv hp a0) (notLess_rv hf b0))
  obtain ⟨M, hM⟩ : ∃ M, M = mX (fO k (ab .f32 p) (ab .f32 s) (ab .f32 to) n) n := ⟨_, rfl⟩
  rw [← hM] at HR
  have HG := hid (show grpM k (ab .f32 p) (ab .f32 s) (ab .f32 to) (ab .f32 pl) (ab .f32 fl) n = ifFin (fop .quo .f32 (fop .add .f32 (ab .f32 pl) (fop .mul .f32 (ab .f32 fl) M)) (ab .f32 to)) by rw [hM]; rfl)
  clear h hp hf hM
  rw [HG.out]
  go_enter Try.func13, Try.ntmps13
  go_wp2_with (first
    | (go_at_call 34; (refine (HR.out _).mono ?_); rintro e wb ⟨x, rfl, hx, hb⟩; have hBB : Below w.heap.size w wb := below_trans (by (repeat (first | (with_reducible assumption) | (with_reducible apply below_refl) | (with_reducible apply below_alloc1) | (with_reducible apply below_drewN1) | (with_reducible apply below_drew1)))) hb; have HX := hid hx; clear hb hx)
    | (go_at_call 31; refine (areNotLess_any _ [pl, fl] _ (rowAt_alloc _ _ [.float .f32 pl, .float .f32 fl] (by simp [maxLen]))).mono ?_; rw [HN.out]; rintro e w' ⟨rfl, hb⟩; have hB : Below w.heap.size w w' := below_trans (by (repeat (first | (with_reducible assumption) | (with_reducible apply below_refl) | (with_reducible apply below_alloc1) | (with_reducible apply below_drewN1) | (with_reducible apply below_drew1)))) hb; have hC := (bcell hB).1; clear hb)
    | ((fail_if_success (have := hx1)); refine upon_float rfl ?_; intro x1 m1 hx1; go_simp)
    | ((fail_if_success (have := hx2)); refine upon_float rfl ?_; intro x2 m2 hx2; go_simp)
    | ((fail_if_success (have := hx3)); refine upon_float rfl ?_; intro x3 m3 hx3; go_simp; have HX3 := hid (show ab .f32 x3 = fop .quo .f32 (fop .add .f32 (ab .f32 pl) (fop .mul .f32 (ab .f32 fl) M)) (ab .f32 to) by rw [hx3, hx2, hx1, HX.out]))
    | (go_at_call 25; (refine (ifFinite_num _ _).mono ?_); rw [HX3.out]; rintro e w'' ⟨q2, rfl, hq2, hb⟩; have hB3 := below_trans (show Below w.heap.size w _ by (repeat (first | (with_reducible assumption) | (with_reducible apply below_refl) | (with_reducible apply below_alloc1) | (with_reducible apply below_drewN1) | (with_reducible apply below_drew1)))) hb; clear hb))
  go_ret2
  exact ⟨_, rfl, hq2, by (repeat (first | (with_reducible assumption) | (with_reducible apply below_refl) | (with_reducible apply below_alloc1) | (with_reducible apply below_drewN1) | (with_reducible apply below_drew1)))⟩
def warM (k : Int) (P S to pr : Option Nat) (n : Nat) : Option Nat × Bool := ifFin (fop .mul .f32 pr (mX (fO k P S to n) n))
set_option maxRecDepth 100000 in
set_option maxHeartbeats 1600000 in
theorem warranty_any {k : Int} {p s to n pr : Nat} {α : Rat} (h : Gr k (ab .f32 p) (ab .f32 s) (ab .f32 to) n) (hp : RV .f32 (ab .f32 pr) α) (a0 : 0 ≤ α) (w : World) : Calls Try.prog 15 #[.agg #[.int .i64 k, .float .f32 p, .float .f32 s], .float .f32 to, .float .f32 pr, .int .i64 n] w (NumOk (warM k (ab .f32 p) (ab .f32 s) (ab .f32 to) (ab .f32 pr) n) w) := by
  have HR := hid (fun w => lastRen_any h w)
  have HN := hid (all_one (f := fun b => notLessB (ab .f32 b)) (a := pr) (notLess_rv hp a0))
  obtain ⟨M, hM⟩ : ∃ M, M = mX (fO k (ab .f32 p) (ab .f32 s) (ab .f32 to) n) n := ⟨_, rfl⟩
  rw [← hM] at HR
  have HG := hid (show warM k (ab .f32 p) (ab .f32 s) (ab .f32 to) (ab .f32 pr) n = ifFin (fop .mul .f32 (ab .f32 pr) M) by rw [hM]; rfl)
  clear h hp hM
  rw [HG.out]
  go_enter Try.func15, Try.ntmps15
  go_wp2_with (first
    | (go_at_call 34; (refine (HR.out _).mono ?_); rintro e wb ⟨x, rfl, hx, hb⟩; have hBB : Below w.heap.size w wb := below_trans (by (repeat (first | (with_reducible assumption) | (with_reducible apply below_refl) | (with_reducible apply below_alloc1) | (with_reducible apply below_drewN1) | (with_reducible apply below_drew1)))) hb; have HX := hid hx; clear hb hx)
    | (go_at_call 31; refine (areNotLess_any _ [pr] _ (rowAt_alloc _ _ [.float .f32 pr] (by simp [maxLen]))).mono ?_; rw [HN.out]; rintro e w' ⟨rfl, hb⟩; have hB : Below w.heap.size w w' := below_trans (by (repeat (first | (with_reducible assumption) | (with_reducible apply below_refl) | (with_reducible apply below_alloc1) | (with_reducible apply below_drewN1) | (with_reducible apply below_drew1)))) hb; have hC := (bcell hB).1; clear hb)
    | ((fail_if_success (have := hx3)); refine upon_float rfl ?_; intro x3 m3 hx3; go_simp; have HX3 := hid (show ab .f32 x3 = fop .mul .f32 (ab .f32 pr) M by rw [hx3, HX.out]))
    | (go_at_call 25; (refine (ifFinite_num _ _).mono ?_); rw [HX3.out]; rintro e w'' ⟨q2, rfl, hq2, hb⟩; have hB3 := below_trans (show Below w.heap.size w _ by (repeat (first | (with_reducible assumption) | (with_reducible apply below_refl) | (with_reducible apply below_alloc1) | (with_reducible apply below_drewN1) | (with_reducible apply below_drew1)))) hb; clear hb))
  go_ret2
  exact ⟨_, rfl, hq2, by (repeat (first | (with_reducible assumption) | (with_reducible apply below_refl) | (with_reducible apply below_alloc1) | (with_reducible apply below_drewN1) | (with_reducible apply below_drew1)))⟩
/-! ### Means -/
def hT (to : Option Nat) (n i : Nat) : Option Nat := fop .mul .f32 (fop .add .f32 (k32 (i : Int)) (some 1056964608)) (fop .quo .f32 to (k32 (n : Int)))
def meanS (k : Int) (P S to : Option Nat) (n : Nat) : Nat → Option Nat
  | 0 => some 0
  | i + 1 => fop .add .f32 (meanS k P S to n i) (fop .mul .f32 (survO k P S (hT to n i)) (fop .quo .f32 to (k32 (n : Int))))
theorem meanS_next (k : Int) (P S to : Option Nat) (n i : Nat) : meanS k P S to n (i + 1) = fop .add .f32 (meanS k P S to n i) (fop .mul .f32 (survO k P S (hT to n i)) (fop .quo .f32 to (k32 (n : Int)))) := rfl
@[go_sem] theorem ab_half32 : ab .f32 1056964608 = some 1056964608 := by decide
@[go_sem] theorem ab_two32' : ab .f32 1073741824 = some 1073741824 := by decide
/-- Times in the middle. -/
structure Mn (k : Int) (P S : Option Nat) (to : Option Nat) (n : Nat) : Prop where
  law : ∃ ρ σ, LawOk k P S ρ σ
  n1 : 1 ≤ n
  n2 : n ≤ 256
  pos : ∃ τ, RV .f32 to τ ∧ 0 < τ ∧ TimeOk τ
  times : ∀ i, i < n → ∃ τ, RV .f32 (hT to n i) τ ∧ TimeOk τ
  fin : ∃ μ, RV .f32 (meanS k P S to n n) μ ∧ 0 ≤ μ
set_option maxRecDepth 100000 in
set_option maxHeartbeats 1600000 in
theorem meanOf_any {k : Int} {p s to n : Nat} (h : Mn k (ab .f32 p) (ab .f32 s) (ab .f32 to) n) (w : World) : Calls Try.prog 32 #[.agg #[.int .i64 k, .float .f32 p, .float .f32 s], .float .f32 to, .int .i64 n] w (NumOk (meanS k (ab .f32 p) (ab .f32 s) (ab .f32 to) n n, true) w) := by
  obtain ⟨ρ, σ, hL⟩ := h.law
  obtain ⟨μ, hμ, -⟩ := h.fin
  have HFIN := hid (ifFin_yes hμ.fin)
  have n1 := h.n1; have n2 := h.n2
  have HK := hid (show ∀ (t : Nat) i, i < n → ab .f32 t = hT (ab .f32 to) n i → ∀ w, Calls Try.prog 33 #[.agg #[.int .i64 k, .float .f32 p, .float .f32 s], .float .f32 t] w (FltOk (survO k (ab .f32 p) (ab .f32 s) (hT (ab .f32 to) n i)) w) from fun t i hi ht w => by
    obtain ⟨τ, hτ, ok⟩ := h.times i hi
    have := kept_any (t := t) hL (by rw [ht]; exact hτ) ok w
    rwa [ht] at this)
  clear h hL hμ
  go_enter Try.func32, Try.ntmps32
  go_wp2_with (refine upon_float rfl ?_; intro r nn hr; go_simp)
  have HH := hid (show ab .f32 r = fop .quo .f32 (ab .f32 to) (k32 (n : Int)) by rw [hr, ab_ofInt]; rfl)
  generalize r = H at HH ⊢
  clear hr
  have HCELL := hid (law_cells k p s 26 w)
  have hB0 : Below (w.alloc (.cells #[.int .i64 k, .float .f32 p, .float .f32 s] 26)).heap.size (w.alloc (.cells #[.int .i64 k, .float .f32 p, .float .f32 s] 26)) ((w.alloc (.cells #[.int .i64 k, .float .f32 p, .float .f32 s] 26)).drewN nn) := below_drewN _ _
  go_loopw [9, 16] (fun sv tv wr => ∃ (i F : Nat), i ≤ n ∧ tv = .int .i64 i ∧ sv = .float .f32 F ∧ Hid (ab .f32 F = meanS k (ab .f32 p) (ab .f32 s) (ab .f32 to) n i) ∧ Below (w.alloc (.cells #[.int .i64 k, .float .f32 p, .float .f32 s] 26)).heap.size (w.alloc (.cells #[.int .i64 k, .float .f32 p, .float .f32 s] 26)) wr) (fun _ tv _ => n - (intOf tv).toNat)
  case atStart => exact ⟨0, 0, by omega, rfl, rfl, hid ab_z32, hB0⟩
  case round =>
    obtain ⟨i, F, hi, rfl, rfl, hF, hw⟩ := hrel
    obtain ⟨c0, c1, c2⟩ := HCELL.out _ hw
    by_cases hlt : i < n
    · have hiI : (i : Int) < (n : Int) := by omega
      go_wp2_with (first
        | ((fail_if_success (have := HX1)); refine upon_float rfl ?_; intro x1 m1 hx1; go_simp; have HX1 := hid hx1; clear hx1)
        | ((fail_if_success (have := HX2)); refine upon_float rfl ?_; intro x2 m2 hx2; go_simp; have HX2 := hid (show ab .f32 x2 = hT (ab .f32 to) n i by rw [hx2, HX1.out, HH.out, ab_ofInt, ab_half32]; rfl); clear hx2)
        | (go_at_call 33; (refine (HK.out x2 i hlt HX2.out _).mono ?_); rintro e wa ⟨q, rfl, hq, hb⟩; have HQ := hid hq; have hBA := (below_trans (show Below (w.alloc (.cells #[.int .i64 k, .float .f32 p, .float .f32 s] 26)).heap.size (w.alloc (.cells #[.int .i64 k, .float .f32 p, .float .f32 s] 26)) _ by (repeat (first | (with_reducible assumption) | (with_reducible apply below_refl) | (with_reducible apply below_alloc1) | (with_reducible apply below_drewN1) | (with_reducible apply below_drew1)))) hb); clear hb hq)
        | ((fail_if_success (have := HX3)); refine upon_float rfl ?_; intro x3 m3 hx3; go_simp; have HX3 := hid hx3; clear hx3)
        | ((fail_if_success (have := HX4)); refine upon_float rfl ?_; intro x4 m4 hx4; go_simp; have HX4 := hid (show ab .f32 x4 = meanS k (ab .f32 p) (ab .f32 s) (ab .f32 to) n (i + 1) by rw [hx4, HX3.out, HQ.out, hF.out, HH.out, meanS_next]); clear hx4))
      go_roundw
      case rel => exact ⟨i + 1, x4, by omega, by go_num, rfl, HX4, by (repeat (first | (with_reducible assumption) | (with_reducible apply below_refl) | (with_reducible apply below_alloc1) | (with_reducible apply below_drewN1) | (with_reducible apply below_drew1)))⟩
      case measure => simp [intOf]; omega
    · obtain rfl : n = i := by omega
      have HFF := hid (show ifFin (ab .f32 F) = (meanS k (ab .f32 p) (ab .f32 s) (ab .f32 to) n n, true) by rw [hF.out]; exact HFIN.out)
      go_wp2_with (first
        | (go_at_call 25; (refine (ifFinite_num _ _).mono ?_); rw [HFF.out]; rintro e w'' ⟨q2, rfl, hq2, hb⟩; have hB3 := below_trans (show Below (w.alloc (.cells #[.int .i64 k, .float .f32 p, .float .f32 s] 26)).heap.size (w.alloc (.cells #[.int .i64 k, .float .f32 p, .float .f32 s] 26)) _ by (repeat (first | (with_reducible assumption) | (with_reducible apply below_refl) | (with_reducible apply below_alloc1) | (with_reducible apply below_drewN1) | (with_reducible apply below_drew1)))) hb; clear hb))
      go_ret2
      exact ⟨_, rfl, hq2, below_trans (below_alloc w _) (by (repeat (first | (with_reducible assumption) | (with_reducible apply below_refl) | (with_reducible apply below_alloc1) | (with_reducible apply below_drewN1) | (with_reducible apply below_drew1))))⟩
end Go.Proofs.Ytkgbbagklkffpaa
