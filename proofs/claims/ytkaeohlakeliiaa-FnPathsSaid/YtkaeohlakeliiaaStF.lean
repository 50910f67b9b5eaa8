/- FnPaths: stress factors at its numbers: a table. No program in sight. -/
import Derived.Test.YtkaeohlakeliiaaFp
import Derived.Test.YtkaeohlakeliiaaRise
import Derived.Test.YtkaeohlakeliiaaLog3
import Derived.Test.YtkaeohlakeliiaaGen
import Derived.Test.YtkaeohlakeliiaaAge
import Derived.Test.YtkaeohlakeliiaaStress
import Derived.Test.YtkaeohlakeliiaaFp2
namespace Go.Proofs.Ytkaeohlakeliiaa
open Go.RowKit

/-! ## StF -/
def k15 : Nat := 1069547520
def sfX (kind : Nat) (use test : Option Nat) : Option Nat :=
  if kind = 0 then fop .sub .f32 (fop .quo .f32 (some kone) use) (fop .quo .f32 (some kone) test)
  else if kind = 1 then lg32 (fop .quo .f32 test use) else fop .sub .f32 test use
def sfA (kind : Nat) (base use test : Option Nat) : Option Nat := fop .mul .f32 base (sfX kind use test)
def sfV (kind : Nat) (base bY use test : Option Nat) : Option Nat := fop .mul .f32 (nar (exM (wid (sfA kind base use test)))) bY
/-- The guards hold and the exponential fits. -/
def sfB (kind : Nat) (base bY use test : Option Nat) : Bool :=
  finite32 base && notLessB bY && moreB use && moreB test && expB (sfA kind base use test) && finite32 (sfV kind base bY use test) && (ford .f32 (fop .quo .f32 test use) (some 0) == some .gt) && finite32 (fop .quo .f32 test use)
def sfSame (kind q : Nat) : Option Nat := sfV kind (some k15) (some ktwo) (some (fq q)) (some (fq q))
def sfThere (kind q : Nat) : Option Nat := sfV kind (some khalf) (some kone) (some kone) (some (fq (q + 4)))
def sfBack (kind q : Nat) : Option Nat := sfV kind (some khalf) (some kone) (some (fq (q + 4))) (some kone)
def two64 : Nat := 4611686018427387904
def one64 : Nat := 4607182418800017408
def sfCk (kind q : Nat) : Bool :=
  sfB kind (some k15) (some ktwo) (some (fq q)) (some (fq q)) && sfB kind (some khalf) (some kone) (some kone) (some (fq (q + 4))) && sfB kind (some khalf) (some kone) (some (fq (q + 4))) (some kone)
  && (ford .f64 (gapX (wid (sfSame kind q)) (some two64)) (some cmil) == some .lt)
  && (ford .f64 (gapX (fop .mul .f64 (wid (sfThere kind q)) (wid (sfBack kind q))) (some one64)) (some cmil) == some .lt)
  && (ford .f32 (sfThere kind q) (some kone) == some .gt)
  && (fop .add .f32 (some kone) (some (fq q)) == some (fq (q + 4)))
set_option maxHeartbeats 4000000 in
theorem sf_0 : ∀ q, q < 9 → 0 < q → sfCk 0 q = true := by decide +kernel
set_option maxHeartbeats 4000000 in
theorem sf_1 : ∀ q, q < 9 → 0 < q → sfCk 1 q = true := by decide +kernel
set_option maxHeartbeats 4000000 in
theorem sf_2 : ∀ q, q < 9 → 0 < q → sfCk 2 q = true := by decide +kernel
theorem sf_all (kind q : Nat) (hk : kind < 3) (h0 : 0 < q) (h9 : q < 9) : sfCk kind q = true := by
  rcases (show kind = 0 ∨ kind = 1 ∨ kind = 2 by omega) with rfl | rfl | rfl
  · exact sf_0 q h9 h0
  · exact sf_1 q h9 h0
  · exact sf_2 q h9 h0

/-! ## StA -/
def kthree : Nat := 1077936128
def ageT (q : Nat) : Option Nat × Bool := ageM [kone, kone, kone] [0, kone, kthree] (ab .f32 (fq q))
def ageZ (q : Nat) : Option Nat × Bool := ageM [0] [0] (ab .f32 (fq q))
def ageCk (q : Nat) : Bool := (ageT q).2 && finite32 (ageT q).1 && (ford .f64 (gapX (wid (ageT q).1) (wid (ab .f32 (fq q)))) (some cmil) == some .lt) && (ageZ q == (some 0, true))
theorem age_all : ∀ q, q < 33 → ageCk q = true := by decide +kernel
def fitT3 : Option Nat × Option Nat × Bool := fitM 2 [kone, ktwo, kthree] [kone, kone, kone]
def fitCk : Bool := fitT3.2.2 && finite32 fitT3.1 && finite32 fitT3.2.1 && (ford .f64 (gapX (wid fitT3.1) (some 0)) (some cmil) == some .lt) && (ford .f64 (gapX (wid fitT3.2.1) (some 0)) (some cmil) == some .lt)
theorem fit_ck : fitCk = true := by decide +kernel

/-! ## StG -/
theorem sfA_0 (b u t : Option Nat) : sfA 0 b u t = fop .mul .f32 b (fop .sub .f32 (fop .quo .f32 (some kone) u) (fop .quo .f32 (some kone) t)) := rfl
theorem sfA_1 (b u t : Option Nat) : sfA 1 b u t = fop .mul .f32 b (lg32 (fop .quo .f32 t u)) := rfl
theorem sfA_2 (b u t : Option Nat) : sfA 2 b u t = fop .mul .f32 b (fop .sub .f32 t u) := rfl
set_option maxRecDepth 100000 in
set_option maxHeartbeats 2000000 in
theorem implStressF (kind : Nat) (hk : kind < 3) (b y u t : Nat) (h : sfB kind (ab .f32 b) (ab .f32 y) (ab .f32 u) (ab .f32 t) = true) (w : World) :
    Calls Try.prog 27 #[.int .i64 kind, .float .f32 b, .float .f32 y, .float .f32 u, .float .f32 t] w (NumOk (sfV kind (ab .f32 b) (ab .f32 y) (ab .f32 u) (ab .f32 t), true) w) := by
  simp only [sfB, Bool.and_eq_true, beq_iff_eq] at h
  obtain ⟨⟨⟨⟨⟨⟨⟨h1, h2⟩, h3⟩, h4⟩, h5⟩, h6⟩, h7⟩, h8⟩ := h
  have G1 := hid (show ([b].all fun x => finB (ab .f32 x)) = true by simp [finB, ← h1, finite32])
  have G2 := hid (show ([y].all fun x => notLessB (ab .f32 x)) = true by simp [h2])
  have G3 := hid (show ([u, t].all fun x => moreB (ab .f32 x)) = true by simp [h3, h4])
  have G5 := hid (exp_of h5)
  have G6 := hid h6; have G7 := hid h7; have G8 := hid h8
  clear h1 h2 h3 h4 h5 h6 h7 h8
  rcases (show kind = 0 ∨ kind = 1 ∨ kind = 2 by omega) with rfl | rfl | rfl
  · have HA := hid (sfA_0 (ab .f32 b) (ab .f32 u) (ab .f32 t))
    have HV := hid (show sfV 0 (ab .f32 b) (ab .f32 y) (ab .f32 u) (ab .f32 t) = fop .mul .f32 (nar (exM (wid (sfA 0 (ab .f32 b) (ab .f32 u) (ab .f32 t))))) (ab .f32 y) from rfl)
    go_enter Try.func27, Try.ntmps27
    go_wp2_with (first
      | (go_at_call 62; (with_reducible refine (within_any _ _ _ _).mono ?_); rintro e w' ⟨rfl, hb⟩; have hB : Below w.heap.size w w' := below_trans (by (repeat (first | (with_reducible assumption) | (with_reducible apply below_refl) | (with_reducible apply below_alloc1) | (with_reducible apply below_drewN1) | (with_reducible apply below_drew1)))) hb; have hC := (bcell hB).1; clear hb)
      | (go_at_call 58; (with_reducible refine (areFinite_any _ [b] _ (rowAt_alloc _ _ [.float .f32 b] (by simp [maxLen]))).mono ?_); rw [G1.out]; rintro e w' ⟨rfl, hb⟩; have hB : Below w.heap.size w w' := below_trans (by (repeat (first | (with_reducible assumption) | (with_reducible apply below_refl) | (with_reducible apply below_alloc1) | (with_reducible apply below_drewN1) | (with_reducible apply below_drew1)))) hb; have hC := (bcell hB).1; clear hb)
      | (go_at_call 86; (with_reducible refine (areNotLess_any _ [y] _ (rowAt_alloc _ _ [.float .f32 y] (by simp [maxLen]))).mono ?_); rw [G2.out]; rintro e w' ⟨rfl, hb⟩; have hB : Below w.heap.size w w' := below_trans (by (repeat (first | (with_reducible assumption) | (with_reducible apply below_refl) | (with_reducible apply below_alloc1) | (with_reducible apply below_drewN1) | (with_reducible apply below_drew1)))) hb; have hC := (bcell hB).1; clear hb)
      | (go_at_call 56; (with_reducible refine (areMore_any _ [u, t] _ (rowAt_alloc _ _ [.float .f32 u, .float .f32 t] (by simp [maxLen]))).mono ?_); rw [G3.out]; rintro e w' ⟨rfl, hb⟩; have hB : Below w.heap.size w w' := below_trans (by (repeat (first | (with_reducible assumption) | (with_reducible apply below_refl) | (with_reducible apply below_alloc1) | (with_reducible apply below_drewN1) | (with_reducible apply below_drew1)))) hb; have hC := (bcell hB).1; clear hb)
      | (go_at_call 57; (refine (implExp_ok (a := sfA 0 (ab .f32 b) (ab .f32 u) (ab .f32 t)) (by rw [HA.out]; simp only [*, ab_one32, kone]) G5.out _).mono ?_); rintro e w' ⟨ev, rfl, hev, hb⟩; have hB := below_trans (show Below w.heap.size w _ by (repeat (first | (with_reducible assumption) | (with_reducible apply below_refl) | (with_reducible apply below_alloc1) | (with_reducible apply below_drewN1) | (with_reducible apply below_drew1)))) hb; clear hb)
      | (go_at_call 60; have hA2 : ab .f32 r = sfV 0 (ab .f32 b) (ab .f32 y) (ab .f32 u) (ab .f32 t) := (by rw [HV.out]; simp only [*]); (refine (ifFinite_yes r (by rw [hA2]; exact G6.out) _).mono ?_); rintro e w' ⟨rfl, hb⟩; have hB := below_trans (show Below w.heap.size w _ by (repeat (first | (with_reducible assumption) | (with_reducible apply below_refl) | (with_reducible apply below_alloc1) | (with_reducible apply below_drewN1) | (with_reducible apply below_drew1)))) hb; clear hb)
      | (refine upon_float rfl ?_; intro r n hr; go_simp))
    go_ret2
    exact ⟨_, rfl, hA2, by assumption⟩
  · have HA := hid (sfA_1 (ab .f32 b) (ab .f32 u) (ab .f32 t))
    have HV := hid (show sfV 1 (ab .f32 b) (ab .f32 y) (ab .f32 u) (ab .f32 t) = fop .mul .f32 (nar (exM (wid (sfA 1 (ab .f32 b) (ab .f32 u) (ab .f32 t))))) (ab .f32 y) from rfl)
    go_enter Try.func27, Try.ntmps27
    go_wp2_with (first
      | (go_at_call 62; (with_reducible refine (within_any _ _ _ _).mono ?_); rintro e w' ⟨rfl, hb⟩; have hB : Below w.heap.size w w' := below_trans (by (repeat (first | (with_reducible assumption) | (with_reducible apply below_refl) | (with_reducible apply below_alloc1) | (with_reducible apply below_drewN1) | (with_reducible apply below_drew1)))) hb; have hC := (bcell hB).1; clear hb)
      | (go_at_call 58; (with_reducible refine (areFinite_any _ [b] _ (rowAt_alloc _ _ [.float .f32 b] (by simp [maxLen]))).mono ?_); rw [G1.out]; rintro e w' ⟨rfl, hb⟩; have hB : Below w.heap.size w w' := below_trans (by (repeat (first | (with_reducible assumption) | (with_reducible apply below_refl) | (with_reducible apply below_alloc1) | (with_reducible apply below_drewN1) | (with_reducible apply below_drew1)))) hb; have hC := (bcell hB).1; clear hb)
      | (go_at_call 86; (with_reducible refine (areNotLess_any _ [y] _ (rowAt_alloc _ _ [.float .f32 y] (by simp [maxLen]))).mono ?_); rw [G2.out]; rintro e w' ⟨rfl, hb⟩; have hB : Below w.heap.size w w' := below_trans (by (repeat (first | (with_reducible assumption) | (with_reducible apply below_refl) | (with_reducible apply below_alloc1) | (with_reducible apply below_drewN1) | (with_reducible apply below_drew1)))) hb; have hC := (bcell hB).1; clear hb)
      | (go_at_call 56; (with_reducible refine (areMore_any _ [u, t] _ (rowAt_alloc _ _ [.float .f32 u, .float .f32 t] (by simp [maxLen]))).mono ?_); rw [G3.out]; rintro e w' ⟨rfl, hb⟩; have hB : Below w.heap.size w w' := below_trans (by (repeat (first | (with_reducible assumption) | (with_reducible apply below_refl) | (with_reducible apply below_alloc1) | (with_reducible apply below_drewN1) | (with_reducible apply below_drew1)))) hb; have hC := (bcell hB).1; clear hb)
      | (go_at_call 55; (refine (implLog_any r (by rw [hr]; exact G7.out) _).mono ?_); rintro e w' ⟨l, rfl, hlg, hb⟩; have hB := below_trans (show Below w.heap.size w _ by (repeat (first | (with_reducible assumption) | (with_reducible apply below_refl) | (with_reducible apply below_alloc1) | (with_reducible apply below_drewN1) | (with_reducible apply below_drew1)))) hb; have hl2 := (hlg.1 (by rw [hr]; exact G8.out)).1; rw [hr] at hl2; clear hb hlg)
      | (go_at_call 57; (refine (implExp_ok (a := sfA 1 (ab .f32 b) (ab .f32 u) (ab .f32 t)) (by rw [HA.out]; simp only [*]) G5.out _).mono ?_); rintro e w' ⟨ev, rfl, hev, hb⟩; have hB := below_trans (show Below w.heap.size w _ by (repeat (first | (with_reducible assumption) | (with_reducible apply below_refl) | (with_reducible apply below_alloc1) | (with_reducible apply below_drewN1) | (with_reducible apply below_drew1)))) hb; clear hb)
      | (go_at_call 60; have hA2 : ab .f32 r = sfV 1 (ab .f32 b) (ab .f32 y) (ab .f32 u) (ab .f32 t) := (by rw [HV.out]; simp only [*]); (refine (ifFinite_yes r (by rw [hA2]; exact G6.out) _).mono ?_); rintro e w' ⟨rfl, hb⟩; have hB := below_trans (show Below w.heap.size w _ by (repeat (first | (with_reducible assumption) | (with_reducible apply below_refl) | (with_reducible apply below_alloc1) | (with_reducible apply below_drewN1) | (with_reducible apply below_drew1)))) hb; clear hb)
      | (refine upon_float rfl ?_; intro r n hr; go_simp))
    go_ret2
    exact ⟨_, rfl, hA2, by assumption⟩
  · have HA := hid (sfA_2 (ab .f32 b) (ab .f32 u) (ab .f32 t))
    have HV := hid (show sfV 2 (ab .f32 b) (ab .f32 y) (ab .f32 u) (ab .f32 t) = fop .mul .f32 (nar (exM (wid (sfA 2 (ab .f32 b) (ab .f32 u) (ab .f32 t))))) (ab .f32 y) from rfl)
    go_enter Try.func27, Try.ntmps27
    go_wp2_with (first
      | (go_at_call 62; (with_reducible refine (within_any _ _ _ _).mono ?_); rintro e w' ⟨rfl, hb⟩; have hB : Below w.heap.size w w' := below_trans (by (repeat (first | (with_reducible assumption) | (with_reducible apply below_refl) | (with_reducible apply below_alloc1) | (with_reducible apply below_drewN1) | (with_reducible apply below_drew1)))) hb; have hC := (bcell hB).1; clear hb)
      | (go_at_call 58; (with_reducible refine (areFinite_any _ [b] _ (rowAt_alloc _ _ [.float .f32 b] (by simp [maxLen]))).mono ?_); rw [G1.out]; rintro e w' ⟨rfl, hb⟩; have hB : Below w.heap.size w w' := below_trans (by (repeat (first | (with_reducible assumption) | (with_reducible apply below_refl) | (with_reducible apply below_alloc1) | (with_reducible apply below_drewN1) | (with_reducible apply below_drew1)))) hb; have hC := (bcell hB).1; clear hb)
      | (go_at_call 86; (with_reducible refine (areNotLess_any _ [y] _ (rowAt_alloc _ _ [.float .f32 y] (by simp [maxLen]))).mono ?_); rw [G2.out]; rintro e w' ⟨rfl, hb⟩; have hB : Below w.heap.size w w' := below_trans (by (repeat (first | (with_reducible assumption) | (with_reducible apply below_refl) | (with_reducible apply below_alloc1) | (with_reducible apply below_drewN1) | (with_reducible apply below_drew1)))) hb; have hC := (bcell hB).1; clear hb)
      | (go_at_call 56; (with_reducible refine (areMore_any _ [u, t] _ (rowAt_alloc _ _ [.float .f32 u, .float .f32 t] (by simp [maxLen]))).mono ?_); rw [G3.out]; rintro e w' ⟨rfl, hb⟩; have hB : Below w.heap.size w w' := below_trans (by (repeat (first | (with_reducible assumption) | (with_reducible apply below_refl) | (with_reducible apply below_alloc1) | (with_reducible apply below_drewN1) | (with_reducible apply below_drew1)))) hb; have hC := (bcell hB).1; clear hb)
      | (go_at_call 57; (refine (implExp_ok (a := sfA 2 (ab .f32 b) (ab .f32 u) (ab .f32 t)) (by rw [HA.out]; simp only [*]) G5.out _).mono ?_); rintro e w' ⟨ev, rfl, hev, hb⟩; have hB := below_trans (show Below w.heap.size w _ by (repeat (first | (with_reducible assumption) | (with_reducible apply below_refl) | (with_reducible apply below_alloc1) | (with_reducible apply below_drewN1) | (with_reducible apply below_drew1)))) hb; clear hb)
      | (go_at_call 60; have hA2 : ab .f32 r = sfV 2 (ab .f32 b) (ab .f32 y) (ab .f32 u) (ab .f32 t) := (by rw [HV.out]; simp only [*]); (refine (ifFinite_yes r (by rw [hA2]; exact G6.out) _).mono ?_); rintro e w' ⟨rfl, hb⟩; have hB := below_trans (show Below w.heap.size w _ by (repeat (first | (with_reducible assumption) | (with_reducible apply below_refl) | (with_reducible apply below_alloc1) | (with_reducible apply below_drewN1) | (with_reducible apply below_drew1)))) hb; clear hb)
      | (refine upon_float rfl ?_; intro r n hr; go_simp))
    go_ret2
    exact ⟨_, rfl, hA2, by assumption⟩
end Go.Proofs.Ytkaeohlakeliiaa
