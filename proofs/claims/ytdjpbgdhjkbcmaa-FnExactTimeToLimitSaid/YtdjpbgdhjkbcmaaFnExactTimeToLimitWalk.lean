/- The walk of laws.FnExactTimeToLimit. -/
import Derived.Test.YtdjpbgdhjkbcmaaCom
namespace Go.Proofs.Ytdjpbgdhjkbcmaa
open Go.RowKit

def ttlM (b s l : Option Nat) : Option Nat × Bool := if finite32 b && finite32 s && finite32 l && !(ford .f32 s (some 0) == some .eq) then ifFin (fop .quo .f32 (fop .sub .f32 l b) s) else (some 0, false)
theorem ttlM_no {b s l : Option Nat} (h : (finite32 b && finite32 s && finite32 l && !(ford .f32 s (some 0) == some .eq)) = false) : ttlM b s l = (some 0, false) := by simp only [ttlM, h]; rfl
theorem ttlM_yes {b s l : Option Nat} (h : (finite32 b && finite32 s && finite32 l && !(ford .f32 s (some 0) == some .eq)) = true) : ttlM b s l = ifFin (fop .quo .f32 (fop .sub .f32 l b) s) := by simp only [ttlM, h]; rfl

set_option maxRecDepth 100000 in
set_option maxHeartbeats 400000 in
theorem implTtl_any (b s l : Nat) (w : World) : Calls Try.prog 24 #[.float .f32 b, .float .f32 s, .float .f32 l] w (NumOk (ttlM (ab .f32 b) (ab .f32 s) (ab .f32 l)) w) := by
  cases h1 : (finite32 (ab .f32 b) && finite32 (ab .f32 s) && finite32 (ab .f32 l))
  · have HM := hid (ttlM_no (b := ab .f32 b) (s := ab .f32 s) (l := ab .f32 l) (by simp [h1]))
    have h1' : ([b, s, l].all fun x => finB (ab .f32 x)) = false := by simpa [Bool.and_assoc, finB] using h1
    go_enter Try.func24, Try.ntmps24
    go_wp2_with (go_at_call 48; refine (areFinite_any _ [b, s, l] _ (rowAt_alloc _ _ [.float .f32 b, .float .f32 s, .float .f32 l] (by simp [maxLen]))).mono ?_; rw [h1']; rintro e w' ⟨rfl, hb⟩; have hB : Below w.heap.size w w' := below_trans (by (repeat (first | (with_reducible assumption) | (with_reducible apply below_refl) | (with_reducible apply below_alloc1) | (with_reducible apply below_drewN1) | (with_reducible apply below_drew1)))) hb; have hC := (bcell hB).1; clear hb)
    go_ret2
    exact numOk_no HM.out (by assumption)
  · have h1' : ([b, s, l].all fun x => finB (ab .f32 x)) = true := by simpa [Bool.and_assoc, finB] using h1
    cases h2 : (ford .f32 (ab .f32 s) (some 0) == some .eq)
    · have HM := hid (ttlM_yes (b := ab .f32 b) (s := ab .f32 s) (l := ab .f32 l) (by simp [h1, h2]))
      go_enter Try.func24, Try.ntmps24
      go_wp2_with (first
        | (go_at_call 48; refine (areFinite_any _ [b, s, l] _ (rowAt_alloc _ _ [.float .f32 b, .float .f32 s, .float .f32 l] (by simp [maxLen]))).mono ?_; rw [h1']; rintro e w' ⟨rfl, hb⟩; have hB : Below w.heap.size w w' := below_trans (by (repeat (first | (with_reducible assumption) | (with_reducible apply below_refl) | (with_reducible apply below_alloc1) | (with_reducible apply below_drewN1) | (with_reducible apply below_drew1)))) hb; have hC := (bcell hB).1; clear hb)
        | (refine upon_float rfl ?_; intro r n hr; go_simp)
        | (go_at_call 46; refine (ifFinite_num _ _).mono ?_; rintro e w' ⟨r, rfl, hr, hb⟩; have hB : Below w.heap.size w w' := below_trans (by (repeat (first | (with_reducible assumption) | (with_reducible apply below_refl) | (with_reducible apply below_alloc1) | (with_reducible apply below_drewN1) | (with_reducible apply below_drew1)))) hb; have hC := (bcell hB).1; clear hb))
      go_ret2
      exact ⟨_, by rw [HM.out]; rfl, by rw [HM.out]; simp only [*], by assumption⟩
    · have HM := hid (ttlM_no (b := ab .f32 b) (s := ab .f32 s) (l := ab .f32 l) (by simp [h2]))
      go_enter Try.func24, Try.ntmps24
      go_wp2_with (go_at_call 48; refine (areFinite_any _ [b, s, l] _ (rowAt_alloc _ _ [.float .f32 b, .float .f32 s, .float .f32 l] (by simp [maxLen]))).mono ?_; rw [h1']; rintro e w' ⟨rfl, hb⟩; have hB : Below w.heap.size w w' := below_trans (by (repeat (first | (with_reducible assumption) | (with_reducible apply below_refl) | (with_reducible apply below_alloc1) | (with_reducible apply below_drewN1) | (with_reducible apply below_drew1)))) hb; have hC := (bcell hB).1; clear hb)
      go_ret2
      exact numOk_no HM.out (by assumption)

set_option maxRecDepth 100000 in
set_option maxHeartbeats 400000 in
theorem specTtl_any (b s l : Nat) (w : World) : Calls Try.prog 23 #[.float .f32 b, .float .f32 s, .float .f32 l] w (NumOk (ttlM (ab .f32 b) (ab .f32 s) (ab .f32 l)) w) := by
  cases h1 : (finite32 (ab .f32 b))
  · have HM := hid (ttlM_no (b := ab .f32 b) (s := ab .f32 s) (l := ab .f32 l) (by simp [h1]))
    go_enter Try.func23, Try.ntmps23
    go_wp2_with (go_at_call 47; refine (specFinite_any _ _).mono ?_; rintro e w' ⟨rfl, hb⟩; have hB : Below w.heap.size w w' := below_trans (by (repeat (first | (with_reducible assumption) | (with_reducible apply below_refl) | (with_reducible apply below_alloc1) | (with_reducible apply below_drewN1) | (with_reducible apply below_drew1)))) hb; have hC := (bcell hB).1; clear hb)
    go_ret2
    exact numOk_no HM.out (by assumption)
  · cases h2 : (finite32 (ab .f32 s))
    · have HM := hid (ttlM_no (b := ab .f32 b) (s := ab .f32 s) (l := ab .f32 l) (by simp [h2]))
      go_enter Try.func23, Try.ntmps23
      go_wp2_with (go_at_call 47; refine (specFinite_any _ _).mono ?_; rintro e w' ⟨rfl, hb⟩; have hB : Below w.heap.size w w' := below_trans (by (repeat (first | (with_reducible assumption) | (with_reducible apply below_refl) | (with_reducible apply below_alloc1) | (with_reducible apply below_drewN1) | (with_reducible apply below_drew1)))) hb; have hC := (bcell hB).1; clear hb)
      go_ret2
      exact numOk_no HM.out (by assumption)
    · cases h3 : (finite32 (ab .f32 l))
      · have HM := hid (ttlM_no (b := ab .f32 b) (s := ab .f32 s) (l := ab .f32 l) (by simp [h3]))
        go_enter Try.func23, Try.ntmps23
        go_wp2_with (go_at_call 47; refine (specFinite_any _ _).mono ?_; rintro e w' ⟨rfl, hb⟩; have hB : Below w.heap.size w w' := below_trans (by (repeat (first | (with_reducible assumption) | (with_reducible apply below_refl) | (with_reducible apply below_alloc1) | (with_reducible apply below_drewN1) | (with_reducible apply below_drew1)))) hb; have hC := (bcell hB).1; clear hb)
        go_ret2
        exact numOk_no HM.out (by assumption)
      · cases h4 : (ford .f32 (ab .f32 s) (some 0) == some .eq)
        · have HM := hid (ttlM_yes (b := ab .f32 b) (s := ab .f32 s) (l := ab .f32 l) (by simp [h1, h2, h3, h4]))
          go_enter Try.func23, Try.ntmps23
          go_wp2_with (first
            | (go_at_call 47; refine (specFinite_any _ _).mono ?_; rintro e w' ⟨rfl, hb⟩; have hB : Below w.heap.size w w' := below_trans (by (repeat (first | (with_reducible assumption) | (with_reducible apply below_refl) | (with_reducible apply below_alloc1) | (with_reducible apply below_drewN1) | (with_reducible apply below_drew1)))) hb; have hC := (bcell hB).1; clear hb)
            | (refine upon_float rfl ?_; intro r n hr; go_simp)
            | (go_at_call 44; refine (l02Number_num _ _).mono ?_; rintro e w' ⟨r, rfl, hr, hb⟩; have hB : Below w.heap.size w w' := below_trans (by (repeat (first | (with_reducible assumption) | (with_reducible apply below_refl) | (with_reducible apply below_alloc1) | (with_reducible apply below_drewN1) | (with_reducible apply below_drew1)))) hb; have hC := (bcell hB).1; clear hb))
          go_ret2
          exact ⟨_, by rw [HM.out]; rfl, by rw [HM.out]; simp only [*], by assumption⟩
        · have HM := hid (ttlM_no (b := ab .f32 b) (s := ab .f32 s) (l := ab .f32 l) (by simp [h4]))
          go_enter Try.func23, Try.ntmps23
          go_wp2_with (go_at_call 47; refine (specFinite_any _ _).mono ?_; rintro e w' ⟨rfl, hb⟩; have hB : Below w.heap.size w w' := below_trans (by (repeat (first | (with_reducible assumption) | (with_reducible apply below_refl) | (with_reducible apply below_alloc1) | (with_reducible apply below_drewN1) | (with_reducible apply below_drew1)))) hb; have hC := (bcell hB).1; clear hb)
          go_ret2
          exact numOk_no HM.out (by assumption)

set_option maxRecDepth 100000 in
set_option maxHeartbeats 400000 in
theorem walk_FnExactTimeToLimit (b s l : Nat) (w : World) (_ : b < 4294967296) (_ : s < 4294967296) (_ : l < 4294967296) :
    Calls Try.prog 7 #[.float .f32 b, .float .f32 s, .float .f32 l] w fun e w' => e = .returned (.bool true) ∧ Below w.heap.size w w' := by
  generalize hM : ttlM (ab .f32 b) (ab .f32 s) (ab .f32 l) = M
  have HM := hid hM; clear hM
  obtain ⟨M1, M2⟩ := M
  go_enter Try.func7, Try.ntmps7
  go_wp2_with (first
    | (go_at_call 23; refine (specTtl_any _ _ _ _).mono ?_; rw [HM.out]; rintro e w' ⟨r, rfl, hr, hb⟩; have hB : Below w.heap.size w w' := below_trans (by (repeat (first | (with_reducible assumption) | (with_reducible apply below_refl) | (with_reducible apply below_alloc1) | (with_reducible apply below_drewN1) | (with_reducible apply below_drew1)))) hb; have hC := (bcell hB).1; clear hb)
    | (go_at_call 24; refine (implTtl_any _ _ _ _).mono ?_; rw [HM.out]; rintro e w' ⟨r, rfl, hr, hb⟩; have hB : Below w.heap.size w w' := below_trans (by (repeat (first | (with_reducible assumption) | (with_reducible apply below_refl) | (with_reducible apply below_alloc1) | (with_reducible apply below_drewN1) | (with_reducible apply below_drew1)))) hb; have hC := (bcell hB).1; clear hb)
    | (refine upon_widen rfl Try.underlying37 ?_; intro r n hr; go_simp)
    | (go_at_call 22; refine (sameFloat_yes _ _ (by simp only [*]) _).mono ?_; rintro e w' ⟨rfl, hb⟩; have hB : Below w.heap.size w w' := below_trans (by (repeat (first | (with_reducible assumption) | (with_reducible apply below_refl) | (with_reducible apply below_alloc1) | (with_reducible apply below_drewN1) | (with_reducible apply below_drew1)))) hb; have hC := (bcell hB).1; clear hb))

  go_ret
  exact ⟨rfl, by assumption⟩
end Go.Proofs.Ytdjpbgdhjkbcmaa
