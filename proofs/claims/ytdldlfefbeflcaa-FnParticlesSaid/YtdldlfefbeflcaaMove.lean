/- Contracts: particles and weights, MovedParticles. -/
import Derived.Test.YtdldlfefbeflcaaWide
import Derived.Test.YtdldlfefbeflcaaFres
namespace Go.Proofs.Ytdldlfefbeflcaa
open Go.RowKit

def cloudB (xs : List Nat) : Bool := inB xs.length 1 64 && xs.all fun b => finB (ab .f32 b)
def partsB (xs ys : List Nat) : Bool := cloudB xs && decide (ys.length = xs.length) && ys.all fun b => notLessB (ab .f32 b)
theorem cloudB_true {xs : List Nat} (h : cloudB xs = true) : 1 ≤ xs.length ∧ xs.length ≤ 64 ∧ ∀ k (h : k < xs.length), finite32 (ab .f32 xs[k]) = true := by
  simp only [cloudB, Bool.and_eq_true, List.all_eq_true] at h
  have := inB_true h.1
  exact ⟨by omega, by omega, fun k hk => h.2 _ (List.getElem_mem hk)⟩
theorem partsB_zero (xs : List Nat) : partsB xs (List.replicate xs.length 0) = cloudB xs := by
  have : ((List.replicate xs.length 0).all fun b => notLessB (ab .f32 b)) = true := by
    rw [List.all_eq_true]
    intro x hx
    rw [List.eq_of_mem_replicate hx]
    decide
  unfold partsB
  rw [this]
  simp

set_option maxRecDepth 100000 in
set_option maxHeartbeats 800000 in
theorem areParticles_any (v u : Value) (xs ys : List Nat) (w : World) (hv : RowAt w v (xs.map (Value.float .f32))) (hu : RowAt w u (ys.map (Value.float .f32))) :
    Calls Try.prog 26 #[v, u] w fun e w' => e = .returned (.bool (partsB xs ys)) ∧ Below w.heap.size w w' := by
  have HV := hid hv
  have HU := hid hu
  obtain ⟨ao, cap, b, off, rfl, hao, hl, hm, hc⟩ := hv
  obtain ⟨ao', cap', b', off', rfl, hao', hl', hm', hc'⟩ := hu
  simp only [List.length_map] at hl HV hl' HU ⊢
  unfold maxLen at hm hm'
  clear hc hao hc' hao'
  by_cases h1 : 1 ≤ xs.length
  · have h1' : (1 : Int) ≤ (xs.length : Int) := by omega
    by_cases h2 : xs.length ≤ 64
    · have h2' : (xs.length : Int) ≤ 64 := by omega
      by_cases h3 : ys.length = xs.length
      · have hr : partsB xs ys = ((xs.all fun b => finB (ab .f32 b)) && (ys.all fun b => notLessB (ab .f32 b))) := by simp [partsB, cloudB, inB_mk h1' h2', h3]
        rw [hr]; clear hr
        rw [h3] at hl' HU ⊢
        cases g1 : (xs.all fun b => finB (ab .f32 b))
        · have G1 := hid g1; clear g1
          go_enter Try.func26, Try.ntmps26
          go_wp2_with (go_at_call 34; refine (areFinite_any _ xs _ (HV.out.below (by (repeat (first | (with_reducible assumption) | (with_reducible apply below_refl) | (with_reducible apply below_alloc1) | (with_reducible apply below_drewN1) | (with_reducible apply below_drew1)))))).mono ?_; rw [G1.out]; rintro e w' ⟨rfl, hb⟩; have hB : Below w.heap.size w w' := below_trans (by (repeat (first | (with_reducible assumption) | (with_reducible apply below_refl) | (with_reducible apply below_alloc1) | (with_reducible apply below_drewN1) | (with_reducible apply below_drew1)))) hb; have hC := (bcell hB).1; clear hb)
          go_ret
          exact ⟨rfl, by assumption⟩
        · have G1 := hid g1; clear g1
          go_enter Try.func26, Try.ntmps26
          go_wp2_with (first | (go_at_call 34; refine (areFinite_any _ xs _ (HV.out.below (by (repeat (first | (with_reducible assumption) | (with_reducible apply below_refl) | (with_reducible apply below_alloc1) | (with_reducible apply below_drewN1) | (with_reducible apply below_drew1)))))).mono ?_; rw [G1.out]; rintro e w' ⟨rfl, hb⟩; have hB : Below w.heap.size w w' := below_trans (by (repeat (first | (with_reducible assumption) | (with_reducible apply below_refl) | (with_reducible apply below_alloc1) | (with_reducible apply below_drewN1) | (with_reducible apply below_drew1)))) hb; have hC := (bcell hB).1; clear hb) | (go_at_call 47; refine (areNotLess_any _ ys _ (HU.out.below (by (repeat (first | (with_reducible assumption) | (with_reducible apply below_refl) | (with_reducible apply below_alloc1) | (with_reducible apply below_drewN1) | (with_reducible apply below_drew1)))))).mono ?_; rintro e w' ⟨rfl, hb⟩; have hB : Below w.heap.size w w' := below_trans (by (repeat (first | (with_reducible assumption) | (with_reducible apply below_refl) | (with_reducible apply below_alloc1) | (with_reducible apply below_drewN1) | (with_reducible apply below_drew1)))) hb; have hC := (bcell hB).1; clear hb))
          go_ret
          exact ⟨by simp, by assumption⟩
      · have h3' : ((ys.length : Int) == (xs.length : Int)) = false := by simp; omega
        have hr : partsB xs ys = false := by simp [partsB, h3]
        rw [hr]; clear hr
        go_enter Try.func26, Try.ntmps26
        go_wp2_with fail
        go_ret
        exact ⟨rfl, by (repeat (first | (with_reducible assumption) | (with_reducible apply below_refl) | (with_reducible apply below_alloc1) | (with_reducible apply below_drewN1) | (with_reducible apply below_drew1)))⟩
    · have h2' : ¬ (xs.length : Int) ≤ 64 := by omega
      have hr : partsB xs ys = false := by simp [partsB, cloudB, inB, h2']
      rw [hr]; clear hr
      go_enter Try.func26, Try.ntmps26
      go_wp2_with fail
      go_ret
      exact ⟨rfl, by (repeat (first | (with_reducible assumption) | (with_reducible apply below_refl) | (with_reducible apply below_alloc1) | (with_reducible apply below_drewN1) | (with_reducible apply below_drew1)))⟩
  · have h1' : ¬ (1 : Int) ≤ (xs.length : Int) := by omega
    have hr : partsB xs ys = false := by simp [partsB, cloudB, inB, h1']
    rw [hr]; clear hr
    go_enter Try.func26, Try.ntmps26
    go_wp2_with fail
    go_ret
    exact ⟨rfl, by (repeat (first | (with_reducible assumption) | (with_reducible apply below_refl) | (with_reducible apply below_alloc1) | (with_reducible apply below_drewN1) | (with_reducible apply below_drew1)))⟩
set_option maxRecDepth 100000 in
set_option maxHeartbeats 800000 in
theorem l05Cloud_any (v : Value) (xs : List Nat) (w : World) (hv : RowAt w v (xs.map (Value.float .f32))) :
    Calls Try.prog 21 #[v] w fun e w' => e = .returned (.bool (cloudB xs)) ∧ Below w.heap.size w w' := by
  have HV := hid hv
  obtain ⟨ao, cap, b, off, rfl, hao, hl, hm, hc⟩ := hv
  simp only [List.length_map] at hl HV ⊢
  unfold maxLen at hm
  clear hc hao
  by_cases h1 : 1 ≤ xs.length
  · have h1' : (1 : Int) ≤ (xs.length : Int) := by omega
    by_cases h2 : xs.length ≤ 64
    · have h2' : (xs.length : Int) ≤ 64 := by omega
      have hr : cloudB xs = (xs.all fun b => finB (ab .f32 b)) := by simp [cloudB, inB_mk h1' h2']
      rw [hr]; clear hr
      go_enter Try.func21, Try.ntmps21
      go_wp2_with (go_at_call 24; refine (l02Finite_any _ xs _ (HV.out.below (by (repeat (first | (with_reducible assumption) | (with_reducible apply below_refl) | (with_reducible apply below_alloc1) | (with_reducible apply below_drewN1) | (with_reducible apply below_drew1)))))).mono ?_; rintro e w' ⟨rfl, hb⟩; have hB : Below w.heap.size w w' := below_trans (by (repeat (first | (with_reducible assumption) | (with_reducible apply below_refl) | (with_reducible apply below_alloc1) | (with_reducible apply below_drewN1) | (with_reducible apply below_drew1)))) hb; have hC := (bcell hB).1; clear hb)
      go_ret
      exact ⟨rfl, by assumption⟩
    · have h2' : ¬ (xs.length : Int) ≤ 64 := by omega
      have hr : cloudB xs = false := by simp [cloudB, inB, h2']
      rw [hr]; clear hr
      go_enter Try.func21, Try.ntmps21
      go_wp2_with fail
      go_ret
      exact ⟨rfl, by (repeat (first | (with_reducible assumption) | (with_reducible apply below_refl) | (with_reducible apply below_alloc1) | (with_reducible apply below_drewN1) | (with_reducible apply below_drew1)))⟩
  · have h1' : ¬ (1 : Int) ≤ (xs.length : Int) := by omega
    have hr : cloudB xs = false := by simp [cloudB, inB, h1']
    rw [hr]; clear hr
    go_enter Try.func21, Try.ntmps21
    go_wp2_with fail
    go_ret
    exact ⟨rfl, by (repeat (first | (with_reducible assumption) | (with_reducible apply below_refl) | (with_reducible apply below_alloc1) | (with_reducible apply below_drewN1) | (with_reducible apply below_drew1)))⟩
def movedX (d wd : Option Nat) (s : Int) (xs : List Nat) (j : Nat) : Option Nat := fop .add .f32 (fop .add .f32 (ab .f32 (xs.getD j 0)) d) (fop .mul .f32 wd (wideS (seedAt s (4 * j))))
def movedL (d wd : Option Nat) (s : Int) (xs : List Nat) (k : Nat) : List (Option Nat) := (List.range k).map (movedX d wd s xs)
theorem movedL_next (d wd : Option Nat) (s : Int) (xs : List Nat) (k : Nat) : movedL d wd s xs (k + 1) = movedL d wd s xs k ++ [movedX d wd s xs k] := range_next _ _
theorem movedL_len (d wd : Option Nat) (s : Int) (xs : List Nat) (k : Nat) : (movedL d wd s xs k).length = k := by simp [movedL]
theorem getD_atM (xs : List Nat) (k : Nat) (h : k < xs.length) : xs.getD k 0 = xs[k] := by simp [h]
def movedOk (xs : List Nat) (d wd : Option Nat) (s : Int) : Bool := cloudB xs && finite32 d && finite32 wd && inB s 0 4294967295
def movedAll (xs : List Nat) (d wd : Option Nat) (s : Int) : Bool := movedOk xs d wd s && finL (movedL d wd s xs xs.length)
def movedXs (xs : List Nat) (d wd : Option Nat) (s : Int) : List Nat := if movedAll xs d wd s then bitsOf (movedL d wd s xs xs.length) else []
def movedS (xs : List Nat) (d wd : Option Nat) (s : Int) : Int := if movedAll xs d wd s then seedAt s (4 * xs.length) else 0
theorem moved_no {xs : List Nat} {d wd : Option Nat} {s : Int} (h : movedAll xs d wd s = false) : movedXs xs d wd s = [] ∧ movedS xs d wd s = 0 := by simp [movedXs, movedS, h]
theorem moved_yes {xs : List Nat} {d wd : Option Nat} {s : Int} (h : movedAll xs d wd s = true) : movedXs xs d wd s = bitsOf (movedL d wd s xs xs.length) ∧ movedS xs d wd s = seedAt s (4 * xs.length) := by simp [movedXs, movedS, h]
theorem moved_fail {xs : List Nat} {d wd : Option Nat} {s : Int} (h : movedOk xs d wd s = false) : movedXs xs d wd s = [] ∧ movedS xs d wd s = 0 ∧ movedAll xs d wd s = false := by
  have h2 : movedAll xs d wd s = false := by simp [movedAll, h]
  exact ⟨(moved_no h2).1, (moved_no h2).2, h2⟩
theorem movedXs_len (xs : List Nat) (d wd : Option Nat) (s : Int) : (movedXs xs d wd s).length ≤ 64 := by
  cases h : movedAll xs d wd s
  · rw [(moved_no h).1]; simp
  · rw [(moved_yes h).1]
    simp only [movedAll, movedOk, Bool.and_eq_true] at h
    have := cloudB_true h.1.1.1.1
    simp [bitsOf, movedL_len]; omega

set_option maxRecDepth 100000 in
set_option maxHeartbeats 2000000 in
theorem implMoved_any (v0 : Value) (xs : List Nat) (d wd : Nat) (s : Int) (w : World) (hv : RowAt w v0 (xs.map (Value.float .f32))) (hn : xs.length ≤ 1048576) :
    Calls Try.prog 20 #[v0, .float .f32 d, .float .f32 wd, .int .i64 s] w (FRowNumOk 23 (movedXs xs (ab .f32 d) (ab .f32 wd) s) (movedS xs (ab .f32 d) (ab .f32 wd) s) (movedAll xs (ab .f32 d) (ab .f32 wd) s) w) := by
  obtain ⟨i0, hi0, hz0, hz1, hz2⟩ := info_parts (P := Try.prog) (e := 23) (z := Value.float .f32 0) (size := 1) (bytes := 4) (by kernel_rfl)
  have HV := hid hv
  obtain ⟨ao, cap, b, off, rfl, hao, hl, hm, hc⟩ := hv
  simp only [List.length_map] at hl HV hao ⊢
  unfold maxLen at hm
  have HC := hid hc; clear hc
  have HA := hid hao; clear hao
  cases g0 : cloudB xs
  · have HE := hid (moved_fail (xs := xs) (d := ab .f32 d) (wd := ab .f32 wd) (s := s) (by simp [movedOk, g0]))
    have G0 := hid g0; clear g0
    go_enter Try.func20, Try.ntmps20
    go_wp2_with (at_make; refine wpList_make_full _ rfl _ _ 22 rfl w.heap.size 23 i0 (Value.float .f32 0) 1 Try.underlying22 hi0 hz0 hz1 _ _ _ _ xs.length rfl rfl rfl rfl (by rw [hz2]; omega) (by simp only [maxLen]; omega) (Nat.le_refl _) ?_; intro w1 hown hgrow)
    have hb1 : Below w.heap.size w w1 := wrote_below (u := .slice none 0 0) hgrow (by simp [Value.ownBlock]) (Nat.le_refl _)
    have HO := hid (show RowAt w1 (.slice (some ⟨w.heap.size, 0, none⟩) xs.length xs.length) ((List.replicate xs.length 0).map (Value.float .f32)) from by
      have h := hown
      simp only [Nat.mul_one] at h
      rw [show (Value.float .f32 0).cells = #[Value.float .f32 0] from rfl, toList_madeCells_one] at h
      have h2 : (List.replicate xs.length (Value.float .f32 0)) = (List.replicate xs.length 0).map (Value.float .f32) := by simp
      rw [h2] at h
      exact (Own.mk' (by simpa using h)).row)
    clear hown hgrow
    refine (areParticles_any _ _ xs (List.replicate xs.length 0) _ (HV.out.below hb1) HO.out).mono ?_
    rw [partsB_zero, G0.out]
    rintro e w' ⟨rfl, hb⟩
    have hB : Below w1.heap.size w1 w' := below_trans (by (repeat (first | (with_reducible assumption) | (with_reducible apply below_refl) | (with_reducible apply below_alloc1) | (with_reducible apply below_drewN1) | (with_reducible apply below_drew1)))) hb
    have hC := (bcell hB).1
    clear hb
    go_wp2_with fail
    go_ret3
    exact frowNum_no HE.out.1 HE.out.2.1 HE.out.2.2 (below_trans hb1 (by assumption))
  have G0 := hid g0
  cases g1 : ([d, wd].all fun x => finB (ab .f32 x))
  · have HE := hid (moved_fail (xs := xs) (d := ab .f32 d) (wd := ab .f32 wd) (s := s) (by
      simp only [List.all_cons, List.all_nil, Bool.and_true, finB] at g1
      rw [movedOk, Bool.and_assoc (cloudB xs), g1]; simp))
    have G1 := hid g1; clear g1 g0
    go_enter Try.func20, Try.ntmps20
    go_wp2_with (at_make; refine wpList_make_full _ rfl _ _ 22 rfl w.heap.size 23 i0 (Value.float .f32 0) 1 Try.underlying22 hi0 hz0 hz1 _ _ _ _ xs.length rfl rfl rfl rfl (by rw [hz2]; omega) (by simp only [maxLen]; omega) (Nat.le_refl _) ?_; intro w1 hown hgrow)
    have hb1 : Below w.heap.size w w1 := wrote_below (u := .slice none 0 0) hgrow (by simp [Value.ownBlock]) (Nat.le_refl _)
    have HO := hid (show RowAt w1 (.slice (some ⟨w.heap.size, 0, none⟩) xs.length xs.length) ((List.replicate xs.length 0).map (Value.float .f32)) from by
      have h := hown
      simp only [Nat.mul_one] at h
      rw [show (Value.float .f32 0).cells = #[Value.float .f32 0] from rfl, toList_madeCells_one] at h
      have h2 : (List.replicate xs.length (Value.float .f32 0)) = (List.replicate xs.length 0).map (Value.float .f32) := by simp
      rw [h2] at h
      exact (Own.mk' (by simpa using h)).row)
    clear hown hgrow
    refine (areParticles_any _ _ xs (List.replicate xs.length 0) _ (HV.out.below hb1) HO.out).mono ?_
    rw [partsB_zero, G0.out]
    rintro e w' ⟨rfl, hb⟩
    have hB : Below w1.heap.size w1 w' := below_trans (by (repeat (first | (with_reducible assumption) | (with_reducible apply below_refl) | (with_reducible apply below_alloc1) | (with_reducible apply below_drewN1) | (with_reducible apply below_drew1)))) hb
    have hC := (bcell hB).1
    clear hb
    go_wp2_with (first | (go_at_call 34; refine (areFinite_any _ [d, wd] _ (rowAt_alloc _ _ [.float .f32 d, .float .f32 wd] (by simp [maxLen]))).mono ?_; rw [G1.out]; rintro e w' ⟨rfl, hb⟩; have hB : Below w1.heap.size w1 w' := below_trans (by (repeat (first | (with_reducible assumption) | (with_reducible apply below_refl) | (with_reducible apply below_alloc1) | (with_reducible apply below_drewN1) | (with_reducible apply below_drew1)))) hb; have hC := (bcell hB).1; clear hb))
    go_ret3
    exact frowNum_no HE.out.1 HE.out.2.1 HE.out.2.2 (below_trans hb1 (by assumption))
  have G1 := hid g1
  simp only [List.all_cons, List.all_nil, Bool.and_true, finB, Bool.and_eq_true] at g1
  cases g2 : inB s 0 4294967295
  · have HE := hid (moved_fail (xs := xs) (d := ab .f32 d) (wd := ab .f32 wd) (s := s) (by simp [movedOk, g2]))
    clear g1 g0
    go_enter Try.func20, Try.ntmps20
    go_wp2_with (at_make; refine wpList_make_full _ rfl _ _ 22 rfl w.heap.size 23 i0 (Value.float .f32 0) 1 Try.underlying22 hi0 hz0 hz1 _ _ _ _ xs.length rfl rfl rfl rfl (by rw [hz2]; omega) (by simp only [maxLen]; omega) (Nat.le_refl _) ?_; intro w1 hown hgrow)
    have hb1 : Below w.heap.size w w1 := wrote_below (u := .slice none 0 0) hgrow (by simp [Value.ownBlock]) (Nat.le_refl _)
    have HO := hid (show RowAt w1 (.slice (some ⟨w.heap.size, 0, none⟩) xs.length xs.length) ((List.replicate xs.length 0).map (Value.float .f32)) from by
      have h := hown
      simp only [Nat.mul_one] at h
      rw [show (Value.float .f32 0).cells = #[Value.float .f32 0] from rfl, toList_madeCells_one] at h
      have h2 : (List.replicate xs.length (Value.float .f32 0)) = (List.replicate xs.length 0).map (Value.float .f32) := by simp
      rw [h2] at h
      exact (Own.mk' (by simpa using h)).row)
    clear hown hgrow
    refine (areParticles_any _ _ xs (List.replicate xs.length 0) _ (HV.out.below hb1) HO.out).mono ?_
    rw [partsB_zero, G0.out]
    rintro e w' ⟨rfl, hb⟩
    have hB : Below w1.heap.size w1 w' := below_trans (by (repeat (first | (with_reducible assumption) | (with_reducible apply below_refl) | (with_reducible apply below_alloc1) | (with_reducible apply below_drewN1) | (with_reducible apply below_drew1)))) hb
    have hC := (bcell hB).1
    clear hb
    go_wp2_with (first | (go_at_call 34; refine (areFinite_any _ [d, wd] _ (rowAt_alloc _ _ [.float .f32 d, .float .f32 wd] (by simp [maxLen]))).mono ?_; rw [G1.out]; rintro e w' ⟨rfl, hb⟩; have hB : Below w1.heap.size w1 w' := below_trans (by (repeat (first | (with_reducible assumption) | (with_reducible apply below_refl) | (with_reducible apply below_alloc1) | (with_reducible apply below_drewN1) | (with_reducible apply below_drew1)))) hb; have hC := (bcell hB).1; clear hb) | (go_at_call 33; refine (isSeed_any _ _).mono ?_; rw [g2]; rintro e w' ⟨rfl, hb⟩; have hB : Below w1.heap.size w1 w' := below_trans (by (repeat (first | (with_reducible assumption) | (with_reducible apply below_refl) | (with_reducible apply below_alloc1) | (with_reducible apply below_drewN1) | (with_reducible apply below_drew1)))) hb; have hC := (bcell hB).1; clear hb))
    go_ret3
    exact frowNum_no HE.out.1 HE.out.2.1 HE.out.2.2 (below_trans hb1 (by assumption))
  have HALL := hid (show movedAll xs (ab .f32 d) (ab .f32 wd) s = finL (movedL (ab .f32 d) (ab .f32 wd) s xs xs.length) by simp [movedAll, movedOk, g0, g1.1, g1.2, g2])
  obtain ⟨l1, l2, _⟩ := cloudB_true g0
  have hs := inB_true g2
  clear g1 g0
  go_enter Try.func20, Try.ntmps20
  go_wp2_with (at_make; refine wpList_make_full _ rfl _ _ 22 rfl w.heap.size 23 i0 (Value.float .f32 0) 1 Try.underlying22 hi0 hz0 hz1 _ _ _ _ xs.length rfl rfl rfl rfl (by rw [hz2]; omega) (by simp only [maxLen]; omega) (Nat.le_refl _) ?_; intro w1 hown hgrow)
  have hb1 : Below w.heap.size w w1 := wrote_below (u := .slice none 0 0) hgrow (by simp [Value.ownBlock]) (Nat.le_refl _)
  have HO := hid (show RowAt w1 (.slice (some ⟨w.heap.size, 0, none⟩) xs.length xs.length) ((List.replicate xs.length 0).map (Value.float .f32)) from by
    have h := hown
    simp only [Nat.mul_one] at h
    rw [show (Value.float .f32 0).cells = #[Value.float .f32 0] from rfl, toList_madeCells_one] at h
    have h2 : (List.replicate xs.length (Value.float .f32 0)) = (List.replicate xs.length 0).map (Value.float .f32) := by simp
    rw [h2] at h
    exact (Own.mk' (by simpa using h)).row)
  clear hown hgrow
  refine (areParticles_any _ _ xs (List.replicate xs.length 0) _ (HV.out.below hb1) HO.out).mono ?_
  rw [partsB_zero, G0.out]
  rintro e w' ⟨rfl, hb⟩
  have hB : Below w1.heap.size w1 w' := below_trans (by (repeat (first | (with_reducible assumption) | (with_reducible apply below_refl) | (with_reducible apply below_alloc1) | (with_reducible apply below_drewN1) | (with_reducible apply below_drew1)))) hb
  have hC := (bcell hB).1
  clear hb
  have hlo1 := hb1.size
  go_wp2_with (first | (go_at_call 34; refine (areFinite_any _ [d, wd] _ (rowAt_alloc _ _ [.float .f32 d, .float .f32 wd] (by simp [maxLen]))).mono ?_; rw [G1.out]; rintro e w' ⟨rfl, hb⟩; have hB : Below w1.heap.size w1 w' := below_trans (by (repeat (first | (with_reducible assumption) | (with_reducible apply below_refl) | (with_reducible apply below_alloc1) | (with_reducible apply below_drewN1) | (with_reducible apply below_drew1)))) hb; have hC := (bcell hB).1; clear hb) | (go_at_call 33; refine (isSeed_any _ _).mono ?_; rw [g2]; rintro e w' ⟨rfl, hb⟩; have hB : Below w1.heap.size w1 w' := below_trans (by (repeat (first | (with_reducible assumption) | (with_reducible apply below_refl) | (with_reducible apply below_alloc1) | (with_reducible apply below_drewN1) | (with_reducible apply below_drew1)))) hb; have hC := (bcell hB).1; clear hb))
  have hsz := (show Below w1.heap.size w1 _ from by assumption).size
  go_loopw [3, 11, 37] (fun x v y wr => ∃ (k : Nat) (ys : List Nat), k ≤ xs.length ∧ y = .int .i64 k ∧ x = .int .i64 (seedAt s (4 * k)) ∧ Hid (ys.map (ab .f32) = movedL (ab .f32 d) (ab .f32 wd) s xs k) ∧ Hid (wr.ownsRow w1.heap.size 23 1 v (ys.map (Value.float .f32)).length (ys.map (Value.float .f32))) ∧ Below w1.heap.size w1 wr) (fun _ _ y _ => xs.length - (intOf y).toNat)
  case atStart => exact ⟨0, [], by omega, rfl, rfl, hid rfl, hid (World.ownsRow_made _ #[] 0 hsz (by simp [maxLen]) rfl), by (repeat (first | (with_reducible assumption) | (with_reducible apply below_refl) | (with_reducible apply below_alloc1) | (with_reducible apply below_drewN1) | (with_reducible apply below_drew1)))⟩
  case round =>
      obtain ⟨k, ys, hk, rfl, rfl, hx, ho, hv1⟩ := hrel
      have hw := below_trans hb1 hv1
      have hlen : ys.length = k := by have := congrArg List.length hx.out; simpa [movedL_len] using this
      have HLEN := hid hlen; clear hlen
      by_cases hlt : k < xs.length
      · obtain rfl := HA.out (by omega)
        have hcell := rowc HC.out hw k hlt
        have hgd := getD_atM xs k hlt
        have hC1 := (bcell hw).1
        have H4 := hid (seedAt_four s k)
        generalize xs[k] = y at hcell hgd
        have HG := hid hgd; clear hgd
        go_wp2_with (first
          | (go_at_call 46; refine (drawWide_any _ (seedAt_bd s hs (4 * k)) _).mono ?_; rintro e w' ⟨q, rfl, hq, hb⟩; have hB : Below wr.heap.size wr w' := below_trans (by (repeat (first | (with_reducible assumption) | (with_reducible apply below_refl) | (with_reducible apply below_alloc1) | (with_reducible apply below_drewN1) | (with_reducible apply below_drew1)))) hb; have hC := (bcell hB).1; clear hb)
          | (refine upon_float rfl ?_; intro r n hr; go_simp)
          | (at_builtin; refine wpList_push rfl _ _ 22 rfl Try.underlying22 hi0 hz0 hz1 hz2 rfl w1.heap.size _ _ rfl rfl (ownsRow_below ho.out (by (repeat (first | (with_reducible assumption) | (with_reducible apply below_refl) | (with_reducible apply below_alloc1) | (with_reducible apply below_drewN1) | (with_reducible apply below_drew1))))) rfl (by rw [List.length_map, HLEN.out]; omega) (by decide) (Nat.le_trans hv1.size (Below.size (show Below wr.heap.size wr _ by (repeat (first | (with_reducible assumption) | (with_reducible apply below_refl) | (with_reducible apply below_alloc1) | (with_reducible apply below_drewN1) | (with_reducible apply below_drew1)))))) ?_; intro v1 w2 hown hb2))
        go_roundw
        case rel =>
          have hv : ab .f32 r = movedX (ab .f32 d) (ab .f32 wd) s xs k := by simp only [*, movedX, HG.out]
          refine ⟨k + 1, ys ++ [r], by omega, by go_num, by rw [H4.out], hid ?_, hid (by rw [fl_vals]; exact hown), (below_trans hv1 (by (repeat (first | (with_reducible assumption) | (with_reducible apply below_refl) | (with_reducible apply below_alloc1) | (with_reducible apply below_drewN1) | (with_reducible apply below_drew1))))).trans hb2⟩
          rw [movedL_next]
          exact fl_push hx.out hv
        case measure => simp [intOf]; omega
      · obtain rfl : k = xs.length := by omega
        cases hfin : finL (movedL (ab .f32 d) (ab .f32 wd) s xs xs.length)
        · have HE := hid (moved_no (xs := xs) (d := ab .f32 d) (wd := ab .f32 wd) (s := s) (by rw [HALL.out, hfin]))
          have HE3 := hid (HALL.out.trans hfin)
          have HF := hid (show (ys.all fun b => finB (ab .f32 b)) = false by rw [finL_map, hx.out, hfin])
          clear hfin
          go_wp2_with (go_at_call 34; refine (areFinite_any _ ys _ (Own.mk' ho.out).row).mono ?_; rw [HF.out]; rintro e w' ⟨rfl, hb⟩; have hB : Below wr.heap.size wr w' := below_trans (by (repeat (first | (with_reducible assumption) | (with_reducible apply below_refl) | (with_reducible apply below_alloc1) | (with_reducible apply below_drewN1) | (with_reducible apply below_drew1)))) hb; have hC := (bcell hB).1; clear hb)
          go_ret3
          exact frowNum_no HE.out.1 HE.out.2 HE3.out (below_trans hw (by assumption))
        · have HE := hid (moved_yes (xs := xs) (d := ab .f32 d) (wd := ab .f32 wd) (s := s) (by rw [HALL.out, hfin]))
          have HE3 := hid (HALL.out.trans hfin)
          have HF := hid (show (ys.all fun b => finB (ab .f32 b)) = true by rw [finL_map, hx.out, hfin])
          have HX := hid (show ys = bitsOf (movedL (ab .f32 d) (ab .f32 wd) s xs xs.length) from ab_bits _ _ hx.out hfin)
          clear hfin
          go_wp2_with (first | (go_at_call 34; refine (areFinite_any _ ys _ (Own.mk' ho.out).row).mono ?_; rw [HF.out]; rintro e w' ⟨rfl, hb⟩; have hB : Below wr.heap.size wr w' := below_trans (by (repeat (first | (with_reducible assumption) | (with_reducible apply below_refl) | (with_reducible apply below_alloc1) | (with_reducible apply below_drewN1) | (with_reducible apply below_drew1)))) hb; have hC := (bcell hB).1; clear hb))
          go_ret3
          exact frowNum_yes (by rw [HE.out.2]) HE3.out (by rw [HE.out.1, ← HX.out]; exact ownsRow_low (ownsRow_below ho.out (by (repeat (first | (with_reducible assumption) | (with_reducible apply below_refl) | (with_reducible apply below_alloc1) | (with_reducible apply below_drewN1) | (with_reducible apply below_drew1))))) hlo1) (below_trans hw (by (repeat (first | (with_reducible assumption) | (with_reducible apply below_refl) | (with_reducible apply below_alloc1) | (with_reducible apply below_drewN1) | (with_reducible apply below_drew1)))))
end Go.Proofs.Ytdldlfefbeflcaa
