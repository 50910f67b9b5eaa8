/- Contracts: PathLine, the reference's. -/
import Derived.Test.YtkaeohlakeliiaaLine
namespace Go.Proofs.Ytkaeohlakeliiaa
open Go.RowKit

theorem specFin_at (x : Nat) {a : Option Nat} {r : Bool} (h1 : ab .f32 x = a) (h : finite32 a = r) (w : World) :
    Calls Try.prog 64 #[.float .f32 x] w fun e w' => e = .returned (.bool r) ∧ Below w.heap.size w w' := by
  subst h1; subst h; exact specFinite_any x w

set_option maxRecDepth 100000 in
set_option maxHeartbeats 2000000 in
theorem l05Line_any (v u : Value) (xs ys : List Nat) (w : World) (hv : RowAt w v (xs.map (Value.float .f32))) (hu : RowAt w u (ys.map (Value.float .f32))) :
    Calls Try.prog 85 #[v, u] w (Num3Ok (lnRaw xs ys) w) := by
  have HV := hid hv
  have HU := hid hu
  obtain ⟨ao, cap, b, off, rfl, hao, hl, hm, hc⟩ := hv
  obtain ⟨ao', cap', b', off', rfl, hao', hl', hm', hc'⟩ := hu
  simp only [List.length_map] at hl HV hl' HU hao hao' ⊢
  unfold maxLen at hm hm'
  have HC := hid hc; have HA := hid hao; have HC' := hid hc'; have HA' := hid hao'
  clear hc hao hc' hao'
  by_cases h1 : 2 ≤ xs.length
  rotate_left
  · have HM := hid (lnRaw_no (xs := xs) (ys := ys) (by simp [lnOk, pathB, h1]))
    have h1' : (xs.length : Int) < 2 := by omega
    go_enter Try.func85, Try.ntmps85
    go_wp2_with fail
    (try simp only [Exit.inBlock, Exit.then]); refine bodyPost_ret (results_four rfl _ _ _) rfl ?_
    exact num3_no HM.out (by (repeat (first | (with_reducible assumption) | (with_reducible apply below_refl) | (with_reducible apply below_alloc1) | (with_reducible apply below_drewN1) | (with_reducible apply below_drew1))))
  have h1' : ¬ (xs.length : Int) < 2 := by omega
  by_cases h2 : xs.length ≤ 48
  rotate_left
  · have HM := hid (lnRaw_no (xs := xs) (ys := ys) (by simp [lnOk, pathB, h2]))
    have h2' : (48 : Int) < (xs.length : Int) := by omega
    go_enter Try.func85, Try.ntmps85
    go_wp2_with fail
    (try simp only [Exit.inBlock, Exit.then]); refine bodyPost_ret (results_four rfl _ _ _) rfl ?_
    exact num3_no HM.out (by (repeat (first | (with_reducible assumption) | (with_reducible apply below_refl) | (with_reducible apply below_alloc1) | (with_reducible apply below_drewN1) | (with_reducible apply below_drew1))))
  have h2' : ¬ (48 : Int) < (xs.length : Int) := by omega
  by_cases h3 : ys.length = xs.length
  rotate_left
  · have HM := hid (lnRaw_no (xs := xs) (ys := ys) (by simp [lnOk, pathB, h3]))
    have h3' : ((ys.length : Int) != (xs.length : Int)) = true := by simp; omega
    have h3'' : ((ys.length : Int) == (xs.length : Int)) = false := by simp; omega
    clear h3
    go_enter Try.func85, Try.ntmps85
    go_wp2_with fail
    (try simp only [Exit.inBlock, Exit.then]); refine bodyPost_ret (results_four rfl _ _ _) rfl ?_
    exact num3_no HM.out (by (repeat (first | (with_reducible assumption) | (with_reducible apply below_refl) | (with_reducible apply below_alloc1) | (with_reducible apply below_drewN1) | (with_reducible apply below_drew1))))
  have HL3 := hid h3
  have h3' : ((ys.length : Int) != (xs.length : Int)) = false := by simp; omega
  have h3'' : ((ys.length : Int) == (xs.length : Int)) = true := by simp; omega
  cases g1 : (xs.all fun b => finB (ab .f32 b))
  · have HM := hid (lnRaw_no (xs := xs) (ys := ys) (by simp only [lnOk, pathB, g1, Bool.and_false, Bool.false_and]))
    have G1 := hid g1; clear g1 h3
    go_enter Try.func85, Try.ntmps85
    go_wp2_with (first | (go_at_call 68; (with_reducible refine (l02Finite_any _ xs _ (HV.out.below (by (repeat (first | (with_reducible assumption) | (with_reducible apply below_refl) | (with_reducible apply below_alloc1) | (with_reducible apply below_drewN1) | (with_reducible apply below_drew1)))))).mono ?_); rw [G1.out]; rintro e w' ⟨rfl, hb⟩; have hB : Below w.heap.size w w' := below_trans (by (repeat (first | (with_reducible assumption) | (with_reducible apply below_refl) | (with_reducible apply below_alloc1) | (with_reducible apply below_drewN1) | (with_reducible apply below_drew1)))) hb; have hC := (bcell hB).1; clear hb))
    (try simp only [Exit.inBlock, Exit.then]); refine bodyPost_ret (results_four rfl _ _ _) rfl ?_
    exact num3_no HM.out (by assumption)
  have G1 := hid g1
  cases g2 : (ys.all fun b => finB (ab .f32 b))
  · have HM := hid (lnRaw_no (xs := xs) (ys := ys) (by simp only [lnOk, pathB, g2, Bool.and_false, Bool.false_and]))
    have G2 := hid g2; clear g1 g2 h3
    go_enter Try.func85, Try.ntmps85
    go_wp2_with (first | (go_at_call 68; (with_reducible refine (l02Finite_any _ xs _ (HV.out.below (by (repeat (first | (with_reducible assumption) | (with_reducible apply below_refl) | (with_reducible apply below_alloc1) | (with_reducible apply below_drewN1) | (with_reducible apply below_drew1)))))).mono ?_); rw [G1.out]; rintro e w' ⟨rfl, hb⟩; have hB : Below w.heap.size w w' := below_trans (by (repeat (first | (with_reducible assumption) | (with_reducible apply below_refl) | (with_reducible apply below_alloc1) | (with_reducible apply below_drewN1) | (with_reducible apply below_drew1)))) hb; have hC := (bcell hB).1; clear hb) | (go_at_call 68; (with_reducible refine (l02Finite_any _ ys _ (HU.out.below (by (repeat (first | (with_reducible assumption) | (with_reducible apply below_refl) | (with_reducible apply below_alloc1) | (with_reducible apply below_drewN1) | (with_reducible apply below_drew1)))))).mono ?_); rw [G2.out]; rintro e w' ⟨rfl, hb⟩; have hB : Below w.heap.size w w' := below_trans (by (repeat (first | (with_reducible assumption) | (with_reducible apply below_refl) | (with_reducible apply below_alloc1) | (with_reducible apply below_drewN1) | (with_reducible apply below_drew1)))) hb; have hC := (bcell hB).1; clear hb))
    (try simp only [Exit.inBlock, Exit.then]); refine bodyPost_ret (results_four rfl _ _ _) rfl ?_
    exact num3_no HM.out (by assumption)
  have G2 := hid g2
  have HP := hid (show pathB xs ys = true by simp only [pathB, g1, g2, h1, h2, h3, decide_true, Bool.and_true])
  clear g1 g2 h3
  obtain rfl := HA.out (by omega)
  obtain rfl := HA'.out (by have := HL3.out; omega)
  go_enter Try.func85, Try.ntmps85
  go_wp2_with (first | (go_at_call 68; (with_reducible refine (l02Finite_any _ xs _ (HV.out.below (by (repeat (first | (with_reducible assumption) | (with_reducible apply below_refl) | (with_reducible apply below_alloc1) | (with_reducible apply below_drewN1) | (with_reducible apply below_drew1)))))).mono ?_); rw [G1.out]; rintro e w' ⟨rfl, hb⟩; have hB : Below w.heap.size w w' := below_trans (by (repeat (first | (with_reducible assumption) | (with_reducible apply below_refl) | (with_reducible apply below_alloc1) | (with_reducible apply below_drewN1) | (with_reducible apply below_drew1)))) hb; have hC := (bcell hB).1; clear hb) | (go_at_call 68; (with_reducible refine (l02Finite_any _ ys _ (HU.out.below (by (repeat (first | (with_reducible assumption) | (with_reducible apply below_refl) | (with_reducible apply below_alloc1) | (with_reducible apply below_drewN1) | (with_reducible apply below_drew1)))))).mono ?_); rw [G2.out]; rintro e w' ⟨rfl, hb⟩; have hB : Below w.heap.size w w' := below_trans (by (repeat (first | (with_reducible assumption) | (with_reducible apply below_refl) | (with_reducible apply below_alloc1) | (with_reducible apply below_drewN1) | (with_reducible apply below_drew1)))) hb; have hC := (bcell hB).1; clear hb))
  go_loopw [9, 10, 47] (fun x y i wr => ∃ (k : Nat) (p q : Nat), k ≤ xs.length ∧ i = .int .i64 k ∧ x = .float .f32 p ∧ y = .float .f32 q ∧ ab .f32 p = sumX xs k ∧ ab .f32 q = sumX ys k ∧ Below w.heap.size w wr) (fun _ _ i _ => xs.length - (intOf i).toNat)
  case atStart => exact ⟨0, 0, 0, Nat.zero_le _, rfl, rfl, rfl, ab_z32, ab_z32, by (repeat (first | (with_reducible assumption) | (with_reducible apply below_refl) | (with_reducible apply below_alloc1) | (with_reducible apply below_drewN1) | (with_reducible apply below_drew1)))⟩
  case round =>
    obtain ⟨k, p, q, hk, rfl, rfl, rfl, hp, hq, hw⟩ := hrel
    have hC1 := (bcell hw).1
    by_cases hlt : k < xs.length
    · have hn1 := sumX_next xs k
      have hn2 := sumX_next ys k
      have l3 := HL3.out
      have hlt2 : k < ys.length := by omega
      have hcell := rowc HC.out hw k hlt
      have hcell2 := rowc HC'.out hw k hlt2
      rw [atX_get hlt, ← hp] at hn1
      rw [atX_get hlt2, ← hq] at hn2
      have hltY : (k : Int) < (ys.length : Int) := by omega
      have HN1 := hid hn1; have HN2 := hid hn2
      clear hn1 hn2 hp hq l3
      generalize xs[k] = x at hcell HN1
      generalize ys[k] = y at hcell2 HN2
      go_wp2_with (first
        | (refine upon_float rfl ?_; intro r n hr; go_simp))
      go_roundw
      case rel => exact ⟨k + 1, _, _, by omega, by go_num, rfl, rfl, by rw [HN1.out]; simp only [*], by rw [HN2.out]; simp only [*], by (repeat (first | (with_reducible assumption) | (with_reducible apply below_refl) | (with_reducible apply below_alloc1) | (with_reducible apply below_drewN1) | (with_reducible apply below_drew1)))⟩
      case measure => simp [intOf]; omega
    · obtain rfl : k = xs.length := by omega
      have HPS := hid hp; have HQS := hid hq
      clear hp hq
      go_wp2_with (first
        | (refine upon_float rfl ?_; intro r n hr; go_simp))
      rename_i t0 nt ht _ _
      generalize r = v0 at hr ⊢
      have HT : Hid (ab .f32 t0 = lnT xs) := hid (by rw [ht, HPS.out, lnT, lnN, ab_ofInt])
      have HVV : Hid (ab .f32 v0 = lnV xs ys) := hid (by rw [hr, HQS.out, lnV, lnN, ab_ofInt])
      clear ht hr HPS HQS
      go_loopw [12, 13, 73] (fun x y i wr => ∃ (k : Nat) (p q : Nat), k ≤ xs.length ∧ i = .int .i64 k ∧ x = .float .f32 p ∧ y = .float .f32 q ∧ ab .f32 p = lnUp (ab .f32 t0) (ab .f32 v0) xs ys k ∧ ab .f32 q = lnDn (ab .f32 t0) xs k ∧ Below w.heap.size w wr) (fun _ _ i _ => xs.length - (intOf i).toNat)
      case atStart => exact ⟨0, 0, 0, Nat.zero_le _, rfl, rfl, rfl, ab_z32, ab_z32, by (repeat (first | (with_reducible assumption) | (with_reducible apply below_refl) | (with_reducible apply below_alloc1) | (with_reducible apply below_drewN1) | (with_reducible apply below_drew1)))⟩
      case round =>
        obtain ⟨k, p, q, hk, rfl, rfl, rfl, hp, hq, hw⟩ := hrel
        have hC1 := (bcell hw).1
        by_cases hlt : k < xs.length
        · have hnU := lnUp_next (ab .f32 t0) (ab .f32 v0) xs ys k
          have hnD := lnDn_next (ab .f32 t0) xs k
          have l3 := HL3.out
          have hlt2 : k < ys.length := by omega
          have hcell := rowc HC.out hw k hlt
          have hcell2 := rowc HC'.out hw k hlt2
          rw [atX_get hlt, ← hq] at hnD
          rw [atX_get hlt, atX_get hlt2, ← hp] at hnU
          have hltY : (k : Int) < (ys.length : Int) := by omega
          have HU2 := hid hnU; have HD2 := hid hnD
          clear hnU hnD hp hq l3
          generalize xs[k] = x at hcell HU2 HD2
          generalize ys[k] = y at hcell2 HU2
          go_wp2_with (first
            | (refine upon_float rfl ?_; intro r n hr; go_simp))
          go_roundw
          case rel => exact ⟨k + 1, _, _, by omega, by go_num, rfl, rfl, by rw [HU2.out]; simp only [*], by rw [HD2.out]; simp only [*], by (repeat (first | (with_reducible assumption) | (with_reducible apply below_refl) | (with_reducible apply below_alloc1) | (with_reducible apply below_drewN1) | (with_reducible apply below_drew1)))⟩
          case measure => simp [intOf]; omega
        · obtain rfl : k = xs.length := by omega
          have hD : lnD xs = ab .f32 q := by rw [hq, lnD, ← HT.out]
          have hS : lnS xs ys = fop .quo .f32 (ab .f32 p) (ab .f32 q) := by rw [lnS, hD, hp, ← HT.out, ← HVV.out]
          have HD := hid hD; have HS := hid hS
          clear hD hS hp hq
          cases hz : (ford .f32 (ab .f32 q) (some 0) == some .eq)
          rotate_left
          · have HM := hid (lnRaw_no (xs := xs) (ys := ys) (by rw [lnOk, HD.out, hz]; simp))
            go_wp2_with fail
            (try simp only [Exit.inBlock, Exit.then]); refine bodyPost_ret (results_four rfl _ _ _) rfl ?_
            exact num3_no HM.out (by (repeat (first | (with_reducible assumption) | (with_reducible apply below_refl) | (with_reducible apply below_alloc1) | (with_reducible apply below_drewN1) | (with_reducible apply below_drew1))))
          have HOK := hid (show lnOk xs ys = true by rw [lnOk, HD.out, hz, HP.out]; rfl)
          go_wp2_with (refine upon_float rfl ?_; intro r n hr; go_simp)
          rename_i s0 ns hs p0 np hp0 _ _
          generalize r = b0 at hr ⊢
          have HS2 := hid (HS.out.trans hs.symm)
          have HB2 : Hid (lnB xs ys = ab .f32 b0) := hid (by rw [lnB, HS2.out, ← HT.out, ← HVV.out, hr, hp0])
          clear hs hr hp0
          go_loopw [18, 110] (fun x i wr => ∃ (k : Nat) (p : Nat), k ≤ xs.length ∧ i = .int .i64 k ∧ x = .float .f32 p ∧ ab .f32 p = lnSq (ab .f32 b0) (ab .f32 s0) xs ys k ∧ Below w.heap.size w wr) (fun _ i _ => xs.length - (intOf i).toNat)
          case atStart => exact ⟨0, 0, Nat.zero_le _, rfl, rfl, ab_z32, by (repeat (first | (with_reducible assumption) | (with_reducible apply below_refl) | (with_reducible apply below_alloc1) | (with_reducible apply below_drewN1) | (with_reducible apply below_drew1)))⟩
          case round =>
            obtain ⟨k, z, hk, rfl, rfl, hz2, hw2⟩ := hrel
            have hC2 := (bcell hw2).1
            by_cases hlt : k < xs.length
            · have hnS := lnSq_next (ab .f32 b0) (ab .f32 s0) xs ys k
              have l3 := HL3.out
              have hlt2 : k < ys.length := by omega
              have hcell := rowc HC.out (below_refl w) k hlt
              have hcell2 := rowc HC'.out (below_refl w) k hlt2
              have hbl : b < w.heap.size := World.block_lt_of_cell? w _ hcell
              have hbl2 : b' < w.heap.size := World.block_lt_of_cell? w _ hcell2
              rw [atX_get hlt, atX_get hlt2, ← hz2] at hnS
              have hltY : (k : Int) < (ys.length : Int) := by omega
              have hltX : (k : Int) < (xs.length : Int) := by omega
              have hk0 : (0 : Int) ≤ (k : Int) := by omega
              have HN := hid hnS
              clear hnS hz2 l3
              generalize xs[k] = x at hcell HN
              generalize ys[k] = y at hcell2 HN
              obtain ⟨fe1, fe2, fe3, fe4⟩ := run_fres4 Try.prog
              obtain ⟨fa1, fa2, fa3, fa4⟩ := ab_fres4
              go_wp2_with (first
                | (go_region_held (fun w' => Below w.heap.size w w' ∧ ∀ b o, b < w.heap.size → w'.cell? ⟨b, o, none⟩ = w.cell? ⟨b, o, none⟩) (first | exact keep_next ‹_› ‹_› | exact keep_start | exact keep_drew ‹_› | exact keep_of (by (repeat (first | (with_reducible assumption) | (with_reducible apply below_refl) | (with_reducible apply below_alloc1) | (with_reducible apply below_drewN1) | (with_reducible apply below_drew1))))) (fail) <;> (rename_i hHeld; obtain ⟨hB, hC⟩ := hHeld)))
              all_goals
                go_roundw
                case rel => exact ⟨k + 1, _, by omega, by go_num, rfl, by rw [HN.out]; simp only [*], by (repeat (first | (with_reducible assumption) | (with_reducible apply below_refl) | (with_reducible apply below_alloc1) | (with_reducible apply below_drewN1) | (with_reducible apply below_drew1)))⟩
                case measure => simp [intOf]; omega
            · obtain rfl : k = xs.length := by omega
              have HQ2 : Hid (lnQ xs ys = fop .quo .f32 (ab .f32 z) (some (floatOfInt .f32 (xs.length : Int)))) := hid (by rw [lnQ, HB2.out, HS2.out, ← hz2]; rfl)
              clear hz2
              have HM := hid (lnRaw_yes (xs := xs) (ys := ys) HOK.out)
              cases fb : finite32 (lnB xs ys)
              · have HF : Hid (lnFin xs ys = false) := hid (by rw [lnFin, fb]; rfl)
                have FB := hid fb; clear fb
                go_wp2_with (first
                  | (go_at_call 64; (with_reducible refine (specFin_at _ HB2.out.symm FB.out _).mono ?_); rintro e w' ⟨rfl, hb⟩; have hB : Below w.heap.size w w' := below_trans (by (repeat (first | (with_reducible assumption) | (with_reducible apply below_refl) | (with_reducible apply below_alloc1) | (with_reducible apply below_drewN1) | (with_reducible apply below_drew1)))) hb; have hC := (bcell hB).1; clear hb)
                  | (refine upon_float rfl ?_; intro r n hr; go_simp))
                (try simp only [Exit.inBlock, Exit.then]); refine bodyPost_ret (results_four rfl _ _ _) rfl ?_
                exact ⟨_, _, _, by rw [HM.out, HF.out]; rfl, by rw [HM.out, HB2.out], by rw [HM.out, HS2.out], by rw [HM.out, HQ2.out]; simp only [*, ab_ofInt], by (repeat (first | (with_reducible assumption) | (with_reducible apply below_refl) | (with_reducible apply below_alloc1) | (with_reducible apply below_drewN1) | (with_reducible apply below_drew1)))⟩
              cases fs : finite32 (lnS xs ys)
              · have HF : Hid (lnFin xs ys = false) := hid (by rw [lnFin, fb, fs]; rfl)
                have FB := hid fb; have FS := hid fs; clear fb fs
                go_wp2_with (first
                  | (go_at_call 64; (with_reducible refine (specFin_at _ HB2.out.symm FB.out _).mono ?_); rintro e w' ⟨rfl, hb⟩; have hB : Below w.heap.size w w' := below_trans (by (repeat (first | (with_reducible assumption) | (with_reducible apply below_refl) | (with_reducible apply below_alloc1) | (with_reducible apply below_drewN1) | (with_reducible apply below_drew1)))) hb; have hC := (bcell hB).1; clear hb)
                  | (go_at_call 64; (with_reducible refine (specFin_at _ HS2.out.symm FS.out _).mono ?_); rintro e w' ⟨rfl, hb⟩; have hB : Below w.heap.size w w' := below_trans (by (repeat (first | (with_reducible assumption) | (with_reducible apply below_refl) | (with_reducible apply below_alloc1) | (with_reducible apply below_drewN1) | (with_reducible apply below_drew1)))) hb; have hC := (bcell hB).1; clear hb)
                  | (refine upon_float rfl ?_; intro r n hr; go_simp))
                (try simp only [Exit.inBlock, Exit.then]); refine bodyPost_ret (results_four rfl _ _ _) rfl ?_
                exact ⟨_, _, _, by rw [HM.out, HF.out]; rfl, by rw [HM.out, HB2.out], by rw [HM.out, HS2.out], by rw [HM.out, HQ2.out]; simp only [*, ab_ofInt], by (repeat (first | (with_reducible assumption) | (with_reducible apply below_refl) | (with_reducible apply below_alloc1) | (with_reducible apply below_drewN1) | (with_reducible apply below_drew1)))⟩
              cases fq : finite32 (lnQ xs ys)
              all_goals
                have HF : Hid (lnFin xs ys = finite32 (lnQ xs ys)) := hid (by rw [lnFin, fb, fs]; rfl)
                rw [fq] at HF
                have FB := hid fb; have FS := hid fs; have FQ := hid fq; clear fb fs fq
                go_wp2_with (first
                  | (go_at_call 64; (with_reducible refine (specFin_at _ HB2.out.symm FB.out _).mono ?_); rintro e w' ⟨rfl, hb⟩; have hB : Below w.heap.size w w' := below_trans (by (repeat (first | (with_reducible assumption) | (with_reducible apply below_refl) | (with_reducible apply below_alloc1) | (with_reducible apply below_drewN1) | (with_reducible apply below_drew1)))) hb; have hC := (bcell hB).1; clear hb)
                  | (go_at_call 64; (with_reducible refine (specFin_at _ HS2.out.symm FS.out _).mono ?_); rintro e w' ⟨rfl, hb⟩; have hB : Below w.heap.size w w' := below_trans (by (repeat (first | (with_reducible assumption) | (with_reducible apply below_refl) | (with_reducible apply below_alloc1) | (with_reducible apply below_drewN1) | (with_reducible apply below_drew1)))) hb; have hC := (bcell hB).1; clear hb)
                  | (go_at_call 64; refine (specFin_at _ (by rw [HQ2.out]; simp only [*, ab_ofInt]) FQ.out _).mono ?_; rintro e w' ⟨rfl, hb⟩; have hB : Below w.heap.size w w' := below_trans (by (repeat (first | (with_reducible assumption) | (with_reducible apply below_refl) | (with_reducible apply below_alloc1) | (with_reducible apply below_drewN1) | (with_reducible apply below_drew1)))) hb; have hC := (bcell hB).1; clear hb)
                  | (refine upon_float rfl ?_; intro r n hr; go_simp))
                (try simp only [Exit.inBlock, Exit.then]); refine bodyPost_ret (results_four rfl _ _ _) rfl ?_
                exact ⟨_, _, _, by rw [HM.out, HF.out]; rfl, by rw [HM.out, HB2.out], by rw [HM.out, HS2.out], by rw [HM.out, HQ2.out]; simp only [*, ab_ofInt], by (repeat (first | (with_reducible assumption) | (with_reducible apply below_refl) | (with_reducible apply below_alloc1) | (with_reducible apply below_drewN1) | (with_reducible apply below_drew1)))⟩
set_option maxRecDepth 100000 in
set_option maxHeartbeats 2000000 in
theorem specLine_any (v u : Value) (xs ys : List Nat) (w : World) (hv : RowAt w v (xs.map (Value.float .f32))) (hu : RowAt w u (ys.map (Value.float .f32))) :
    Calls Try.prog 25 #[v, u] w (Num3Ok (lnM xs ys) w) := by
  have HV := hid hv
  have HU := hid hu
  obtain ⟨ao, cap, b, off, rfl, -, -, -, -⟩ := hv
  obtain ⟨ao', cap', b', off', rfl, -, -, -, -⟩ := hu
  simp only [List.length_map] at HV HU ⊢
  cases h : (lnRaw xs ys).2
  · have HM := hid (lnM_no h)
    have HR := hid h; clear h
    go_enter Try.func25, Try.ntmps25
    go_wp2_with (go_at_call 85; refine (l05Line_any _ _ xs ys _ HV.out HU.out).mono ?_; rintro e w' ⟨x, y, z, rfl, hx, hy, hz, hb⟩; rw [HR.out])
    (try simp only [Exit.inBlock, Exit.then]); refine bodyPost_ret (results_four rfl _ _ _) rfl ?_
    exact num3_no HM.out (by (repeat (first | (with_reducible assumption) | (with_reducible apply below_refl) | (with_reducible apply below_alloc1) | (with_reducible apply below_drewN1) | (with_reducible apply below_drew1))))
  · have HM := hid (lnM_yes h)
    have HR := hid h; clear h
    go_enter Try.func25, Try.ntmps25
    go_wp2_with (go_at_call 85; refine (l05Line_any _ _ xs ys _ HV.out HU.out).mono ?_; rintro e w' ⟨x, y, z, rfl, hx, hy, hz, hb⟩; rw [HR.out])
    (try simp only [Exit.inBlock, Exit.then]); refine bodyPost_ret (results_four rfl _ _ _) rfl ?_
    exact ⟨_, _, _, by rw [HM.out, HR.out]; rfl, by rw [HM.out]; exact hx, by rw [HM.out]; exact hy, by rw [HM.out]; exact hz, by (repeat (first | (with_reducible assumption) | (with_reducible apply below_refl) | (with_reducible apply below_alloc1) | (with_reducible apply below_drewN1) | (with_reducible apply below_drew1)))⟩
end Go.Proofs.Ytkaeohlakeliiaa
