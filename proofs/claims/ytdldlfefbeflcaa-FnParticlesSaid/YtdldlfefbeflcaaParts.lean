/- Contracts: Particles. -/
import Derived.Test.YtdldlfefbeflcaaSeed
import Derived.Test.YtdldlfefbeflcaaFL
import Derived.Test.YtdldlfefbeflcaaMag3
namespace Go.Proofs.Ytdldlfefbeflcaa
open Go.RowKit

def seedAt (s : Int) : Nat → Int
  | 0 => s
  | k + 1 => nextS (seedAt s k)
theorem seedAt_bd (s : Int) (h : 0 ≤ s ∧ s ≤ 4294967295) (k : Nat) : 0 ≤ seedAt s k ∧ seedAt s k ≤ 4294967295 := by
  cases k with
  | zero => exact h
  | succ k => exact nextS_bd _
def partX (lo hi : Option Nat) (s : Int) : Option Nat := fop .add .f32 lo (fop .mul .f32 (fop .sub .f32 hi lo) (shareS s))
def partL (lo hi : Option Nat) (s : Int) (k : Nat) : List (Option Nat) := (List.range k).map fun j => partX lo hi (seedAt s (j + 1))
theorem partL_next (lo hi : Option Nat) (s : Int) (k : Nat) : partL lo hi s (k + 1) = partL lo hi s k ++ [partX lo hi (nextS (seedAt s k))] := range_next _ _
theorem partL_len (lo hi : Option Nat) (s : Int) (k : Nat) : (partL lo hi s k).length = k := by simp [partL]
def partOk (n s : Int) (lo hi : Option Nat) : Bool := inB n 1 64 && inB s 0 4294967295 && finite32 lo && finite32 hi && !(ford .f32 lo hi == some .gt)
def partAll (n s : Int) (lo hi : Option Nat) : Bool := partOk n s lo hi && finL (partL lo hi s n.toNat)
def partXs (n s : Int) (lo hi : Option Nat) : List Nat := if partAll n s lo hi then bitsOf (partL lo hi s n.toNat) else []
def partS (n s : Int) (lo hi : Option Nat) : Int := if partAll n s lo hi then seedAt s n.toNat else 0
theorem part_no {n s : Int} {lo hi : Option Nat} (h : partAll n s lo hi = false) : partXs n s lo hi = [] ∧ partS n s lo hi = 0 := by simp [partXs, partS, h]
theorem part_yes {n s : Int} {lo hi : Option Nat} (h : partAll n s lo hi = true) : partXs n s lo hi = bitsOf (partL lo hi s n.toNat) ∧ partS n s lo hi = seedAt s n.toNat := by simp [partXs, partS, h]
theorem partXs_len (n s : Int) (lo hi : Option Nat) : (partXs n s lo hi).length ≤ 64 := by
  cases h : partAll n s lo hi
  · rw [(part_no h).1]; simp
  · rw [(part_yes h).1]
    simp only [partAll, partOk, Bool.and_eq_true] at h
    have := inB_true h.1.1.1.1.1
    simp [bitsOf, partL_len]; omega

set_option maxHeartbeats 400000 in
theorem isSeed_any (s : Int) (w : World) :
    Calls Try.prog 33 #[.int .i64 s] w fun e w' => e = .returned (.bool (inB s 0 4294967295)) ∧ Below w.heap.size w w' := by
  go_enter Try.func33, Try.ntmps33
  go_wp2_with (go_at_call 32; refine (within_any _ _ _ _).mono ?_; rintro e w' ⟨rfl, hb⟩; have hB : Below w.heap.size w w' := below_trans (by (repeat (first | (with_reducible assumption) | (with_reducible apply below_refl) | (with_reducible apply below_alloc1) | (with_reducible apply below_drewN1) | (with_reducible apply below_drew1)))) hb; have hC := (bcell hB).1; clear hb)
  go_ret
  exact ⟨rfl, by assumption⟩
set_option maxHeartbeats 400000 in
theorem l05Seed_any (s : Int) (w : World) :
    Calls Try.prog 38 #[.int .i64 s] w fun e w' => e = .returned (.bool (inB s 0 4294967295)) ∧ Below w.heap.size w w' := by
  go_enter Try.func38, Try.ntmps38
  go_wp2_with (go_at_call 37; refine (l00In_any _ _ _ _).mono ?_; rintro e w' ⟨rfl, hb⟩; have hB : Below w.heap.size w w' := below_trans (by (repeat (first | (with_reducible assumption) | (with_reducible apply below_refl) | (with_reducible apply below_alloc1) | (with_reducible apply below_drewN1) | (with_reducible apply below_drew1)))) hb; have hC := (bcell hB).1; clear hb)
  go_ret
  exact ⟨rfl, by assumption⟩
set_option maxRecDepth 100000 in
set_option maxHeartbeats 2000000 in
theorem implParts_any (n s : Int) (lo hi : Nat) (w : World) :
    Calls Try.prog 13 #[.int .i64 n, .int .i64 s, .float .f32 lo, .float .f32 hi] w (FRowNumOk 23 (partXs n s (ab .f32 lo) (ab .f32 hi)) (partS n s (ab .f32 lo) (ab .f32 hi)) (partAll n s (ab .f32 lo) (ab .f32 hi)) w) := by
  obtain ⟨i0, hi0, hz0, hz1, hz2⟩ := info_parts (P := Try.prog) (e := 23) (z := Value.float .f32 0) (size := 1) (bytes := 4) (by kernel_rfl)
  cases hok : partOk n s (ab .f32 lo) (ab .f32 hi)
  · obtain ⟨e1, e2⟩ := part_no (n := n) (s := s) (lo := ab .f32 lo) (hi := ab .f32 hi) (by simp [partAll, hok])
    have e3 : partAll n s (ab .f32 lo) (ab .f32 hi) = false := by simp [partAll, hok]
    have HE1 := hid e1; have HE2 := hid e2; have HE3 := hid e3
    clear e1 e2 e3
    cases g1 : inB n 1 64
    · go_enter Try.func13, Try.ntmps13
      go_wp2_with (go_at_call 32; refine (within_any _ _ _ _).mono ?_; rw [g1]; rintro e w' ⟨rfl, hb⟩; have hB : Below w.heap.size w w' := below_trans (by (repeat (first | (with_reducible assumption) | (with_reducible apply below_refl) | (with_reducible apply below_alloc1) | (with_reducible apply below_drewN1) | (with_reducible apply below_drew1)))) hb; have hC := (bcell hB).1; clear hb)
      go_ret3
      exact frowNum_no HE1.out HE2.out HE3.out (by assumption)
    cases g2 : inB s 0 4294967295
    · go_enter Try.func13, Try.ntmps13
      go_wp2_with (first | (go_at_call 32; refine (within_any _ _ _ _).mono ?_; rw [g1]; rintro e w' ⟨rfl, hb⟩; have hB : Below w.heap.size w w' := below_trans (by (repeat (first | (with_reducible assumption) | (with_reducible apply below_refl) | (with_reducible apply below_alloc1) | (with_reducible apply below_drewN1) | (with_reducible apply below_drew1)))) hb; have hC := (bcell hB).1; clear hb) | (go_at_call 33; refine (isSeed_any _ _).mono ?_; rw [g2]; rintro e w' ⟨rfl, hb⟩; have hB : Below w.heap.size w w' := below_trans (by (repeat (first | (with_reducible assumption) | (with_reducible apply below_refl) | (with_reducible apply below_alloc1) | (with_reducible apply below_drewN1) | (with_reducible apply below_drew1)))) hb; have hC := (bcell hB).1; clear hb))
      go_ret3
      exact frowNum_no HE1.out HE2.out HE3.out (by assumption)
    cases g3 : ([lo, hi].all fun x => finB (ab .f32 x))
    · go_enter Try.func13, Try.ntmps13
      go_wp2_with (first | (go_at_call 32; refine (within_any _ _ _ _).mono ?_; rw [g1]; rintro e w' ⟨rfl, hb⟩; have hB : Below w.heap.size w w' := below_trans (by (repeat (first | (with_reducible assumption) | (with_reducible apply below_refl) | (with_reducible apply below_alloc1) | (with_reducible apply below_drewN1) | (with_reducible apply below_drew1)))) hb; have hC := (bcell hB).1; clear hb) | (go_at_call 33; refine (isSeed_any _ _).mono ?_; rw [g2]; rintro e w' ⟨rfl, hb⟩; have hB : Below w.heap.size w w' := below_trans (by (repeat (first | (with_reducible assumption) | (with_reducible apply below_refl) | (with_reducible apply below_alloc1) | (with_reducible apply below_drewN1) | (with_reducible apply below_drew1)))) hb; have hC := (bcell hB).1; clear hb) | (go_at_call 34; refine (areFinite_any _ [lo, hi] _ (rowAt_alloc _ _ [.float .f32 lo, .float .f32 hi] (by simp [maxLen]))).mono ?_; rw [g3]; rintro e w' ⟨rfl, hb⟩; have hB : Below w.heap.size w w' := below_trans (by (repeat (first | (with_reducible assumption) | (with_reducible apply below_refl) | (with_reducible apply below_alloc1) | (with_reducible apply below_drewN1) | (with_reducible apply below_drew1)))) hb; have hC := (bcell hB).1; clear hb))
      go_ret3
      exact frowNum_no HE1.out HE2.out HE3.out (by assumption)
    have g4 : (ford .f32 (ab .f32 lo) (ab .f32 hi) == some .gt) = true := by
      simp only [List.all_cons, List.all_nil, Bool.and_true, finB] at g3
      simp only [partOk, g1, g2, Bool.true_and] at hok
      rw [g3] at hok
      simpa using hok
    have G3 := hid g3; clear g3 hok
    go_enter Try.func13, Try.ntmps13
    go_wp2_with (first | (go_at_call 32; refine (within_any _ _ _ _).mono ?_; rw [g1]; rintro e w' ⟨rfl, hb⟩; have hB : Below w.heap.size w w' := below_trans (by (repeat (first | (with_reducible assumption) | (with_reducible apply below_refl) | (with_reducible apply below_alloc1) | (with_reducible apply below_drewN1) | (with_reducible apply below_drew1)))) hb; have hC := (bcell hB).1; clear hb) | (go_at_call 33; refine (isSeed_any _ _).mono ?_; rw [g2]; rintro e w' ⟨rfl, hb⟩; have hB : Below w.heap.size w w' := below_trans (by (repeat (first | (with_reducible assumption) | (with_reducible apply below_refl) | (with_reducible apply below_alloc1) | (with_reducible apply below_drewN1) | (with_reducible apply below_drew1)))) hb; have hC := (bcell hB).1; clear hb) | (go_at_call 34; refine (areFinite_any _ [lo, hi] _ (rowAt_alloc _ _ [.float .f32 lo, .float .f32 hi] (by simp [maxLen]))).mono ?_; rw [G3.out]; rintro e w' ⟨rfl, hb⟩; have hB : Below w.heap.size w w' := below_trans (by (repeat (first | (with_reducible assumption) | (with_reducible apply below_refl) | (with_reducible apply below_alloc1) | (with_reducible apply below_drewN1) | (with_reducible apply below_drew1)))) hb; have hC := (bcell hB).1; clear hb))
    go_ret3
    exact frowNum_no HE1.out HE2.out HE3.out (by assumption)
  · have hall : partAll n s (ab .f32 lo) (ab .f32 hi) = finL (partL (ab .f32 lo) (ab .f32 hi) s n.toNat) := by simp [partAll, hok]
    have hok' := hok
    simp only [partOk, Bool.and_eq_true] at hok'
    obtain ⟨⟨⟨⟨g1, g2⟩, g3⟩, g3'⟩, g4'⟩ := hok'
    have g4 : (ford .f32 (ab .f32 lo) (ab .f32 hi) == some .gt) = false := by simpa using g4'
    have G3 := hid (show ([lo, hi].all fun x => finB (ab .f32 x)) = true by simp [finB, g3, g3'])
    obtain ⟨n1, n2⟩ := inB_true g1
    have hs := inB_true g2
    have HALL := hid hall
    clear hall g3 g3' g4' hok
    go_enter Try.func13, Try.ntmps13
    go_wp2_with (first | (go_at_call 32; refine (within_any _ _ _ _).mono ?_; rw [g1]; rintro e w' ⟨rfl, hb⟩; have hB : Below w.heap.size w w' := below_trans (by (repeat (first | (with_reducible assumption) | (with_reducible apply below_refl) | (with_reducible apply below_alloc1) | (with_reducible apply below_drewN1) | (with_reducible apply below_drew1)))) hb; have hC := (bcell hB).1; clear hb) | (go_at_call 33; refine (isSeed_any _ _).mono ?_; rw [g2]; rintro e w' ⟨rfl, hb⟩; have hB : Below w.heap.size w w' := below_trans (by (repeat (first | (with_reducible assumption) | (with_reducible apply below_refl) | (with_reducible apply below_alloc1) | (with_reducible apply below_drewN1) | (with_reducible apply below_drew1)))) hb; have hC := (bcell hB).1; clear hb) | (go_at_call 34; refine (areFinite_any _ [lo, hi] _ (rowAt_alloc _ _ [.float .f32 lo, .float .f32 hi] (by simp [maxLen]))).mono ?_; rw [G3.out]; rintro e w' ⟨rfl, hb⟩; have hB : Below w.heap.size w w' := below_trans (by (repeat (first | (with_reducible assumption) | (with_reducible apply below_refl) | (with_reducible apply below_alloc1) | (with_reducible apply below_drewN1) | (with_reducible apply below_drew1)))) hb; have hC := (bcell hB).1; clear hb))
    have hsz := (show Below w.heap.size w _ from by assumption).size
    go_loopw [1, 11, 34] (fun x v y wr => ∃ (k : Nat) (xs : List Nat), (k : Int) ≤ n ∧ y = .int .i64 k ∧ x = .int .i64 (seedAt s k) ∧ Hid (xs.map (ab .f32) = partL (ab .f32 lo) (ab .f32 hi) s k) ∧ Hid (wr.ownsRow w.heap.size 23 1 v (xs.map (Value.float .f32)).length (xs.map (Value.float .f32))) ∧ Below w.heap.size w wr) (fun _ _ y _ => n.toNat - (intOf y).toNat)
    case atStart => exact ⟨0, [], by omega, rfl, rfl, hid rfl, hid (World.ownsRow_made _ #[] 0 hsz (by simp [maxLen]) rfl), by (repeat (first | (with_reducible assumption) | (with_reducible apply below_refl) | (with_reducible apply below_alloc1) | (with_reducible apply below_drewN1) | (with_reducible apply below_drew1)))⟩
    case round =>
      obtain ⟨k, xs, hk, rfl, rfl, hx, ho, hw⟩ := hrel
      have hlen : xs.length = k := by have := congrArg List.length hx.out; simpa [partL_len] using this
      have HLEN := hid hlen; clear hlen
      by_cases hlt : (k : Int) < n
      · have hC1 := (bcell hw).1
        go_wp2_with (first
          | (go_at_call 35; refine (nextSeed_any _ (seedAt_bd s hs k) _).mono ?_; rintro e w' ⟨rfl, hb⟩; have hB : Below wr.heap.size wr w' := below_trans (by (repeat (first | (with_reducible assumption) | (with_reducible apply below_refl) | (with_reducible apply below_alloc1) | (with_reducible apply below_drewN1) | (with_reducible apply below_drew1)))) hb; have hC := (bcell hB).1; clear hb)
          | (go_at_call 36; refine (drawShare_any _ (nextS_bd _) _).mono ?_; rintro e w' ⟨r, rfl, hr, hb⟩; have hB : Below wr.heap.size wr w' := below_trans (by (repeat (first | (with_reducible assumption) | (with_reducible apply below_refl) | (with_reducible apply below_alloc1) | (with_reducible apply below_drewN1) | (with_reducible apply below_drew1)))) hb; have hC := (bcell hB).1; clear hb)
          | (refine upon_float rfl ?_; intro r n hr; go_simp)
          | (at_builtin; refine wpList_push rfl _ _ 22 rfl Try.underlying22 hi0 hz0 hz1 hz2 rfl w.heap.size _ _ rfl rfl (ownsRow_below ho.out (by (repeat (first | (with_reducible assumption) | (with_reducible apply below_refl) | (with_reducible apply below_alloc1) | (with_reducible apply below_drewN1) | (with_reducible apply below_drew1))))) rfl (by rw [List.length_map, HLEN.out]; omega) (by decide) (Nat.le_trans hw.size (Below.size (show Below wr.heap.size wr _ by (repeat (first | (with_reducible assumption) | (with_reducible apply below_refl) | (with_reducible apply below_alloc1) | (with_reducible apply below_drewN1) | (with_reducible apply below_drew1)))))) ?_; intro v1 w2 hown hb2))
        go_roundw
        case rel =>
          refine ⟨k + 1, xs ++ [r], by omega, by go_num, rfl, hid ?_, hid (by rw [fl_vals]; exact hown), (below_trans hw (by (repeat (first | (with_reducible assumption) | (with_reducible apply below_refl) | (with_reducible apply below_alloc1) | (with_reducible apply below_drewN1) | (with_reducible apply below_drew1))))).trans hb2⟩
          rw [partL_next]
          exact fl_push hx.out (by simp only [*, partX])
        case measure => simp [intOf]; omega
      · have hk' : k = n.toNat := by omega
        have HK := hid hk'; clear hk'
        cases hfin : finL (partL (ab .f32 lo) (ab .f32 hi) s n.toNat)
        · have HE := hid (part_no (n := n) (s := s) (lo := ab .f32 lo) (hi := ab .f32 hi) (by rw [HALL.out, hfin]))
          have HE3 := hid (HALL.out.trans hfin)
          have HF := hid (show (xs.all fun b => finB (ab .f32 b)) = false by rw [finL_map, hx.out, HK.out, hfin])
          clear hfin
          go_wp2_with (go_at_call 34; refine (areFinite_any _ xs _ (Own.mk' ho.out).row).mono ?_; rw [HF.out]; rintro e w' ⟨rfl, hb⟩; have hB : Below wr.heap.size wr w' := below_trans (by (repeat (first | (with_reducible assumption) | (with_reducible apply below_refl) | (with_reducible apply below_alloc1) | (with_reducible apply below_drewN1) | (with_reducible apply below_drew1)))) hb; have hC := (bcell hB).1; clear hb)
          go_ret3
          exact frowNum_no HE.out.1 HE.out.2 HE3.out (below_trans hw (by assumption))
        · have HE := hid (part_yes (n := n) (s := s) (lo := ab .f32 lo) (hi := ab .f32 hi) (by rw [HALL.out, hfin]))
          have HE3 := hid (HALL.out.trans hfin)
          have HF := hid (show (xs.all fun b => finB (ab .f32 b)) = true by rw [finL_map, hx.out, HK.out, hfin])
          have HX := hid (show xs = bitsOf (partL (ab .f32 lo) (ab .f32 hi) s n.toNat) from ab_bits _ _ (by rw [hx.out, HK.out]) hfin)
          clear hfin
          go_wp2_with (go_at_call 34; refine (areFinite_any _ xs _ (Own.mk' ho.out).row).mono ?_; rw [HF.out]; rintro e w' ⟨rfl, hb⟩; have hB : Below wr.heap.size wr w' := below_trans (by (repeat (first | (with_reducible assumption) | (with_reducible apply below_refl) | (with_reducible apply below_alloc1) | (with_reducible apply below_drewN1) | (with_reducible apply below_drew1)))) hb; have hC := (bcell hB).1; clear hb)
          go_ret3
          exact frowNum_yes (by rw [HE.out.2, HK.out]) HE3.out (by rw [HE.out.1, ← HX.out]; exact ownsRow_below ho.out (by assumption)) (below_trans hw (by assumption))
set_option maxRecDepth 100000 in
set_option maxHeartbeats 2000000 in
theorem specParts_any (n s : Int) (lo hi : Nat) (w : World) :
    Calls Try.prog 14 #[.int .i64 n, .int .i64 s, .float .f32 lo, .float .f32 hi] w (FRowNumOk 23 (partXs n s (ab .f32 lo) (ab .f32 hi)) (partS n s (ab .f32 lo) (ab .f32 hi)) (partAll n s (ab .f32 lo) (ab .f32 hi)) w) := by
  obtain ⟨i0, hi0, hz0, hz1, hz2⟩ := info_parts (P := Try.prog) (e := 23) (z := Value.float .f32 0) (size := 1) (bytes := 4) (by kernel_rfl)
  cases hok : partOk n s (ab .f32 lo) (ab .f32 hi)
  · obtain ⟨e1, e2⟩ := part_no (n := n) (s := s) (lo := ab .f32 lo) (hi := ab .f32 hi) (by simp [partAll, hok])
    have e3 : partAll n s (ab .f32 lo) (ab .f32 hi) = false := by simp [partAll, hok]
    have HE1 := hid e1; have HE2 := hid e2; have HE3 := hid e3
    clear e1 e2 e3
    cases g1 : inB n 1 64
    · go_enter Try.func14, Try.ntmps14
      go_wp2_with (go_at_call 37; refine (l00In_any _ _ _ _).mono ?_; rw [g1]; rintro e w' ⟨rfl, hb⟩; have hB : Below w.heap.size w w' := below_trans (by (repeat (first | (with_reducible assumption) | (with_reducible apply below_refl) | (with_reducible apply below_alloc1) | (with_reducible apply below_drewN1) | (with_reducible apply below_drew1)))) hb; have hC := (bcell hB).1; clear hb)
      go_ret3
      exact frowNum_no HE1.out HE2.out HE3.out (by assumption)
    cases g2 : inB s 0 4294967295
    · go_enter Try.func14, Try.ntmps14
      go_wp2_with fail
      obtain ⟨w1, hw1⟩ : ∃ w1 : World, w1 = (w.alloc (Obj.cells #[.int .i64 s] 2)) := ⟨_, rfl⟩
      have hbx1 := hid (show Box w1 w.heap.size (.int .i64 s) by subst hw1; exact box_alloc _ _ _)
      have c0 := hbx1.out.1
      have f0 := hbx1.out.2
      rw [← hw1]
      have hb1 : Below w.heap.size w w1 := by subst hw1; exact below_alloc _ _
      have s0 : w1.heap.size = w.heap.size + 1 := by subst hw1; simp
      replace s0 := hid s0
      have s1 : w.heap.size < w1.heap.size := by have := s0.out; omega
      clear hw1
      go_wp2_with (first | (go_at_call 37; refine (l00In_any _ _ _ _).mono ?_; rw [g1]; rintro e w' ⟨rfl, hb⟩; have hB : Below w1.heap.size w1 w' := below_trans (by (repeat (first | (with_reducible assumption) | (with_reducible apply below_refl) | (with_reducible apply below_alloc1) | (with_reducible apply below_drewN1) | (with_reducible apply below_drew1)))) hb; have hC := (bcell hB).1; clear hb) | (go_at_call 38; refine (l05Seed_any _ _).mono ?_; rw [g2]; rintro e w' ⟨rfl, hb⟩; have hB : Below w1.heap.size w1 w' := below_trans (by (repeat (first | (with_reducible assumption) | (with_reducible apply below_refl) | (with_reducible apply below_alloc1) | (with_reducible apply below_drewN1) | (with_reducible apply below_drew1)))) hb; have hC := (bcell hB).1; clear hb))
      go_ret3
      exact frowNum_no HE1.out HE2.out HE3.out (below_trans hb1 (by assumption))
    cases g3 : finite32 (ab .f32 lo)
    · go_enter Try.func14, Try.ntmps14
      go_wp2_with fail
      obtain ⟨w1, hw1⟩ : ∃ w1 : World, w1 = (w.alloc (Obj.cells #[.int .i64 s] 2)) := ⟨_, rfl⟩
      have hbx1 := hid (show Box w1 w.heap.size (.int .i64 s) by subst hw1; exact box_alloc _ _ _)
      have c0 := hbx1.out.1
      have f0 := hbx1.out.2
      rw [← hw1]
      have hb1 : Below w.heap.size w w1 := by subst hw1; exact below_alloc _ _
      have s0 : w1.heap.size = w.heap.size + 1 := by subst hw1; simp
      replace s0 := hid s0
      have s1 : w.heap.size < w1.heap.size := by have := s0.out; omega
      clear hw1
      go_wp2_with (first | (go_at_call 37; refine (l00In_any _ _ _ _).mono ?_; rw [g1]; rintro e w' ⟨rfl, hb⟩; have hB : Below w1.heap.size w1 w' := below_trans (by (repeat (first | (with_reducible assumption) | (with_reducible apply below_refl) | (with_reducible apply below_alloc1) | (with_reducible apply below_drewN1) | (with_reducible apply below_drew1)))) hb; have hC := (bcell hB).1; clear hb) | (go_at_call 38; refine (l05Seed_any _ _).mono ?_; rw [g2]; rintro e w' ⟨rfl, hb⟩; have hB : Below w1.heap.size w1 w' := below_trans (by (repeat (first | (with_reducible assumption) | (with_reducible apply below_refl) | (with_reducible apply below_alloc1) | (with_reducible apply below_drewN1) | (with_reducible apply below_drew1)))) hb; have hC := (bcell hB).1; clear hb) | (go_at_call 23; refine (specFinite_any _ _).mono ?_; rw [g3]; rintro e w' ⟨rfl, hb⟩; have hB : Below w1.heap.size w1 w' := below_trans (by (repeat (first | (with_reducible assumption) | (with_reducible apply below_refl) | (with_reducible apply below_alloc1) | (with_reducible apply below_drewN1) | (with_reducible apply below_drew1)))) hb; have hC := (bcell hB).1; clear hb))
      go_ret3
      exact frowNum_no HE1.out HE2.out HE3.out (below_trans hb1 (by assumption))
    cases g4 : finite32 (ab .f32 hi)
    · go_enter Try.func14, Try.ntmps14
      go_wp2_with fail
      obtain ⟨w1, hw1⟩ : ∃ w1 : World, w1 = (w.alloc (Obj.cells #[.int .i64 s] 2)) := ⟨_, rfl⟩
      have hbx1 := hid (show Box w1 w.heap.size (.int .i64 s) by subst hw1; exact box_alloc _ _ _)
      have c0 := hbx1.out.1
      have f0 := hbx1.out.2
      rw [← hw1]
      have hb1 : Below w.heap.size w w1 := by subst hw1; exact below_alloc _ _
      have s0 : w1.heap.size = w.heap.size + 1 := by subst hw1; simp
      replace s0 := hid s0
      have s1 : w.heap.size < w1.heap.size := by have := s0.out; omega
      clear hw1
      go_wp2_with (first | (go_at_call 37; refine (l00In_any _ _ _ _).mono ?_; rw [g1]; rintro e w' ⟨rfl, hb⟩; have hB : Below w1.heap.size w1 w' := below_trans (by (repeat (first | (with_reducible assumption) | (with_reducible apply below_refl) | (with_reducible apply below_alloc1) | (with_reducible apply below_drewN1) | (with_reducible apply below_drew1)))) hb; have hC := (bcell hB).1; clear hb) | (go_at_call 38; refine (l05Seed_any _ _).mono ?_; rw [g2]; rintro e w' ⟨rfl, hb⟩; have hB : Below w1.heap.size w1 w' := below_trans (by (repeat (first | (with_reducible assumption) | (with_reducible apply below_refl) | (with_reducible apply below_alloc1) | (with_reducible apply below_drewN1) | (with_reducible apply below_drew1)))) hb; have hC := (bcell hB).1; clear hb) | (go_at_call 23; refine (specFinite_any _ _).mono ?_; (first | rw [g3] | rw [g4]); rintro e w' ⟨rfl, hb⟩; have hB : Below w1.heap.size w1 w' := below_trans (by (repeat (first | (with_reducible assumption) | (with_reducible apply below_refl) | (with_reducible apply below_alloc1) | (with_reducible apply below_drewN1) | (with_reducible apply below_drew1)))) hb; have hC := (bcell hB).1; clear hb))
      go_ret3
      exact frowNum_no HE1.out HE2.out HE3.out (below_trans hb1 (by assumption))
    have g5 : (ford .f32 (ab .f32 lo) (ab .f32 hi) == some .gt) = true := by
      simpa only [partOk, g1, g2, g3, g4, Bool.true_and, Bool.not_eq_false'] using hok
    have g6 : (ford .f32 (ab .f32 lo) (ab .f32 hi) == some .lt || ford .f32 (ab .f32 lo) (ab .f32 hi) == some .eq) = false := by
      simp only [beq_iff_eq] at g5
      rw [g5]; rfl
    clear g5 hok
    go_enter Try.func14, Try.ntmps14
    go_wp2_with fail
    obtain ⟨w1, hw1⟩ : ∃ w1 : World, w1 = (w.alloc (Obj.cells #[.int .i64 s] 2)) := ⟨_, rfl⟩
    have hbx1 := hid (show Box w1 w.heap.size (.int .i64 s) by subst hw1; exact box_alloc _ _ _)
    have c0 := hbx1.out.1
    have f0 := hbx1.out.2
    rw [← hw1]
    have hb1 : Below w.heap.size w w1 := by subst hw1; exact below_alloc _ _
    have s0 : w1.heap.size = w.heap.size + 1 := by subst hw1; simp
    replace s0 := hid s0
    have s1 : w.heap.size < w1.heap.size := by have := s0.out; omega
    clear hw1
    go_wp2_with (first | (go_at_call 37; refine (l00In_any _ _ _ _).mono ?_; rw [g1]; rintro e w' ⟨rfl, hb⟩; have hB : Below w1.heap.size w1 w' := below_trans (by (repeat (first | (with_reducible assumption) | (with_reducible apply below_refl) | (with_reducible apply below_alloc1) | (with_reducible apply below_drewN1) | (with_reducible apply below_drew1)))) hb; have hC := (bcell hB).1; clear hb) | (go_at_call 38; refine (l05Seed_any _ _).mono ?_; rw [g2]; rintro e w' ⟨rfl, hb⟩; have hB : Below w1.heap.size w1 w' := below_trans (by (repeat (first | (with_reducible assumption) | (with_reducible apply below_refl) | (with_reducible apply below_alloc1) | (with_reducible apply below_drewN1) | (with_reducible apply below_drew1)))) hb; have hC := (bcell hB).1; clear hb) | (go_at_call 23; refine (specFinite_any _ _).mono ?_; (first | rw [g3] | rw [g4]); rintro e w' ⟨rfl, hb⟩; have hB : Below w1.heap.size w1 w' := below_trans (by (repeat (first | (with_reducible assumption) | (with_reducible apply below_refl) | (with_reducible apply below_alloc1) | (with_reducible apply below_drewN1) | (with_reducible apply below_drew1)))) hb; have hC := (bcell hB).1; clear hb))
    go_ret3
    exact frowNum_no HE1.out HE2.out HE3.out (below_trans hb1 (by assumption))
  · have hall : partAll n s (ab .f32 lo) (ab .f32 hi) = finL (partL (ab .f32 lo) (ab .f32 hi) s n.toNat) := by simp [partAll, hok]
    have hok' := hok
    simp only [partOk, Bool.and_eq_true] at hok'
    obtain ⟨⟨⟨⟨g1, g2⟩, g3⟩, g4⟩, g5'⟩ := hok'
    obtain ⟨a1, ha1⟩ := isV_of_fin32 g3
    obtain ⟨a2, ha2⟩ := isV_of_fin32 g4
    have g6 : (ford .f32 (ab .f32 lo) (ab .f32 hi) == some .lt || ford .f32 (ab .f32 lo) (ab .f32 hi) == some .eq) = true := by
      rcases Int.lt_trichotomy a1 a2 with c | c | c
      · rw [ford_lt ha1 ha2 c]; rfl
      · rw [ford_eq ha1 ha2 c]; rfl
      · rw [ford_gt ha1 ha2 c] at g5'; simp at g5'
    obtain ⟨n1, n2⟩ := inB_true g1
    have hs := inB_true g2
    have HALL := hid hall
    clear hall g5' hok ha1 ha2
    go_enter Try.func14, Try.ntmps14
    go_wp2_with fail
    obtain ⟨w1, hw1⟩ : ∃ w1 : World, w1 = (w.alloc (Obj.cells #[.int .i64 s] 2)) := ⟨_, rfl⟩
    have hbx1 := hid (show Box w1 w.heap.size (.int .i64 s) by subst hw1; exact box_alloc _ _ _)
    have c0 := hbx1.out.1
    have f0 := hbx1.out.2
    rw [← hw1]
    have hb1 : Below w.heap.size w w1 := by subst hw1; exact below_alloc _ _
    have s0 : w1.heap.size = w.heap.size + 1 := by subst hw1; simp
    replace s0 := hid s0
    have s1 : w.heap.size < w1.heap.size := by have := s0.out; omega
    clear hw1
    go_wp2_with (first | (go_at_call 37; refine (l00In_any _ _ _ _).mono ?_; rw [g1]; rintro e w' ⟨rfl, hb⟩; have hB : Below w1.heap.size w1 w' := below_trans (by (repeat (first | (with_reducible assumption) | (with_reducible apply below_refl) | (with_reducible apply below_alloc1) | (with_reducible apply below_drewN1) | (with_reducible apply below_drew1)))) hb; have hC := (bcell hB).1; clear hb) | (go_at_call 38; refine (l05Seed_any _ _).mono ?_; rw [g2]; rintro e w' ⟨rfl, hb⟩; have hB : Below w1.heap.size w1 w' := below_trans (by (repeat (first | (with_reducible assumption) | (with_reducible apply below_refl) | (with_reducible apply below_alloc1) | (with_reducible apply below_drewN1) | (with_reducible apply below_drew1)))) hb; have hC := (bcell hB).1; clear hb) | (go_at_call 23; refine (specFinite_any _ _).mono ?_; (first | rw [g3] | rw [g4]); rintro e w' ⟨rfl, hb⟩; have hB : Below w1.heap.size w1 w' := below_trans (by (repeat (first | (with_reducible assumption) | (with_reducible apply below_refl) | (with_reducible apply below_alloc1) | (with_reducible apply below_drewN1) | (with_reducible apply below_drew1)))) hb; have hC := (bcell hB).1; clear hb))
    have hsz := (show Below w1.heap.size w1 _ from by assumption).size
    go_loopw [0, 11] (fun y v wr => ∃ (k : Nat) (xs : List Nat), (k : Int) ≤ n ∧ y = .int .i64 (n - k) ∧ Hid (Box wr w.heap.size (.int .i64 (seedAt s k))) ∧ Hid (xs.map (ab .f32) = partL (ab .f32 lo) (ab .f32 hi) s k) ∧ Hid (wr.ownsRow w1.heap.size 23 1 v (xs.map (Value.float .f32)).length (xs.map (Value.float .f32))) ∧ w1.heap.size ≤ wr.heap.size ∧ Below w.heap.size w wr) (fun y _ _ => (intOf y).toNat)
    case atStart => exact ⟨0, [], by omega, by simp, hid (hbx1.out.below (by (repeat (first | (with_reducible assumption) | (with_reducible apply below_refl) | (with_reducible apply below_alloc1) | (with_reducible apply below_drewN1) | (with_reducible apply below_drew1))))), hid rfl, hid (World.ownsRow_made _ #[] 0 hsz (by simp [maxLen]) rfl), (show Below w1.heap.size w1 _ by (repeat (first | (with_reducible assumption) | (with_reducible apply below_refl) | (with_reducible apply below_alloc1) | (with_reducible apply below_drewN1) | (with_reducible apply below_drew1)))).size, below_trans hb1 (by (repeat (first | (with_reducible assumption) | (with_reducible apply below_refl) | (with_reducible apply below_alloc1) | (with_reducible apply below_drewN1) | (with_reducible apply below_drew1))))⟩
    case round =>
      obtain ⟨k, xs, hk, rfl, hbx, hx, ho, hz, hw⟩ := hrel
      have hlen : xs.length = k := by have := congrArg List.length hx.out; simpa [partL_len] using this
      have HLEN := hid hlen; clear hlen
      have hlw := hw.size
      have hC1 := (bcell hw).1
      have c1 := hbx.out.1
      by_cases hlt : 0 < n - (k : Int)
      · have hlt2 := hbx.out.lt
        go_wp2_with (first
          | (refine upon_float rfl ?_; intro r n hr; go_simp)
          | (go_at_call 39; refine (l05Draw_any _ _ (seedAt_bd s hs k) _ (hbx.out.below (by (repeat (first | (with_reducible assumption) | (with_reducible apply below_refl) | (with_reducible apply below_alloc1) | (with_reducible apply below_drewN1) | (with_reducible apply below_drew1)))))).mono ?_; rintro e w' ⟨q, rfl, hq, hg, hbx'⟩; have hzq : w1.heap.size ≤ w'.heap.size := Nat.le_trans (Nat.le_trans hz (Below.size (show Below wr.heap.size wr _ by (repeat (first | (with_reducible assumption) | (with_reducible apply below_refl) | (with_reducible apply below_alloc1) | (with_reducible apply below_drewN1) | (with_reducible apply below_drew1)))))) hg.size; have hO := hid (ownsRow_box (ownsRow_below ho.out (show Below wr.heap.size wr _ by (repeat (first | (with_reducible assumption) | (with_reducible apply below_refl) | (with_reducible apply below_alloc1) | (with_reducible apply below_drewN1) | (with_reducible apply below_drew1))))) hg s1); have hW := below_box (below_trans hw (show Below wr.heap.size wr _ by (repeat (first | (with_reducible assumption) | (with_reducible apply below_refl) | (with_reducible apply below_alloc1) | (with_reducible apply below_drewN1) | (with_reducible apply below_drew1))))) hg (Nat.le_trans hlw (Below.size (show Below wr.heap.size wr _ by (repeat (first | (with_reducible assumption) | (with_reducible apply below_refl) | (with_reducible apply below_alloc1) | (with_reducible apply below_drewN1) | (with_reducible apply below_drew1)))))) (Nat.le_refl _); have HB := hid hbx'; clear hg hbx')
          | (at_builtin; refine wpList_push rfl _ _ 22 rfl Try.underlying22 hi0 hz0 hz1 hz2 rfl w1.heap.size _ _ rfl rfl (ownsRow_below hO.out (by (repeat (first | (with_reducible assumption) | (with_reducible apply below_refl) | (with_reducible apply below_alloc1) | (with_reducible apply below_drewN1) | (with_reducible apply below_drew1))))) rfl (by rw [List.length_map, HLEN.out]; omega) (by decide) (Nat.le_trans hzq (Below.size (show Below w'.heap.size w' _ by (repeat (first | (with_reducible assumption) | (with_reducible apply below_refl) | (with_reducible apply below_alloc1) | (with_reducible apply below_drewN1) | (with_reducible apply below_drew1)))))) ?_; intro v1 w2 hown hb2))
        go_roundw
        case rel =>
          refine ⟨k + 1, xs ++ [r], by omega, by go_num, hid ((HB.out.below (by (repeat (first | (with_reducible assumption) | (with_reducible apply below_refl) | (with_reducible apply below_alloc1) | (with_reducible apply below_drewN1) | (with_reducible apply below_drew1))))).keep hb2 s1), hid ?_, hid (by rw [fl_vals]; exact hown), Nat.le_trans (Nat.le_trans hzq (Below.size (show Below w'.heap.size w' _ by (repeat (first | (with_reducible assumption) | (with_reducible apply below_refl) | (with_reducible apply below_alloc1) | (with_reducible apply below_drewN1) | (with_reducible apply below_drew1)))))) hb2.size, ?_⟩
          · rw [partL_next]
            exact fl_push hx.out (by simp only [*, partX])
          · exact (below_trans hW (by (repeat (first | (with_reducible assumption) | (with_reducible apply below_refl) | (with_reducible apply below_alloc1) | (with_reducible apply below_drewN1) | (with_reducible apply below_drew1))))).trans (hb2.mono (Nat.le_of_lt s1))
        case measure => simp [intOf]; omega
      · have hk' : k = n.toNat := by omega
        have HK := hid hk'; clear hk'
        cases hfin : finL (partL (ab .f32 lo) (ab .f32 hi) s n.toNat)
        · have HE := hid (part_no (n := n) (s := s) (lo := ab .f32 lo) (hi := ab .f32 hi) (by rw [HALL.out, hfin]))
          have HE3 := hid (HALL.out.trans hfin)
          have HF := hid (show (xs.all fun b => finB (ab .f32 b)) = false by rw [finL_map, hx.out, HK.out, hfin])
          clear hfin
          go_wp2_with (go_at_call 24; refine (l02Finite_any _ xs _ (Own.mk' ho.out).row).mono ?_; rw [HF.out]; rintro e w' ⟨rfl, hb⟩; have hB : Below wr.heap.size wr w' := below_trans (by (repeat (first | (with_reducible assumption) | (with_reducible apply below_refl) | (with_reducible apply below_alloc1) | (with_reducible apply below_drewN1) | (with_reducible apply below_drew1)))) hb; have hC := (bcell hB).1; clear hb)
          go_ret3
          exact frowNum_no HE.out.1 HE.out.2 HE3.out (below_trans hw (by assumption))
        · have HE := hid (part_yes (n := n) (s := s) (lo := ab .f32 lo) (hi := ab .f32 hi) (by rw [HALL.out, hfin]))
          have HE3 := hid (HALL.out.trans hfin)
          have HF := hid (show (xs.all fun b => finB (ab .f32 b)) = true by rw [finL_map, hx.out, HK.out, hfin])
          have HX := hid (show xs = bitsOf (partL (ab .f32 lo) (ab .f32 hi) s n.toNat) from ab_bits _ _ (by rw [hx.out, HK.out]) hfin)
          have hlt2 := hbx.out.lt
          clear hfin
          go_wp2_with (first | (go_at_call 24; refine (l02Finite_any _ xs _ (Own.mk' ho.out).row).mono ?_; rw [HF.out]; rintro e w' ⟨rfl, hb⟩; have hB : Below wr.heap.size wr w' := below_trans (by (repeat (first | (with_reducible assumption) | (with_reducible apply below_refl) | (with_reducible apply below_alloc1) | (with_reducible apply below_drewN1) | (with_reducible apply below_drew1)))) hb; have hC := (bcell hB).1; clear hb) | go_quiet (fail))
          go_ret3
          exact frowNum_yes (by rw [HE.out.2, HK.out]) HE3.out (by rw [HE.out.1, ← HX.out]; exact ownsRow_low (ownsRow_below ho.out (by (repeat (first | (with_reducible assumption) | (with_reducible apply below_refl) | (with_reducible apply below_alloc1) | (with_reducible apply below_drewN1) | (with_reducible apply below_drew1))))) (Nat.le_of_lt s1)) (below_trans hw (by (repeat (first | (with_reducible assumption) | (with_reducible apply below_refl) | (with_reducible apply below_alloc1) | (with_reducible apply below_drewN1) | (with_reducible apply below_drew1)))))
end Go.Proofs.Ytdldlfefbeflcaa
