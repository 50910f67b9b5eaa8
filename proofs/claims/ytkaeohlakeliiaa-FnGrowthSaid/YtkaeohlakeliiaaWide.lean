/- Contracts: numbers about 0 that seeds tell; DriftWalk, MovedParticles. -/
import Derived.Test.YtkaeohlakeliiaaParts
namespace Go.Proofs.Ytkaeohlakeliiaa
open Go.RowKit

theorem ab_half : ab .f32 1056964608 = some 1056964608 := by decide
theorem ab_root3 : ab .f32 1071494103 = some 1071494103 := by decide
def wideAt (s : Int) : Nat → Option Nat
  | 0 => some 0
  | k + 1 => fop .add .f32 (wideAt s k) (fop .sub .f32 (shareS (nextS (seedAt s k))) (some 1056964608))
def wideS (s : Int) : Option Nat := fop .mul .f32 (wideAt s 4) (some 1071494103)
def FltNumOk (x : Option Nat) (n : Int) (w : World) (e : Ending) (w' : World) : Prop := ∃ r, e = .returned (.tuple #[.float .f32 r, .int .i64 n]) ∧ ab .f32 r = x ∧ Below w.heap.size w w'

set_option maxRecDepth 100000 in
set_option maxHeartbeats 800000 in
theorem drawWide_any (s : Int) (hs : 0 ≤ s ∧ s ≤ 4294967295) (w : World) :
    Calls Try.prog 63 #[.int .i64 s] w (FltNumOk (wideS s) (seedAt s 4) w) := by
  go_enter Try.func63, Try.ntmps63
  go_wp2_with fail
  go_loopw [0, 4, 5] (fun x y i wr => ∃ k r : Nat, k ≤ 4 ∧ i = .int .i64 k ∧ x = .int .i64 (seedAt s k) ∧ y = .float .f32 r ∧ Hid (ab .f32 r = wideAt s k) ∧ Below w.heap.size w wr) (fun _ _ i _ => 4 - (intOf i).toNat)
  case atStart => exact ⟨0, 0, by omega, rfl, rfl, rfl, hid ab_z32, below_refl _⟩
  case round =>
    obtain ⟨k, r0, hk, rfl, rfl, rfl, hx, hw⟩ := hrel
    by_cases hlt4 : k < 4
    · have hlt4' : (k : Int) < 4 := by omega
      go_wp2_with (first
        | (go_at_call 116; refine (nextSeed_any _ (seedAt_bd s hs k) _).mono ?_; rintro e w' ⟨rfl, hb⟩; have hB : Below w.heap.size w w' := below_trans (by (repeat (first | (with_reducible assumption) | (with_reducible apply below_refl) | (with_reducible apply below_alloc1) | (with_reducible apply below_drewN1) | (with_reducible apply below_drew1)))) hb; have hC := (bcell hB).1; clear hb)
        | (go_at_call 117; refine (drawShare_any _ (nextS_bd _) _).mono ?_; rintro e w' ⟨r, rfl, hr, hb⟩; have hB : Below w.heap.size w w' := below_trans (by (repeat (first | (with_reducible assumption) | (with_reducible apply below_refl) | (with_reducible apply below_alloc1) | (with_reducible apply below_drewN1) | (with_reducible apply below_drew1)))) hb; have hC := (bcell hB).1; clear hb)
        | (refine upon_float rfl ?_; intro r n hr; go_simp))
      go_roundw
      case rel => exact ⟨k + 1, _, by omega, by go_num, rfl, rfl, hid (by simp only [*, hx.out, wideAt, ab_half]), by (repeat (first | (with_reducible assumption) | (with_reducible apply below_refl) | (with_reducible apply below_alloc1) | (with_reducible apply below_drewN1) | (with_reducible apply below_drew1)))⟩
      case measure => simp [intOf]; omega
    · obtain rfl : k = 4 := by omega
      go_wp2_with (refine upon_float rfl ?_; intro r n hr; go_simp)
      go_ret2
      exact ⟨_, rfl, by simp only [*, hx.out, wideS, ab_root3], by (repeat (first | (with_reducible assumption) | (with_reducible apply below_refl) | (with_reducible apply below_alloc1) | (with_reducible apply below_drewN1) | (with_reducible apply below_drew1)))⟩
set_option maxRecDepth 100000 in
set_option maxHeartbeats 800000 in
theorem l05Normal_any (b : Nat) (s : Int) (hs : 0 ≤ s ∧ s ≤ 4294967295) (w : World) (hbx : Box w b (.int .i64 s)) :
    Calls Try.prog 67 #[.pointer (some ⟨b, 0, none⟩)] w (DrawOk b (seedAt s 4) (wideS s) w) := by
  have HBX := hid hbx
  have hlt := hbx.lt
  clear hbx
  go_enter Try.func67, Try.ntmps67
  go_wp2_with fail
  go_loopw [3, 4] (fun x i wr => ∃ k r : Nat, k ≤ 4 ∧ i = .int .i64 k ∧ x = .float .f32 r ∧ Hid (ab .f32 r = wideAt s k) ∧ Hid (Box wr b (.int .i64 (seedAt s k))) ∧ w.grownBy wr (some b)) (fun _ i _ => 4 - (intOf i).toNat)
  case atStart => exact ⟨0, 0, by omega, rfl, rfl, hid ab_z32, HBX, grown_of_below (below_refl _) _⟩
  case round =>
    obtain ⟨k, r0, hk, rfl, rfl, hx, hb, hg⟩ := hrel
    by_cases hlt4 : k < 4
    · have hlt4' : (k : Int) < 4 := by omega
      go_wp2_with (first
        | (refine upon_float rfl ?_; intro r n hr; go_simp)
        | (go_at_call 118; refine (l05Draw_any _ _ (seedAt_bd s hs k) _ (hb.out.below (by (repeat (first | (with_reducible assumption) | (with_reducible apply below_refl) | (with_reducible apply below_alloc1) | (with_reducible apply below_drewN1) | (with_reducible apply below_drew1)))))).mono ?_; rintro e w' ⟨q, rfl, hq, hg', hbx'⟩; have hG := hid (grown_trans (grown_trans hg (grown_of_below (show Below wr.heap.size wr _ by (repeat (first | (with_reducible assumption) | (with_reducible apply below_refl) | (with_reducible apply below_alloc1) | (with_reducible apply below_drewN1) | (with_reducible apply below_drew1)))) _)) hg'); have HB := hid hbx'; clear hg' hbx'))
      go_roundw
      case rel => exact ⟨k + 1, _, by omega, by go_num, rfl, hid (by simp only [*, hx.out, wideAt, ab_half]), hid (HB.out.below (by (repeat (first | (with_reducible assumption) | (with_reducible apply below_refl) | (with_reducible apply below_alloc1) | (with_reducible apply below_drewN1) | (with_reducible apply below_drew1))))), grown_trans hG.out (grown_of_below (by (repeat (first | (with_reducible assumption) | (with_reducible apply below_refl) | (with_reducible apply below_alloc1) | (with_reducible apply below_drewN1) | (with_reducible apply below_drew1)))) _)⟩
      case measure => simp [intOf]; omega
    · obtain rfl : k = 4 := by omega
      go_wp2_with (refine upon_float rfl ?_; intro r n hr; go_simp)
      go_ret
      exact ⟨_, rfl, by simp only [*, hx.out, wideS, ab_root3], grown_trans hg (grown_of_below (by (repeat (first | (with_reducible assumption) | (with_reducible apply below_refl) | (with_reducible apply below_alloc1) | (with_reducible apply below_drewN1) | (with_reducible apply below_drew1)))) _), hb.out.below (by (repeat (first | (with_reducible assumption) | (with_reducible apply below_refl) | (with_reducible apply below_alloc1) | (with_reducible apply below_drewN1) | (with_reducible apply below_drew1))))⟩

/-! ### DriftWalk -/
def walkAt (d wd : Option Nat) (s : Int) : Nat → Option Nat
  | 0 => some 0
  | k + 1 => fop .add .f32 (fop .add .f32 (walkAt d wd s k) d) (fop .mul .f32 wd (wideS (seedAt s (4 * k))))
def walkL (d wd : Option Nat) (s : Int) (k : Nat) : List (Option Nat) := (List.range k).map fun j => walkAt d wd s (j + 1)
theorem walkL_next (d wd : Option Nat) (s : Int) (k : Nat) : walkL d wd s (k + 1) = walkL d wd s k ++ [walkAt d wd s (k + 1)] := range_next _ _
theorem walkL_len (d wd : Option Nat) (s : Int) (k : Nat) : (walkL d wd s k).length = k := by simp [walkL]
theorem seedAt_four (s : Int) (k : Nat) : seedAt (seedAt s (4 * k)) 4 = seedAt s (4 * (k + 1)) := by
  rw [show 4 * (k + 1) = 4 * k + 1 + 1 + 1 + 1 by omega]; rfl
def walkOk (d wd : Option Nat) (s n : Int) : Bool := finite32 d && finite32 wd && inB s 0 4294967295 && inB n 1 48
def walkAll (d wd : Option Nat) (s n : Int) : Bool := walkOk d wd s n && finL (walkL d wd s n.toNat)
def walkXs (d wd : Option Nat) (s n : Int) : List Nat := if walkAll d wd s n then bitsOf (walkL d wd s n.toNat) else []
def walkS (d wd : Option Nat) (s n : Int) : Int := if walkAll d wd s n then seedAt s (4 * n.toNat) else 0
theorem walk_no {d wd : Option Nat} {s n : Int} (h : walkAll d wd s n = false) : walkXs d wd s n = [] ∧ walkS d wd s n = 0 := by simp [walkXs, walkS, h]
theorem walk_yes {d wd : Option Nat} {s n : Int} (h : walkAll d wd s n = true) : walkXs d wd s n = bitsOf (walkL d wd s n.toNat) ∧ walkS d wd s n = seedAt s (4 * n.toNat) := by simp [walkXs, walkS, h]
theorem walkXs_len (d wd : Option Nat) (s n : Int) : (walkXs d wd s n).length ≤ 64 := by
  cases h : walkAll d wd s n
  · rw [(walk_no h).1]; simp
  · rw [(walk_yes h).1]
    simp only [walkAll, walkOk, Bool.and_eq_true] at h
    have := inB_true h.1.2
    simp [bitsOf, walkL_len]; omega
theorem walk_fail {d wd : Option Nat} {s n : Int} (h : walkOk d wd s n = false) : walkXs d wd s n = [] ∧ walkS d wd s n = 0 ∧ walkAll d wd s n = false := by
  have h2 : walkAll d wd s n = false := by simp [walkAll, h]
  exact ⟨(walk_no h2).1, (walk_no h2).2, h2⟩

set_option maxRecDepth 100000 in
set_option maxHeartbeats 2000000 in
theorem implDrift_any (d wd : Nat) (s n : Int) (w : World) :
    Calls Try.prog 14 #[.float .f32 d, .float .f32 wd, .int .i64 s, .int .i64 n] w (FRowNumOk 27 (walkXs (ab .f32 d) (ab .f32 wd) s n) (walkS (ab .f32 d) (ab .f32 wd) s n) (walkAll (ab .f32 d) (ab .f32 wd) s n) w) := by
  obtain ⟨i0, hi0, hz0, hz1, hz2⟩ := info_parts (P := Try.prog) (e := 27) (z := Value.float .f32 0) (size := 1) (bytes := 4) (by kernel_rfl)
  cases g1 : ([d, wd].all fun x => finB (ab .f32 x))
  · have HE := hid (walk_fail (d := ab .f32 d) (wd := ab .f32 wd) (s := s) (n := n) (by
      simp only [List.all_cons, List.all_nil, Bool.and_true, finB] at g1
      simp [walkOk, g1]))
    have G1 := hid g1; clear g1
    go_enter Try.func14, Try.ntmps14
    go_wp2_with (go_at_call 58; refine (areFinite_any _ [d, wd] _ (rowAt_alloc _ _ [.float .f32 d, .float .f32 wd] (by simp [maxLen]))).mono ?_; rw [G1.out]; rintro e w' ⟨rfl, hb⟩; have hB : Below w.heap.size w w' := below_trans (by (repeat (first | (with_reducible assumption) | (with_reducible apply below_refl) | (with_reducible apply below_alloc1) | (with_reducible apply below_drewN1) | (with_reducible apply below_drew1)))) hb; have hC := (bcell hB).1; clear hb)
    go_ret3
    exact frowNum_no HE.out.1 HE.out.2.1 HE.out.2.2 (by assumption)
  have G1 := hid g1
  simp only [List.all_cons, List.all_nil, Bool.and_true, finB, Bool.and_eq_true] at g1
  cases g2 : inB s 0 4294967295
  · have HE := hid (walk_fail (d := ab .f32 d) (wd := ab .f32 wd) (s := s) (n := n) (by simp [walkOk, g2]))
    clear g1
    go_enter Try.func14, Try.ntmps14
    go_wp2_with (first | (go_at_call 58; refine (areFinite_any _ [d, wd] _ (rowAt_alloc _ _ [.float .f32 d, .float .f32 wd] (by simp [maxLen]))).mono ?_; rw [G1.out]; rintro e w' ⟨rfl, hb⟩; have hB : Below w.heap.size w w' := below_trans (by (repeat (first | (with_reducible assumption) | (with_reducible apply below_refl) | (with_reducible apply below_alloc1) | (with_reducible apply below_drewN1) | (with_reducible apply below_drew1)))) hb; have hC := (bcell hB).1; clear hb) | (go_at_call 61; refine (isSeed_any _ _).mono ?_; rw [g2]; rintro e w' ⟨rfl, hb⟩; have hB : Below w.heap.size w w' := below_trans (by (repeat (first | (with_reducible assumption) | (with_reducible apply below_refl) | (with_reducible apply below_alloc1) | (with_reducible apply below_drewN1) | (with_reducible apply below_drew1)))) hb; have hC := (bcell hB).1; clear hb))
    go_ret3
    exact frowNum_no HE.out.1 HE.out.2.1 HE.out.2.2 (by assumption)
  cases g3 : inB n 1 48
  · have HE := hid (walk_fail (d := ab .f32 d) (wd := ab .f32 wd) (s := s) (n := n) (by simp [walkOk, g3]))
    clear g1
    go_enter Try.func14, Try.ntmps14
    go_wp2_with (first | (go_at_call 58; refine (areFinite_any _ [d, wd] _ (rowAt_alloc _ _ [.float .f32 d, .float .f32 wd] (by simp [maxLen]))).mono ?_; rw [G1.out]; rintro e w' ⟨rfl, hb⟩; have hB : Below w.heap.size w w' := below_trans (by (repeat (first | (with_reducible assumption) | (with_reducible apply below_refl) | (with_reducible apply below_alloc1) | (with_reducible apply below_drewN1) | (with_reducible apply below_drew1)))) hb; have hC := (bcell hB).1; clear hb) | (go_at_call 61; refine (isSeed_any _ _).mono ?_; rw [g2]; rintro e w' ⟨rfl, hb⟩; have hB : Below w.heap.size w w' := below_trans (by (repeat (first | (with_reducible assumption) | (with_reducible apply below_refl) | (with_reducible apply below_alloc1) | (with_reducible apply below_drewN1) | (with_reducible apply below_drew1)))) hb; have hC := (bcell hB).1; clear hb) | (go_at_call 62; refine (within_any _ _ _ _).mono ?_; rw [g3]; rintro e w' ⟨rfl, hb⟩; have hB : Below w.heap.size w w' := below_trans (by (repeat (first | (with_reducible assumption) | (with_reducible apply below_refl) | (with_reducible apply below_alloc1) | (with_reducible apply below_drewN1) | (with_reducible apply below_drew1)))) hb; have hC := (bcell hB).1; clear hb))
    go_ret3
    exact frowNum_no HE.out.1 HE.out.2.1 HE.out.2.2 (by assumption)
  have hall : walkAll (ab .f32 d) (ab .f32 wd) s n = finL (walkL (ab .f32 d) (ab .f32 wd) s n.toNat) := by simp [walkAll, walkOk, g1.1, g1.2, g2, g3]
  have HALL := hid hall
  obtain ⟨n1, n2⟩ := inB_true g3
  have hs := inB_true g2
  clear hall g1
  go_enter Try.func14, Try.ntmps14
  go_wp2_with (first | (go_at_call 58; refine (areFinite_any _ [d, wd] _ (rowAt_alloc _ _ [.float .f32 d, .float .f32 wd] (by simp [maxLen]))).mono ?_; rw [G1.out]; rintro e w' ⟨rfl, hb⟩; have hB : Below w.heap.size w w' := below_trans (by (repeat (first | (with_reducible assumption) | (with_reducible apply below_refl) | (with_reducible apply below_alloc1) | (with_reducible apply below_drewN1) | (with_reducible apply below_drew1)))) hb; have hC := (bcell hB).1; clear hb) | (go_at_call 61; refine (isSeed_any _ _).mono ?_; rw [g2]; rintro e w' ⟨rfl, hb⟩; have hB : Below w.heap.size w w' := below_trans (by (repeat (first | (with_reducible assumption) | (with_reducible apply below_refl) | (with_reducible apply below_alloc1) | (with_reducible apply below_drewN1) | (with_reducible apply below_drew1)))) hb; have hC := (bcell hB).1; clear hb) | (go_at_call 62; refine (within_any _ _ _ _).mono ?_; rw [g3]; rintro e w' ⟨rfl, hb⟩; have hB : Below w.heap.size w w' := below_trans (by (repeat (first | (with_reducible assumption) | (with_reducible apply below_refl) | (with_reducible apply below_alloc1) | (with_reducible apply below_drewN1) | (with_reducible apply below_drew1)))) hb; have hC := (bcell hB).1; clear hb))
  have hsz := (show Below w.heap.size w _ from by assumption).size
  go_loopw [2, 11, 12, 32] (fun x v z y wr => ∃ (k r0 : Nat) (xs : List Nat), (k : Int) ≤ n ∧ y = .int .i64 k ∧ x = .int .i64 (seedAt s (4 * k)) ∧ z = .float .f32 r0 ∧ Hid (ab .f32 r0 = walkAt (ab .f32 d) (ab .f32 wd) s k) ∧ Hid (xs.map (ab .f32) = walkL (ab .f32 d) (ab .f32 wd) s k) ∧ Hid (wr.ownsRow w.heap.size 27 1 v (xs.map (Value.float .f32)).length (xs.map (Value.float .f32))) ∧ Below w.heap.size w wr) (fun _ _ _ y _ => n.toNat - (intOf y).toNat)
  case atStart => exact ⟨0, 0, [], by omega, rfl, rfl, rfl, hid ab_z32, hid rfl, hid (World.ownsRow_made _ #[] 0 hsz (by simp [maxLen]) rfl), by (repeat (first | (with_reducible assumption) | (with_reducible apply below_refl) | (with_reducible apply below_alloc1) | (with_reducible apply below_drewN1) | (with_reducible apply below_drew1)))⟩
  case round =>
      obtain ⟨k, r0, xs, hk, rfl, rfl, rfl, h0, hx, ho, hw⟩ := hrel
      have hlen : xs.length = k := by have := congrArg List.length hx.out; simpa [walkL_len] using this
      have HLEN := hid hlen; clear hlen
      by_cases hlt : (k : Int) < n
      · have hC1 := (bcell hw).1
        have H4 := hid (seedAt_four s k)
        go_wp2_with (first
          | (go_at_call 63; refine (drawWide_any _ (seedAt_bd s hs (4 * k)) _).mono ?_; rintro e w' ⟨q, rfl, hq, hb⟩; have hB : Below wr.heap.size wr w' := below_trans (by (repeat (first | (with_reducible assumption) | (with_reducible apply below_refl) | (with_reducible apply below_alloc1) | (with_reducible apply below_drewN1) | (with_reducible apply below_drew1)))) hb; have hC := (bcell hB).1; clear hb)
          | (refine upon_float rfl ?_; intro r n hr; go_simp)
          | (at_builtin; refine wpList_push rfl _ _ 25 rfl Try.underlying25 hi0 hz0 hz1 hz2 rfl w.heap.size _ _ rfl rfl (ownsRow_below ho.out (by (repeat (first | (with_reducible assumption) | (with_reducible apply below_refl) | (with_reducible apply below_alloc1) | (with_reducible apply below_drewN1) | (with_reducible apply below_drew1))))) rfl (by rw [List.length_map, HLEN.out]; omega) (by decide) (Nat.le_trans hw.size (Below.size (show Below wr.heap.size wr _ by (repeat (first | (with_reducible assumption) | (with_reducible apply below_refl) | (with_reducible apply below_alloc1) | (with_reducible apply below_drewN1) | (with_reducible apply below_drew1)))))) ?_; intro v1 w2 hown hb2))
        go_roundw
        case rel =>
          have hv : ab .f32 r = walkAt (ab .f32 d) (ab .f32 wd) s (k + 1) := by simp only [*, walkAt, h0.out]
          refine ⟨k + 1, _, xs ++ [r], by omega, by go_num, by rw [H4.out], rfl, hid hv, hid ?_, hid (by rw [fl_vals]; exact hown), (below_trans hw (by (repeat (first | (with_reducible assumption) | (with_reducible apply below_refl) | (with_reducible apply below_alloc1) | (with_reducible apply below_drewN1) | (with_reducible apply below_drew1))))).trans hb2⟩
          rw [walkL_next]
          exact fl_push hx.out hv
        case measure => simp [intOf]; omega
      · have hk' : k = n.toNat := by omega
        have HK := hid hk'; clear hk'
        cases hfin : finL (walkL (ab .f32 d) (ab .f32 wd) s n.toNat)
        · have HE := hid (walk_no (d := ab .f32 d) (wd := ab .f32 wd) (s := s) (n := n) (by rw [HALL.out, hfin]))
          have HE3 := hid (HALL.out.trans hfin)
          have HF := hid (show (xs.all fun b => finB (ab .f32 b)) = false by rw [finL_map, hx.out, HK.out, hfin])
          clear hfin
          go_wp2_with (go_at_call 58; refine (areFinite_any _ xs _ (Own.mk' ho.out).row).mono ?_; rw [HF.out]; rintro e w' ⟨rfl, hb⟩; have hB : Below wr.heap.size wr w' := below_trans (by (repeat (first | (with_reducible assumption) | (with_reducible apply below_refl) | (with_reducible apply below_alloc1) | (with_reducible apply below_drewN1) | (with_reducible apply below_drew1)))) hb; have hC := (bcell hB).1; clear hb)
          go_ret3
          exact frowNum_no HE.out.1 HE.out.2 HE3.out (below_trans hw (by assumption))
        · have HE := hid (walk_yes (d := ab .f32 d) (wd := ab .f32 wd) (s := s) (n := n) (by rw [HALL.out, hfin]))
          have HE3 := hid (HALL.out.trans hfin)
          have HF := hid (show (xs.all fun b => finB (ab .f32 b)) = true by rw [finL_map, hx.out, HK.out, hfin])
          have HX := hid (show xs = bitsOf (walkL (ab .f32 d) (ab .f32 wd) s n.toNat) from ab_bits _ _ (by rw [hx.out, HK.out]) hfin)
          clear hfin
          go_wp2_with (first | (go_at_call 58; refine (areFinite_any _ xs _ (Own.mk' ho.out).row).mono ?_; rw [HF.out]; rintro e w' ⟨rfl, hb⟩; have hB : Below wr.heap.size wr w' := below_trans (by (repeat (first | (with_reducible assumption) | (with_reducible apply below_refl) | (with_reducible apply below_alloc1) | (with_reducible apply below_drewN1) | (with_reducible apply below_drew1)))) hb; have hC := (bcell hB).1; clear hb))
          go_ret3
          exact frowNum_yes (by rw [HE.out.2, HK.out]) HE3.out (by rw [HE.out.1, ← HX.out]; exact ownsRow_below ho.out (by (repeat (first | (with_reducible assumption) | (with_reducible apply below_refl) | (with_reducible apply below_alloc1) | (with_reducible apply below_drewN1) | (with_reducible apply below_drew1))))) (below_trans hw (by (repeat (first | (with_reducible assumption) | (with_reducible apply below_refl) | (with_reducible apply below_alloc1) | (with_reducible apply below_drewN1) | (with_reducible apply below_drew1)))))
set_option maxRecDepth 100000 in
set_option maxHeartbeats 2000000 in
theorem specDrift_any (d wd : Nat) (s n : Int) (w : World) :
    Calls Try.prog 15 #[.float .f32 d, .float .f32 wd, .int .i64 s, .int .i64 n] w (FRowNumOk 27 (walkXs (ab .f32 d) (ab .f32 wd) s n) (walkS (ab .f32 d) (ab .f32 wd) s n) (walkAll (ab .f32 d) (ab .f32 wd) s n) w) := by
  obtain ⟨i0, hi0, hz0, hz1, hz2⟩ := info_parts (P := Try.prog) (e := 27) (z := Value.float .f32 0) (size := 1) (bytes := 4) (by kernel_rfl)
  cases g1 : finite32 (ab .f32 d)
  · have HE := hid (walk_fail (d := ab .f32 d) (wd := ab .f32 wd) (s := s) (n := n) (by simp [walkOk, g1]))
    go_enter Try.func15, Try.ntmps15
    go_wp2_with fail
    obtain ⟨w1, hw1⟩ : ∃ w1 : World, w1 = (w.alloc (Obj.cells #[.int .i64 s] 2)) := ⟨_, rfl⟩
    have hbx1 := hid (show Box w1 w.heap.size (.int .i64 s) by subst hw1; exact box_alloc _ _ _)
    have c0 := hbx1.out.1
    have f0 := hbx1.out.2
    rw [← hw1]
    have hb1 : Below w.heap.size w w1 := by subst hw1; exact below_alloc _ _
    have s0 : w1.heap.size = w.heap.size + 1 := by subst hw1; simp
    replace s0 := hid s0
    have s1 : w.heap.size < w1.heap.size := by have := s0.out; omega
    clear hw1
    go_wp2_with (first | (go_at_call 64; refine (specFinite_any _ _).mono ?_; rw [g1]; rintro e w' ⟨rfl, hb⟩; have hB : Below w1.heap.size w1 w' := below_trans (by (repeat (first | (with_reducible assumption) | (with_reducible apply below_refl) | (with_reducible apply below_alloc1) | (with_reducible apply below_drewN1) | (with_reducible apply below_drew1)))) hb; have hC := (bcell hB).1; clear hb))
    go_ret3
    exact frowNum_no HE.out.1 HE.out.2.1 HE.out.2.2 (below_trans hb1 (by assumption))
  cases g2 : finite32 (ab .f32 wd)
  · have HE := hid (walk_fail (d := ab .f32 d) (wd := ab .f32 wd) (s := s) (n := n) (by simp [walkOk, g2]))
    go_enter Try.func15, Try.ntmps15
    go_wp2_with fail
    obtain ⟨w1, hw1⟩ : ∃ w1 : World, w1 = (w.alloc (Obj.cells #[.int .i64 s] 2)) := ⟨_, rfl⟩
    have hbx1 := hid (show Box w1 w.heap.size (.int .i64 s) by subst hw1; exact box_alloc _ _ _)
    have c0 := hbx1.out.1
    have f0 := hbx1.out.2
    rw [← hw1]
    have hb1 : Below w.heap.size w w1 := by subst hw1; exact below_alloc _ _
    have s0 : w1.heap.size = w.heap.size + 1 := by subst hw1; simp
    replace s0 := hid s0
    have s1 : w.heap.size < w1.heap.size := by have := s0.out; omega
    clear hw1
    go_wp2_with (first | (go_at_call 64; refine (specFinite_any _ _).mono ?_; (first | rw [g1] | rw [g2]); rintro e w' ⟨rfl, hb⟩; have hB : Below w1.heap.size w1 w' := below_trans (by (repeat (first | (with_reducible assumption) | (with_reducible apply below_refl) | (with_reducible apply below_alloc1) | (with_reducible apply below_drewN1) | (with_reducible apply below_drew1)))) hb; have hC := (bcell hB).1; clear hb))
    go_ret3
    exact frowNum_no HE.out.1 HE.out.2.1 HE.out.2.2 (below_trans hb1 (by assumption))
  cases g3 : inB s 0 4294967295
  · have HE := hid (walk_fail (d := ab .f32 d) (wd := ab .f32 wd) (s := s) (n := n) (by simp [walkOk, g3]))
    go_enter Try.func15, Try.ntmps15
    go_wp2_with fail
    obtain ⟨w1, hw1⟩ : ∃ w1 : World, w1 = (w.alloc (Obj.cells #[.int .i64 s] 2)) := ⟨_, rfl⟩
    have hbx1 := hid (show Box w1 w.heap.size (.int .i64 s) by subst hw1; exact box_alloc _ _ _)
    have c0 := hbx1.out.1
    have f0 := hbx1.out.2
    rw [← hw1]
    have hb1 : Below w.heap.size w w1 := by subst hw1; exact below_alloc _ _
    have s0 : w1.heap.size = w.heap.size + 1 := by subst hw1; simp
    replace s0 := hid s0
    have s1 : w.heap.size < w1.heap.size := by have := s0.out; omega
    clear hw1
    go_wp2_with (first | (go_at_call 64; refine (specFinite_any _ _).mono ?_; (first | rw [g1] | rw [g2]); rintro e w' ⟨rfl, hb⟩; have hB : Below w1.heap.size w1 w' := below_trans (by (repeat (first | (with_reducible assumption) | (with_reducible apply below_refl) | (with_reducible apply below_alloc1) | (with_reducible apply below_drewN1) | (with_reducible apply below_drew1)))) hb; have hC := (bcell hB).1; clear hb) | (go_at_call 65; refine (l05Seed_any _ _).mono ?_; rw [g3]; rintro e w' ⟨rfl, hb⟩; have hB : Below w1.heap.size w1 w' := below_trans (by (repeat (first | (with_reducible assumption) | (with_reducible apply below_refl) | (with_reducible apply below_alloc1) | (with_reducible apply below_drewN1) | (with_reducible apply below_drew1)))) hb; have hC := (bcell hB).1; clear hb))
    go_ret3
    exact frowNum_no HE.out.1 HE.out.2.1 HE.out.2.2 (below_trans hb1 (by assumption))
  cases g4 : inB n 1 48
  · have HE := hid (walk_fail (d := ab .f32 d) (wd := ab .f32 wd) (s := s) (n := n) (by simp [walkOk, g4]))
    go_enter Try.func15, Try.ntmps15
    go_wp2_with fail
    obtain ⟨w1, hw1⟩ : ∃ w1 : World, w1 = (w.alloc (Obj.cells #[.int .i64 s] 2)) := ⟨_, rfl⟩
    have hbx1 := hid (show Box w1 w.heap.size (.int .i64 s) by subst hw1; exact box_alloc _ _ _)
    have c0 := hbx1.out.1
    have f0 := hbx1.out.2
    rw [← hw1]
    have hb1 : Below w.heap.size w w1 := by subst hw1; exact below_alloc _ _
    have s0 : w1.heap.size = w.heap.size + 1 := by subst hw1; simp
    replace s0 := hid s0
    have s1 : w.heap.size < w1.heap.size := by have := s0.out; omega
    clear hw1
    go_wp2_with (first | (go_at_call 64; refine (specFinite_any _ _).mono ?_; (first | rw [g1] | rw [g2]); rintro e w' ⟨rfl, hb⟩; have hB : Below w1.heap.size w1 w' := below_trans (by (repeat (first | (with_reducible assumption) | (with_reducible apply below_refl) | (with_reducible apply below_alloc1) | (with_reducible apply below_drewN1) | (with_reducible apply below_drew1)))) hb; have hC := (bcell hB).1; clear hb) | (go_at_call 65; refine (l05Seed_any _ _).mono ?_; rw [g3]; rintro e w' ⟨rfl, hb⟩; have hB : Below w1.heap.size w1 w' := below_trans (by (repeat (first | (with_reducible assumption) | (with_reducible apply below_refl) | (with_reducible apply below_alloc1) | (with_reducible apply below_drewN1) | (with_reducible apply below_drew1)))) hb; have hC := (bcell hB).1; clear hb) | (go_at_call 66; refine (l00In_any _ _ _ _).mono ?_; rw [g4]; rintro e w' ⟨rfl, hb⟩; have hB : Below w1.heap.size w1 w' := below_trans (by (repeat (first | (with_reducible assumption) | (with_reducible apply below_refl) | (with_reducible apply below_alloc1) | (with_reducible apply below_drewN1) | (with_reducible apply below_drew1)))) hb; have hC := (bcell hB).1; clear hb))
    go_ret3
    exact frowNum_no HE.out.1 HE.out.2.1 HE.out.2.2 (below_trans hb1 (by assumption))
  have hall : walkAll (ab .f32 d) (ab .f32 wd) s n = finL (walkL (ab .f32 d) (ab .f32 wd) s n.toNat) := by simp [walkAll, walkOk, g1, g2, g3, g4]
  have HALL := hid hall
  obtain ⟨n1, n2⟩ := inB_true g4
  have hs := inB_true g3
  clear hall
  go_enter Try.func15, Try.ntmps15
  go_wp2_with fail
  obtain ⟨w1, hw1⟩ : ∃ w1 : World, w1 = (w.alloc (Obj.cells #[.int .i64 s] 2)) := ⟨_, rfl⟩
  have hbx1 := hid (show Box w1 w.heap.size (.int .i64 s) by subst hw1; exact box_alloc _ _ _)
  have c0 := hbx1.out.1
  have f0 := hbx1.out.2
  rw [← hw1]
  have hb1 : Below w.heap.size w w1 := by subst hw1; exact below_alloc _ _
  have s0 : w1.heap.size = w.heap.size + 1 := by subst hw1; simp
  replace s0 := hid s0
  have s1 : w.heap.size < w1.heap.size := by have := s0.out; omega
  clear hw1
  go_wp2_with (first | (go_at_call 64; refine (specFinite_any _ _).mono ?_; (first | rw [g1] | rw [g2]); rintro e w' ⟨rfl, hb⟩; have hB : Below w1.heap.size w1 w' := below_trans (by (repeat (first | (with_reducible assumption) | (with_reducible apply below_refl) | (with_reducible apply below_alloc1) | (with_reducible apply below_drewN1) | (with_reducible apply below_drew1)))) hb; have hC := (bcell hB).1; clear hb) | (go_at_call 65; refine (l05Seed_any _ _).mono ?_; rw [g3]; rintro e w' ⟨rfl, hb⟩; have hB : Below w1.heap.size w1 w' := below_trans (by (repeat (first | (with_reducible assumption) | (with_reducible apply below_refl) | (with_reducible apply below_alloc1) | (with_reducible apply below_drewN1) | (with_reducible apply below_drew1)))) hb; have hC := (bcell hB).1; clear hb) | (go_at_call 66; refine (l00In_any _ _ _ _).mono ?_; rw [g4]; rintro e w' ⟨rfl, hb⟩; have hB : Below w1.heap.size w1 w' := below_trans (by (repeat (first | (with_reducible assumption) | (with_reducible apply below_refl) | (with_reducible apply below_alloc1) | (with_reducible apply below_drewN1) | (with_reducible apply below_drew1)))) hb; have hC := (bcell hB).1; clear hb))
  have hsz := (show Below w1.heap.size w1 _ from by assumption).size
  go_loopw [3, 11, 12] (fun y v z wr => ∃ (k r0 : Nat) (xs : List Nat), (k : Int) ≤ n ∧ y = .int .i64 (n - k) ∧ z = .float .f32 r0 ∧ Hid (Box wr w.heap.size (.int .i64 (seedAt s (4 * k)))) ∧ Hid (ab .f32 r0 = walkAt (ab .f32 d) (ab .f32 wd) s k) ∧ Hid (xs.map (ab .f32) = walkL (ab .f32 d) (ab .f32 wd) s k) ∧ Hid (wr.ownsRow w1.heap.size 27 1 v (xs.map (Value.float .f32)).length (xs.map (Value.float .f32))) ∧ w1.heap.size ≤ wr.heap.size ∧ Below w.heap.size w wr) (fun y _ _ _ => (intOf y).toNat)
  case atStart => exact ⟨0, 0, [], by omega, by simp, rfl, hid (hbx1.out.below (by (repeat (first | (with_reducible assumption) | (with_reducible apply below_refl) | (with_reducible apply below_alloc1) | (with_reducible apply below_drewN1) | (with_reducible apply below_drew1))))), hid ab_z32, hid rfl, hid (World.ownsRow_made _ #[] 0 hsz (by simp [maxLen]) rfl), (show Below w1.heap.size w1 _ by (repeat (first | (with_reducible assumption) | (with_reducible apply below_refl) | (with_reducible apply below_alloc1) | (with_reducible apply below_drewN1) | (with_reducible apply below_drew1)))).size, below_trans hb1 (by (repeat (first | (with_reducible assumption) | (with_reducible apply below_refl) | (with_reducible apply below_alloc1) | (with_reducible apply below_drewN1) | (with_reducible apply below_drew1))))⟩
  case round =>
      obtain ⟨k, r0, xs, hk, rfl, rfl, hbx, h0, hx, ho, hz, hw⟩ := hrel
      have hlen : xs.length = k := by have := congrArg List.length hx.out; simpa [walkL_len] using this
      have HLEN := hid hlen; clear hlen
      have hlw := hw.size
      have hC1 := (bcell hw).1
      have c1 := hbx.out.1
      by_cases hlt : 0 < n - (k : Int)
      · have hlt2 := hbx.out.lt
        have H4 := hid (seedAt_four s k)
        go_wp2_with (first
          | (refine upon_float rfl ?_; intro r n hr; go_simp)
          | (go_at_call 67; refine (l05Normal_any _ _ (seedAt_bd s hs (4 * k)) _ (hbx.out.below (by (repeat (first | (with_reducible assumption) | (with_reducible apply below_refl) | (with_reducible apply below_alloc1) | (with_reducible apply below_drewN1) | (with_reducible apply below_drew1)))))).mono ?_; rintro e w' ⟨q, rfl, hq, hg, hbx'⟩; have hzq : w1.heap.size ≤ w'.heap.size := Nat.le_trans (Nat.le_trans hz (Below.size (show Below wr.heap.size wr _ by (repeat (first | (with_reducible assumption) | (with_reducible apply below_refl) | (with_reducible apply below_alloc1) | (with_reducible apply below_drewN1) | (with_reducible apply below_drew1)))))) hg.size; have hO := hid (ownsRow_box (ownsRow_below ho.out (show Below wr.heap.size wr _ by (repeat (first | (with_reducible assumption) | (with_reducible apply below_refl) | (with_reducible apply below_alloc1) | (with_reducible apply below_drewN1) | (with_reducible apply below_drew1))))) hg s1); have hW := below_box (below_trans hw (show Below wr.heap.size wr _ by (repeat (first | (with_reducible assumption) | (with_reducible apply below_refl) | (with_reducible apply below_alloc1) | (with_reducible apply below_drewN1) | (with_reducible apply below_drew1))))) hg (Nat.le_trans hlw (Below.size (show Below wr.heap.size wr _ by (repeat (first | (with_reducible assumption) | (with_reducible apply below_refl) | (with_reducible apply below_alloc1) | (with_reducible apply below_drewN1) | (with_reducible apply below_drew1)))))) (Nat.le_refl _); have HB := hid hbx'; clear hg hbx')
          | (at_builtin; refine wpList_push rfl _ _ 25 rfl Try.underlying25 hi0 hz0 hz1 hz2 rfl w1.heap.size _ _ rfl rfl (ownsRow_below hO.out (by (repeat (first | (with_reducible assumption) | (with_reducible apply below_refl) | (with_reducible apply below_alloc1) | (with_reducible apply below_drewN1) | (with_reducible apply below_drew1))))) rfl (by rw [List.length_map, HLEN.out]; omega) (by decide) (Nat.le_trans hzq (Below.size (show Below w'.heap.size w' _ by (repeat (first | (with_reducible assumption) | (with_reducible apply below_refl) | (with_reducible apply below_alloc1) | (with_reducible apply below_drewN1) | (with_reducible apply below_drew1)))))) ?_; intro v1 w2 hown hb2))
        go_roundw
        case rel =>
          have hv : ab .f32 r = walkAt (ab .f32 d) (ab .f32 wd) s (k + 1) := by simp only [*, walkAt, h0.out]
          refine ⟨k + 1, _, xs ++ [r], by omega, by go_num, rfl, hid (by rw [← H4.out]; exact (HB.out.below (by (repeat (first | (with_reducible assumption) | (with_reducible apply below_refl) | (with_reducible apply below_alloc1) | (with_reducible apply below_drewN1) | (with_reducible apply below_drew1))))).keep hb2 s1), hid hv, hid ?_, hid (by rw [fl_vals]; exact hown), Nat.le_trans (Nat.le_trans hzq (Below.size (show Below w'.heap.size w' _ by (repeat (first | (with_reducible assumption) | (with_reducible apply below_refl) | (with_reducible apply below_alloc1) | (with_reducible apply below_drewN1) | (with_reducible apply below_drew1)))))) hb2.size, ?_⟩
          · rw [walkL_next]
            exact fl_push hx.out hv
          · exact (below_trans hW (by (repeat (first | (with_reducible assumption) | (with_reducible apply below_refl) | (with_reducible apply below_alloc1) | (with_reducible apply below_drewN1) | (with_reducible apply below_drew1))))).trans (hb2.mono (Nat.le_of_lt s1))
        case measure => simp [intOf]; omega
      · have hk' : k = n.toNat := by omega
        have HK := hid hk'; clear hk'
        cases hfin : finL (walkL (ab .f32 d) (ab .f32 wd) s n.toNat)
        · have HE := hid (walk_no (d := ab .f32 d) (wd := ab .f32 wd) (s := s) (n := n) (by rw [HALL.out, hfin]))
          have HE3 := hid (HALL.out.trans hfin)
          have HF := hid (show (xs.all fun b => finB (ab .f32 b)) = false by rw [finL_map, hx.out, HK.out, hfin])
          clear hfin
          go_wp2_with (go_at_call 68; refine (l02Finite_any _ xs _ (Own.mk' ho.out).row).mono ?_; rw [HF.out]; rintro e w' ⟨rfl, hb⟩; have hB : Below wr.heap.size wr w' := below_trans (by (repeat (first | (with_reducible assumption) | (with_reducible apply below_refl) | (with_reducible apply below_alloc1) | (with_reducible apply below_drewN1) | (with_reducible apply below_drew1)))) hb; have hC := (bcell hB).1; clear hb)
          go_ret3
          exact frowNum_no HE.out.1 HE.out.2 HE3.out (below_trans hw (by assumption))
        · have HE := hid (walk_yes (d := ab .f32 d) (wd := ab .f32 wd) (s := s) (n := n) (by rw [HALL.out, hfin]))
          have HE3 := hid (HALL.out.trans hfin)
          have HF := hid (show (xs.all fun b => finB (ab .f32 b)) = true by rw [finL_map, hx.out, HK.out, hfin])
          have HX := hid (show xs = bitsOf (walkL (ab .f32 d) (ab .f32 wd) s n.toNat) from ab_bits _ _ (by rw [hx.out, HK.out]) hfin)
          have hlt2 := hbx.out.lt
          clear hfin
          go_wp2_with (first | (go_at_call 68; refine (l02Finite_any _ xs _ (Own.mk' ho.out).row).mono ?_; rw [HF.out]; rintro e w' ⟨rfl, hb⟩; have hB : Below wr.heap.size wr w' := below_trans (by (repeat (first | (with_reducible assumption) | (with_reducible apply below_refl) | (with_reducible apply below_alloc1) | (with_reducible apply below_drewN1) | (with_reducible apply below_drew1)))) hb; have hC := (bcell hB).1; clear hb) | go_quiet (fail))
          go_ret3
          exact frowNum_yes (by rw [HE.out.2, HK.out]) HE3.out (by rw [HE.out.1, ← HX.out]; exact ownsRow_low (ownsRow_below ho.out (by (repeat (first | (with_reducible assumption) | (with_reducible apply below_refl) | (with_reducible apply below_alloc1) | (with_reducible apply below_drewN1) | (with_reducible apply below_drew1))))) (Nat.le_of_lt s1)) (below_trans hw (by (repeat (first | (with_reducible assumption) | (with_reducible apply below_refl) | (with_reducible apply below_alloc1) | (with_reducible apply below_drewN1) | (with_reducible apply below_drew1)))))
end Go.Proofs.Ytkaeohlakeliiaa
