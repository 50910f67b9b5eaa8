/- Contracts: numbers about 0 that seeds tell; DriftWalk, MovedParticles. -/
import Derived.Test.YtdldlfefbeflcaaParts
namespace Go.Proofs.Ytdldlfefbeflcaa
open Go.RowKit

theorem ab_half : ab .f32 1056964608 = some 1056964608 := by decide
theorem ab_root3 : ab .f32 1071494103 = some 1071494103 := by decide
def wideAt (s : Int) : Nat → Option Nat
  | 0 => some 0
  | k + 1 => fop .add .f32 (wideAt s k) (fop .sub .f32 (shareS (nextS (seedAt s k))) (some 1056964608))
def wideS (s : Int) : Option Nat := fop .mul .f32 (wideAt s 4) (some 1071494103)
def FltNumOk (x : Option Nat) (n : Int) (w : World) (e : Ending) (w' : World) : Prop := ∃ r, e = .returned (.tuple #[.float .f32 r, .int .i64 n]) ∧ ab .f32 r = x ∧ Below w.heap.size w w'

set_option maxRecDepth 100000 in
set_option maxHeartbeats 800000 in
theorem drawWide_any (s : Int) (hs : 0 ≤ s ∧ s ≤ 4294967295) (w : World) :
    Calls Try.prog 46 #[.int .i64 s] w (FltNumOk (wideS s) (seedAt s 4) w) := by
  go_enter Try.func46, Try.ntmps46
  go_wp2_with fail
  go_loopw [0, 4, 5] (fun x y i wr => ∃ k r : Nat, k ≤ 4 ∧ i = .int .i64 k ∧ x = .int .i64 (seedAt s k) ∧ y = .float .f32 r ∧ Hid (ab .f32 r = wideAt s k) ∧ Below w.heap.size w wr) (fun _ _ i _ => 4 - (intOf i).toNat)
  case atStart => exact ⟨0, 0, by omega, rfl, rfl, rfl, hid ab_z32, below_refl _⟩
  case round =>
    obtain ⟨k, r0, hk, rfl, rfl, rfl, hx, hw⟩ := hrel
    by_cases hlt4 : k < 4
    · have hlt4' : (k : Int) < 4 := by omega
      go_wp2_with (first
        | (go_at_call 35; refine (nextSeed_any _ (seedAt_bd s hs k) _).mono ?_; rintro e w' ⟨rfl, hb⟩; have hB : Below w.heap.size w w' := below_trans (by (repeat (first | (with_reducible assumption) | (with_reducible apply below_refl) | (with_reducible apply below_alloc1) | (with_reducible apply below_drewN1) | (with_reducible apply below_drew1)))) hb; have hC := (bcell hB).1; clear hb)
        | (go_at_call 36; refine (drawShare_any _ (nextS_bd _) _).mono ?_; rintro e w' ⟨r, rfl, hr, hb⟩; have hB : Below w.heap.size w w' := below_trans (by (repeat (first | (with_reducible assumption) | (with_reducible apply below_refl) | (with_reducible apply below_alloc1) | (with_reducible apply below_drewN1) | (with_reducible apply below_drew1)))) hb; have hC := (bcell hB).1; clear hb)
        | (refine upon_float rfl ?_; intro r n hr; go_simp))
      go_roundw
      case rel => exact ⟨k + 1, _, by omega, by go_num, rfl, rfl, hid (by simp only [*, hx.out, wideAt, ab_half]), by (repeat (first | (with_reducible assumption) | (with_reducible apply below_refl) | (with_reducible apply below_alloc1) | (with_reducible apply below_drewN1) | (with_reducible apply below_drew1)))⟩
      case measure => simp [intOf]; omega
    · obtain rfl : k = 4 := by omega
      go_wp2_with (refine upon_float rfl ?_; intro r n hr; go_simp)
      go_ret2
      exact ⟨_, rfl, by simp only [*, hx.out, wideS, ab_root3], by (repeat (first | (with_reducible assumption) | (with_reducible apply below_refl) | (with_reducible apply below_alloc1) | (with_reducible apply below_drewN1) | (with_reducible apply below_drew1)))⟩

/-! ### DriftWalk -/
def walkAt (d wd : Option Nat) (s : Int) : Nat → Option Nat
  | 0 => some 0
  | k + 1 => fop .add .f32 (fop .add .f32 (walkAt d wd s k) d) (fop .mul .f32 wd (wideS (seedAt s (4 * k))))
def walkL (d wd : Option Nat) (s : Int) (k : Nat) : List (Option Nat) := (List.range k).map fun j => walkAt d wd s (j + 1)
theorem walkL_next (d wd : Option Nat) (s : Int) (k : Nat) : walkL d wd s (k + 1) = walkL d wd s k ++ [walkAt d wd s (k + 1)] := range_next _ _
theorem walkL_len (d wd : Option Nat) (s : Int) (k : Nat) : (walkL d wd s k).length = k := by simp [walkL]
theorem seedAt_four (s : Int) (k : Nat) : seedAt (seedAt s (4 * k)) 4 = seedAt s (4 * (k + 1)) := by
  rw [show 4 * (k + 1) = 4 * k + 1 + 1 + 1 + 1 by omega]; rfl
def walkOk (d wd : Option Nat) (s n : Int) : Bool := finite32 d && finite32 wd && inB s 0 4294967295 && inB n 1 48
def walkAll (d wd : Option Nat) (s n : Int) : Bool := walkOk d wd s n && finL (walkL d wd s n.toNat)
def walkXs (d wd : Option Nat) (s n : Int) : List Nat := if walkAll d wd s n then bitsOf (walkL d wd s n.toNat) else []
def walkS (d wd : Option Nat) (s n : Int) : Int := if walkAll d wd s n then seedAt s (4 * n.toNat) else 0
theorem walk_no {d wd : Option Nat} {s n : Int} (h : walkAll d wd s n = false) : walkXs d wd s n = [] ∧ walkS d wd s n = 0 := by simp [walkXs, walkS, h]
theorem walk_yes {d wd : Option Nat} {s n : Int} (h : walkAll d wd s n = true) : walkXs d wd s n = bitsOf (walkL d wd s n.toNat) ∧ walkS d wd s n = seedAt s (4 * n.toNat) := by simp [walkXs, walkS, h]
theorem walkXs_len (d wd : Option Nat) (s n : Int) : (walkXs d wd s n).length ≤ 64 := by
  cases h : walkAll d wd s n
  · rw [(walk_no h).1]; simp
  · rw [(walk_yes h).1]
    simp only [walkAll, walkOk, Bool.and_eq_true] at h
    have := inB_true h.1.2
    simp [bitsOf, walkL_len]; omega
theorem walk_fail {d wd : Option Nat} {s n : Int} (h : walkOk d wd s n = false) : walkXs d wd s n = [] ∧ walkS d wd s n = 0 ∧ walkAll d wd s n = false := by
  have h2 : walkAll d wd s n = false := by simp [walkAll, h]
  exact ⟨(walk_no h2).1, (walk_no h2).2, h2⟩

end Go.Proofs.Ytdldlfefbeflcaa
