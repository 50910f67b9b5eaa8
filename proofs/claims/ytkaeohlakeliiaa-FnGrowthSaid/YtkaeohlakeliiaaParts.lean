/- Contracts: Particles. -/
import Derived.Test.YtkaeohlakeliiaaSeed
import Derived.Test.YtkaeohlakeliiaaFL
import Derived.Test.YtkaeohlakeliiaaMag3
namespace Go.Proofs.Ytkaeohlakeliiaa
open Go.RowKit

def seedAt (s : Int) : Nat → Int
  | 0 => s
  | k + 1 => nextS (seedAt s k)
theorem seedAt_bd (s : Int) (h : 0 ≤ s ∧ s ≤ 4294967295) (k : Nat) : 0 ≤ seedAt s k ∧ seedAt s k ≤ 4294967295 := by
  cases k with
  | zero => exact h
  | succ k => exact nextS_bd _
def partX (lo hi : Option Nat) (s : Int) : Option Nat := fop .add .f32 lo (fop .mul .f32 (fop .sub .f32 hi lo) (shareS s))
def partL (lo hi : Option Nat) (s : Int) (k : Nat) : List (Option Nat) := (List.range k).map fun j => partX lo hi (seedAt s (j + 1))
theorem partL_next (lo hi : Option Nat) (s : Int) (k : Nat) : partL lo hi s (k + 1) = partL lo hi s k ++ [partX lo hi (nextS (seedAt s k))] := range_next _ _
theorem partL_len (lo hi : Option Nat) (s : Int) (k : Nat) : (partL lo hi s k).length = k := by simp [partL]
def partOk (n s : Int) (lo hi : Option Nat) : Bool := inB n 1 64 && inB s 0 4294967295 && finite32 lo && finite32 hi && !(ford .f32 lo hi == some .gt)
def partAll (n s : Int) (lo hi : Option Nat) : Bool := partOk n s lo hi && finL (partL lo hi s n.toNat)
def partXs (n s : Int) (lo hi : Option Nat) : List Nat := if partAll n s lo hi then bitsOf (partL lo hi s n.toNat) else []
def partS (n s : Int) (lo hi : Option Nat) : Int := if partAll n s lo hi then seedAt s n.toNat else 0
theorem part_no {n s : Int} {lo hi : Option Nat} (h : partAll n s lo hi = false) : partXs n s lo hi = [] ∧ partS n s lo hi = 0 := by simp [partXs, partS, h]
theorem part_yes {n s : Int} {lo hi : Option Nat} (h : partAll n s lo hi = true) : partXs n s lo hi = bitsOf (partL lo hi s n.toNat) ∧ partS n s lo hi = seedAt s n.toNat := by simp [partXs, partS, h]
theorem partXs_len (n s : Int) (lo hi : Option Nat) : (partXs n s lo hi).length ≤ 64 := by
  cases h : partAll n s lo hi
  · rw [(part_no h).1]; simp
  · rw [(part_yes h).1]
    simp only [partAll, partOk, Bool.and_eq_true] at h
    have := inB_true h.1.1.1.1.1
    simp [bitsOf, partL_len]; omega

set_option maxHeartbeats 400000 in
theorem isSeed_any (s : Int) (w : World) :
    Calls Try.prog 61 #[.int .i64 s] w fun e w' => e = .returned (.bool (inB s 0 4294967295)) ∧ Below w.heap.size w w' := by
  go_enter Try.func61, Try.ntmps61
  go_wp2_with (go_at_call 62; refine (within_any _ _ _ _).mono ?_; rintro e w' ⟨rfl, hb⟩; have hB : Below w.heap.size w w' := below_trans (by (repeat (first | (with_reducible assumption) | (with_reducible apply below_refl) | (with_reducible apply below_alloc1) | (with_reducible apply below_drewN1) | (with_reducible apply below_drew1)))) hb; have hC := (bcell hB).1; clear hb)
  go_ret
  exact ⟨rfl, by assumption⟩
set_option maxHeartbeats 400000 in
theorem l05Seed_any (s : Int) (w : World) :
    Calls Try.prog 65 #[.int .i64 s] w fun e w' => e = .returned (.bool (inB s 0 4294967295)) ∧ Below w.heap.size w w' := by
  go_enter Try.func65, Try.ntmps65
  go_wp2_with (go_at_call 66; refine (l00In_any _ _ _ _).mono ?_; rintro e w' ⟨rfl, hb⟩; have hB : Below w.heap.size w w' := below_trans (by (repeat (first | (with_reducible assumption) | (with_reducible apply below_refl) | (with_reducible apply below_alloc1) | (with_reducible apply below_drewN1) | (with_reducible apply below_drew1)))) hb; have hC := (bcell hB).1; clear hb)
  go_ret
  exact ⟨rfl, by assumption⟩
end Go.Proofs.Ytkaeohlakeliiaa
