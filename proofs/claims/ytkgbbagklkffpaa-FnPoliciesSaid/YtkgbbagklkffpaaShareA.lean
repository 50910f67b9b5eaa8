/- Contracts: best ages of a list of laws. -/
import Derived.Test.YtkgbbagklkffpaaBestD
namespace Go.Proofs.Ytkgbbagklkffpaa
open Go.RowKit
set_option linter.unusedVariables false

set_option maxHeartbeats 400000 in
theorem areWorkers_yes (n : Int) (h : inB n 1 8 = true) (w : World) : Calls Try.prog 38 #[.int .i64 n] w fun e w' => e = .returned (.bool true) ∧ Below w.heap.size w w' := by
  have HIN := hid h
  clear h
  go_enter Try.func38, Try.ntmps38
  go_wp2_with (first | (go_at_call 37; refine (within_any _ _ _ _).mono ?_; rw [HIN.out]; rintro e w' ⟨rfl, hb⟩; have hB : Below w.heap.size w w' := below_trans (by (repeat (first | (with_reducible assumption) | (with_reducible apply below_refl) | (with_reducible apply below_alloc1) | (with_reducible apply below_drewN1) | (with_reducible apply below_drew1)))) hb; have hC := (bcell hB).1; clear hb))
  go_ret
  exact ⟨rfl, by (repeat (first | (with_reducible assumption) | (with_reducible apply below_refl) | (with_reducible apply below_alloc1) | (with_reducible apply below_drewN1) | (with_reducible apply below_drew1)))⟩
/-- Two laws in a row. -/
def TwoLaws (w : World) (g : Nat) (k : Int) (p s : Nat) : Prop :=
  w.cell? ⟨g, 0, none⟩ = some (.int .i64 k) ∧ w.cell? ⟨g, 1, none⟩ = some (.float .f32 p) ∧ w.cell? ⟨g, 2, none⟩ = some (.float .f32 s) ∧
  w.cell? ⟨g, 3, none⟩ = some (.int .i64 k) ∧ w.cell? ⟨g, 4, none⟩ = some (.float .f32 p) ∧ w.cell? ⟨g, 5, none⟩ = some (.float .f32 s)
theorem TwoLaws.keep {w w' : World} {g : Nat} {k : Int} {p s : Nat} (h : TwoLaws w g k p s) (hb : Below w.heap.size w w') : TwoLaws w' g k p s := by
  have hg : g < w.heap.size := World.block_lt_of_cell? w _ h.1
  have hcc := (bcell hb).1
  obtain ⟨h0, h1, h2, h3, h4, h5⟩ := h
  exact ⟨by rw [hcc _ _ hg]; exact h0, by rw [hcc _ _ hg]; exact h1, by rw [hcc _ _ hg]; exact h2, by rw [hcc _ _ hg]; exact h3, by rw [hcc _ _ hg]; exact h4, by rw [hcc _ _ hg]; exact h5⟩
/-- What is left of two laws. -/
def AgesRes (T : Nat → Option Nat) (M : Nat → Option Nat × Bool) (n : Nat) (w : World) (e : Ending) (w' : World) : Prop :=
  ∃ (y : Value) (xs : List Nat), e = .returned (.tuple #[y, .bool (okAll M n)]) ∧ (okAll M n = true → xs.map (ab .f32) = [(bst T M n).1, (bst T M n).1] ∧ w'.ownsRow w.heap.size 24 1 y (xs.map (Value.float .f32)).length (xs.map (Value.float .f32))) ∧ (okAll M n = false → y = .slice none 0 0) ∧ Below w.heap.size w w'
set_option maxRecDepth 100000 in
set_option maxHeartbeats 3200000 in
theorem ages_any {k : Int} {p s to n pl fl g : Nat} (M : Nat → Option Nat × Bool) (wk : Int) (hwk : inB wk 1 8 = true) (w : World) (hg : TwoLaws w g k p s)
    (hB : ∀ w, Calls Try.prog 9 #[.agg #[.int .i64 k, .float .f32 p, .float .f32 s], .float .f32 to, .float .f32 pl, .float .f32 fl, .int .i64 n] w (BestRes (tO (ab .f32 to) n) M n w)) :
    Calls Try.prog 17 #[.slice (some ⟨g, 0, none⟩) 2 2, .float .f32 to, .float .f32 pl, .float .f32 fl, .int .i64 n, .int .i64 wk] w (AgesRes (tO (ab .f32 to) n) M n w) := by
  obtain ⟨i0, hi0, hz0, hz1, hz2⟩ := info_parts (P := Try.prog) (e := 24) (z := Value.float .f32 0) (size := 1) (bytes := 4) (by kernel_rfl)
  have HB := hid hB
  have HW := hid (fun w => areWorkers_yes wk hwk w)
  have HG := hid (fun w' (hb : Below w.heap.size w w') => hg.keep hb)
  have hgl : g < w.heap.size := World.block_lt_of_cell? w _ hg.1
  clear hB hwk hg
  cases hok : okAll M n
  · have HOK := hid hok
    clear hok
    go_enter Try.func17, Try.ntmps17
    go_wp2_with (first
      | (go_at_call 38; (refine (HW.out _).mono ?_); rintro e wa ⟨rfl, hb⟩; have hBA := below_trans (show Below w.heap.size w _ by (repeat (first | (with_reducible assumption) | (with_reducible apply below_refl) | (with_reducible apply below_alloc1) | (with_reducible apply below_drewN1) | (with_reducible apply below_drew1)))) hb; clear hb))
    go_loopw [36] (fun tv wr => tv = .int .i64 0 ∧ Below w.heap.size w wr) (fun _ _ => 0)
    case atStart => exact ⟨rfl, by (repeat (first | (with_reducible assumption) | (with_reducible apply below_refl) | (with_reducible apply below_alloc1) | (with_reducible apply below_drewN1) | (with_reducible apply below_drew1)))⟩
    case round =>
      obtain ⟨rfl, hw⟩ := hrel
      obtain ⟨d0, d1, d2, d3, d4, d5⟩ := HG.out _ hw
      go_wp2_with (first
        | (go_at_call 9; (refine (HB.out _).mono ?_); rintro e wb ⟨a, c, rfl, r1, r2, hb⟩; rw [HOK.out]; have hBB := below_trans (show Below w.heap.size w _ by (repeat (first | (with_reducible assumption) | (with_reducible apply below_refl) | (with_reducible apply below_alloc1) | (with_reducible apply below_drewN1) | (with_reducible apply below_drew1)))) hb; clear hb r1 r2))
      go_ret2
      refine ⟨_, [], by rw [HOK.out]; rfl, fun h => (by rw [HOK.out] at h; cases h), fun _ => rfl, by (repeat (first | (with_reducible assumption) | (with_reducible apply below_refl) | (with_reducible apply below_alloc1) | (with_reducible apply below_drewN1) | (with_reducible apply below_drew1)))⟩
  · have HOK := hid hok
    clear hok
    obtain ⟨A, hA⟩ : ∃ A, A = (bst (tO (ab .f32 to) n) M n).1 := ⟨_, rfl⟩
    have HA := hid hA
    clear hA
    go_enter Try.func17, Try.ntmps17
    go_wp2_with (first
      | (go_at_call 38; (refine (HW.out _).mono ?_); rintro e wa ⟨rfl, hb⟩; have hBA := below_trans (show Below w.heap.size w _ by (repeat (first | (with_reducible assumption) | (with_reducible apply below_refl) | (with_reducible apply below_alloc1) | (with_reducible apply below_drewN1) | (with_reducible apply below_drew1)))) hb; clear hb))
    have hza : w.heap.size ≤ wa.heap.size := hBA.size
    go_loopw [14, 36] (fun ov tv wr => ∃ (i : Nat) (xs : List Nat), i ≤ 2 ∧ tv = .int .i64 i ∧ Hid (xs.map (ab .f32) = List.replicate i A) ∧ Hid (wr.ownsRow w.heap.size 24 1 ov (xs.map (Value.float .f32)).length (xs.map (Value.float .f32))) ∧ Below w.heap.size w wr) (fun _ tv _ => 2 - (intOf tv).toNat)
    case atStart => exact ⟨0, [], by omega, rfl, hid rfl, hid (World.ownsRow_made wa #[] 0 hza (by simp [maxLen]) rfl), by (repeat (first | (with_reducible assumption) | (with_reducible apply below_refl) | (with_reducible apply below_alloc1) | (with_reducible apply below_drewN1) | (with_reducible apply below_drew1)))⟩
    case round =>
      obtain ⟨i, xs, hi, rfl, hxs, ho, hw⟩ := hrel
      obtain ⟨d0, d1, d2, d3, d4, d5⟩ := HG.out _ hw
      have HXL := hid (show xs.length = i by have := congrArg List.length hxs.out; simpa using this)
      by_cases hlt : i < 2
      · have hi2 : i = 0 ∨ i = 1 := by omega
        rcases hi2 with rfl | rfl
        all_goals
          go_wp2_with (first
            | (go_at_call 9; (refine (HB.out _).mono ?_); rintro e wb ⟨a, c, rfl, r1, r2, hb⟩; rw [HOK.out]; have R1 := hid (r1 HOK.out).1; have hBB := below_trans (show Below wr.heap.size wr _ by (repeat (first | (with_reducible assumption) | (with_reducible apply below_refl) | (with_reducible apply below_alloc1) | (with_reducible apply below_drewN1) | (with_reducible apply below_drew1)))) hb; clear hb r1 r2)
            | (at_builtin; refine wpList_push rfl _ _ 29 rfl Try.underlying29 hi0 hz0 hz1 hz2 rfl w.heap.size _ (xs.map (Value.float .f32)) rfl rfl (ownsRow_below ho.out (show Below wr.heap.size wr _ by (repeat (first | (with_reducible assumption) | (with_reducible apply below_refl) | (with_reducible apply below_alloc1) | (with_reducible apply below_drewN1) | (with_reducible apply below_drew1))))) rfl (by rw [List.length_map, HXL.out]; decide) (by decide) (Nat.le_trans hw.size (Below.size (show Below wr.heap.size wr _ by (repeat (first | (with_reducible assumption) | (with_reducible apply below_refl) | (with_reducible apply below_alloc1) | (with_reducible apply below_drewN1) | (with_reducible apply below_drew1)))))) ?_; intro v1 w2 hown hb2))
          go_roundw
          case rel =>
            have hX : (xs ++ [a]).map (ab .f32) = List.replicate xs.length A ++ [A] := by
              rw [List.map_append, hxs.out, HXL.out, HA.out]
              simp [R1.out]
            have hO := hid (show w2.ownsRow w.heap.size 24 1 v1 ((xs ++ [a]).map (Value.float .f32)).length ((xs ++ [a]).map (Value.float .f32)) by rw [List.map_append]; exact hown)
            have hB2 := (below_trans hw (show Below wr.heap.size wr _ by (repeat (first | (with_reducible assumption) | (with_reducible apply below_refl) | (with_reducible apply below_alloc1) | (with_reducible apply below_drewN1) | (with_reducible apply below_drew1))))).trans hb2
            rw [HXL.out] at hX
            first
              | exact ⟨1, xs ++ [a], by omega, rfl, hid hX, hO, hB2⟩
              | exact ⟨2, xs ++ [a], by omega, rfl, hid hX, hO, hB2⟩
          case measure => simp [intOf]
      · obtain rfl : i = 2 := by omega
        go_wp2_with fail
        go_ret2
        refine ⟨_, xs, by rw [HOK.out]; rfl, fun _ => ⟨by rw [hxs.out, HA.out]; rfl, ho.out⟩, fun h => (by rw [HOK.out] at h; cases h), hw⟩
end Go.Proofs.Ytkgbbagklkffpaa
