/- Contracts: PathsShared. -/
import Derived.Test.YtkaeohlakeliiaaLine2
import Derived.Test.YtkaeohlakeliiaaLine3
import Derived.Test.YtkaeohlakeliiaaNest
namespace Go.Proofs.Ytkaeohlakeliiaa
open Go.RowKit

def slopeX (ys xs : List Nat) : Option Nat := (lnM xs ys).1.2.1
def pathsOk (xss : List (List Nat)) (wk : Int) : Bool := decide (1 ≤ xss.length) && decide (xss.length ≤ 16) && inB wk 1 8
def pathsAll (xss : List (List Nat)) (ys : List Nat) (wk : Int) : Bool := pathsOk xss wk && xss.all fun xs => (lnM xs ys).2
def pathsXs (xss : List (List Nat)) (ys : List Nat) (wk : Int) : List Nat := if pathsAll xss ys wk then bitsOf (xss.map (slopeX ys)) else []
theorem paths_no {xss : List (List Nat)} {ys : List Nat} {wk : Int} (h : pathsAll xss ys wk = false) : pathsXs xss ys wk = [] := by simp [pathsXs, h]
theorem paths_yes {xss : List (List Nat)} {ys : List Nat} {wk : Int} (h : pathsAll xss ys wk = true) : pathsXs xss ys wk = bitsOf (xss.map (slopeX ys)) := by simp [pathsXs, h]
theorem paths_fail {xss : List (List Nat)} {ys : List Nat} {wk : Int} (h : pathsOk xss wk = false) : pathsXs xss ys wk = [] ∧ pathsAll xss ys wk = false := by
  have : pathsAll xss ys wk = false := by simp [pathsAll, h]
  exact ⟨paths_no this, this⟩
theorem paths_bad {xss : List (List Nat)} {ys : List Nat} {wk : Int} {k : Nat} (hk : k < xss.length) (h : (lnM xss[k] ys).2 = false) : pathsXs xss ys wk = [] ∧ pathsAll xss ys wk = false := by
  have h1 : (xss.all fun xs => (lnM xs ys).2) = false := by rw [List.all_eq_false]; exact ⟨_, List.getElem_mem hk, by simp [h]⟩
  have : pathsAll xss ys wk = false := by simp [pathsAll, h1]
  exact ⟨paths_no this, this⟩
theorem pathsXs_len (xss : List (List Nat)) (ys : List Nat) (wk : Int) : (pathsXs xss ys wk).length ≤ 16 := by
  cases h : pathsAll xss ys wk
  · rw [paths_no h]; simp
  · rw [paths_yes h]
    simp only [pathsAll, pathsOk, Bool.and_eq_true, decide_eq_true_eq] at h
    simp [bitsOf]; omega
theorem slope_fin {xs ys : List Nat} (h : (lnM xs ys).2 = true) : finite32 (slopeX ys xs) = true := by
  unfold slopeX
  cases hr : (lnRaw xs ys).2
  · rw [lnM_no hr] at h; simp at h
  · rw [lnM_yes hr] at h ⊢
    cases ho : lnOk xs ys
    · rw [lnRaw_no ho] at hr; simp at hr
    · rw [lnRaw_yes ho] at h ⊢
      simp only [lnFin, Bool.and_eq_true] at h
      exact h.1.2
theorem paths_fin {xss : List (List Nat)} {ys : List Nat} (h : ∀ k (hk : k < xss.length), (lnM xss[k] ys).2 = true) : finL (xss.map (slopeX ys)) = true := by
  unfold finL
  rw [List.all_map, List.all_eq_true]
  intro xs hx
  obtain ⟨k, hk, rfl⟩ := List.getElem_of_mem hx
  exact slope_fin (h k hk)
theorem paths_good {xss : List (List Nat)} {ys : List Nat} {wk : Int} (h0 : pathsOk xss wk = true) (h : ∀ k (hk : k < xss.length), (lnM xss[k] ys).2 = true) : pathsAll xss ys wk = true := by
  have : (xss.all fun xs => (lnM xs ys).2) = true := by
    rw [List.all_eq_true]
    intro x hx
    obtain ⟨j, hj, rfl⟩ := List.getElem_of_mem hx
    exact h j hj
  simp [pathsAll, h0, this]
theorem slopes_next (xss : List (List Nat)) (ys : List Nat) (k : Nat) (h : k < xss.length) : (xss.take (k + 1)).map (slopeX ys) = (xss.take k).map (slopeX ys) ++ [slopeX ys xss[k]] := by
  rw [List.take_succ_eq_append_getElem h, List.map_append]; rfl

set_option maxHeartbeats 400000 in
theorem areWorkersP (n : Int) (w : World) :
    Calls Try.prog 79 #[.int .i64 n] w fun e w' => e = .returned (.bool (inB n 1 8)) ∧ Below w.heap.size w w' := by
  go_enter Try.func79, Try.ntmps79
  go_wp2_with (go_at_call 62; refine (within_any _ _ _ _).mono ?_; rintro e w' ⟨rfl, hb⟩; have hB : Below w.heap.size w w' := below_trans (by (repeat (first | (with_reducible assumption) | (with_reducible apply below_refl) | (with_reducible apply below_alloc1) | (with_reducible apply below_drewN1) | (with_reducible apply below_drew1)))) hb; have hC := (bcell hB).1; clear hb)
  go_ret
  exact ⟨rfl, by assumption⟩
set_option maxRecDepth 100000 in
set_option maxHeartbeats 2000000 in
theorem implPaths_any (v u : Value) (xss : List (List Nat)) (ys : List Nat) (wk : Int) (w : World) (hv : RowsAt w v xss) (hu : RowAt w u (ys.map (Value.float .f32))) :
    Calls Try.prog 21 #[v, u, .int .i64 wk] w (FRowOk 27 (pathsXs xss ys wk) (pathsAll xss ys wk) w) := by
  obtain ⟨i0, hi0, hz0, hz1, hz2⟩ := info_parts (P := Try.prog) (e := 27) (z := Value.float .f32 0) (size := 1) (bytes := 4) (by kernel_rfl)
  have HU := hid hu
  obtain ⟨ao, cap, b, off, rfl, hao, hl, hm, hc⟩ := hv.one
  unfold maxLen at hm
  have HA := hid hao; have HC := hid hc
  clear hv hao hc
  by_cases h1 : 1 ≤ xss.length
  rotate_left
  · have HE := hid (paths_fail (xss := xss) (ys := ys) (wk := wk) (by simp [pathsOk, h1]))
    have h1' : (xss.length : Int) < 1 := by omega
    go_enter Try.func21, Try.ntmps21
    go_wp2_with fail
    go_ret2
    exact frow_no HE.out.1 HE.out.2 (by (repeat (first | (with_reducible assumption) | (with_reducible apply below_refl) | (with_reducible apply below_alloc1) | (with_reducible apply below_drewN1) | (with_reducible apply below_drew1))))
  have h1' : ¬ (xss.length : Int) < 1 := by omega
  by_cases h2 : xss.length ≤ 16
  rotate_left
  · have HE := hid (paths_fail (xss := xss) (ys := ys) (wk := wk) (by simp [pathsOk, h2]))
    have h2' : (16 : Int) < (xss.length : Int) := by omega
    go_enter Try.func21, Try.ntmps21
    go_wp2_with fail
    go_ret2
    exact frow_no HE.out.1 HE.out.2 (by (repeat (first | (with_reducible assumption) | (with_reducible apply below_refl) | (with_reducible apply below_alloc1) | (with_reducible apply below_drewN1) | (with_reducible apply below_drew1))))
  have h2' : ¬ (16 : Int) < (xss.length : Int) := by omega
  cases g1 : inB wk 1 8
  · have HE := hid (paths_fail (xss := xss) (ys := ys) (wk := wk) (by simp [pathsOk, g1]))
    go_enter Try.func21, Try.ntmps21
    go_wp2_with (first | (go_at_call 79; (with_reducible refine (areWorkersP _ _).mono ?_); rw [g1]; rintro e w' ⟨rfl, hb⟩; have hB : Below w.heap.size w w' := below_trans (by (repeat (first | (with_reducible assumption) | (with_reducible apply below_refl) | (with_reducible apply below_alloc1) | (with_reducible apply below_drewN1) | (with_reducible apply below_drew1)))) hb; have hC := (bcell hB).1; clear hb))
    go_ret2
    exact frow_no HE.out.1 HE.out.2 (by assumption)
  have HOK := hid (show pathsOk xss wk = true by simp [pathsOk, g1, h1, h2])
  obtain rfl := HA.out (by omega)
  go_enter Try.func21, Try.ntmps21
  go_wp2_with (first | (go_at_call 79; (with_reducible refine (areWorkersP _ _).mono ?_); rw [g1]; rintro e w' ⟨rfl, hb⟩; have hB : Below w.heap.size w w' := below_trans (by (repeat (first | (with_reducible assumption) | (with_reducible apply below_refl) | (with_reducible apply below_alloc1) | (with_reducible apply below_drewN1) | (with_reducible apply below_drew1)))) hb; have hC := (bcell hB).1; clear hb))
  have hsz := (show Below w.heap.size w _ from by assumption).size
  go_loopw [8, 31] (fun v y wr => ∃ (k : Nat) (zs : List Nat), k ≤ xss.length ∧ y = .int .i64 k ∧ Hid (zs.map (ab .f32) = (xss.take k).map (slopeX ys)) ∧ Hid (∀ j (hj : j < xss.length), j < k → (lnM xss[j] ys).2 = true) ∧ Hid (wr.ownsRow w.heap.size 27 1 v (zs.map (Value.float .f32)).length (zs.map (Value.float .f32))) ∧ Below w.heap.size w wr) (fun _ y _ => xss.length - (intOf y).toNat)
  case atStart => exact ⟨0, [], by omega, rfl, hid rfl, hid (fun j _ h => absurd h (Nat.not_lt_zero _)), hid (World.ownsRow_made _ #[] 0 hsz (by simp [maxLen]) rfl), by (repeat (first | (with_reducible assumption) | (with_reducible apply below_refl) | (with_reducible apply below_alloc1) | (with_reducible apply below_drewN1) | (with_reducible apply below_drew1)))⟩
  case round =>
    obtain ⟨k, zs, hk, rfl, hx, hno, ho, hw⟩ := hrel
    have hlen : zs.length = k := by have := congrArg List.length hx.out; simpa [hk] using this
    have HLEN := hid hlen; clear hlen
    have hC1 := (bcell hw).1
    by_cases hlt : k < xss.length
    · obtain ⟨ao2, cap2, hcell, hrow⟩ := HC.out k hlt
      have hcell' : wr.cell? ⟨b, off + k, none⟩ = some (.slice ao2 (xss[k]).length cap2) := by rw [hw.cell (p := ⟨b, off + k, none⟩) (World.block_lt_of_cell? w _ hcell)]; exact hcell
      have HROW := hid hrow
      have hnx := slopes_next xss ys k hlt
      have hbad := paths_bad (ys := ys) (wk := wk) hlt
      have hgood := (show (lnM xss[k] ys).2 = true → ∀ j (hj : j < xss.length), j < k + 1 → (lnM xss[j] ys).2 = true from fun h j hj hj2 => by
        by_cases e : j = k
        · subst e; exact h
        · exact hno.out j hj (by omega))
      have HNX := hid hnx; have HBAD := hid hbad; have HGOOD := hid hgood
      clear hnx hbad hgood hrow hcell
      generalize xss[k] = xs at hcell' HROW HNX HBAD HGOOD
      cases hM : (lnM xs ys).2
      · have HE := hid (HBAD.out hM)
        have HM := hid hM; clear hM
        go_wp2_with (first | (go_at_call 20; refine (implLine_any _ _ xs ys _ (HROW.out.below (below_trans hw (by (repeat (first | (with_reducible assumption) | (with_reducible apply below_refl) | (with_reducible apply below_alloc1) | (with_reducible apply below_drewN1) | (with_reducible apply below_drew1)))))) (HU.out.below (below_trans hw (by (repeat (first | (with_reducible assumption) | (with_reducible apply below_refl) | (with_reducible apply below_alloc1) | (with_reducible apply below_drewN1) | (with_reducible apply below_drew1))))))).mono ?_; rintro e w' ⟨x, y, z, rfl, hx, hy, hz, hb⟩; rw [HM.out]))
        go_ret2
        exact frow_no HE.out.1 HE.out.2 (below_trans hw (by (repeat (first | (with_reducible assumption) | (with_reducible apply below_refl) | (with_reducible apply below_alloc1) | (with_reducible apply below_drewN1) | (with_reducible apply below_drew1)))))
      · have HG := hid (HGOOD.out hM)
        have HM := hid hM; clear hM
        go_wp2_with (first
          | (go_at_call 20; refine (implLine_any _ _ xs ys _ (HROW.out.below (below_trans hw (by (repeat (first | (with_reducible assumption) | (with_reducible apply below_refl) | (with_reducible apply below_alloc1) | (with_reducible apply below_drewN1) | (with_reducible apply below_drew1)))))) (HU.out.below (below_trans hw (by (repeat (first | (with_reducible assumption) | (with_reducible apply below_refl) | (with_reducible apply below_alloc1) | (with_reducible apply below_drewN1) | (with_reducible apply below_drew1))))))).mono ?_; rintro e w' ⟨x, y, z, rfl, hx1, hy1, hz1', hb⟩; rw [HM.out])
          | (at_builtin; refine wpList_push rfl _ _ 25 rfl Try.underlying25 hi0 hz0 hz1 hz2 rfl w.heap.size _ _ rfl rfl (ownsRow_below ho.out (by (repeat (first | (with_reducible assumption) | (with_reducible apply below_refl) | (with_reducible apply below_alloc1) | (with_reducible apply below_drewN1) | (with_reducible apply below_drew1))))) rfl (by rw [List.length_map, HLEN.out]; omega) (by decide) (Nat.le_trans hw.size (Below.size (show Below wr.heap.size wr _ by (repeat (first | (with_reducible assumption) | (with_reducible apply below_refl) | (with_reducible apply below_alloc1) | (with_reducible apply below_drewN1) | (with_reducible apply below_drew1)))))) ?_; intro v1 w2 hown hb2))
        go_roundw
        case rel =>
          refine ⟨k + 1, zs ++ [y], by omega, by go_num, hid ?_, HG, hid (by rw [fl_vals]; exact hown), (below_trans hw (by (repeat (first | (with_reducible assumption) | (with_reducible apply below_refl) | (with_reducible apply below_alloc1) | (with_reducible apply below_drewN1) | (with_reducible apply below_drew1))))).trans hb2⟩
          rw [HNX.out]
          exact fl_push hx.out hy1
        case measure => simp [intOf]; omega
    · obtain rfl : k = xss.length := by omega
      have hall := paths_good HOK.out (fun j hj => hno.out j hj hj)
      have HALL := hid hall
      have HE := hid (paths_yes hall)
      have HX := hid (show zs = bitsOf (xss.map (slopeX ys)) from ab_bits _ _ (by rw [hx.out, List.take_length]) (paths_fin (fun j hj => hno.out j hj hj)))
      clear hall
      go_wp2_with fail
      go_ret2
      exact frow_yes HALL.out (by rw [HE.out, ← HX.out]; exact ownsRow_below ho.out (by (repeat (first | (with_reducible assumption) | (with_reducible apply below_refl) | (with_reducible apply below_alloc1) | (with_reducible apply below_drewN1) | (with_reducible apply below_drew1))))) (below_trans hw (by (repeat (first | (with_reducible assumption) | (with_reducible apply below_refl) | (with_reducible apply below_alloc1) | (with_reducible apply below_drewN1) | (with_reducible apply below_drew1)))))
end Go.Proofs.Ytkaeohlakeliiaa
