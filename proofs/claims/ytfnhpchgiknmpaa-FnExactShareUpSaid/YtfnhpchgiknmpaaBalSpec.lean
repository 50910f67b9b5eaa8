/- spec.l04Balance. -/
import Derived.Test.YtfnhpchgiknmpaaBuild
import Derived.Test.YtfnhpchgiknmpaaGrow
namespace Go.Proofs.Ytfnhpchgiknmpaa
open Go.RowKit

theorem at_push {ys : List Nat} {f : Nat → Option Nat} {r : Nat} (h : ∀ j (hj : j < ys.length), ab .f32 ys[j] = f j) (hr : ab .f32 r = f ys.length) : ∀ j (hj : j < (ys ++ [r]).length), ab .f32 (ys ++ [r])[j] = f j := by
  intro j hj
  by_cases e : j < ys.length
  · rw [List.getElem_append_left e]; exact h j e
  · have : j = ys.length := by simp at hj; omega
    subst this
    rw [List.getElem_concat_length]
    · exact hr
    · rfl
set_option maxRecDepth 100000 in
set_option maxHeartbeats 6400000 in
theorem l04Balance_any (c n : Nat) (rs : List Nat) (hn1 : 1 ≤ n) (hn8 : n ≤ 8) (hl : rs.length = n * n) (w : World) (hv : ChainAt w c n rs) :
    Calls Try.prog 48 #[.pointer (some ⟨c, 0, none⟩)] w (FRowOk 44 (balXs (balRaw rs n)) (balAll (balRaw rs n)) w) := by
  obtain ⟨i0, hi0, hz0, hz1, hz2⟩ := info_parts (P := Try.prog) (e := 44) (z := Value.float .f32 0) (size := 1) (bytes := 4) (by kernel_rfl)
  obtain ⟨j0, hj0, hy0, hy1, hy2⟩ := info_parts (P := Try.prog) (e := 30) (z := Value.slice none 0 0) (size := 1) (bytes := 24) (by kernel_rfl)
  have HV := hid hv
  obtain ⟨ao, cap, h0, h1, hrow⟩ := hv
  have hcl := World.block_lt_of_cell? w _ h0
  obtain ⟨ao, cap, b, off, he, hao, hl2, hm, hc⟩ := hrow
  simp only [List.length_map] at he hao hl2
  cases he
  unfold maxLen at hm
  obtain rfl := hao (by rw [hl]; exact Nat.mul_pos hn1 hn1)
  have H0 := hid h0; have H1 := hid h1; have HC := hid hc; have HL := hid hl
  have hnn : n * n ≤ 64 := Nat.le_trans (Nat.mul_le_mul hn8 hn8) (by decide)
  clear h0 h1 hc hao hl
  go_enter Try.func48, Try.ntmps48
  go_wp2_with fail
  have hBM := hid (build_made 30 44 w)
  have hb0 : Below w.heap.size w ((w.alloc (.cells #[] 30)).alloc (.cells #[] 44)) := below_alloc1 (below_alloc w _)
  go_loopw [4, 5, 6] (fun rv uv kv wr => ∃ (k : Nat) (xss : List (List Nat)) (qs : List Nat) (vs : List Value), k + 1 ≤ n ∧ kv = .int .i64 k ∧ Hid (BuildV 30 44 wr w.heap.size rv uv xss qs vs) ∧ Hid (Reads xss k n (mat0 rs n)) ∧ Hid (qs = List.replicate k 0) ∧ Below w.heap.size w wr) (fun _ _ kv _ => n - (intOf kv).toNat)
  case atStart => exact ⟨0, [], [], [], hn1, rfl, hBM, hid ⟨rfl, fun i hi => by simp at hi, fun i j hi => by simp at hi⟩, hid rfl, hb0⟩
  case round =>
    obtain ⟨k, xss, qs, vs, hk, rfl, hbv, hrd, hqs, hw⟩ := hrel
    have k0 : wr.cell? ⟨c, 0, none⟩ = some (.int .i64 n) := by rw [hw.cell (p := ⟨c, 0, none⟩) hcl]; exact H0.out
    have k1 : wr.cell? ⟨c, 1, none⟩ = some (.slice (some ⟨b, off, none⟩) rs.length cap) := by rw [hw.cell (p := ⟨c, 1, none⟩) hcl]; exact H1.out
    by_cases hlt : k + 1 < n
    · have hkI : (k : Int) + 1 < (n : Int) := by omega
      have hkn : k < n := by omega
      go_wp2_with fail
      clear k0 k1
      obtain ⟨wo, hwo⟩ : ∃ wo, wo = wr := ⟨_, rfl⟩
      subst hwo
      have hown0 := hid (show (wo.alloc (.cells #[] 44)).ownsRow wo.heap.size 44 1 (.slice (some ⟨wo.heap.size, 0, none⟩) 0 0) 0 [] from World.ownsRow_made wo #[] 0 (Nat.le_refl _) (by simp [maxLen]) rfl)
      go_loopw [7, 8] (fun rowv iv wr => ∃ (m : Nat) (ys : List Nat), m ≤ n ∧ iv = .int .i64 m ∧ Hid (ys.length = m) ∧ Hid (∀ j (hj : j < ys.length), ab .f32 ys[j] = mat0 rs n k j) ∧ Hid (wr.ownsRow wo.heap.size 44 1 rowv (ys.map (Value.float .f32)).length (ys.map (Value.float .f32))) ∧ Below wo.heap.size wo wr) (fun _ iv _ => n - (intOf iv).toNat)
      case atStart => exact ⟨0, [], Nat.zero_le _, rfl, hid rfl, hid (fun j hj => by simp at hj), hown0, by (repeat (first | (with_reducible assumption) | (with_reducible apply below_refl) | (with_reducible apply below_alloc1) | (with_reducible apply below_drewN1) | (with_reducible apply below_drew1)))⟩
      case round =>
        obtain ⟨m, ys, hm', rfl, hyl, hyr, ho, hwq⟩ := hrel
        have hwt := below_trans hw hwq
        have k0 : wr.cell? ⟨c, 0, none⟩ = some (.int .i64 n) := by rw [hwt.cell (p := ⟨c, 0, none⟩) hcl]; exact H0.out
        have k1 : wr.cell? ⟨c, 1, none⟩ = some (.slice (some ⟨b, off, none⟩) rs.length cap) := by rw [hwt.cell (p := ⟨c, 1, none⟩) hcl]; exact H1.out
        by_cases hlt2 : m < n
        · have hix : m * n + k < rs.length := by
            rw [HL.out]
            have : (m + 1) * n ≤ n * n := Nat.mul_le_mul_right n hlt2
            have h2 : (m + 1) * n = m * n + n := by rw [Nat.add_mul, Nat.one_mul]
            omega
          have hcell := rowc HC.out hwt (m * n + k) hix
          have HA := hid (atX_get hix)
          have hin : m * n + k < 64 := by have := HL.out; omega
          have gc1 : ((m * n : Nat) : Int) = (m : Int) * (n : Int) := Int.natCast_mul _ _
          have gc2 : ((m * n + k : Nat) : Int) = (m : Int) * (n : Int) + (k : Int) := by rw [Int.natCast_add, gc1]
          have W1 : IntKind.i64.wrap ((m : Int) * (n : Int)) = (m : Int) * (n : Int) := by rw [← gc1, IntKind.wrap_i64]; omega
          have W2 : IntKind.i64.wrap ((m : Int) * (n : Int) + (k : Int)) = (m : Int) * (n : Int) + (k : Int) := by rw [← gc2, IntKind.wrap_i64]; omega
          have g0 : (0 : Int) ≤ (m : Int) * (n : Int) + (k : Int) := by rw [← gc2]; omega
          have g1 : (m : Int) * (n : Int) + (k : Int) < (rs.length : Int) := by rw [← gc2]; omega
          have i1 : ((m : Int) * (n : Int) + (k : Int)).toNat = m * n + k := by rw [← gc2]; exact Int.toNat_natCast _
          have hmI : (m : Int) < (n : Int) := by omega
          clear gc1 gc2
          generalize rs[m * n + k] = y at hcell HA
          have hbl : b < wr.heap.size := World.block_lt_of_cell? wr _ hcell
          have hcl2 : c < wr.heap.size := World.block_lt_of_cell? wr _ k0
          by_cases hmk : m = k
          · subst hmk
            go_wp2_with (first
              | (go_region_held (fun w' => Below wr.heap.size wr w' ∧ ∀ b o, b < wr.heap.size → w'.cell? ⟨b, o, none⟩ = wr.cell? ⟨b, o, none⟩) (first | exact keep_next ‹_› ‹_› | exact keep_start | exact keep_drew ‹_› | exact keep_of (by (repeat (first | (with_reducible assumption) | (with_reducible apply below_refl) | (with_reducible apply below_alloc1) | (with_reducible apply below_drewN1) | (with_reducible apply below_drew1))))) (fail) <;> (rename_i hHeld; obtain ⟨hB, hC⟩ := hHeld))
              | (go_at_call 75; refine (l04Out_any c m n rs hn8 hkn HL.out _ (HV.out.below (below_trans hwt (by (repeat (first | (with_reducible assumption) | (with_reducible apply below_refl) | (with_reducible apply below_alloc1) | (with_reducible apply below_drewN1) | (with_reducible apply below_drew1))))))).mono ?_; rintro e w5 ⟨q, rfl, hq, hb5⟩; have hB5 : Below wr.heap.size wr w5 := below_trans (by (repeat (first | (with_reducible assumption) | (with_reducible apply below_refl) | (with_reducible apply below_alloc1) | (with_reducible apply below_drewN1) | (with_reducible apply below_drew1)))) hb5; clear hb5)
              | (refine upon_float rfl ?_; intro r nn hr; go_simp)
              | (at_builtin; refine wpList_push rfl _ _ 30 rfl Try.underlying30 hi0 hz0 hz1 hz2 rfl wo.heap.size _ _ rfl rfl (ownsRow_below ho.out (by (repeat (first | (with_reducible assumption) | (with_reducible apply below_refl) | (with_reducible apply below_alloc1) | (with_reducible apply below_drewN1) | (with_reducible apply below_drew1))))) rfl (by rw [List.length_map, hyl.out]; omega) (by decide) (Nat.le_trans hwq.size (Below.size (show Below wr.heap.size wr _ by (repeat (first | (with_reducible assumption) | (with_reducible apply below_refl) | (with_reducible apply below_alloc1) | (with_reducible apply below_drewN1) | (with_reducible apply below_drew1)))))) ?_; intro v1 w2 hown hb2))
            all_goals
              go_roundw
              case rel =>
                refine ⟨m + 1, ys ++ [r], by omega, by go_num, hid (by rw [List.length_append, hyl.out]; rfl), hid (at_push hyr.out ?_), hid (by rw [fl_vals]; exact hown), (below_trans hwq (by (repeat (first | (with_reducible assumption) | (with_reducible apply below_refl) | (with_reducible apply below_alloc1) | (with_reducible apply below_drewN1) | (with_reducible apply below_drew1))))).trans hb2⟩
                rw [hyl.out, hr, hq, ab_z32]
                simp [mat0, hlt, hlt2]
              case measure => simp [intOf]; omega
          · have hmkI : ¬ (m : Int) = (k : Int) := by omega
            obtain ⟨wd, hWD⟩ : ∃ wd, wr.drew = wd := ⟨_, rfl⟩
            have hBD : Below wr.heap.size wr wd := by rw [← hWD]; exact below_drew _
            go_wp2_with (first
              | (go_region_held (fun w' => Below wr.heap.size wr w' ∧ ∀ b o, b < wr.heap.size → w'.cell? ⟨b, o, none⟩ = wr.cell? ⟨b, o, none⟩) (first | exact keep_next ‹_› ‹_› | exact keep_start | exact keep_drew ‹_› | exact keep_of (by (repeat (first | (with_reducible assumption) | (with_reducible apply below_refl) | (with_reducible apply below_alloc1) | (with_reducible apply below_drewN1) | (with_reducible apply below_drew1))))) (fail) <;> (rename_i hHeld; clear hHeld))
              | (with_reducible refine wp_world hWD ?_; clear hWD)
              | (at_builtin; refine wpList_push rfl _ _ 30 rfl Try.underlying30 hi0 hz0 hz1 hz2 rfl wo.heap.size _ _ rfl rfl (ownsRow_below ho.out (by (repeat (first | (with_reducible assumption) | (with_reducible apply below_refl) | (with_reducible apply below_alloc1) | (with_reducible apply below_drewN1) | (with_reducible apply below_drew1))))) rfl (by rw [List.length_map, hyl.out]; omega) (by decide) (Nat.le_trans hwq.size (Below.size (show Below wr.heap.size wr _ by (repeat (first | (with_reducible assumption) | (with_reducible apply below_refl) | (with_reducible apply below_alloc1) | (with_reducible apply below_drewN1) | (with_reducible apply below_drew1)))))) ?_; intro v1 w2 hown hb2))
            all_goals
              go_roundw
              case rel =>
                refine ⟨m + 1, ys ++ [y], by omega, by go_num, hid (by rw [List.length_append, hyl.out]; rfl), hid (at_push hyr.out ?_), hid (by rw [fl_vals]; exact hown), (below_trans hwq (by (repeat (first | (with_reducible assumption) | (with_reducible apply below_refl) | (with_reducible apply below_alloc1) | (with_reducible apply below_drewN1) | (with_reducible apply below_drew1))))).trans hb2⟩
                rw [hyl.out, ← HA.out]
                simp [mat0, hlt, hlt2, hmk]
              case measure => simp [intOf]; omega
        · obtain rfl : m = n := by omega
          obtain ⟨g, cp, hrv, -, -, -, -⟩ := slice_of_own ho.out (by rw [List.length_map, hyl.out]; omega)
          subst hrv
          rw [List.length_map, hyl.out] at ho
          have HTW := hid (show Twain (Value.slice (some ⟨g, 0, none⟩) m cp) u5 from Or.inr (fun e => by
            have h1 := (ho.out.lt g rfl).1
            have h2 := hbv.out.lt.2.2 g e.symm
            omega))
          go_wp2_with (first
            | (at_builtin; refine wpList_pushG rfl _ _ 72 rfl Try.underlying72 hj0 hy0 hy1 hy2 rfl w.heap.size _ xss vs rfl rfl (hbv.out.1.below (below_trans hwq (by (repeat (first | (with_reducible assumption) | (with_reducible apply below_refl) | (with_reducible apply below_alloc1) | (with_reducible apply below_drewN1) | (with_reducible apply below_drew1)))))) rfl (by rw [hrd.out.1]; omega) (by decide) (Nat.le_trans hwt.size (Below.size (show Below wr.heap.size wr _ by (repeat (first | (with_reducible assumption) | (with_reducible apply below_refl) | (with_reducible apply below_alloc1) | (with_reducible apply below_drewN1) | (with_reducible apply below_drew1)))))) ys (by rw [hyl.out]; omega) (by rw [List.length_map, hyl.out]; exact ownsRow_low (ownsRow_below ho.out (by (repeat (first | (with_reducible assumption) | (with_reducible apply below_refl) | (with_reducible apply below_alloc1) | (with_reducible apply below_drewN1) | (with_reducible apply below_drew1))))) hw.size) wo.heap.size (fun g' hg' => (ho.out.lt g' hg').1) ⟨fun g' hg' => hbv.out.lt.1 g' hg', fun x hx g' hg' => hbv.out.lt.2.1 x hx g' hg'⟩ ?_; intro v1 w2 hgv hgr hblk hb2; have HB2 := hid (BuildV.row (hbv.out.below (below_trans hwq (by (repeat (first | (with_reducible assumption) | (with_reducible apply below_refl) | (with_reducible apply below_alloc1) | (with_reducible apply below_drewN1) | (with_reducible apply below_drew1)))))) hgv hgr hblk HTW.out); have HL2 := (below_trans hwt (show Below wr.heap.size wr _ by (repeat (first | (with_reducible assumption) | (with_reducible apply below_refl) | (with_reducible apply below_alloc1) | (with_reducible apply below_drewN1) | (with_reducible apply below_drew1))))).trans hb2; clear hgv hgr hblk)
            | (at_builtin; refine wpList_pushR rfl _ _ 30 rfl Try.underlying30 hi0 hz0 hz1 hz2 rfl w.heap.size _ (qs.map (Value.float .f32)) rfl rfl (ownsRow_below HB2.out.2.1 (by (repeat (first | (with_reducible assumption) | (with_reducible apply below_refl) | (with_reducible apply below_alloc1) | (with_reducible apply below_drewN1) | (with_reducible apply below_drew1))))) rfl (by rw [List.length_map, hqs.out, List.length_replicate]; omega) (by decide) (Nat.le_trans HL2.size (Below.size (show Below w2.heap.size w2 _ by (repeat (first | (with_reducible assumption) | (with_reducible apply below_refl) | (with_reducible apply below_alloc1) | (with_reducible apply below_drewN1) | (with_reducible apply below_drew1)))))) ?_; intro v2 w3 hown3 hgr3 hblk3 hb3; have HB3 := hid (BuildV.right (HB2.out.below (by (repeat (first | (with_reducible assumption) | (with_reducible apply below_refl) | (with_reducible apply below_alloc1) | (with_reducible apply below_drewN1) | (with_reducible apply below_drew1))))) hown3 hgr3 hblk3); have HL3 := (below_trans HL2 (show Below w2.heap.size w2 _ by (repeat (first | (with_reducible assumption) | (with_reducible apply below_refl) | (with_reducible apply below_alloc1) | (with_reducible apply below_drewN1) | (with_reducible apply below_drew1))))).trans hb3; clear hown3 hgr3 hblk3))
          go_roundw
          case rel =>
            refine ⟨k + 1, _, _, _, by omega, by go_num, HB3, hid (reads_push hrd.out hyl.out hyr.out), hid ?_, HL3⟩
            rw [hqs.out]
            exact List.replicate_append_replicate (n := k) (m := 1)
          case measure => simp [intOf]; omega
    · obtain rfl : n = k + 1 := by omega
      go_wp2_with fail
      clear k0 k1
      obtain ⟨wo, hwo⟩ : ∃ wo, wo = wr := ⟨_, rfl⟩
      subst hwo
      have hown0 := hid (show (wo.alloc (.cells #[] 44)).ownsRow wo.heap.size 44 1 (.slice (some ⟨wo.heap.size, 0, none⟩) 0 0) 0 [] from World.ownsRow_made wo #[] 0 (Nat.le_refl _) (by simp [maxLen]) rfl)
      go_loopw [10, 11] (fun rowv iv wr => ∃ (m : Nat) (ys : List Nat), m ≤ k + 1 ∧ iv = .int .i64 m ∧ Hid (ys.length = m) ∧ Hid (∀ j (hj : j < ys.length), ab .f32 ys[j] = mat0 rs (k + 1) k j) ∧ Hid (wr.ownsRow wo.heap.size 44 1 rowv (ys.map (Value.float .f32)).length (ys.map (Value.float .f32))) ∧ Below wo.heap.size wo wr) (fun _ iv _ => k + 1 - (intOf iv).toNat)
      case atStart => exact ⟨0, [], Nat.zero_le _, rfl, hid rfl, hid (fun j hj => by simp at hj), hown0, by (repeat (first | (with_reducible assumption) | (with_reducible apply below_refl) | (with_reducible apply below_alloc1) | (with_reducible apply below_drewN1) | (with_reducible apply below_drew1)))⟩
      case round =>
        obtain ⟨m, ys, hm', rfl, hyl, hyr, ho, hwq⟩ := hrel
        have hwt := below_trans hw hwq
        have k0 : wr.cell? ⟨c, 0, none⟩ = some (.int .i64 ((k + 1 : Nat) : Int)) := by rw [hwt.cell (p := ⟨c, 0, none⟩) hcl]; exact H0.out
        by_cases hlt2 : m < k + 1
        · have hmI : (m : Int) < ((k + 1 : Nat) : Int) := by omega
          go_wp2_with (first
            | (at_builtin; refine wpList_push rfl _ _ 30 rfl Try.underlying30 hi0 hz0 hz1 hz2 rfl wo.heap.size _ _ rfl rfl (ownsRow_below ho.out (by (repeat (first | (with_reducible assumption) | (with_reducible apply below_refl) | (with_reducible apply below_alloc1) | (with_reducible apply below_drewN1) | (with_reducible apply below_drew1))))) rfl (by rw [List.length_map, hyl.out]; omega) (by decide) (Nat.le_trans hwq.size (Below.size (show Below wr.heap.size wr _ by (repeat (first | (with_reducible assumption) | (with_reducible apply below_refl) | (with_reducible apply below_alloc1) | (with_reducible apply below_drewN1) | (with_reducible apply below_drew1)))))) ?_; intro v1 w2 hown hb2))
          go_roundw
          case rel =>
            refine ⟨m + 1, ys ++ [1065353216], by omega, by go_num, hid (by rw [List.length_append, hyl.out]; rfl), hid (at_push hyr.out ?_), hid (by rw [fl_vals]; exact hown), (below_trans hwq (by (repeat (first | (with_reducible assumption) | (with_reducible apply below_refl) | (with_reducible apply below_alloc1) | (with_reducible apply below_drewN1) | (with_reducible apply below_drew1))))).trans hb2⟩
            rw [ab_one32]
            simp [mat0]
          case measure => simp [intOf]; omega
        · obtain rfl : m = k + 1 := by omega
          obtain ⟨g, cp, hrv, -, -, -, -⟩ := slice_of_own ho.out (by rw [List.length_map, hyl.out]; omega)
          subst hrv
          rw [List.length_map, hyl.out] at ho
          have HTW := hid (show Twain (Value.slice (some ⟨g, 0, none⟩) (k + 1) cp) u5 from Or.inr (fun e => by
            have h1 := (ho.out.lt g rfl).1
            have h2 := hbv.out.lt.2.2 g e.symm
            omega))
          have HQL := hid (show (qs ++ [1065353216]).length = k + 1 by rw [List.length_append, hqs.out]; simp)
          have HQR := hid (show ∀ i (hi : i < (qs ++ [1065353216]).length), ab .f32 (qs ++ [1065353216])[i] = mat0 rs (k + 1) i (k + 1) by
            have hq := hqs.out
            subst hq
            refine at_push (f := fun i => mat0 rs (k + 1) i (k + 1)) (fun j hj => ?_) ?_
            · have hjk : j < k := by simpa using hj
              rw [List.getElem_replicate, ab_z32]
              simp [mat0, hjk]
            · rw [List.length_replicate, ab_one32]
              simp [mat0])
          have HRD := hid (reads_push hrd.out hyl.out hyr.out)
          have HRAW := hid (show (runM (k + 1) (mat0 rs (k + 1)) (k + 1)).map (fun B => outL B (k + 1)) = balRaw rs (k + 1) from rfl)
          cases hM : balRaw rs (k + 1) with
          | none =>
            have HM := hid hM
            clear hM
            go_wp2_with (first
              | (at_builtin; refine wpList_pushG rfl _ _ 72 rfl Try.underlying72 hj0 hy0 hy1 hy2 rfl w.heap.size _ xss vs rfl rfl (hbv.out.1.below (below_trans hwq (by (repeat (first | (with_reducible assumption) | (with_reducible apply below_refl) | (with_reducible apply below_alloc1) | (with_reducible apply below_drewN1) | (with_reducible apply below_drew1)))))) rfl (by rw [hrd.out.1]; omega) (by decide) (Nat.le_trans hwt.size (Below.size (show Below wr.heap.size wr _ by (repeat (first | (with_reducible assumption) | (with_reducible apply below_refl) | (with_reducible apply below_alloc1) | (with_reducible apply below_drewN1) | (with_reducible apply below_drew1)))))) ys (by rw [hyl.out]; omega) (by rw [List.length_map, hyl.out]; exact ownsRow_low (ownsRow_below ho.out (by (repeat (first | (with_reducible assumption) | (with_reducible apply below_refl) | (with_reducible apply below_alloc1) | (with_reducible apply below_drewN1) | (with_reducible apply below_drew1))))) hw.size) wo.heap.size (fun g' hg' => (ho.out.lt g' hg').1) ⟨fun g' hg' => hbv.out.lt.1 g' hg', fun x hx g' hg' => hbv.out.lt.2.1 x hx g' hg'⟩ ?_; intro v1 w2 hgv hgr hblk hb2; have HB2 := hid (BuildV.row (hbv.out.below (below_trans hwq (by (repeat (first | (with_reducible assumption) | (with_reducible apply below_refl) | (with_reducible apply below_alloc1) | (with_reducible apply below_drewN1) | (with_reducible apply below_drew1)))))) hgv hgr hblk HTW.out); have HL2 := (below_trans hwt (show Below wr.heap.size wr _ by (repeat (first | (with_reducible assumption) | (with_reducible apply below_refl) | (with_reducible apply below_alloc1) | (with_reducible apply below_drewN1) | (with_reducible apply below_drew1))))).trans hb2; clear hgv hgr hblk)
              | (at_builtin; refine wpList_pushR rfl _ _ 30 rfl Try.underlying30 hi0 hz0 hz1 hz2 rfl w.heap.size _ (qs.map (Value.float .f32)) rfl rfl (ownsRow_below HB2.out.2.1 (by (repeat (first | (with_reducible assumption) | (with_reducible apply below_refl) | (with_reducible apply below_alloc1) | (with_reducible apply below_drewN1) | (with_reducible apply below_drew1))))) rfl (by rw [List.length_map, hqs.out, List.length_replicate]; omega) (by decide) (Nat.le_trans HL2.size (Below.size (show Below w2.heap.size w2 _ by (repeat (first | (with_reducible assumption) | (with_reducible apply below_refl) | (with_reducible apply below_alloc1) | (with_reducible apply below_drewN1) | (with_reducible apply below_drew1)))))) ?_; intro v2 w3 hown3 hgr3 hblk3 hb3; have HB3 := hid (BuildV.right (HB2.out.below (by (repeat (first | (with_reducible assumption) | (with_reducible apply below_refl) | (with_reducible apply below_alloc1) | (with_reducible apply below_drewN1) | (with_reducible apply below_drew1))))) hown3 hgr3 hblk3); have HL3 := (below_trans HL2 (show Below w2.heap.size w2 _ by (repeat (first | (with_reducible assumption) | (with_reducible apply below_refl) | (with_reducible apply below_alloc1) | (with_reducible apply below_drewN1) | (with_reducible apply below_drew1))))).trans hb3; clear hown3 hgr3 hblk3; obtain ⟨G, cG, R, cR, e1, e2, hsv⟩ := BuildV.solve HB3.out hn1 HRD.out HQL.out HQR.out; have HSV := hid hsv; clear hsv; subst e1 e2)
              | (go_at_call 76; refine (l04Solve_any w.heap.size G cG R cR (k + 1) (mat0 rs (k + 1)) hn1 hn8 _ (Nat.le_trans HL3.size (Below.size (show Below w3.heap.size w3 _ by (repeat (first | (with_reducible assumption) | (with_reducible apply below_refl) | (with_reducible apply below_alloc1) | (with_reducible apply below_drewN1) | (with_reducible apply below_drew1)))))) (HSV.out.below (by (repeat (first | (with_reducible assumption) | (with_reducible apply below_refl) | (with_reducible apply below_alloc1) | (with_reducible apply below_drewN1) | (with_reducible apply below_drew1)))))).mono ?_; rw [HRAW.out, HM.out]; rintro e w6 ⟨rfl, hb6⟩; have HL6 := (below_trans HL3 (show Below w3.heap.size w3 _ by (repeat (first | (with_reducible assumption) | (with_reducible apply below_refl) | (with_reducible apply below_alloc1) | (with_reducible apply below_drewN1) | (with_reducible apply below_drew1))))).trans hb6; clear hb6))
            go_ret2
            exact frow_no (by rw [HM.out]; rfl) (by rw [HM.out]; rfl) HL6
          | some L =>
            have HM := hid hM
            clear hM
            cases hF : finL L
            · have HF := hid hF
              clear hF
              go_wp2_with (first
                | (at_builtin; refine wpList_pushG rfl _ _ 72 rfl Try.underlying72 hj0 hy0 hy1 hy2 rfl w.heap.size _ xss vs rfl rfl (hbv.out.1.below (below_trans hwq (by (repeat (first | (with_reducible assumption) | (with_reducible apply below_refl) | (with_reducible apply below_alloc1) | (with_reducible apply below_drewN1) | (with_reducible apply below_drew1)))))) rfl (by rw [hrd.out.1]; omega) (by decide) (Nat.le_trans hwt.size (Below.size (show Below wr.heap.size wr _ by (repeat (first | (with_reducible assumption) | (with_reducible apply below_refl) | (with_reducible apply below_alloc1) | (with_reducible apply below_drewN1) | (with_reducible apply below_drew1)))))) ys (by rw [hyl.out]; omega) (by rw [List.length_map, hyl.out]; exact ownsRow_low (ownsRow_below ho.out (by (repeat (first | (with_reducible assumption) | (with_reducible apply below_refl) | (with_reducible apply below_alloc1) | (with_reducible apply below_drewN1) | (with_reducible apply below_drew1))))) hw.size) wo.heap.size (fun g' hg' => (ho.out.lt g' hg').1) ⟨fun g' hg' => hbv.out.lt.1 g' hg', fun x hx g' hg' => hbv.out.lt.2.1 x hx g' hg'⟩ ?_; intro v1 w2 hgv hgr hblk hb2; have HB2 := hid (BuildV.row (hbv.out.below (below_trans hwq (by (repeat (first | (with_reducible assumption) | (with_reducible apply below_refl) | (with_reducible apply below_alloc1) | (with_reducible apply below_drewN1) | (with_reducible apply below_drew1)))))) hgv hgr hblk HTW.out); have HL2 := (below_trans hwt (show Below wr.heap.size wr _ by (repeat (first | (with_reducible assumption) | (with_reducible apply below_refl) | (with_reducible apply below_alloc1) | (with_reducible apply below_drewN1) | (with_reducible apply below_drew1))))).trans hb2; clear hgv hgr hblk)
                | (at_builtin; refine wpList_pushR rfl _ _ 30 rfl Try.underlying30 hi0 hz0 hz1 hz2 rfl w.heap.size _ (qs.map (Value.float .f32)) rfl rfl (ownsRow_below HB2.out.2.1 (by (repeat (first | (with_reducible assumption) | (with_reducible apply below_refl) | (with_reducible apply below_alloc1) | (with_reducible apply below_drewN1) | (with_reducible apply below_drew1))))) rfl (by rw [List.length_map, hqs.out, List.length_replicate]; omega) (by decide) (Nat.le_trans HL2.size (Below.size (show Below w2.heap.size w2 _ by (repeat (first | (with_reducible assumption) | (with_reducible apply below_refl) | (with_reducible apply below_alloc1) | (with_reducible apply below_drewN1) | (with_reducible apply below_drew1)))))) ?_; intro v2 w3 hown3 hgr3 hblk3 hb3; have HB3 := hid (BuildV.right (HB2.out.below (by (repeat (first | (with_reducible assumption) | (with_reducible apply below_refl) | (with_reducible apply below_alloc1) | (with_reducible apply below_drewN1) | (with_reducible apply below_drew1))))) hown3 hgr3 hblk3); have HL3 := (below_trans HL2 (show Below w2.heap.size w2 _ by (repeat (first | (with_reducible assumption) | (with_reducible apply below_refl) | (with_reducible apply below_alloc1) | (with_reducible apply below_drewN1) | (with_reducible apply below_drew1))))).trans hb3; clear hown3 hgr3 hblk3; obtain ⟨G, cG, R, cR, e1, e2, hsv⟩ := BuildV.solve HB3.out hn1 HRD.out HQL.out HQR.out; have HSV := hid hsv; clear hsv; subst e1 e2)
                | (go_at_call 76; refine (l04Solve_any w.heap.size G cG R cR (k + 1) (mat0 rs (k + 1)) hn1 hn8 _ (Nat.le_trans HL3.size (Below.size (show Below w3.heap.size w3 _ by (repeat (first | (with_reducible assumption) | (with_reducible apply below_refl) | (with_reducible apply below_alloc1) | (with_reducible apply below_drewN1) | (with_reducible apply below_drew1)))))) (HSV.out.below (by (repeat (first | (with_reducible assumption) | (with_reducible apply below_refl) | (with_reducible apply below_alloc1) | (with_reducible apply below_drewN1) | (with_reducible apply below_drew1)))))).mono ?_; rw [HRAW.out, HM.out]; rintro e w6 ⟨⟨u6, bs, rfl, ho6, hbs⟩, hb6⟩; have HBS := hid hbs; have HO6 := hid (ownsRow_low ho6 (Nat.le_trans HL3.size (Below.size (show Below w3.heap.size w3 _ by (repeat (first | (with_reducible assumption) | (with_reducible apply below_refl) | (with_reducible apply below_alloc1) | (with_reducible apply below_drewN1) | (with_reducible apply below_drew1))))))); have HL6 := (below_trans HL3 (show Below w3.heap.size w3 _ by (repeat (first | (with_reducible assumption) | (with_reducible apply below_refl) | (with_reducible apply below_alloc1) | (with_reducible apply below_drewN1) | (with_reducible apply below_drew1))))).trans hb6; clear hb6 hbs ho6)
                | (go_at_call 77; refine (l02List_no _ bs (by rw [finL_map, HBS.out]; exact HF.out) _ ((Own.mk' HO6.out).row.below (by (repeat (first | (with_reducible assumption) | (with_reducible apply below_refl) | (with_reducible apply below_alloc1) | (with_reducible apply below_drewN1) | (with_reducible apply below_drew1)))))).mono ?_; rintro e w7 ⟨rfl, hb7⟩; have HL7 := below_trans HL6 (below_trans (show Below w6.heap.size w6 _ by (repeat (first | (with_reducible assumption) | (with_reducible apply below_refl) | (with_reducible apply below_alloc1) | (with_reducible apply below_drewN1) | (with_reducible apply below_drew1)))) hb7); have HB7 := hid (below_trans (show Below w6.heap.size w6 _ by (repeat (first | (with_reducible assumption) | (with_reducible apply below_refl) | (with_reducible apply below_alloc1) | (with_reducible apply below_drewN1) | (with_reducible apply below_drew1)))) hb7); clear hb7))
              go_ret2
              exact frow_no (by rw [HM.out]; simp [balXs, HF.out]) (by rw [HM.out]; exact HF.out) HL7
            · have HF := hid hF
              clear hF
              go_wp2_with (first
                | (at_builtin; refine wpList_pushG rfl _ _ 72 rfl Try.underlying72 hj0 hy0 hy1 hy2 rfl w.heap.size _ xss vs rfl rfl (hbv.out.1.below (below_trans hwq (by (repeat (first | (with_reducible assumption) | (with_reducible apply below_refl) | (with_reducible apply below_alloc1) | (with_reducible apply below_drewN1) | (with_reducible apply below_drew1)))))) rfl (by rw [hrd.out.1]; omega) (by decide) (Nat.le_trans hwt.size (Below.size (show Below wr.heap.size wr _ by (repeat (first | (with_reducible assumption) | (with_reducible apply below_refl) | (with_reducible apply below_alloc1) | (with_reducible apply below_drewN1) | (with_reducible apply below_drew1)))))) ys (by rw [hyl.out]; omega) (by rw [List.length_map, hyl.out]; exact ownsRow_low (ownsRow_below ho.out (by (repeat (first | (with_reducible assumption) | (with_reducible apply below_refl) | (with_reducible apply below_alloc1) | (with_reducible apply below_drewN1) | (with_reducible apply below_drew1))))) hw.size) wo.heap.size (fun g' hg' => (ho.out.lt g' hg').1) ⟨fun g' hg' => hbv.out.lt.1 g' hg', fun x hx g' hg' => hbv.out.lt.2.1 x hx g' hg'⟩ ?_; intro v1 w2 hgv hgr hblk hb2; have HB2 := hid (BuildV.row (hbv.out.below (below_trans hwq (by (repeat (first | (with_reducible assumption) | (with_reducible apply below_refl) | (with_reducible apply below_alloc1) | (with_reducible apply below_drewN1) | (with_reducible apply below_drew1)))))) hgv hgr hblk HTW.out); have HL2 := (below_trans hwt (show Below wr.heap.size wr _ by (repeat (first | (with_reducible assumption) | (with_reducible apply below_refl) | (with_reducible apply below_alloc1) | (with_reducible apply below_drewN1) | (with_reducible apply below_drew1))))).trans hb2; clear hgv hgr hblk)
                | (at_builtin; refine wpList_pushR rfl _ _ 30 rfl Try.underlying30 hi0 hz0 hz1 hz2 rfl w.heap.size _ (qs.map (Value.float .f32)) rfl rfl (ownsRow_below HB2.out.2.1 (by (repeat (first | (with_reducible assumption) | (with_reducible apply below_refl) | (with_reducible apply below_alloc1) | (with_reducible apply below_drewN1) | (with_reducible apply below_drew1))))) rfl (by rw [List.length_map, hqs.out, List.length_replicate]; omega) (by decide) (Nat.le_trans HL2.size (Below.size (show Below w2.heap.size w2 _ by (repeat (first | (with_reducible assumption) | (with_reducible apply below_refl) | (with_reducible apply below_alloc1) | (with_reducible apply below_drewN1) | (with_reducible apply below_drew1)))))) ?_; intro v2 w3 hown3 hgr3 hblk3 hb3; have HB3 := hid (BuildV.right (HB2.out.below (by (repeat (first | (with_reducible assumption) | (with_reducible apply below_refl) | (with_reducible apply below_alloc1) | (with_reducible apply below_drewN1) | (with_reducible apply below_drew1))))) hown3 hgr3 hblk3); have HL3 := (below_trans HL2 (show Below w2.heap.size w2 _ by (repeat (first | (with_reducible assumption) | (with_reducible apply below_refl) | (with_reducible apply below_alloc1) | (with_reducible apply below_drewN1) | (with_reducible apply below_drew1))))).trans hb3; clear hown3 hgr3 hblk3; obtain ⟨G, cG, R, cR, e1, e2, hsv⟩ := BuildV.solve HB3.out hn1 HRD.out HQL.out HQR.out; have HSV := hid hsv; clear hsv; subst e1 e2)
                | (go_at_call 76; refine (l04Solve_any w.heap.size G cG R cR (k + 1) (mat0 rs (k + 1)) hn1 hn8 _ (Nat.le_trans HL3.size (Below.size (show Below w3.heap.size w3 _ by (repeat (first | (with_reducible assumption) | (with_reducible apply below_refl) | (with_reducible apply below_alloc1) | (with_reducible apply below_drewN1) | (with_reducible apply below_drew1)))))) (HSV.out.below (by (repeat (first | (with_reducible assumption) | (with_reducible apply below_refl) | (with_reducible apply below_alloc1) | (with_reducible apply below_drewN1) | (with_reducible apply below_drew1)))))).mono ?_; rw [HRAW.out, HM.out]; rintro e w6 ⟨⟨u6, bs, rfl, ho6, hbs⟩, hb6⟩; have HBS := hid hbs; have HO6 := hid (ownsRow_low ho6 (Nat.le_trans HL3.size (Below.size (show Below w3.heap.size w3 _ by (repeat (first | (with_reducible assumption) | (with_reducible apply below_refl) | (with_reducible apply below_alloc1) | (with_reducible apply below_drewN1) | (with_reducible apply below_drew1))))))); have HL6 := (below_trans HL3 (show Below w3.heap.size w3 _ by (repeat (first | (with_reducible assumption) | (with_reducible apply below_refl) | (with_reducible apply below_alloc1) | (with_reducible apply below_drewN1) | (with_reducible apply below_drew1))))).trans hb6; clear hb6 hbs ho6)
                | (go_at_call 77; refine (l02List_yes _ bs (by rw [finL_map, HBS.out]; exact HF.out) _ ((Own.mk' HO6.out).row.below (by (repeat (first | (with_reducible assumption) | (with_reducible apply below_refl) | (with_reducible apply below_alloc1) | (with_reducible apply below_drewN1) | (with_reducible apply below_drew1)))))).mono ?_; rintro e w7 ⟨rfl, hb7⟩; have HL7 := below_trans HL6 (below_trans (show Below w6.heap.size w6 _ by (repeat (first | (with_reducible assumption) | (with_reducible apply below_refl) | (with_reducible apply below_alloc1) | (with_reducible apply below_drewN1) | (with_reducible apply below_drew1)))) hb7); have HB7 := hid (below_trans (show Below w6.heap.size w6 _ by (repeat (first | (with_reducible assumption) | (with_reducible apply below_refl) | (with_reducible apply below_alloc1) | (with_reducible apply below_drewN1) | (with_reducible apply below_drew1)))) hb7); clear hb7))
              go_ret2
              refine frow_yes (by rw [HM.out]; exact HF.out) ?_ HL7
              have hbl : bs = balXs (balRaw rs (k + 1)) := by
                rw [HM.out]
                simp only [balXs, HF.out, if_true]
                exact ab_bits _ _ HBS.out HF.out
              rw [← hbl]
              exact ownsRow_below HO6.out HB7.out
end Go.Proofs.Ytfnhpchgiknmpaa
