/- impl.BalanceOf. -/
import Derived.Test.YtfnhpchgiknmpaaBalSpec
import Derived.Test.YtfnhpchgiknmpaaRep
namespace Go.Proofs.Ytfnhpchgiknmpaa
open Go.RowKit

def balOf (rs : List Nat) (s : Int) : Option (List (Option Nat)) := if chainB rs s = true then balRaw rs s.toNat else none
theorem repeat_at (v : Value) (x m : Nat) (z : Int) (hz : z = (m : Int)) (h1 : 2 ≤ m) (h9 : m ≤ 9) (w : World) (hv : RowAt w v ([x].map (Value.float .f32))) :
    Calls Try.prog 52 #[v, .int .i64 z] w (RowOk 44 ((List.replicate m x).map (Value.float .f32)) w) := by
  subst hz
  exact repeat_any v x m h1 h9 w hv
set_option maxRecDepth 100000 in
set_option maxHeartbeats 6400000 in
theorem implBalance_any (s : Int) (ao : Option Addr) (cap : Nat) (rs : List Nat) (w : World) (hv : RowAt w (.slice ao rs.length cap) (rs.map (Value.float .f32))) :
    Calls Try.prog 18 #[.agg #[.int .i64 s, .slice ao rs.length cap]] w (FRowOk 44 (balXs (balOf rs s)) (balAll (balOf rs s)) w) := by
  obtain ⟨i0, hi0, hz0, hz1, hz2⟩ := info_parts (P := Try.prog) (e := 44) (z := Value.float .f32 0) (size := 1) (bytes := 4) (by kernel_rfl)
  obtain ⟨j0, hj0, hy0, hy1, hy2⟩ := info_parts (P := Try.prog) (e := 30) (z := Value.slice none 0 0) (size := 1) (bytes := 24) (by kernel_rfl)
  have HV := hid hv
  clear hv
  cases hC : chainB rs s
  · have HC := hid hC
    have HE := hid (show balOf rs s = none by unfold balOf; rw [hC]; rfl)
    clear hC
    go_enter Try.func18, Try.ntmps18
    go_wp2_with (first
      | (go_at_call 49; (with_reducible refine (validChain_any _ _ _ rs _ (HV.out.below (by (repeat (first | (with_reducible assumption) | (with_reducible apply below_refl) | (with_reducible apply below_alloc1) | (with_reducible apply below_drewN1) | (with_reducible apply below_drew1)))))).mono ?_); rw [HC.out]; rintro e w' ⟨rfl, hb⟩; have hB : Below w.heap.size w w' := below_trans (by (repeat (first | (with_reducible assumption) | (with_reducible apply below_refl) | (with_reducible apply below_alloc1) | (with_reducible apply below_drewN1) | (with_reducible apply below_drew1)))) hb; have hC := (bcell hB).1; clear hb))
    go_ret2
    exact frow_no (by rw [HE.out]; rfl) (by rw [HE.out]; rfl) (by assumption)
  obtain ⟨n, rfl, hn1, hn8, hl, -, -⟩ := chainB_parts hC
  have HE := hid (show balOf rs n = balRaw rs n by unfold balOf; rw [hC]; simp)
  have HCC := hid hC
  have hnn : n * n ≤ 64 := Nat.le_trans (Nat.mul_le_mul hn8 hn8) (by decide)
  have HL := hid hl
  clear hC hl
  go_enter Try.func18, Try.ntmps18
  go_wp2_with (first
    | (go_at_call 49; refine (validChain_any _ _ _ rs _ (HV.out.below (by (repeat (first | (with_reducible assumption) | (with_reducible apply below_refl) | (with_reducible apply below_alloc1) | (with_reducible apply below_drewN1) | (with_reducible apply below_drew1)))))).mono ?_; rw [HCC.out]; rintro e w' ⟨rfl, hb⟩; have hcc := (bcell hb).1; have hB : Below w.heap.size w w' := below_trans (by (repeat (first | (with_reducible assumption) | (with_reducible apply below_refl) | (with_reducible apply below_alloc1) | (with_reducible apply below_drewN1) | (with_reducible apply below_drew1)))) hb; have hz : w.heap.size < w'.heap.size := (by have := hb.size; simp at this; omega); clear hb))
  have k0 : w'.cell? ⟨w.heap.size, 0, none⟩ = some (.int .i64 n) := by rw [hcc _ _ (by simp)]; simp
  have k1 : w'.cell? ⟨w.heap.size, 1, none⟩ = some (.slice ao rs.length cap) := by rw [hcc _ _ (by simp)]; simp
  clear hcc
  obtain ⟨wa, hwa⟩ : ∃ wa, wa = w' := ⟨_, rfl⟩
  subst hwa
  have K0 := hid k0; have K1 := hid k1
  have HB0 := hid hB
  clear k0 k1
  have hV2 := hid (HV.out.below hB)
  have hown00 := hid (show GridV 30 44 (wa.alloc (.cells #[] 30)) wa.heap.size (.slice (some ⟨wa.heap.size, 0, none⟩) 0 0) [] [] from ⟨rfl, World.ownsRow_made wa #[] 0 (Nat.le_refl _) (by simp [maxLen]) rfl, fun i u xs hu => by simp at hu, fun i j u u' _ hu => by simp at hu⟩)
  have W1 : IntKind.i64.wrap ((n : Int) - 1) = (n : Int) - 1 := by rw [IntKind.wrap_i64]; omega
  go_loopw [5, 24] (fun rv kv wr => ∃ (k : Nat) (xss : List (List Nat)) (vs : List Value), k + 1 ≤ n ∧ kv = .int .i64 k ∧ Hid (GridV 30 44 wr wa.heap.size rv xss vs) ∧ Hid (Reads xss k (n + 1) (mat0 rs n)) ∧ Below wa.heap.size wa wr) (fun _ kv _ => n - (intOf kv).toNat)
  case atStart => exact ⟨0, [], [], hn1, rfl, hown00, hid ⟨rfl, fun i hi => by simp at hi, fun i j hi => by simp at hi⟩, by (repeat (first | (with_reducible assumption) | (with_reducible apply below_refl) | (with_reducible apply below_alloc1) | (with_reducible apply below_drewN1) | (with_reducible apply below_drew1)))⟩
  case round =>
    obtain ⟨k, xss, vs, hk, rfl, hbv, hrd, hw⟩ := hrel
    by_cases hlt : k + 1 < n
    · have hkI : (k : Int) < (n : Int) - 1 := by omega
      have hkn : k < n := by omega
      go_wp2_with fail
      obtain ⟨wo, hwo⟩ : ∃ wo, wo = wr := ⟨_, rfl⟩
      subst hwo
      have hown0 := hid (show (wo.alloc (.cells #[] 44)).ownsRow wo.heap.size 44 1 (.slice (some ⟨wo.heap.size, 0, none⟩) 0 0) 0 [] from World.ownsRow_made wo #[] 0 (Nat.le_refl _) (by simp [maxLen]) rfl)
      go_loopw [7, 29] (fun rowv iv wr => ∃ (m : Nat) (ys : List Nat), m ≤ n ∧ iv = .int .i64 m ∧ Hid (ys.length = m) ∧ Hid (∀ j (hj : j < ys.length), ab .f32 ys[j] = mat0 rs n k j) ∧ Hid (wr.ownsRow wo.heap.size 44 1 rowv (ys.map (Value.float .f32)).length (ys.map (Value.float .f32))) ∧ Below wo.heap.size wo wr) (fun _ iv _ => n - (intOf iv).toNat)
      case atStart => exact ⟨0, [], Nat.zero_le _, rfl, hid rfl, hid (fun j hj => by simp at hj), hown0, by (repeat (first | (with_reducible assumption) | (with_reducible apply below_refl) | (with_reducible apply below_alloc1) | (with_reducible apply below_drewN1) | (with_reducible apply below_drew1)))⟩
      case round =>
        obtain ⟨m, ys, hm', rfl, hyl, hyr, ho, hwq⟩ := hrel
        have hwt := below_trans hw hwq
        by_cases hlt2 : m < n
        · have k0 : wr.cell? ⟨w.heap.size, 0, none⟩ = some (.int .i64 n) := by rw [hwt.cell (p := ⟨w.heap.size, 0, none⟩) hz]; exact K0.out
          have k1 : wr.cell? ⟨w.heap.size, 1, none⟩ = some (.slice ao rs.length cap) := by rw [hwt.cell (p := ⟨w.heap.size, 1, none⟩) hz]; exact K1.out
          have hmI : (m : Int) < (n : Int) := by omega
          by_cases hmk : m = k
          · subst hmk
            go_wp2_with (first
              | (go_at_call 50; refine (leaves_any _ _ rs m n hn8 hkn HL.out _ (hV2.out.below (below_trans hwt (by (repeat (first | (with_reducible assumption) | (with_reducible apply below_refl) | (with_reducible apply below_alloc1) | (with_reducible apply below_drewN1) | (with_reducible apply below_drew1))))))).mono ?_; rintro e w5 ⟨q, rfl, hq, hb5⟩; have hB5 : Below wr.heap.size wr w5 := below_trans (by (repeat (first | (with_reducible assumption) | (with_reducible apply below_refl) | (with_reducible apply below_alloc1) | (with_reducible apply below_drewN1) | (with_reducible apply below_drew1)))) hb5; clear hb5)
              | (refine upon_float rfl ?_; intro r nn hr; go_simp)
              | (at_builtin; refine wpList_push rfl _ _ 30 rfl Try.underlying30 hi0 hz0 hz1 hz2 rfl wo.heap.size _ _ rfl rfl (ownsRow_below ho.out (by (repeat (first | (with_reducible assumption) | (with_reducible apply below_refl) | (with_reducible apply below_alloc1) | (with_reducible apply below_drewN1) | (with_reducible apply below_drew1))))) rfl (by rw [List.length_map, hyl.out]; omega) (by decide) (Nat.le_trans hwq.size (Below.size (show Below wr.heap.size wr _ by (repeat (first | (with_reducible assumption) | (with_reducible apply below_refl) | (with_reducible apply below_alloc1) | (with_reducible apply below_drewN1) | (with_reducible apply below_drew1)))))) ?_; intro v1 w2 hown hb2))
            all_goals
              go_roundw
              case rel =>
                refine ⟨m + 1, ys ++ [r], by omega, by go_num, hid (by rw [List.length_append, hyl.out]; rfl), hid (at_push hyr.out ?_), hid (by rw [fl_vals]; exact hown), (below_trans hwq (by (repeat (first | (with_reducible assumption) | (with_reducible apply below_refl) | (with_reducible apply below_alloc1) | (with_reducible apply below_drewN1) | (with_reducible apply below_drew1))))).trans hb2⟩
                rw [hyl.out, hr, hq, ab_z32]
                simp [mat0, hlt, hlt2]
              case measure => simp [intOf]; omega
          · have hmkI : ¬ (m : Int) = (k : Int) := by omega
            go_wp2_with (first
              | (go_at_call 51; refine (rate_any _ _ rs m k n hn8 hlt2 hkn HL.out _ (hV2.out.below (below_trans hwt (by (repeat (first | (with_reducible assumption) | (with_reducible apply below_refl) | (with_reducible apply below_alloc1) | (with_reducible apply below_drewN1) | (with_reducible apply below_drew1))))))).mono ?_; rintro e w5 ⟨q, rfl, hq, hb5⟩; have hB5 : Below wr.heap.size wr w5 := below_trans (by (repeat (first | (with_reducible assumption) | (with_reducible apply below_refl) | (with_reducible apply below_alloc1) | (with_reducible apply below_drewN1) | (with_reducible apply below_drew1)))) hb5; clear hb5)
              | (at_builtin; refine wpList_push rfl _ _ 30 rfl Try.underlying30 hi0 hz0 hz1 hz2 rfl wo.heap.size _ _ rfl rfl (ownsRow_below ho.out (by (repeat (first | (with_reducible assumption) | (with_reducible apply below_refl) | (with_reducible apply below_alloc1) | (with_reducible apply below_drewN1) | (with_reducible apply below_drew1))))) rfl (by rw [List.length_map, hyl.out]; omega) (by decide) (Nat.le_trans hwq.size (Below.size (show Below wr.heap.size wr _ by (repeat (first | (with_reducible assumption) | (with_reducible apply below_refl) | (with_reducible apply below_alloc1) | (with_reducible apply below_drewN1) | (with_reducible apply below_drew1)))))) ?_; intro v1 w2 hown hb2))
            all_goals
              go_roundw
              case rel =>
                refine ⟨m + 1, ys ++ [q], by omega, by go_num, hid (by rw [List.length_append, hyl.out]; rfl), hid (at_push hyr.out ?_), hid (by rw [fl_vals]; exact hown), (below_trans hwq (by (repeat (first | (with_reducible assumption) | (with_reducible apply below_refl) | (with_reducible apply below_alloc1) | (with_reducible apply below_drewN1) | (with_reducible apply below_drew1))))).trans hb2⟩
                rw [hyl.out, hq]
                simp [mat0, hlt, hlt2, hmk]
              case measure => simp [intOf]; omega
        · obtain rfl : m = n := by omega
          go_wp2_with (first
            | (at_builtin; refine wpList_push rfl _ _ 30 rfl Try.underlying30 hi0 hz0 hz1 hz2 rfl wo.heap.size _ (ys.map (Value.float .f32)) rfl rfl (ownsRow_below ho.out (by (repeat (first | (with_reducible assumption) | (with_reducible apply below_refl) | (with_reducible apply below_alloc1) | (with_reducible apply below_drewN1) | (with_reducible apply below_drew1))))) rfl (by rw [List.length_map, hyl.out]; omega) (by decide) (Nat.le_trans hwq.size (Below.size (show Below wr.heap.size wr _ by (repeat (first | (with_reducible assumption) | (with_reducible apply below_refl) | (with_reducible apply below_alloc1) | (with_reducible apply below_drewN1) | (with_reducible apply below_drew1)))))) ?_; intro v1 w2 hown hb2; rw [← fl_vals] at hown; obtain ⟨g, cp, hrv, -, -, -, -⟩ := slice_of_own hown (by simp); obtain ⟨LL, hLL⟩ : ∃ LL, LL = ((ys ++ [0]).map (Value.float .f32)).length := ⟨_, rfl⟩; rw [← hLL] at hrv; clear hLL; subst hrv; have HO1 := hid hown; have HW2 := (below_trans hwq (show Below wr.heap.size wr _ by (repeat (first | (with_reducible assumption) | (with_reducible apply below_refl) | (with_reducible apply below_alloc1) | (with_reducible apply below_drewN1) | (with_reducible apply below_drew1))))).trans hb2; clear hown hb2)
            | (at_builtin; refine wpList_pushG rfl _ _ 72 rfl Try.underlying72 hj0 hy0 hy1 hy2 rfl wa.heap.size _ xss vs rfl rfl (hbv.out.below (below_trans HW2 (by (repeat (first | (with_reducible assumption) | (with_reducible apply below_refl) | (with_reducible apply below_alloc1) | (with_reducible apply below_drewN1) | (with_reducible apply below_drew1)))))) rfl (by rw [hrd.out.1]; omega) (by decide) (Nat.le_trans hw.size (Below.size (below_trans HW2 (show Below w2.heap.size w2 _ by (repeat (first | (with_reducible assumption) | (with_reducible apply below_refl) | (with_reducible apply below_alloc1) | (with_reducible apply below_drewN1) | (with_reducible apply below_drew1))))))) (ys ++ [0]) (by simp) (ownsRow_low (ownsRow_below HO1.out (by (repeat (first | (with_reducible assumption) | (with_reducible apply below_refl) | (with_reducible apply below_alloc1) | (with_reducible apply below_drewN1) | (with_reducible apply below_drew1))))) hw.size) wo.heap.size (fun g' hg' => (HO1.out.lt g' hg').1) ⟨fun g' hg' => (hbv.out.lt.1 g' hg').2, fun x hx g' hg' => (hbv.out.lt.2 x hx g' hg').2⟩ ?_; intro v3 w3 hgv hgr hblk hb3; have HGV := hid hgv; have HL2 := (below_trans hw (below_trans HW2 (show Below w2.heap.size w2 _ by (repeat (first | (with_reducible assumption) | (with_reducible apply below_refl) | (with_reducible apply below_alloc1) | (with_reducible apply below_drewN1) | (with_reducible apply below_drew1)))))).trans hb3; clear hgv hgr hblk hb3))
          go_roundw
          case rel =>
            refine ⟨k + 1, _, _, by omega, by go_num, HGV, hid (reads_push hrd.out (by rw [List.length_append, hyl.out]; rfl) (at_push hyr.out ?_)), HL2⟩
            rw [hyl.out, ab_z32]
            simp [mat0, hlt]
          case measure => simp [intOf]; omega
    · have hkn : k + 1 = n := by omega
      have hkI : ¬ (k : Int) < (n : Int) - 1 := by omega
      have W2 : IntKind.i64.wrap ((n : Int) + 1) = (n : Int) + 1 := by rw [IntKind.wrap_i64]; omega
      have HRD := hid (show Reads (xss ++ [List.replicate (n + 1) 1065353216]) n (n + 1) (mat0 rs n) by
        have := reads_push hrd.out (List.length_replicate (n := n + 1) (a := 1065353216)) (fun j hj => by rw [List.getElem_replicate, ab_one32]; simp [mat0, hkn])
        rw [hkn] at this
        exact this)
      go_wp2_with (first
        | (go_at_call 52; refine (repeat_at _ 1065353216 (n + 1) _ (by omega) (by omega) (by omega) _ (rowAt_alloc _ _ [.float .f32 1065353216] (by simp [maxLen]))).mono ?_; rintro e w2 ⟨u2, rfl, ho2, hb2⟩; obtain ⟨g, cp, hrv, -, -, -, -⟩ := slice_of_own ho2 (by simp); obtain ⟨LL, hLL⟩ : ∃ LL, LL = ((List.replicate (n + 1) 1065353216).map (Value.float .f32)).length := ⟨_, rfl⟩; rw [← hLL] at hrv; clear hLL; subst hrv; have HO1 := hid (ownsRow_low ho2 (show wr.heap.size ≤ _ from Below.size (show Below wr.heap.size wr _ by (repeat (first | (with_reducible assumption) | (with_reducible apply below_refl) | (with_reducible apply below_alloc1) | (with_reducible apply below_drewN1) | (with_reducible apply below_drew1)))))); have HW2 : Below wr.heap.size wr w2 := below_trans (by (repeat (first | (with_reducible assumption) | (with_reducible apply below_refl) | (with_reducible apply below_alloc1) | (with_reducible apply below_drewN1) | (with_reducible apply below_drew1)))) hb2; clear ho2 hb2)
        | (at_builtin; refine wpList_pushG rfl _ _ 72 rfl Try.underlying72 hj0 hy0 hy1 hy2 rfl wa.heap.size _ xss vs rfl rfl (hbv.out.below (below_trans HW2 (by (repeat (first | (with_reducible assumption) | (with_reducible apply below_refl) | (with_reducible apply below_alloc1) | (with_reducible apply below_drewN1) | (with_reducible apply below_drew1)))))) rfl (by rw [hrd.out.1]; omega) (by decide) (Nat.le_trans hw.size (Below.size (below_trans HW2 (show Below w2.heap.size w2 _ by (repeat (first | (with_reducible assumption) | (with_reducible apply below_refl) | (with_reducible apply below_alloc1) | (with_reducible apply below_drewN1) | (with_reducible apply below_drew1))))))) (List.replicate (n + 1) 1065353216) (by simp) (ownsRow_low (ownsRow_below HO1.out (by (repeat (first | (with_reducible assumption) | (with_reducible apply below_refl) | (with_reducible apply below_alloc1) | (with_reducible apply below_drewN1) | (with_reducible apply below_drew1))))) hw.size) wr.heap.size (fun g' hg' => (HO1.out.lt g' hg').1) ⟨fun g' hg' => (hbv.out.lt.1 g' hg').2, fun x hx g' hg' => (hbv.out.lt.2 x hx g' hg').2⟩ ?_; intro v3 w3 hgv hgr hblk hb3; have HL2 := (below_trans hw (below_trans HW2 (show Below w2.heap.size w2 _ by (repeat (first | (with_reducible assumption) | (with_reducible apply below_refl) | (with_reducible apply below_alloc1) | (with_reducible apply below_drewN1) | (with_reducible apply below_drew1)))))).trans hb3; obtain ⟨G, cG, e1, hMV⟩ := GridV.mat hn1 hgv HRD.out; have HMV := hid hMV; clear hMV; subst e1; clear hgv hgr hblk hb3))
      have hlo := HL2.size
      have hcaps := (HMV.out.at (i := 0) (by omega)).2.2.2
      have q1 := hcaps.1; have q2 := hcaps.2.1
      unfold maxLen at q2
      clear hcaps HW2 hw hbv hrd HRD HO1 HV hV2 K0 K1 hz hB hkI hlt hkn hk W2
      obtain ⟨wb, hwb⟩ : ∃ wb, wb = wr := ⟨_, rfl⟩
      subst hwb
      go_loopw [65] (fun i wr => ∃ (k : Nat) (B : Mat) (vs : List Value), k ≤ n ∧ i = .int .i64 k ∧ Hid (runM n (mat0 rs n) k = some B) ∧ Hid (MatV 30 44 wr wa.heap.size G cG n (n + 1) B vs) ∧ Below wa.heap.size wa wr) (fun i _ => n - (intOf i).toNat)
      case atStart => exact ⟨0, _, _, by omega, rfl, hid rfl, HMV, HL2⟩
      case round =>
        obtain ⟨k, B, vs, hk, rfl, hrun, hs, hw⟩ := hrel
        by_cases hlt : k < n
        · have hkI : (k : Int) < (n : Int) := by omega
          have hkz : (0 : Int) ≤ (k : Int) := by omega
          go_wp2_with fail
          obtain ⟨wo, hwo⟩ : ∃ wo, wo = wr := ⟨_, rfl⟩
          subst hwo
          go_loopw [10, 11] (fun x j wq => ∃ (J b : Nat), k ≤ J ∧ J ≤ n ∧ j = .int .i64 J ∧ x = .int .i64 b ∧ Hid (b = bst B k (J - k)) ∧ k ≤ b ∧ b < n ∧ Below wo.heap.size wo wq) (fun _ j _ => n - (intOf j).toNat)
          case atStart => exact ⟨k, k, Nat.le_refl _, by omega, by go_num, rfl, hid (by rw [Nat.sub_self]; rfl), by omega, by omega, by (repeat (first | (with_reducible assumption) | (with_reducible apply below_refl) | (with_reducible apply below_alloc1) | (with_reducible apply below_drewN1) | (with_reducible apply below_drew1)))⟩
          case round =>
            obtain ⟨J, b, hkJ, hJn, rfl, rfl, hb, hkb, hbn, hwr⟩ := hrel
            have hsr := hs.out.below hwr
            obtain ⟨f0, f1, f2, f3, f4, g, cp, c1, c2, c3, c4, c5, c6, c7⟩ := hsr.at (i := b) hbn
            obtain ⟨y, hy, hyv, -⟩ := c7 k (by omega)
            clear c7
            have hbI : (b : Int) < (n : Int) := by omega
            have hbz : (0 : Int) ≤ (b : Int) := by omega
            have hkn1 : (k : Int) < ((n + 1 : Nat) : Int) := by omega
            by_cases hlt2 : J < n
            · obtain ⟨-, -, -, -, -, g', cp', -, -, -, -, c5', c6', c7'⟩ := hsr.at (i := J) hlt2
              obtain ⟨x, hx, hxv, -⟩ := c7' k (by omega)
              clear c7'
              have hjI : (J : Int) < (n : Int) := by omega
              have hjz : (0 : Int) ≤ (J : Int) := by omega
              have HN := hid (show bst B k (J + 1 - k) = if (ford .f32 (absM (ab .f32 x)) (absM (ab .f32 y)) == some .gt) = true then J else b by
                rw [show J + 1 - k = (J - k) + 1 by omega, bst_next, ← hb.out, show k + (J - k) = J by omega]
                unfold gtX
                rw [hxv, hyv])
              clear hxv hyv
              go_wp2_with (first
                | (go_region_held (fun w' => Below wr.heap.size wr w' ∧ ∀ b o, b < wr.heap.size → w'.cell? ⟨b, o, none⟩ = wr.cell? ⟨b, o, none⟩) (first | exact keep_next ‹_› ‹_› | exact keep_start | exact keep_drew ‹_› | exact keep_of (by (repeat (first | (with_reducible assumption) | (with_reducible apply below_refl) | (with_reducible apply below_alloc1) | (with_reducible apply below_drewN1) | (with_reducible apply below_drew1))))) (first | (go_at_call 53; refine (absolute_any _ _).mono ?_; rintro e w' ⟨r, rfl, hr, hb⟩)) <;> (rename_i hHeld; obtain ⟨hB, hC⟩ := hHeld)))
              all_goals
                refine ⟨?_, by simp [intOf]; omega⟩
                first
                  | exact ⟨J + 1, b, by omega, by omega, by go_num, rfl, hid (by rw [HN.out, if_neg (by simp [*])]), hkb, by omega, below_trans hwr hB⟩
                  | exact ⟨J + 1, J, by omega, by omega, by go_num, rfl, hid (by rw [HN.out, if_pos (by assumption)]), by omega, by omega, below_trans hwr hB⟩
            · obtain rfl : J = n := by omega
              obtain ⟨e0, -, -, -, -, g', cp', -, -, -, -, c5', c6', -⟩ := hsr.at (i := k) hlt
              have ov1 := set_over c6' c6
              obtain ⟨HSW0, -, -⟩ := hsr.swapped hlt hbn c6' c6
              have HSW := hid (HSW0.below (below_drew _))
              clear HSW0
              rw [swp_comm B k b] at HSW
              generalize hW2 : ((wr.setCell ⟨G, k, none⟩ (.slice (some ⟨g, 0, none⟩) (J + 1) cp)).setCell ⟨G, b, none⟩ (.slice (some ⟨g', 0, none⟩) (J + 1) cp')).drew = w2 at HSW
              have HL2 : Below wa.heap.size wa w2 := by rw [← hW2]; exact (((below_trans hw hwr).setCell f2 _).setCell f2 _).drew
              have HBE := hid (show b = bst B k (J - k) from hb.out)
              obtain ⟨-, t1, -, -, -, g3, cp3, t2, t3, t4, t5, t6, t7, t8⟩ := HSW.out.at (i := k) hlt
              obtain ⟨z, hz, hzv, -⟩ := t8 k (by omega)
              clear t8
              by_cases hz0 : ford .f32 (ab .f32 z) (some 0) = some Ordering.eq
              · have HNONE := hid (step_none hlt hrun.out (by rw [← HBE.out, ← hzv]; exact hz0))
                clear hzv
                go_wp2_with fail
                go_big_region
                go_wp2_with (first
                  | (with_reducible refine wp_world hW2 ?_; clear hW2))
                go_ret2
                have hM : balOf rs J = none := by rw [HE.out]; unfold balRaw; rw [HNONE.out]; rfl
                exact frow_no (by rw [hM]; rfl) (by rw [hM]; rfl) (below_trans HB0.out HL2)
              · have HSOME := hid (step_some hrun.out (by rw [← HBE.out, ← hzv]; exact hz0))
                clear hzv
                have hzb : (ford .f32 (ab .f32 z) (some 0) == some Ordering.eq) = false := by simpa using hz0
                by_cases hcg : cG = k + 1
                · subst hcg
                  go_wp2_with fail
                  go_big_region
                  go_wp2_with (first
                    | (with_reducible refine wp_world hW2 ?_; clear hW2))
                  rw [← HBE.out] at HSOME
                  generalize hC : swp B k b = C at HSW HSOME
                  clear hC
                  clear hsr hs hwr hw hrun hb HBE hy hyv c6 c6' ov1 hz hz0 hzb t7 HL
                  have hJk : J = k + 1 := by omega
                  have hJn2 : ¬ J = 0 := by omega
                  have h0 : ¬ (0 : Int) < ((J - (k + 1) : Nat) : Int) := by omega
                  go_loopw [120] (fun i wr => i = .int .i64 0 ∧ wr = w2) (fun _ _ => 0)
                  case atStart => exact ⟨rfl, rfl⟩
                  case round =>
                    obtain ⟨rfl, rfl⟩ := hrel
                    go_wp2_with fail
                    go_roundw
                    case rel => exact ⟨k + 1, _, _, by omega, by go_num, HSOME, hid (HSW.out.congr (fun r c _ _ => by rw [hJk]; exact (elim_start C k r c).symm)), HL2⟩
                    case measure => simp [intOf]; omega
                · go_wp2_with fail
                  go_big_region
                  go_wp2_with (first
                    | (with_reducible refine wp_world hW2 ?_; clear hW2))
                  rw [← HBE.out] at HSOME
                  generalize hC : swp B k b = C at HSW HSOME
                  clear hC
                  clear hsr hs hwr hw hrun hb HBE hy hyv c6 c6' ov1 hz hz0 hzb t7 HL
                  go_loopw [120] (fun i wr => ∃ t : Nat, k + 1 + t ≤ J ∧ i = .int .i64 t ∧ Hid (∃ vs, MatV 30 44 wr wa.heap.size G cG J (J + 1) (elim C k (k + 1 + t) (k + 1)) vs) ∧ Below wa.heap.size wa wr) (fun i _ => J - (intOf i).toNat)
                  case atStart => exact ⟨0, by omega, rfl, hid ⟨_, (HSW.out.congr (fun r c _ _ => (elim_start C k r c).symm)).below (by (repeat (first | (with_reducible assumption) | (with_reducible apply below_refl) | (with_reducible apply below_alloc1) | (with_reducible apply below_drewN1) | (with_reducible apply below_drew1))))⟩, HL2⟩
                  case round =>
                    obtain ⟨t, htJ, rfl, hs, hw⟩ := hrel
                    obtain ⟨vs, hs⟩ := hs.out
                    have hs := hid hs
                    by_cases hlt3 : k + 1 + t < J
                    · obtain ⟨-, f1, f2, f3, f4, g, cp, c1, c2, c3, c4, c5, c6, c7⟩ := hs.out.at (i := k + 1 + t) hlt3
                      obtain ⟨x, hx, hxv, -⟩ := c7 k (by omega)
                      obtain ⟨-, -, -, -, -, g', cp', d1, d2, d3, d4, d5, d6, d7⟩ := hs.out.at (i := k) hlt
                      obtain ⟨y, hy, hyv, -⟩ := d7 k (by omega)
                      clear c7 d7
                      rw [elim_left] at hxv hyv
                      have hII : (t : Int) < ((J - (k + 1) : Nat) : Int) := by omega
                      have hIz : (0 : Int) ≤ (t : Int) := by omega
                      have hkn1 : (k : Int) < ((J + 1 : Nat) : Int) := by omega
                      have C6 := hid c6
                      obtain ⟨fe1, fe2, fe3, fe4⟩ := run_fres4 Try.prog
                      obtain ⟨fa1, fa2, fa3, fa4⟩ := ab_fres4
                      go_wp2_with fail
                      go_big_region
                      go_wp2_with fail
                      have HQ : Hid (ab .f32 (fres .quo .f32 x y wr.drew) = fop .quo .f32 (C (k + 1 + t) k) (C k k)) := hid (by rw [fa4, hxv, hyv])
                      generalize fres .quo .f32 x y wr.drew = q at HQ
                      obtain ⟨wo, hwo⟩ : ∃ wo, wo = wr := ⟨_, rfl⟩
                      subst hwo
                      clear hx hy hxv hyv fe1 fe2 fe3 fe4 fa1 fa2 fa3 fa4
                      clear c6 d6 f1 f2 f3 f4 c1 c2 c3 c4 c5 d1 d2 d3 d4 d5
                      have hlow := Nat.le_trans (Nat.le_refl wa.heap.size) hw.size
                      go_loopw [15] (fun j wr => ∃ (jj : Nat) (vs : List Value), k + 1 ≤ jj ∧ jj ≤ J + 1 ∧ j = .int .i64 jj ∧ Hid (MatV 30 44 wr wa.heap.size G cG J (J + 1) (elim C k (k + 1 + t) jj) vs) ∧ Hid (wr.cell? ⟨G, k + 1 + t, none⟩ = some (.slice (some ⟨g, 0, none⟩) (J + 1) cp)) ∧ Below wa.heap.size wa wr) (fun j _ => J + 1 - (intOf j).toNat)
                      case atStart => exact ⟨k + 1, vs, Nat.le_refl _, by omega, by go_num, hid (hs.out.below (by (repeat (first | (with_reducible assumption) | (with_reducible apply below_refl) | (with_reducible apply below_alloc1) | (with_reducible apply below_drewN1) | (with_reducible apply below_drew1))))), hid C6.out, hw.trans (Below.mono (show Below wo.heap.size wo _ by (repeat (first | (with_reducible assumption) | (with_reducible apply below_refl) | (with_reducible apply below_alloc1) | (with_reducible apply below_drewN1) | (with_reducible apply below_drew1)))) hlow)⟩
                      case round =>
                        obtain ⟨j, vs, hkj, hjn, rfl, hs, hc6, hw⟩ := hrel
                        have hjz : (0 : Int) ≤ (j : Int) := by omega
                        by_cases hlt4 : j ≤ J
                        · obtain ⟨-, f1, f2, f3, f4, g2, cp2, c1, c2, c3, c4, c5, c6, c7⟩ := hs.out.at (i := k + 1 + t) hlt3
                          obtain ⟨rfl, rfl⟩ : g = g2 ∧ cp = cp2 := by
                            have := hc6.out
                            rw [c6] at this
                            simp at this
                            exact ⟨this.1.symm, this.2.symm⟩
                          obtain ⟨x, hx, hxv, hxf⟩ := c7 j (by omega)
                          obtain ⟨-, -, -, -, -, g', cp', d1, d2, d3, d4, d5, d6, d7⟩ := hs.out.at (i := k) hlt
                          obtain ⟨y, hy, hyv, -⟩ := d7 j (by omega)
                          clear c7 d7
                          have HXV := hid (hxv.trans (elim_here C k (k + 1 + t) j)); have HYV := hid (hyv.trans (elim_top C k (k + 1 + t) j j))
                          clear hxv hyv
                          have hjI : (j : Int) ≤ (J : Int) := by omega
                          have hjI2 : (j : Int) < ((J + 1 : Nat) : Int) := by omega
                          obtain ⟨fe1, fe2, fe3, fe4⟩ := run_fres4 Try.prog
                          obtain ⟨fa1, fa2, fa3, fa4⟩ := ab_fres4
                          have hlow2 := hw.size
                          have HST : ∀ (wz : World) (q : Nat), Below wr.heap.size wr wz → ab .f32 q = elim C k (k + 1 + t) (j + 1) (k + 1 + t) j → ∃ vs', MatV 30 44 (wz.setCell ⟨g, j, none⟩ (.float .f32 q)) wa.heap.size G cG J (J + 1) (elim C k (k + 1 + t) (j + 1)) vs' ∧ (wz.setCell ⟨g, j, none⟩ (.float .f32 q)).cell? ⟨G, k + 1 + t, none⟩ = some (.slice (some ⟨g, 0, none⟩) (J + 1) cp) := fun wz q hz hq => by
                            have h := MatV.stored (i := k + 1 + t) (j := j) (B := elim C k (k + 1 + t) j) (m := J + 1) (cp := cp) (q := q) (hs.out.below hz) hlt3 (by omega) (by rw [hz.cell (p := ⟨G, k + 1 + t, none⟩) f1]; exact c6) hq (fun r c _ _ hn => by rw [elim_next C k (k + 1 + t) j r c (by omega) (by omega), if_neg hn])
                            refine ⟨vs, h.1, ?_⟩
                            rw [World.cell?_setCell_far _ _ _ _ (show g ≠ G from c4), hz.cell (p := ⟨G, k + 1 + t, none⟩) f1]
                            exact c6
                          have HST2 := hid HST
                          clear HST
                          go_wp2_with fail
                          go_big_region
                          go_wp2_with fail
                          have hst := HST2.out (wr.drewN (1 + fdr .mul .f32 q y + fdr .sub .f32 x (fres .mul .f32 q y wr.drew))) (fres .sub .f32 x (fres .mul .f32 q y wr.drew) (wr.drewN (1 + fdr .mul .f32 q y))) (by (repeat (first | (with_reducible assumption) | (with_reducible apply below_refl) | (with_reducible apply below_alloc1) | (with_reducible apply below_drewN1) | (with_reducible apply below_drew1)))) (by rw [elim_next C k (k + 1 + t) j (k + 1 + t) j (by omega) (by omega), if_pos ⟨rfl, rfl⟩, fa2, fa3, HXV.out, HYV.out, HQ.out])
                          obtain ⟨vs', hs1, hs2⟩ := hst
                          have HS1 := hid hs1; have HS2 := hid hs2
                          clear hs1 hs2
                          go_roundw
                          case rel => exact ⟨j + 1, vs', by omega, by omega, by go_num, HS1, HS2, Below.setCell (hw.trans (Below.mono (show Below wr.heap.size wr _ by (repeat (first | (with_reducible assumption) | (with_reducible apply below_refl) | (with_reducible apply below_alloc1) | (with_reducible apply below_drewN1) | (with_reducible apply below_drew1)))) hlow2)) c3 _⟩
                          case measure => simp [intOf]; omega
                        · obtain rfl : j = J + 1 := by omega
                          have hjI : ¬ ((J + 1 : Nat) : Int) ≤ (J : Int) := by omega
                          go_wp2_with fail
                          go_roundw
                          case rel => exact ⟨t + 1, by omega, by go_num, hid ⟨vs, MatV.congr hs.out (fun r c _ hc => by rw [show k + 1 + (t + 1) = (k + 1 + t) + 1 by omega]; exact (elim_row C k (k + 1 + t) J r c hc).symm)⟩, hw⟩
                          case measure => simp [intOf]; omega
                    · have htJ2 : k + 1 + t = J := by omega
                      have hII : ¬ (t : Int) < ((J - (k + 1) : Nat) : Int) := by omega
                      rw [htJ2] at hs
                      go_wp2_with fail
                      go_roundw
                      case rel => exact ⟨k + 1, _, _, by omega, by go_num, HSOME, hs, hw⟩
                      case measure => simp [intOf]; omega
        · obtain rfl : k = n := by omega
          have hkI : ¬ (k : Int) < (k : Int) := by omega
          have HM := hid (show balOf rs k = some (outL B k) by rw [HE.out]; unfold balRaw; rw [hrun.out]; rfl)
          obtain ⟨xss, hr, hrw⟩ := hs.out.rows
          have HR := hid hr; have HRW := hid hrw
          clear hr hrw
          cases hF : finL (outL B k)
          · have HF := hid hF
            clear hF
            go_wp2_with (first
              | (go_at_call 55; refine (backwards_any _ xss k B hn1 hn8 HR.out _ (HRW.out.below (by (repeat (first | (with_reducible assumption) | (with_reducible apply below_refl) | (with_reducible apply below_alloc1) | (with_reducible apply below_drewN1) | (with_reducible apply below_drew1)))))).mono ?_; rintro e w6 ⟨u6, bs, rfl, ho6, hbs, hb6⟩; have HBS := hid hbs; have HO6 := hid (ownsRow_low ho6 (show w.heap.size ≤ _ from Nat.le_trans HB0.out.size (Nat.le_trans hw.size (Below.size (show Below wr.heap.size wr _ by (repeat (first | (with_reducible assumption) | (with_reducible apply below_refl) | (with_reducible apply below_alloc1) | (with_reducible apply below_drewN1) | (with_reducible apply below_drew1)))))))); have HW6 : Below wr.heap.size wr w6 := below_trans (by (repeat (first | (with_reducible assumption) | (with_reducible apply below_refl) | (with_reducible apply below_alloc1) | (with_reducible apply below_drewN1) | (with_reducible apply below_drew1)))) hb6; clear hb6 hbs ho6)
              | (go_at_call 54; refine (ifAll_no _ bs (by rw [finL_map, HBS.out]; exact HF.out) _ ((Own.mk' HO6.out).row.below (by (repeat (first | (with_reducible assumption) | (with_reducible apply below_refl) | (with_reducible apply below_alloc1) | (with_reducible apply below_drewN1) | (with_reducible apply below_drew1)))))).mono ?_; rintro e w7 ⟨rfl, hb7⟩; have HB7 := hid (below_trans (show Below w6.heap.size w6 _ by (repeat (first | (with_reducible assumption) | (with_reducible apply below_refl) | (with_reducible apply below_alloc1) | (with_reducible apply below_drewN1) | (with_reducible apply below_drew1)))) hb7); clear hb7))
            go_ret2
            exact frow_no (by rw [HM.out]; simp [balXs, HF.out]) (by rw [HM.out]; exact HF.out) (below_trans HB0.out (below_trans hw (below_trans HW6 HB7.out)))
          · have HF := hid hF
            clear hF
            go_wp2_with (first
              | (go_at_call 55; refine (backwards_any _ xss k B hn1 hn8 HR.out _ (HRW.out.below (by (repeat (first | (with_reducible assumption) | (with_reducible apply below_refl) | (with_reducible apply below_alloc1) | (with_reducible apply below_drewN1) | (with_reducible apply below_drew1)))))).mono ?_; rintro e w6 ⟨u6, bs, rfl, ho6, hbs, hb6⟩; have HBS := hid hbs; have HO6 := hid (ownsRow_low ho6 (show w.heap.size ≤ _ from Nat.le_trans HB0.out.size (Nat.le_trans hw.size (Below.size (show Below wr.heap.size wr _ by (repeat (first | (with_reducible assumption) | (with_reducible apply below_refl) | (with_reducible apply below_alloc1) | (with_reducible apply below_drewN1) | (with_reducible apply below_drew1)))))))); have HW6 : Below wr.heap.size wr w6 := below_trans (by (repeat (first | (with_reducible assumption) | (with_reducible apply below_refl) | (with_reducible apply below_alloc1) | (with_reducible apply below_drewN1) | (with_reducible apply below_drew1)))) hb6; clear hb6 hbs ho6)
              | (go_at_call 54; refine (ifAll_yes _ bs (by rw [finL_map, HBS.out]; exact HF.out) _ ((Own.mk' HO6.out).row.below (by (repeat (first | (with_reducible assumption) | (with_reducible apply below_refl) | (with_reducible apply below_alloc1) | (with_reducible apply below_drewN1) | (with_reducible apply below_drew1)))))).mono ?_; rintro e w7 ⟨rfl, hb7⟩; have HB7 := hid (below_trans (show Below w6.heap.size w6 _ by (repeat (first | (with_reducible assumption) | (with_reducible apply below_refl) | (with_reducible apply below_alloc1) | (with_reducible apply below_drewN1) | (with_reducible apply below_drew1)))) hb7); clear hb7))
            go_ret2
            refine frow_yes (by rw [HM.out]; exact HF.out) ?_ (below_trans HB0.out (below_trans hw (below_trans HW6 HB7.out)))
            have hbl : bs = balXs (balOf rs k) := by
              rw [HM.out]
              simp only [balXs, HF.out, if_true]
              exact ab_bits _ _ HBS.out HF.out
            rw [← hbl]
            exact ownsRow_below HO6.out HB7.out
end Go.Proofs.Ytfnhpchgiknmpaa
