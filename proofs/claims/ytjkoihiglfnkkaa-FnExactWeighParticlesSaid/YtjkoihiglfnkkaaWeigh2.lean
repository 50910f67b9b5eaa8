/- Contracts: WeighParticles, the reference's. -/
import Derived.Test.YtjkoihiglfnkkaaWeigh
import Derived.Test.YtjkoihiglfnkkaaDraw2
namespace Go.Proofs.Ytjkoihiglfnkkaa
open Go.RowKit

theorem below_undrew {a b : World} {n : Nat} (h : Below (a.drewN n).heap.size (a.drewN n) b) : Below a.heap.size a b := below_trans (below_drewN a n) h
set_option maxRecDepth 100000 in
set_option maxHeartbeats 2000000 in
theorem specWeigh_any (v u : Value) (xs ws : List Nat) (x wd : Nat) (w : World) (hv : RowAt w v (xs.map (Value.float .f32))) (hu : RowAt w u (ws.map (Value.float .f32))) :
    Calls Try.prog 41 #[v, u, .float .f32 x, .float .f32 wd] w (FRowOk 23 (wgXs xs ws (ab .f32 x) (ab .f32 wd)) (wgAll xs ws (ab .f32 x) (ab .f32 wd)) w) := by
  obtain ⟨i0, hi0, hz0, hz1, hz2⟩ := info_parts (P := Try.prog) (e := 23) (z := Value.float .f32 0) (size := 1) (bytes := 4) (by kernel_rfl)
  have HV := hid hv
  have HU := hid hu
  obtain ⟨ao, cap, b, off, rfl, hao, hl, hm, hc⟩ := hv
  obtain ⟨ao', cap', b', off', rfl, hao', hl', hm', hc'⟩ := hu
  simp only [List.length_map] at hl HV hl' HU hao hao' ⊢
  unfold maxLen at hm hm'
  have HC := hid hc; have HA := hid hao; have HC' := hid hc'; have HA' := hid hao'
  clear hc hao hc' hao'
  cases g1 : partsB xs ws
  · have HE := hid (wg_no (xs := xs) (ws := ws) (x := ab .f32 x) (wd := ab .f32 wd) (by simp [wgAll, wgOk, g1]))
    have G1 := hid g1; clear g1
    go_enter Try.func41, Try.ntmps41
    go_wp2_with (first | (go_at_call 75; (with_reducible refine (l05Weighed_any _ _ xs ws _ (HV.out.below (by (repeat (first | (with_reducible assumption) | (with_reducible apply below_refl) | (with_reducible apply below_alloc1) | (with_reducible apply below_drewN1) | (with_reducible apply below_drew1))))) (HU.out.below (by (repeat (first | (with_reducible assumption) | (with_reducible apply below_refl) | (with_reducible apply below_alloc1) | (with_reducible apply below_drewN1) | (with_reducible apply below_drew1)))))).mono ?_); rw [G1.out]; rintro e w' ⟨rfl, hb⟩; have hB : Below w.heap.size w w' := below_trans (by (repeat (first | (with_reducible assumption) | (with_reducible apply below_refl) | (with_reducible apply below_alloc1) | (with_reducible apply below_drewN1) | (with_reducible apply below_drew1)))) hb; have hC := (bcell hB).1; clear hb))
    go_ret2
    exact frow_no HE.out.1 HE.out.2 (by assumption)
  have G1 := hid g1
  cases g2 : finite32 (ab .f32 x)
  · have HE := hid (wg_no (xs := xs) (ws := ws) (x := ab .f32 x) (wd := ab .f32 wd) (by simp [wgAll, wgOk, g2]))
    have G2 := hid g2; clear g1 g2
    go_enter Try.func41, Try.ntmps41
    go_wp2_with (first | (go_at_call 75; (with_reducible refine (l05Weighed_any _ _ xs ws _ (HV.out.below (by (repeat (first | (with_reducible assumption) | (with_reducible apply below_refl) | (with_reducible apply below_alloc1) | (with_reducible apply below_drewN1) | (with_reducible apply below_drew1))))) (HU.out.below (by (repeat (first | (with_reducible assumption) | (with_reducible apply below_refl) | (with_reducible apply below_alloc1) | (with_reducible apply below_drewN1) | (with_reducible apply below_drew1)))))).mono ?_); rw [G1.out]; rintro e w' ⟨rfl, hb⟩; have hB : Below w.heap.size w w' := below_trans (by (repeat (first | (with_reducible assumption) | (with_reducible apply below_refl) | (with_reducible apply below_alloc1) | (with_reducible apply below_drewN1) | (with_reducible apply below_drew1)))) hb; have hC := (bcell hB).1; clear hb) | (go_at_call 48; (with_reducible refine (specFinite_any _ _).mono ?_); rw [G2.out]; rintro e w' ⟨rfl, hb⟩; have hB : Below w.heap.size w w' := below_trans (by (repeat (first | (with_reducible assumption) | (with_reducible apply below_refl) | (with_reducible apply below_alloc1) | (with_reducible apply below_drewN1) | (with_reducible apply below_drew1)))) hb; have hC := (bcell hB).1; clear hb))
    go_ret2
    exact frow_no HE.out.1 HE.out.2 (by assumption)
  have G2 := hid g2
  cases g3 : moreB (ab .f32 wd)
  · have HE := hid (wg_no (xs := xs) (ws := ws) (x := ab .f32 x) (wd := ab .f32 wd) (by simp [wgAll, wgOk, g3]))
    have G3 := hid g3; clear g1 g2 g3
    go_enter Try.func41, Try.ntmps41
    go_wp2_with (first | (go_at_call 75; (with_reducible refine (l05Weighed_any _ _ xs ws _ (HV.out.below (by (repeat (first | (with_reducible assumption) | (with_reducible apply below_refl) | (with_reducible apply below_alloc1) | (with_reducible apply below_drewN1) | (with_reducible apply below_drew1))))) (HU.out.below (by (repeat (first | (with_reducible assumption) | (with_reducible apply below_refl) | (with_reducible apply below_alloc1) | (with_reducible apply below_drewN1) | (with_reducible apply below_drew1)))))).mono ?_); rw [G1.out]; rintro e w' ⟨rfl, hb⟩; have hB : Below w.heap.size w w' := below_trans (by (repeat (first | (with_reducible assumption) | (with_reducible apply below_refl) | (with_reducible apply below_alloc1) | (with_reducible apply below_drewN1) | (with_reducible apply below_drew1)))) hb; have hC := (bcell hB).1; clear hb) | (go_at_call 48; (with_reducible refine (specFinite_any _ _).mono ?_); rw [G2.out]; rintro e w' ⟨rfl, hb⟩; have hB : Below w.heap.size w w' := below_trans (by (repeat (first | (with_reducible assumption) | (with_reducible apply below_refl) | (with_reducible apply below_alloc1) | (with_reducible apply below_drewN1) | (with_reducible apply below_drew1)))) hb; have hC := (bcell hB).1; clear hb) | (go_at_call 77; (with_reducible refine (l02Above_any _ _).mono ?_); rw [G3.out]; rintro e w' ⟨rfl, hb⟩; have hB : Below w.heap.size w w' := below_trans (by (repeat (first | (with_reducible assumption) | (with_reducible apply below_refl) | (with_reducible apply below_alloc1) | (with_reducible apply below_drewN1) | (with_reducible apply below_drew1)))) hb; have hC := (bcell hB).1; clear hb))
    go_ret2
    exact frow_no HE.out.1 HE.out.2 (by assumption)
  have G3 := hid g3
  have HOK := hid (show wgOk xs ws (ab .f32 x) (ab .f32 wd) = true by simp [wgOk, g1, g2, g3])
  have HNEG := hid (wg_neg g3)
  obtain ⟨l1, l2, l3⟩ := partsB_true g1
  have HL3 := hid l3
  obtain rfl := HA.out (by omega)
  obtain rfl := HA'.out (by omega)
  clear g1 g2 g3 l3
  go_enter Try.func41, Try.ntmps41
  go_wp2_with (first | (go_at_call 75; (with_reducible refine (l05Weighed_any _ _ xs ws _ (HV.out.below (by (repeat (first | (with_reducible assumption) | (with_reducible apply below_refl) | (with_reducible apply below_alloc1) | (with_reducible apply below_drewN1) | (with_reducible apply below_drew1))))) (HU.out.below (by (repeat (first | (with_reducible assumption) | (with_reducible apply below_refl) | (with_reducible apply below_alloc1) | (with_reducible apply below_drewN1) | (with_reducible apply below_drew1)))))).mono ?_); rw [G1.out]; rintro e w' ⟨rfl, hb⟩; have hB : Below w.heap.size w w' := below_trans (by (repeat (first | (with_reducible assumption) | (with_reducible apply below_refl) | (with_reducible apply below_alloc1) | (with_reducible apply below_drewN1) | (with_reducible apply below_drew1)))) hb; have hC := (bcell hB).1; clear hb) | (go_at_call 48; (with_reducible refine (specFinite_any _ _).mono ?_); rw [G2.out]; rintro e w' ⟨rfl, hb⟩; have hB : Below w.heap.size w w' := below_trans (by (repeat (first | (with_reducible assumption) | (with_reducible apply below_refl) | (with_reducible apply below_alloc1) | (with_reducible apply below_drewN1) | (with_reducible apply below_drew1)))) hb; have hC := (bcell hB).1; clear hb) | (go_at_call 77; (with_reducible refine (l02Above_any _ _).mono ?_); rw [G3.out]; rintro e w' ⟨rfl, hb⟩; have hB : Below w.heap.size w w' := below_trans (by (repeat (first | (with_reducible assumption) | (with_reducible apply below_refl) | (with_reducible apply below_alloc1) | (with_reducible apply below_drewN1) | (with_reducible apply below_drew1)))) hb; have hC := (bcell hB).1; clear hb) | (refine upon_float rfl ?_; intro r n hr; go_simp))
  have HBY := hid (show ab .f32 r = wgBy (ab .f32 wd) by rw [wgBy]; simp only [*, ab_two32])
  generalize r = B at HBY ⊢
  rw [← HBY.out] at HNEG
  have hsz := (show Below w.heap.size w _ from by assumption).size
  go_loopw [11, 12, 38] (fun v sm y wr => ∃ (k : Nat) (zs : List Nat) (S : Nat), k ≤ xs.length ∧ y = .int .i64 k ∧ sm = .float .f32 S ∧ Hid (ab .f32 S = wgSum xs ws (ab .f32 x) (ab .f32 B) k) ∧ Hid (zs.map (ab .f32) = wgL xs ws (ab .f32 x) (ab .f32 B) k) ∧ Hid (wr.ownsRow w.heap.size 23 1 v (zs.map (Value.float .f32)).length (zs.map (Value.float .f32))) ∧ Below w.heap.size w wr) (fun _ _ y _ => xs.length - (intOf y).toNat)
  case atStart => exact ⟨0, [], 0, by omega, rfl, rfl, hid ab_z32, hid rfl, hid (World.ownsRow_made _ #[] 0 hsz (by simp [maxLen]) rfl), by (repeat (first | (with_reducible assumption) | (with_reducible apply below_refl) | (with_reducible apply below_alloc1) | (with_reducible apply below_drewN1) | (with_reducible apply below_drew1)))⟩
  case round =>
    obtain ⟨k, zs, S, hk, rfl, rfl, HR, hx, ho, hw⟩ := hrel
    have hlen : zs.length = k := by have := congrArg List.length hx.out; simpa [wgL_len] using this
    have HLEN := hid hlen; clear hlen
    by_cases hlt : k < xs.length
    · have l3 := HL3.out
      have hlt2 : k < ws.length := by omega
      have hcell := rowc HC.out hw k hlt
      have hcell2 := rowc HC'.out hw k hlt2
      have hbl2 : b' < wr.heap.size := World.block_lt_of_cell? wr _ hcell2
      have hgx := getD_atM xs k hlt
      have hgw := getD_atM ws k hlt2
      have hk0 : (0 : Int) ≤ (k : Int) := by omega
      have hltI : (k : Int) < (ws.length : Int) := by omega
      have hltI2 : (k : Int) < (xs.length : Int) := by omega
      have hX : wgX xs ws (ab .f32 x) (ab .f32 B) k = fop .mul .f32 (ab .f32 ws[k]) (exX (wgArg (ab .f32 xs[k]) (ab .f32 x) (ab .f32 B))) := by rw [wgX, hgx, hgw]
      generalize xs[k] = p at hcell hX
      generalize ws[k] = q at hcell2 hX
      have HX := hid hX
      clear hgx hgw hX l3
      go_wp2_with (refine upon_float rfl ?_; intro r n hr; go_simp)
      have HD := hid hr
      obtain ⟨fe1, fe2, fe3, fe4⟩ := run_fres4 Try.prog
      obtain ⟨fa1, fa2, fa3, fa4⟩ := ab_fres4
      generalize r = d at HD ⊢
      clear hr
      go_wp2_with (first
        | (go_region_held (fun w' => Below wr.heap.size wr w' ∧ ∀ b o, b < wr.heap.size → w'.cell? ⟨b, o, none⟩ = wr.cell? ⟨b, o, none⟩) (first | assumption | exact keep_next ‹_› ‹_› | exact keep_start | exact keep_drew ‹_› | exact keep_of (by (repeat (first | (with_reducible assumption) | (with_reducible apply below_refl) | (with_reducible apply below_alloc1) | (with_reducible apply below_drewN1) | (with_reducible apply below_drew1))))) (first | (go_at_call 80; refine (specExp_at (a := wgArg (ab .f32 p) (ab .f32 x) (ab .f32 B)) (by simp only [fa1, fa2, fa3, fa4, HD.out, wgArg, ab_z32]) (HNEG.out _ _) _).mono ?_; rintro e w' ⟨y, rfl, hy, hb⟩; have hbu := below_undrew hb)) <;> (rename_i hHeld; obtain ⟨hB, hC⟩ := hHeld))
        | (at_builtin; refine wpList_push rfl _ _ 22 rfl Try.underlying22 hi0 hz0 hz1 hz2 rfl w.heap.size _ _ rfl rfl (ownsRow_below ho.out (by (repeat (first | (with_reducible assumption) | (with_reducible apply below_refl) | (with_reducible apply below_alloc1) | (with_reducible apply below_drewN1) | (with_reducible apply below_drew1))))) rfl (by rw [List.length_map, HLEN.out]; omega) (by decide) (Nat.le_trans hw.size (Below.size (show Below wr.heap.size wr _ by (repeat (first | (with_reducible assumption) | (with_reducible apply below_refl) | (with_reducible apply below_alloc1) | (with_reducible apply below_drewN1) | (with_reducible apply below_drew1)))))) ?_; intro v1 w2 hown hb2)
        | (refine upon_float rfl ?_; intro r n hr; go_simp))
      all_goals
        obtain ⟨zs2, hz3, hz4⟩ := pushed (o := wgX xs ws (ab .f32 x) (ab .f32 B) k) hown hx.out (by rw [HX.out]; simp only [fa1, fa2, fa3, fa4, hy])
        go_roundw
        case rel =>
          exact ⟨k + 1, zs2, _, by omega, by go_num, rfl, hid (by rw [fa1, HR.out, wgSum_next, HX.out]; simp only [fa1, fa2, fa3, fa4, hy]), hid (by rw [wgL_next]; exact hz3), hid hz4, below_trans' ((below_trans hw (by (repeat (first | (with_reducible assumption) | (with_reducible apply below_refl) | (with_reducible apply below_alloc1) | (with_reducible apply below_drewN1) | (with_reducible apply below_drew1))))).trans hb2) (Nat.le_refl _) (below_drewN _ _)⟩
        case measure => simp [intOf]; omega
    · obtain rfl : k = xs.length := by omega
      have HROW0 := hid (Own.mk' ho.out).row
      obtain ⟨g, capo, rfl, hg0, hg1⟩ := ho.out.form (show 0 < (zs.map (Value.float .f32)).length by rw [List.length_map, HLEN.out]; omega)
      have HROW := HROW0
      simp only [List.length_map, HLEN.out] at ho HROW ⊢
      have hT : wgTot xs ws (ab .f32 x) (ab .f32 wd) = ab .f32 S := by rw [wgTot, ← HBY.out, HR.out]
      have HT := hid hT; clear hT
      cases ht : (ford .f32 (ab .f32 S) (some 0) == some .gt)
      · have HE := hid (wg_no (xs := xs) (ws := ws) (x := ab .f32 x) (wd := ab .f32 wd) (by rw [wgAll, HT.out, ht]; simp))
        go_wp2_with fail
        go_ret2
        exact frow_no HE.out.1 HE.out.2 (below_trans hw (by (repeat (first | (with_reducible assumption) | (with_reducible apply below_refl) | (with_reducible apply below_alloc1) | (with_reducible apply below_drewN1) | (with_reducible apply below_drew1)))))
      have HTT := hid ht
      go_wp2_with fail

      have HO1 := ho
      have hw1 := hw
      have hmix : zs.map (ab .f32) = wgMix xs ws (ab .f32 x) (ab .f32 B) (ab .f32 S) xs.length 0 := by rw [wgMix_zero]; exact hx.out
      have HMIX := hid hmix; clear hmix
      have hRes : wgRes xs ws (ab .f32 x) (ab .f32 wd) = wgMix xs ws (ab .f32 x) (ab .f32 B) (ab .f32 S) xs.length xs.length := by rw [wgRes, HT.out, ← HBY.out]
      have HRES := hid hRes; clear hRes
      go_loopw [72] (fun i w2 => ∃ (j : Nat) (us : List Nat), j ≤ xs.length ∧ i = .int .i64 j ∧ Hid (us.length = xs.length) ∧ Hid (us.map (ab .f32) = wgMix xs ws (ab .f32 x) (ab .f32 B) (ab .f32 S) xs.length j) ∧ Hid (w2.ownsRow w.heap.size 23 1 (.slice (some ⟨g, 0, none⟩) xs.length capo) xs.length (us.map (Value.float .f32))) ∧ Below w.heap.size w w2) (fun i _ => xs.length - (intOf i).toNat)
      case atStart => exact ⟨0, zs, by omega, rfl, HLEN, HMIX, HO1, hw1⟩
      case round =>
        obtain ⟨j, us, hj, rfl, hul, hum, hou, hwj⟩ := hrel
        by_cases hjt : j < xs.length
        · have hjI : (j : Int) < (xs.length : Int) := by omega
          have hj0 : (0 : Int) ≤ (j : Int) := by omega
          have hju : j < us.length := by rw [hul.out]; exact hjt
          have hcell : wr.cell? ⟨g, j, none⟩ = some (.float .f32 us[j]) := by
            rw [hou.out.cellAt j (by omega)]; simp [hju]
          have hfr : wr.frozen? ⟨g, j, none⟩ = false := hou.out.frozenAt j
          have hread : ab .f32 us[j] = wgX xs ws (ab .f32 x) (ab .f32 B) j := by
            have h1 := wgMix_get xs ws (ab .f32 x) (ab .f32 B) (ab .f32 S) xs.length j hjt
            rw [← hum.out] at h1
            simpa [hju] using h1
          generalize us[j] = y at hcell hread
          have HREAD := hid hread; clear hread
          go_wp2_with (first | (refine upon_float rfl ?_; intro r n hr; go_simp))
          have hst := (ownsRow_below hou.out (below_drewN _ n)).stored j (Value.float .f32 r)
          go_roundw
          case rel =>
            refine ⟨j + 1, us.set j r, by omega, by go_num, hid (by rw [List.length_set]; exact hul.out), hid ?_, hid ?_, ?_⟩
            · rw [List.map_set, hum.out, hr, HREAD.out]
              exact wgMix_next xs ws (ab .f32 x) (ab .f32 B) (ab .f32 S) xs.length j hjt
            · rw [List.map_set]; exact hst.1
            · exact below_setCell1 (below_drewN1 hwj) hg0
          case measure => simp [intOf]; omega
        · obtain rfl : j = xs.length := by omega
          have HROW2 := hid (show RowAt wr (.slice (some ⟨g, 0, none⟩) xs.length capo) (us.map (Value.float .f32)) from (Own.mk' (by rw [List.length_map, hul.out]; exact hou.out)).row)
          cases hfin : finL (wgRes xs ws (ab .f32 x) (ab .f32 wd))
          · have HE := hid (wg_no (xs := xs) (ws := ws) (x := ab .f32 x) (wd := ab .f32 wd) (by rw [wgAll, hfin]; simp))
            have HF := hid (show (us.all fun b => finB (ab .f32 b)) = false by rw [finL_map, hum.out, ← HRES.out, hfin])
            clear hfin
            go_wp2_with ((go_at_call 47; (with_reducible refine (l02Finite_any _ us _ HROW2.out).mono ?_); rw [HF.out]; rintro e w' ⟨rfl, hb⟩; have hB : Below wr.heap.size wr w' := below_trans (by (repeat (first | (with_reducible assumption) | (with_reducible apply below_refl) | (with_reducible apply below_alloc1) | (with_reducible apply below_drewN1) | (with_reducible apply below_drew1)))) hb; have hC := (bcell hB).1; clear hb))
            go_ret2
            exact frow_no HE.out.1 HE.out.2 (below_trans hwj (by assumption))
          · have hall : wgAll xs ws (ab .f32 x) (ab .f32 wd) = true := by rw [wgAll, HOK.out, HT.out, HTT.out, hfin]; rfl
            have HALL := hid hall
            have HE := hid (wg_yes hall)
            have HF := hid (show (us.all fun b => finB (ab .f32 b)) = true by rw [finL_map, hum.out, ← HRES.out, hfin])
            have HXX := hid (show us = bitsOf (wgRes xs ws (ab .f32 x) (ab .f32 wd)) from ab_bits _ _ (by rw [hum.out, HRES.out]) hfin)
            clear hfin hall
            go_wp2_with ((go_at_call 47; (with_reducible refine (l02Finite_any _ us _ HROW2.out).mono ?_); rw [HF.out]; rintro e w' ⟨rfl, hb⟩; have hB : Below wr.heap.size wr w' := below_trans (by (repeat (first | (with_reducible assumption) | (with_reducible apply below_refl) | (with_reducible apply below_alloc1) | (with_reducible apply below_drewN1) | (with_reducible apply below_drew1)))) hb; have hC := (bcell hB).1; clear hb))
            go_ret2
            exact frow_yes HALL.out (by rw [HE.out, ← HXX.out, List.length_map, hul.out]; exact ownsRow_below hou.out (by assumption)) (below_trans hwj (by assumption))
end Go.Proofs.Ytjkoihiglfnkkaa
