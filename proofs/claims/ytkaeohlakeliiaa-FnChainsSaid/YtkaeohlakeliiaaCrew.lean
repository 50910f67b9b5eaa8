/- Contracts: slices.Clone of numbers; ChainSteps where all is finite. -/
import Derived.Test.YtkaeohlakeliiaaChA
import Derived.Lib.SliceRun
import Derived.Test.YtkaeohlakeliiaaChN
namespace Go.Proofs.Ytkaeohlakeliiaa
open Go.RowKit
set_option linter.unusedVariables false

/-! ## ChS -/
set_option maxRecDepth 100000 in
set_option maxHeartbeats 800000 in
theorem clone_any (v : Value) (xs : List Nat) (w : World) (h1 : 1 ≤ xs.length) (h2 : xs.length ≤ 1000) (hv : RowAt w v (xs.map (Value.float .f32))) :
    Calls Try.prog 94 #[v] w fun e w' => ∃ u, e = .returned u ∧ w'.ownsRow w.heap.size 27 1 u (xs.map (Value.float .f32)).length (xs.map (Value.float .f32)) ∧ Below w.heap.size w w' := by
  obtain ⟨i0, hi0, hz0, hz1, hz2⟩ := info_parts (P := Try.prog) (e := 27) (z := Value.float .f32 0) (size := 1) (bytes := 4) (by kernel_rfl)
  obtain ⟨ao, cap, b, off, rfl, hao, hl, hm, hc⟩ := hv
  simp only [List.length_map] at hao hl ⊢
  obtain rfl := hao (by omega)
  have HC := hid hc
  have HW := hid (show ∀ (w' : World), Below w.heap.size w w' → ∀ j u, (xs.map (Value.float .f32))[j]? = some u → w'.cell? ((⟨b, off, none⟩ : Addr).add j) = some u from fun w' hb j u hj => by
    have h := HC.out j u hj
    have hlt := World.block_lt_of_cell? w _ h
    rw [Addr.add_lit, hb.cell (p := ⟨b, off + j, none⟩) hlt]
    exact h)
  have HONE := hid (show ∀ u ∈ xs.map (Value.float .f32), u.oneCell' = true from fun u hu => by
    obtain ⟨x, _, rfl⟩ := List.mem_map.1 hu
    rfl)
  clear hc hao
  unfold maxLen at hm
  have q22 : ∀ (w : World) (a : Option Addr) (n c n' c' : Nat), (binOp .eql 25 (.slice a n c) (.slice none n' c')).run Try.prog w = .ok (.bool a.isNone) w := fun w a n c n' c' => Lib.run_eql_slice_nil w _ _ a n c n' c' Try.underlying25
  go_enter Try.func94, Try.ntmps94
  go_wp2_with (first
    | (at_builtin; refine wpList_append_own_at _ rfl _ _ 25 rfl w.heap.size 27 i0 (Value.float .f32 0) 1 4 Try.underlying25 hi0 hz0 hz1 hz2 rfl (by decide) (.slice (some ⟨w.heap.size, 0, none⟩) 0 0) 0 [] rfl (World.ownsRow_made w #[] 0 (Nat.le_refl _) (by simp [maxLen]) rfl) ⟨b, off, none⟩ xs.length cap (xs.map (Value.float .f32)) rfl (by simp) (HW.out _ (by (repeat (first | (with_reducible assumption) | (with_reducible apply below_refl) | (with_reducible apply below_alloc1) | (with_reducible apply below_drewN1) | (with_reducible apply below_drew1))))) HONE.out (by simp only [maxLen]; omega) (by omega) (by simp) ?_; intro v1 w1 hown hgr hnil hat; have hb1 : Below w.heap.size w w1 := (below_alloc w _).grown hgr (by simp) (fun k hk => by simp [Value.ownBlock] at hk; omega); clear hgr hnil hat; rw [Nat.zero_add, List.nil_append] at hown))
  go_ret
  exact ⟨_, rfl, hown, hb1⟩
theorem map_at {ys : List Nat} {n : Nat} {f : Nat → Option Nat} (h : ys.map (ab .f32) = (List.range n).map f) : ys.length = n ∧ ∀ k, k < n → atX ys k = f k := by
  have hl : ys.length = n := by have := congrArg List.length h; simpa using this
  refine ⟨hl, fun k hk => ?_⟩
  rw [atX_get (by omega)]
  have := congrArg (fun l => l[k]?) h
  simpa [hl, hk] using this
theorem at_map {ys : List Nat} {n : Nat} (h : ys.length = n) : ys.map (ab .f32) = (List.range n).map (atX ys) := by
  subst h
  refine List.ext_getElem (by simp) fun i h1 h2 => ?_
  simp at h1 h2
  simp [atX, h1]
/-- What ChainSteps leaves. -/
def StepsOk (rs : List Nat) (n h : Nat) (xs : List Nat) (t : Nat) (w : World) (e : Ending) (w' : World) : Prop :=
  ∃ (y : Value) (ys : List Nat), e = .returned (.tuple #[y, .bool true]) ∧ ys.length = n ∧ ys.map (ab .f32) = (List.range n).map (stepsS rs n (ab .f32 h) (atX xs) t) ∧ w'.ownsRow w.heap.size 27 1 y (ys.map (Value.float .f32)).length (ys.map (Value.float .f32)) ∧ Below w.heap.size w w'
set_option maxRecDepth 100000 in
set_option maxHeartbeats 3200000 in
theorem chainSteps_any (ao : Option Addr) (cap : Nat) (rs : List Nat) (u : Value) (xs : List Nat) (n h T : Nat) (hn1 : 1 ≤ n) (hn8 : n ≤ 8) (hT : 1 ≤ T) (hT2 : T ≤ 256) (hx : xs.length = n) (hC : chainB rs n = true) (hlow : (xs.all fun b => notLessB (ab .f32 b)) = true) (hmore : ([h].all fun b => moreB (ab .f32 b)) = true)
    (hfin : ∀ k, k < n → finite32 (stepsS rs n (ab .f32 h) (atX xs) T k) = true) (w : World) (hv : RowAt w (.slice ao rs.length cap) (rs.map (Value.float .f32))) (hu : RowAt w u (xs.map (Value.float .f32))) :
    Calls Try.prog 37 #[.agg #[.int .i64 n, .slice ao rs.length cap], u, .float .f32 h, .int .i64 T] w (StepsOk rs n h xs T w) := by
  obtain ⟨i0, hi0, hz0, hz1, hz2⟩ := info_parts (P := Try.prog) (e := 27) (z := Value.float .f32 0) (size := 1) (bytes := 4) (by kernel_rfl)
  obtain ⟨xo, xcap, xb, xoff, rfl, -⟩ := (id hu)
  rw [List.length_map, hx] at hu ⊢
  have HV := hid hv; have HU := hid hu
  have hl : rs.length = n * n := by
    obtain ⟨m, hm, _, _, hl, -⟩ := chainB_parts hC
    rw [hl, show m = n by omega]
  have HL := hid hl
  have HCC := hid hC
  have HLOW := hid hlow; have HMORE := hid hmore; have HFIN := hid hfin
  have HX := hid hx
  have HIN := hid (show inB (T : Int) 1 256 = true from inB_mk (by omega) (by omega))
  clear hv hu hC hlow hmore hfin hx hl
  have W1 : IntKind.i64.wrap (n : Int) = (n : Int) := by rw [IntKind.wrap_i64]; omega
  go_enter Try.func37, Try.ntmps37
  go_wp2_with (first
    | (go_at_call 34; refine (validChain_any _ _ _ rs _ (HV.out.below (by (repeat (first | (with_reducible assumption) | (with_reducible apply below_refl) | (with_reducible apply below_alloc1) | (with_reducible apply below_drewN1) | (with_reducible apply below_drew1)))))).mono ?_; rw [HCC.out]; rintro e wa ⟨rfl, hb⟩; have hcc := (bcell hb).1; have HBA := hid (show Below w.heap.size w wa from below_trans (by (repeat (first | (with_reducible assumption) | (with_reducible apply below_refl) | (with_reducible apply below_alloc1) | (with_reducible apply below_drewN1) | (with_reducible apply below_drew1)))) hb); have hz : w.heap.size < wa.heap.size := (by have := hb.size; simp at this; omega); have k0 : wa.cell? ⟨w.heap.size, 0, none⟩ = some (.int .i64 n) := (by rw [hcc _ _ (by simp)]; simp); have k1 : wa.cell? ⟨w.heap.size, 1, none⟩ = some (.slice ao rs.length cap) := (by rw [hcc _ _ (by simp)]; simp); clear hb hcc)
    | (go_at_call 86; refine (areNotLess_any _ xs _ (HU.out.below (below_trans HBA.out (by (repeat (first | (with_reducible assumption) | (with_reducible apply below_refl) | (with_reducible apply below_alloc1) | (with_reducible apply below_drewN1) | (with_reducible apply below_drew1))))))).mono ?_; rw [HLOW.out]; rintro e w' ⟨rfl, hb⟩; have hB : Below wa.heap.size wa w' := below_trans (by (repeat (first | (with_reducible assumption) | (with_reducible apply below_refl) | (with_reducible apply below_alloc1) | (with_reducible apply below_drewN1) | (with_reducible apply below_drew1)))) hb; have hC := (bcell hB).1; clear hb)
    | (go_at_call 56; refine (areMore_any _ [h] _ (rowAt_alloc _ _ [.float .f32 h] (by simp [maxLen]))).mono ?_; rw [HMORE.out]; rintro e w' ⟨rfl, hb⟩; have hB : Below wa.heap.size wa w' := below_trans (by (repeat (first | (with_reducible assumption) | (with_reducible apply below_refl) | (with_reducible apply below_alloc1) | (with_reducible apply below_drewN1) | (with_reducible apply below_drew1)))) hb; have hC := (bcell hB).1; clear hb)
    | (go_at_call 62; refine (within_any _ _ _ _).mono ?_; rw [HIN.out]; rintro e w' ⟨rfl, hb⟩; have hB : Below wa.heap.size wa w' := below_trans (by (repeat (first | (with_reducible assumption) | (with_reducible apply below_refl) | (with_reducible apply below_alloc1) | (with_reducible apply below_drewN1) | (with_reducible apply below_drew1)))) hb; have hC := (bcell hB).1; clear hb)
    | (go_at_call 94; refine (clone_any _ xs _ (by rw [HX.out]; exact hn1) (by rw [HX.out]; omega) (HU.out.below (below_trans HBA.out (by (repeat (first | (with_reducible assumption) | (with_reducible apply below_refl) | (with_reducible apply below_alloc1) | (with_reducible apply below_drewN1) | (with_reducible apply below_drew1))))))).mono ?_; rintro e wb ⟨s, rfl, ho, hb⟩; have HO := hid ho; have hzo := (show wa.heap.size ≤ _ from Below.size (show Below wa.heap.size wa _ by (repeat (first | (with_reducible assumption) | (with_reducible apply below_refl) | (with_reducible apply below_alloc1) | (with_reducible apply below_drewN1) | (with_reducible apply below_drew1))))); have HB := hid (show Below wa.heap.size wa wb from below_trans (by (repeat (first | (with_reducible assumption) | (with_reducible apply below_refl) | (with_reducible apply below_alloc1) | (with_reducible apply below_drewN1) | (with_reducible apply below_drew1)))) hb); clear hb ho))
  have K0 := hid k0; have K1 := hid k1
  clear k0 k1
  have hzab : wa.heap.size ≤ wb.heap.size := HB.out.size
  have HO2 := hid (ownsRow_low HO.out (show w.heap.size ≤ _ from Nat.le_trans (Nat.le_of_lt hz) (by assumption)))
  go_loopw [10, 45] (fun sv tv wr => ∃ (t : Nat) (ys : List Nat), t ≤ T ∧ tv = .int .i64 t ∧ Hid (ys.map (ab .f32) = (List.range n).map (stepsS rs n (ab .f32 h) (atX xs) t)) ∧ Hid (wr.ownsRow w.heap.size 27 1 sv (ys.map (Value.float .f32)).length (ys.map (Value.float .f32))) ∧ Below wa.heap.size wa wr) (fun _ tv _ => T - (intOf tv).toNat)
  case atStart => exact ⟨0, xs, Nat.zero_le _, rfl, hid (at_map HX.out), HO2, HB.out⟩
  case round =>
    obtain ⟨t, ys, ht, rfl, hys, ho, hw⟩ := hrel
    obtain ⟨hyl, hya⟩ := map_at hys.out
    have HYL := hid hyl
    have HYA := hid hya
    have k0 : wr.cell? ⟨w.heap.size, 0, none⟩ = some (.int .i64 n) := by rw [hw.cell (p := ⟨w.heap.size, 0, none⟩) hz]; exact K0.out
    obtain ⟨g, cs, rfl, hg0, hg1⟩ := ho.out.form (show 0 < (ys.map (Value.float .f32)).length by rw [List.length_map, hyl]; omega)
    simp only [List.length_map, hyl] at ho ⊢
    have hzr : w.heap.size < wr.heap.size := World.block_lt_of_cell? wr _ k0
    clear hyl hya
    by_cases hlt : t < T
    · have htI : (t : Int) < (T : Int) := by omega
      go_wp2_with fail
      obtain ⟨wo, hwo⟩ : ∃ wo, wo = wr := ⟨_, rfl⟩
      subst hwo
      have HBO := hid (below_trans HBA.out hw)
      have hown0 := hid (show (wo.alloc (.cells #[] 27)).ownsRow wo.heap.size 27 1 (.slice (some ⟨wo.heap.size, 0, none⟩) 0 0) 0 [] from World.ownsRow_made wo #[] 0 (Nat.le_refl _) (by simp [maxLen]) rfl)
      go_loopw [11, 50] (fun nv kv wr => ∃ (m : Nat) (zs : List Nat), m ≤ n ∧ kv = .int .i64 m ∧ Hid (zs.map (ab .f32) = (List.range m).map (stepsS rs n (ab .f32 h) (atX xs) (t + 1))) ∧ Hid (wr.ownsRow wo.heap.size 27 1 nv (zs.map (Value.float .f32)).length (zs.map (Value.float .f32))) ∧ Below wo.heap.size wo wr) (fun _ kv _ => n - (intOf kv).toNat)
      case atStart => exact ⟨0, [], Nat.zero_le _, rfl, hid rfl, hown0, by (repeat (first | (with_reducible assumption) | (with_reducible apply below_refl) | (with_reducible apply below_alloc1) | (with_reducible apply below_drewN1) | (with_reducible apply below_drew1)))⟩
      case round =>
        obtain ⟨m, zs, hm, rfl, hzs, hoz, hwq⟩ := hrel
        have HZL := hid (map_at hzs.out).1
        have HSO := hid (ownsRow_below ho.out hwq)
        by_cases hlt2 : m < n
        · have hmI : (m : Int) < (n : Int) := by omega
          go_wp2_with fail
          obtain ⟨wp, hwp⟩ : ∃ wp, wp = wr := ⟨_, rfl⟩
          subst hwp
          have HBP := hid (below_trans HBO.out hwq)
          have HVP := hid (HV.out.below HBP.out)
          have k0 : wp.cell? ⟨w.heap.size, 0, none⟩ = some (.int .i64 n) := by rw [(below_trans hw hwq).cell (p := ⟨w.heap.size, 0, none⟩) hz]; exact K0.out
          have k1 : wp.cell? ⟨w.heap.size, 1, none⟩ = some (.slice ao rs.length cap) := by rw [(below_trans hw hwq).cell (p := ⟨w.heap.size, 1, none⟩) hz]; exact K1.out
          have hzp : w.heap.size < wp.heap.size := World.block_lt_of_cell? wp _ k0
          have KK0 := hid k0; have KK1 := hid k1
          clear k0 k1
          go_loopw [13, 55] (fun cv iv wr => ∃ (i F : Nat), i ≤ n ∧ iv = .int .i64 i ∧ cv = .float .f32 F ∧ Hid (ab .f32 F = comeS rs n m (stepsS rs n (ab .f32 h) (atX xs) t) i) ∧ Below wp.heap.size wp wr) (fun _ iv _ => n - (intOf iv).toNat)
          case atStart => exact ⟨0, 0, Nat.zero_le _, rfl, rfl, hid ab_z32, by (repeat (first | (with_reducible assumption) | (with_reducible apply below_refl) | (with_reducible apply below_alloc1) | (with_reducible apply below_drewN1) | (with_reducible apply below_drew1)))⟩
          case round =>
            obtain ⟨i, F, hi, rfl, rfl, hF, hwr⟩ := hrel
            have k0 : wr.cell? ⟨w.heap.size, 0, none⟩ = some (.int .i64 n) := by rw [hwr.cell (p := ⟨w.heap.size, 0, none⟩) hzp]; exact KK0.out
            have k1 : wr.cell? ⟨w.heap.size, 1, none⟩ = some (.slice ao rs.length cap) := by rw [hwr.cell (p := ⟨w.heap.size, 1, none⟩) hzp]; exact KK1.out
            obtain ⟨fe1, fe2, fe3, fe4⟩ := run_fres4 Try.prog
            obtain ⟨fa1, fa2, fa3, fa4⟩ := ab_fres4
            have HSR := hid (ownsRow_below HSO.out hwr)
            by_cases hlt3 : i < n
            · have hiI : (i : Int) < (n : Int) := by omega
              have hi0' : (0 : Int) ≤ (i : Int) := by omega
              have hiy : i < ys.length := by rw [HYL.out]; exact hlt3
              have hcell : wr.cell? ⟨g, i, none⟩ = some (.float .f32 ys[i]) := by
                rw [HSR.out.cellAt i (by omega)]; simp [hiy]
              have hval : ab .f32 ys[i] = stepsS rs n (ab .f32 h) (atX xs) t i := by rw [← HYA.out i hlt3, atX_get hiy]
              generalize ys[i] = x at hcell hval
              have HXV := hid hval
              clear hval
              go_wp2_with (first
                | (go_at_call 90; refine (rate_any _ _ rs i m n hn8 hlt3 hlt2 HL.out _ (HVP.out.below (below_trans hwr (by (repeat (first | (with_reducible assumption) | (with_reducible apply below_refl) | (with_reducible apply below_alloc1) | (with_reducible apply below_drewN1) | (with_reducible apply below_drew1))))))).mono ?_; rintro e w5 ⟨q, rfl, hq, hb5⟩; have HQ := hid hq; have hB5 : Below wr.heap.size wr w5 := below_trans (by (repeat (first | (with_reducible assumption) | (with_reducible apply below_refl) | (with_reducible apply below_alloc1) | (with_reducible apply below_drewN1) | (with_reducible apply below_drew1)))) hb5; clear hb5 hq))
              go_roundw
              case rel => exact ⟨i + 1, _, by omega, by go_num, rfl, hid (by rw [fa1, fa3, hF.out, HXV.out, HQ.out, comeS_next]), below_trans hwr (by (repeat (first | (with_reducible assumption) | (with_reducible apply below_refl) | (with_reducible apply below_alloc1) | (with_reducible apply below_drewN1) | (with_reducible apply below_drew1))))⟩
              case measure => simp [intOf]; omega
            · obtain rfl : i = n := by omega
              have hiI : ¬ (i : Int) < (i : Int) := by omega
              have hm0' : (0 : Int) ≤ (m : Int) := by omega
              have hmy : m < ys.length := by rw [HYL.out]; exact hlt2
              have hcell : wr.cell? ⟨g, m, none⟩ = some (.float .f32 ys[m]) := by
                rw [HSR.out.cellAt m (by omega)]; simp [hmy]
              have hval : ab .f32 ys[m] = stepsS rs i (ab .f32 h) (atX xs) t m := by rw [← HYA.out m hlt2, atX_get hmy]
              generalize ys[m] = x at hcell hval
              have HXV := hid hval
              have hgl : g < wr.heap.size := World.block_lt_of_cell? wr _ hcell
              clear hval
              have HNX := hid (ownsRow_below hoz.out hwr)
              have hwt := hid (below_trans hwq hwr)
              have hzz : wo.heap.size ≤ wr.heap.size := hwt.out.size
              go_wp2_with fail
              go_region_law (first
                | (go_simp; go_at_call 89; refine (leaves_any _ _ rs m i hn8 hlt2 HL.out _ (HVP.out.below (below_trans hwr (by (repeat (first | (with_reducible assumption) | (with_reducible apply below_refl) | (with_reducible apply below_alloc1) | (with_reducible apply below_drewN1) | (with_reducible apply below_drew1))))))).mono ?_; rintro e w' ⟨q, rfl, hq, hb⟩; have hW : Below wr.heap.size wr w' := below_trans (by (repeat (first | (with_reducible assumption) | (with_reducible apply below_refl) | (with_reducible apply below_alloc1) | (with_reducible apply below_drewN1) | (with_reducible apply below_drew1)))) hb; have hO := hid (ownsRow_below HNX.out hW); have HQ := hid hq; have hcq := (bcell hW).1; clear hb hq)
                | (refine step_push rfl _ _ 25 rfl Try.underlying25 hi0 hz0 hz1 hz2 rfl wo.heap.size _ (zs.map (Value.float .f32)) (by simp [Act.eval, Act.put]) (by simp [Act.eval, Act.put]) (ownsRow_below hO.out (by (repeat (first | (with_reducible assumption) | (with_reducible apply below_refl) | (with_reducible apply below_alloc1) | (with_reducible apply below_drewN1) | (with_reducible apply below_drew1))))) rfl (by rw [List.length_map, HZL.out]; omega) (by decide) (Nat.le_trans hzz (Below.size (below_trans hW (by (repeat (first | (with_reducible assumption) | (with_reducible apply below_refl) | (with_reducible apply below_alloc1) | (with_reducible apply below_drewN1) | (with_reducible apply below_drew1))))))) ?_; intro v1 w2 hown hb2))
              all_goals
                obtain ⟨zs2, hz3, hz4⟩ := pushed (o := stepsS rs i (ab .f32 h) (atX xs) (t + 1) m) hown hzs.out (by show _ = afterS rs i (ab .f32 h) (stepsS rs i (ab .f32 h) (atX xs) t) m; unfold afterS; simp only [fa1, fa2, fa3, HXV.out, HQ.out, hF.out])
                go_wp2_with fail
                go_roundw
                case rel =>
                  exact ⟨m + 1, zs2, by omega, by go_num, hid (by rw [range_next]; exact hz3), hid hz4, (below_trans (below_trans hwt.out hW) (by (repeat (first | (with_reducible assumption) | (with_reducible apply below_refl) | (with_reducible apply below_alloc1) | (with_reducible apply below_drewN1) | (with_reducible apply below_drew1))))).trans hb2⟩
                case measure => simp [intOf]; omega
        · obtain rfl : m = n := by omega
          have hmI : ¬ (m : Int) < (m : Int) := by omega
          go_wp2_with fail
          go_roundw
          case rel => exact ⟨t + 1, zs, by omega, by go_num, hzs, hid (by have h9 := ownsRow_low hoz.out (show w.heap.size ≤ wo.heap.size from Nat.le_trans (Nat.le_of_lt hz) hw.size); rw [List.length_map] at h9; exact h9), below_trans hw hwq⟩
          case measure => simp [intOf]; omega
    · obtain rfl : t = T := by omega
      have htI : ¬ (t : Int) < (t : Int) := by omega
      have HF := hid (show (ys.all fun b => finB (ab .f32 b)) = true by
        rw [finL_map, hys.out]
        unfold finL
        rw [List.all_map]
        exact List.all_eq_true.2 fun k hk => HFIN.out k (List.mem_range.1 hk))
      have HROW := hid (show RowAt wr (.slice (some ⟨g, 0, none⟩) n cs) (ys.map (Value.float .f32)) from (Own.mk' (by rw [List.length_map, HYL.out]; exact ho.out)).row)
      go_wp2_with (first
        | (go_at_call 59; refine (ifAll_yes _ ys HF.out _ (HROW.out.below (by (repeat (first | (with_reducible assumption) | (with_reducible apply below_refl) | (with_reducible apply below_alloc1) | (with_reducible apply below_drewN1) | (with_reducible apply below_drew1)))))).mono ?_; rintro e w' ⟨rfl, hb⟩; have hB : Below wr.heap.size wr w' := below_trans (by (repeat (first | (with_reducible assumption) | (with_reducible apply below_refl) | (with_reducible apply below_alloc1) | (with_reducible apply below_drewN1) | (with_reducible apply below_drew1)))) hb; have hC := (bcell hB).1; clear hb))
      go_ret2
      exact ⟨.slice (some ⟨g, 0, none⟩) n cs, ys, rfl, HYL.out, hys.out, by rw [List.length_map, HYL.out]; exact ownsRow_below ho.out hB, below_trans HBA.out (below_trans hw hB)⟩

/-! ## Crew -/
def CrewRow (m c : Nat) (F R : Option Nat) (w : World) (e : Ending) (w' : World) : Prop :=
  ∃ (y : Value) (ys : List Nat), e = .returned (.tuple #[y, .bool true]) ∧ ys.map (ab .f32) = (List.range (m + 1)).map (cwP m c F R) ∧ w'.ownsRow w.heap.size 27 1 y (ys.map (Value.float .f32)).length (ys.map (Value.float .f32)) ∧ Below w.heap.size w w'
def crMix (f g : Nat → Option Nat) (n j : Nat) : List (Option Nat) := (List.range n).map fun i => if i < j then g i else f i
theorem crMix_zero (f g : Nat → Option Nat) (n : Nat) : (List.range n).map f = crMix f g n 0 := by
  unfold crMix
  refine List.map_congr_left fun i _ => ?_
  rw [if_neg (by omega)]
theorem crMix_full (f g : Nat → Option Nat) (n : Nat) : crMix f g n n = (List.range n).map g := by
  unfold crMix
  refine List.map_congr_left fun i hi => ?_
  rw [if_pos (List.mem_range.1 hi)]
theorem crMix_next (f g : Nat → Option Nat) (n j : Nat) : (crMix f g n j).set j (g j) = crMix f g n (j + 1) := by
  unfold crMix
  refine List.ext_getElem (by simp) fun i h1 h2 => ?_
  simp only [List.length_set, List.length_map, List.length_range] at h1
  rw [List.getElem_set]
  by_cases c : j = i
  · subst c; simp
  · rw [if_neg c]
    simp only [List.getElem_map, List.getElem_range]
    by_cases d : i < j
    · rw [if_pos d, if_pos (by omega)]
    · rw [if_neg d, if_neg (by omega)]
theorem sumX_sumO {us : List Nat} {f : Nat → Option Nat} {n : Nat} (h : ∀ k, k < n → atX us k = f k) : ∀ k, k ≤ n → sumX us k = sumO f k := by
  intro k
  induction k with
  | zero => intro _; rfl
  | succ k ih => intro hk; rw [sumX_next, sumO_next, ih (by omega), h k (by omega)]
set_option maxRecDepth 100000 in
set_option maxHeartbeats 3200000 in
theorem crewBalance_any (m c f r : Nat) (m1 : 1 ≤ m) (m8 : m ≤ 8) (c1 : 1 ≤ c) (cm : c ≤ m) (hlow : ([f].all fun b => notLessB (ab .f32 b)) = true) (hmore : ([r].all fun b => moreB (ab .f32 b)) = true)
    (hfin : ∀ k, k < m + 1 → finite32 (cwP m c (ab .f32 f) (ab .f32 r) k) = true) (w : World) :
    Calls Try.prog 38 #[.int .i64 m, .int .i64 c, .float .f32 f, .float .f32 r] w (CrewRow m c (ab .f32 f) (ab .f32 r) w) := by
  obtain ⟨i0, hi0, hz0, hz1, hz2⟩ := info_parts (P := Try.prog) (e := 27) (z := Value.float .f32 0) (size := 1) (bytes := 4) (by kernel_rfl)
  have HLOW := hid hlow; have HMORE := hid hmore; have HFIN := hid hfin
  have G1 := hid (show inB (m : Int) 1 16 = true from inB_mk (by omega) (by omega))
  have G2 := hid (show inB (c : Int) 1 m = true from inB_mk (by omega) (by omega))
  clear hlow hmore hfin
  go_enter Try.func38, Try.ntmps38
  go_wp2_with (first
    | (go_at_call 62; refine (within_any _ _ _ _).mono ?_; (first | rw [G1.out] | rw [G2.out]); rintro e w' ⟨rfl, hb⟩; have hB : Below w.heap.size w w' := below_trans (by (repeat (first | (with_reducible assumption) | (with_reducible apply below_refl) | (with_reducible apply below_alloc1) | (with_reducible apply below_drewN1) | (with_reducible apply below_drew1)))) hb; have hC := (bcell hB).1; clear hb)
    | (go_at_call 86; refine (areNotLess_any _ [f] _ (rowAt_alloc _ _ [.float .f32 f] (by simp [maxLen]))).mono ?_; rw [HLOW.out]; rintro e w' ⟨rfl, hb⟩; have hB : Below w.heap.size w w' := below_trans (by (repeat (first | (with_reducible assumption) | (with_reducible apply below_refl) | (with_reducible apply below_alloc1) | (with_reducible apply below_drewN1) | (with_reducible apply below_drew1)))) hb; have hC := (bcell hB).1; clear hb)
    | (go_at_call 56; refine (areMore_any _ [r] _ (rowAt_alloc _ _ [.float .f32 r] (by simp [maxLen]))).mono ?_; rw [HMORE.out]; rintro e w' ⟨rfl, hb⟩; have hB : Below w.heap.size w w' := below_trans (by (repeat (first | (with_reducible assumption) | (with_reducible apply below_refl) | (with_reducible apply below_alloc1) | (with_reducible apply below_drewN1) | (with_reducible apply below_drew1)))) hb; have hC := (bcell hB).1; clear hb))
  have hsz := hB.size
  have hrow1 := hid (show (w'.alloc (.cells #[.float .f32 1065353216] 27)).ownsRow w.heap.size 27 1 (.slice (some ⟨w'.heap.size, 0, none⟩) 1 1) 1 [.float .f32 1065353216] from World.ownsRow_lit w' #[.float .f32 1065353216] 1 hsz (by simp [maxLen]) rfl)
  go_loopw [10, 11] (fun v y wr => ∃ (j : Nat) (us : List Nat), j ≤ m ∧ y = .int .i64 ((j : Int) + 1) ∧ Hid (us.map (ab .f32) = (List.range (j + 1)).map (cw m c (ab .f32 f) (ab .f32 r))) ∧ Hid (wr.ownsRow w.heap.size 27 1 v (us.map (Value.float .f32)).length (us.map (Value.float .f32))) ∧ Below w.heap.size w wr) (fun _ y _ => m + 1 - (intOf y).toNat)
  case atStart => exact ⟨0, [1065353216], by omega, rfl, hid (by simp [cw, cone, ab_one32]), hid hrow1.out, by (repeat (first | (with_reducible assumption) | (with_reducible apply below_refl) | (with_reducible apply below_alloc1) | (with_reducible apply below_drewN1) | (with_reducible apply below_drew1)))⟩
  case round =>
    obtain ⟨j, us, hj, rfl, hus, ho, hw⟩ := hrel
    obtain ⟨hul, hua⟩ := map_at hus.out
    have HUL := hid hul; have HUA := hid hua
    obtain ⟨g, cs, rfl, hg0, hg1⟩ := ho.out.form (show 0 < (us.map (Value.float .f32)).length by rw [List.length_map, hul]; omega)
    simp only [List.length_map, hul] at ho ⊢
    clear hul hua
    by_cases hlt : j < m
    · have hI : (j : Int) + 1 ≤ (m : Int) := by omega
      have W1 : IntKind.i64.wrap ((j : Int) + 1 - 1) = (j : Int) := by rw [IntKind.wrap_i64]; omega
      have W2 : IntKind.i64.wrap ((m : Int) - ((j : Int) + 1)) = (m : Int) - ((j : Int) + 1) := by rw [IntKind.wrap_i64]; omega
      have W3 : IntKind.i64.wrap ((m : Int) - ((j : Int) + 1) + 1) = ((m - j : Nat) : Int) := by rw [IntKind.wrap_i64]; omega
      have hj0 : (0 : Int) ≤ (j : Int) := by omega
      have hjn : (j : Int) < ((j + 1 : Nat) : Int) := by omega
      have hju : j < us.length := by rw [HUL.out]; omega
      have hcell : wr.cell? ⟨g, j, none⟩ = some (.float .f32 us[j]) := by
        rw [ho.out.cellAt j (by omega)]; simp [hju]
      have hval : ab .f32 us[j] = cw m c (ab .f32 f) (ab .f32 r) j := by rw [← HUA.out j (by omega), atX_get hju]
      generalize us[j] = p at hcell hval
      have HP := hid hval
      clear hval
      have HCW := hid (cw_next m c (ab .f32 f) (ab .f32 r) j)
      have hmc : ∀ z : Nat, z = min (j + 1) c → fI (min (j + 1) c) = ab .f32 (floatOfInt .f32 (z : Int)) := fun z hz => by rw [← hz, ab_ofInt]; rfl
      have hmj : fI (m - j) = ab .f32 (floatOfInt .f32 ((m - j : Nat) : Int)) := by rw [ab_ofInt]; rfl
      have HMC := hid hmc; have HMJ := hid hmj
      clear hmc hmj
      by_cases hjc : c ≤ j
      · have hm1 := HMC.out c (by omega)
        have HM1 := hid hm1
        clear hm1
        have hI1 : (c : Int) ≤ (j : Int) + 1 := by omega
        have hI2 : ¬ (j : Int) + 1 ≤ (c : Int) := by omega
        have hI3 : (c : Int) < (j : Int) + 1 := by omega
        have hI4 : ¬ (j : Int) + 1 < (c : Int) := by omega
        go_wp2_with (first
          | ((fail_if_success (have := hr1)); refine upon_float rfl ?_; intro r1 n1 hr1; go_simp)
          | ((fail_if_success (have := hr2)); refine upon_float rfl ?_; intro r2 n2 hr2; go_simp)
          | ((fail_if_success (have := hr3)); refine upon_float rfl ?_; intro r3 n3 hr3; go_simp)
          | ((fail_if_success (have := hr4)); refine upon_float rfl ?_; intro r4 n4 hr4; go_simp)
          | (at_builtin; refine wpList_push rfl _ _ 25 rfl Try.underlying25 hi0 hz0 hz1 hz2 rfl w.heap.size _ (us.map (Value.float .f32)) rfl rfl (by have h9 := ownsRow_below ho.out (show Below wr.heap.size wr _ by (repeat (first | (with_reducible assumption) | (with_reducible apply below_refl) | (with_reducible apply below_alloc1) | (with_reducible apply below_drewN1) | (with_reducible apply below_drew1)))); rw [List.length_map, HUL.out]; exact h9) rfl (by rw [List.length_map, HUL.out]; omega) (by decide) (Nat.le_trans hw.size (Below.size (show Below wr.heap.size wr _ by (repeat (first | (with_reducible assumption) | (with_reducible apply below_refl) | (with_reducible apply below_alloc1) | (with_reducible apply below_drewN1) | (with_reducible apply below_drew1)))))) ?_; intro v1 w2 hown hb2))
        all_goals
          obtain ⟨zs2, hz3, hz4⟩ := pushed (o := cw m c (ab .f32 f) (ab .f32 r) (j + 1)) hown hus.out (by rw [HCW.out, HM1.out, HMJ.out, hr4, hr3, hr2, hr1, HP.out])
          go_roundw
          case rel => exact ⟨j + 1, zs2, by omega, by go_num, hid (by rw [range_next]; exact hz3), hid (by have h9 := hz4; rw [List.length_map] at h9; exact h9), (below_trans hw (by (repeat (first | (with_reducible assumption) | (with_reducible apply below_refl) | (with_reducible apply below_alloc1) | (with_reducible apply below_drewN1) | (with_reducible apply below_drew1))))).trans hb2⟩
          case measure => simp [intOf]; omega
      · have hm1 := HMC.out (j + 1) (by omega)
        rw [Int.natCast_add, show ((1 : Nat) : Int) = 1 from rfl] at hm1
        have HM1 := hid hm1
        clear hm1
        have hI1 : (j : Int) + 1 ≤ (c : Int) := by omega
        have hI2 : ¬ (c : Int) < (j : Int) + 1 := by omega
        go_wp2_with (first
          | ((fail_if_success (have := hr1)); refine upon_float rfl ?_; intro r1 n1 hr1; go_simp)
          | ((fail_if_success (have := hr2)); refine upon_float rfl ?_; intro r2 n2 hr2; go_simp)
          | ((fail_if_success (have := hr3)); refine upon_float rfl ?_; intro r3 n3 hr3; go_simp)
          | ((fail_if_success (have := hr4)); refine upon_float rfl ?_; intro r4 n4 hr4; go_simp)
          | (at_builtin; refine wpList_push rfl _ _ 25 rfl Try.underlying25 hi0 hz0 hz1 hz2 rfl w.heap.size _ (us.map (Value.float .f32)) rfl rfl (by have h9 := ownsRow_below ho.out (show Below wr.heap.size wr _ by (repeat (first | (with_reducible assumption) | (with_reducible apply below_refl) | (with_reducible apply below_alloc1) | (with_reducible apply below_drewN1) | (with_reducible apply below_drew1)))); rw [List.length_map, HUL.out]; exact h9) rfl (by rw [List.length_map, HUL.out]; omega) (by decide) (Nat.le_trans hw.size (Below.size (show Below wr.heap.size wr _ by (repeat (first | (with_reducible assumption) | (with_reducible apply below_refl) | (with_reducible apply below_alloc1) | (with_reducible apply below_drewN1) | (with_reducible apply below_drew1)))))) ?_; intro v1 w2 hown hb2))
        all_goals
          obtain ⟨zs2, hz3, hz4⟩ := pushed (o := cw m c (ab .f32 f) (ab .f32 r) (j + 1)) hown hus.out (by rw [HCW.out, HM1.out, HMJ.out, hr4, hr3, hr2, hr1, HP.out])
          go_roundw
          case rel => exact ⟨j + 1, zs2, by omega, by go_num, hid (by rw [range_next]; exact hz3), hid (by have h9 := hz4; rw [List.length_map] at h9; exact h9), (below_trans hw (by (repeat (first | (with_reducible assumption) | (with_reducible apply below_refl) | (with_reducible apply below_alloc1) | (with_reducible apply below_drewN1) | (with_reducible apply below_drew1))))).trans hb2⟩
          case measure => simp [intOf]; omega
    · obtain rfl : j = m := by omega
      have hI : ¬ (j : Int) + 1 ≤ (j : Int) := by omega
      have HROW := hid (show RowAt wr (.slice (some ⟨g, 0, none⟩) (j + 1) cs) (us.map (Value.float .f32)) from (Own.mk' (by rw [List.length_map, HUL.out]; exact ho.out)).row)
      have HSU := hid (show sumX us us.length = sumO (cw j c (ab .f32 f) (ab .f32 r)) (j + 1) by rw [HUL.out]; exact sumX_sumO HUA.out _ (Nat.le_refl _))
      go_wp2_with (first
        | (go_at_call 78; refine (addUp_any _ us _ (HROW.out.below (by (repeat (first | (with_reducible assumption) | (with_reducible apply below_refl) | (with_reducible apply below_alloc1) | (with_reducible apply below_drewN1) | (with_reducible apply below_drew1)))))).mono ?_; rintro e w7 ⟨S, rfl, hS, hb7⟩; have HS := hid hS; have HB7 := hid (below_trans (show Below wr.heap.size wr _ by (repeat (first | (with_reducible assumption) | (with_reducible apply below_refl) | (with_reducible apply below_alloc1) | (with_reducible apply below_drewN1) | (with_reducible apply below_drew1)))) hb7); clear hb7 hS))
      have HSS := hid (show ab .f32 S = sumO (cw j c (ab .f32 f) (ab .f32 r)) (j + 1) from HS.out.trans HSU.out)
      have HO1 := hid (ownsRow_below ho.out HB7.out)
      have hw7 := below_trans hw HB7.out
      have HMIX := hid (show us.map (ab .f32) = crMix (cw j c (ab .f32 f) (ab .f32 r)) (cwP j c (ab .f32 f) (ab .f32 r)) (j + 1) 0 by rw [← crMix_zero]; exact hus.out)
      go_loopw [70] (fun i w2 => ∃ (q : Nat) (vs : List Nat), q ≤ j + 1 ∧ i = .int .i64 q ∧ Hid (vs.map (ab .f32) = crMix (cw j c (ab .f32 f) (ab .f32 r)) (cwP j c (ab .f32 f) (ab .f32 r)) (j + 1) q) ∧ Hid (w2.ownsRow w.heap.size 27 1 (.slice (some ⟨g, 0, none⟩) (j + 1) cs) (j + 1) (vs.map (Value.float .f32))) ∧ Below w.heap.size w w2) (fun i _ => j + 1 - (intOf i).toNat)
      case atStart => exact ⟨0, us, by omega, rfl, HMIX, HO1, hw7⟩
      case round =>
        obtain ⟨q, vs, hq, rfl, hvm, hov, hwq⟩ := hrel
        have hvl : vs.length = j + 1 := by have := congrArg List.length hvm.out; simpa [crMix] using this
        have HVL := hid hvl
        clear hvl
        by_cases hqt : q < j + 1
        · have hqI : (q : Int) < ((j + 1 : Nat) : Int) := by omega
          have hqI2 : (q : Int) < (j : Int) + 1 := by omega
          have hq0 : (0 : Int) ≤ (q : Int) := by omega
          have hqv : q < vs.length := by rw [HVL.out]; exact hqt
          have hcell : wr.cell? ⟨g, q, none⟩ = some (.float .f32 vs[q]) := by
            rw [hov.out.cellAt q (by omega)]; simp [hqv]
          have hfr : wr.frozen? ⟨g, q, none⟩ = false := hov.out.frozenAt q
          have hread : ab .f32 vs[q] = cw j c (ab .f32 f) (ab .f32 r) q := by
            have h1 := congrArg (fun l => l[q]?) hvm.out
            simpa [crMix, hqv, hqt] using h1
          generalize vs[q] = y at hcell hread
          have HREAD := hid hread; clear hread
          go_wp2_with (first | (refine upon_float rfl ?_; intro z nn hr; go_simp))
          have hst := (ownsRow_below hov.out (below_drewN _ nn)).stored q (Value.float .f32 z)
          go_roundw
          case rel =>
            refine ⟨q + 1, vs.set q z, by omega, by go_num, hid ?_, hid ?_, ?_⟩
            · rw [List.map_set, hvm.out, hr, HREAD.out, HSS.out]
              exact crMix_next _ _ _ _
            · rw [List.map_set]; exact hst.1
            · exact below_setCell1 (below_drewN1 hwq) hg0
          case measure => simp [intOf]; omega
        · obtain rfl : q = j + 1 := by omega
          have HFU := hid (show vs.map (ab .f32) = (List.range (j + 1)).map (cwP j c (ab .f32 f) (ab .f32 r)) by rw [hvm.out, crMix_full])
          have HROW2 := hid (show RowAt wr (.slice (some ⟨g, 0, none⟩) (j + 1) cs) (vs.map (Value.float .f32)) from (Own.mk' (by rw [List.length_map, HVL.out]; exact hov.out)).row)
          have HF := hid (show (vs.all fun b => finB (ab .f32 b)) = true by
            rw [finL_map, HFU.out]
            unfold finL
            rw [List.all_map]
            exact List.all_eq_true.2 fun k hk => HFIN.out k (List.mem_range.1 hk))
          go_wp2_with (first
            | (go_at_call 59; refine (ifAll_yes _ vs HF.out _ (HROW2.out.below (by (repeat (first | (with_reducible assumption) | (with_reducible apply below_refl) | (with_reducible apply below_alloc1) | (with_reducible apply below_drewN1) | (with_reducible apply below_drew1)))))).mono ?_; rintro e w' ⟨rfl, hb⟩; have hB : Below wr.heap.size wr w' := below_trans (by (repeat (first | (with_reducible assumption) | (with_reducible apply below_refl) | (with_reducible apply below_alloc1) | (with_reducible apply below_drewN1) | (with_reducible apply below_drew1)))) hb; have hC := (bcell hB).1; clear hb))
          go_ret2
          exact ⟨.slice (some ⟨g, 0, none⟩) (j + 1) cs, vs, rfl, HFU.out, by rw [List.length_map, HVL.out]; exact ownsRow_below hov.out hB, below_trans hwq hB⟩

/-! ## Crew2 -/
set_option maxRecDepth 100000 in
set_option maxHeartbeats 3200000 in
theorem meanDown_any (m c f r : Nat) (m1 : 1 ≤ m) (m8 : m ≤ 8) (c1 : 1 ≤ c) (cm : c ≤ m) (hlow : ([f].all fun b => notLessB (ab .f32 b)) = true) (hmore : ([r].all fun b => moreB (ab .f32 b)) = true)
    (hfin : ∀ k, k < m + 1 → finite32 (cwP m c (ab .f32 f) (ab .f32 r) k) = true) (hfm : finite32 (meanO (cwP m c (ab .f32 f) (ab .f32 r)) (m + 1)) = true) (w : World) :
    Calls Try.prog 39 #[.int .i64 m, .int .i64 c, .float .f32 f, .float .f32 r] w fun e w' => ∃ z, e = .returned (.tuple #[.float .f32 z, .bool true]) ∧ ab .f32 z = meanO (cwP m c (ab .f32 f) (ab .f32 r)) (m + 1) ∧ Below w.heap.size w w' := by
  have HC := hid (crewBalance_any m c f r m1 m8 c1 cm hlow hmore hfin)
  have HFM := hid hfm
  clear hlow hmore hfin hfm
  go_enter Try.func39, Try.ntmps39
  go_wp2_with (first
    | (go_at_call 38; refine (HC.out _).mono ?_; rintro e wa ⟨y, ys, rfl, hys, ho, hb⟩; obtain ⟨hyl, hya⟩ := map_at hys; obtain ⟨g, cs, rfl, hg0, hg1⟩ := ho.form (show 0 < (ys.map (Value.float .f32)).length by rw [List.length_map, hyl]; omega); simp only [List.length_map, hyl] at ho ⊢; have HYL := hid hyl; have HYA := hid hya; have HO := hid ho; have HB := hid (show Below w.heap.size w wa from below_trans (by (repeat (first | (with_reducible assumption) | (with_reducible apply below_refl) | (with_reducible apply below_alloc1) | (with_reducible apply below_drewN1) | (with_reducible apply below_drew1)))) hb); clear hb ho hys hyl hya))
  go_loopw [12, 27] (fun sv kv wr => ∃ (k S : Nat), k ≤ m + 1 ∧ kv = .int .i64 k ∧ sv = .float .f32 S ∧ Hid (ab .f32 S = meanO (cwP m c (ab .f32 f) (ab .f32 r)) k) ∧ Below wa.heap.size wa wr) (fun _ kv _ => m + 1 - (intOf kv).toNat)
  case atStart => exact ⟨0, 0, by omega, rfl, rfl, hid ab_z32, by (repeat (first | (with_reducible assumption) | (with_reducible apply below_refl) | (with_reducible apply below_alloc1) | (with_reducible apply below_drewN1) | (with_reducible apply below_drew1)))⟩
  case round =>
    obtain ⟨k, S, hk, rfl, rfl, hS, hw⟩ := hrel
    have HOW := hid (ownsRow_below HO.out hw)
    by_cases hlt : k < m + 1
    · have hkI : (k : Int) < (m : Int) + 1 := by omega
      have hkI2 : (k : Int) < ((m + 1 : Nat) : Int) := by omega
      have hk0 : (0 : Int) ≤ (k : Int) := by omega
      have hky : k < ys.length := by rw [HYL.out]; exact hlt
      have hcell : wr.cell? ⟨g, k, none⟩ = some (.float .f32 ys[k]) := by
        rw [HOW.out.cellAt k (by omega)]; simp [hky]
      have hval : ab .f32 ys[k] = cwP m c (ab .f32 f) (ab .f32 r) k := by rw [← HYA.out k hlt, atX_get hky]
      generalize ys[k] = p at hcell hval
      have HP := hid hval
      clear hval
      have HN := hid (meanO_next (cwP m c (ab .f32 f) (ab .f32 r)) k)
      have HI := hid (show fI k = ab .f32 (floatOfInt .f32 (k : Int)) by rw [ab_ofInt]; rfl)
      go_wp2_with (first
        | ((fail_if_success (have := hr1)); refine upon_float rfl ?_; intro r1 n1 hr1; go_simp)
        | ((fail_if_success (have := hr2)); refine upon_float rfl ?_; intro r2 n2 hr2; go_simp))
      go_roundw
      case rel => exact ⟨k + 1, r2, by omega, by go_num, rfl, hid (by rw [HN.out, HI.out, hr2, hr1, hS.out, HP.out]), below_trans hw (by (repeat (first | (with_reducible assumption) | (with_reducible apply below_refl) | (with_reducible apply below_alloc1) | (with_reducible apply below_drewN1) | (with_reducible apply below_drew1))))⟩
      case measure => simp [intOf]; omega
    · obtain rfl : k = m + 1 := by omega
      have hkI2 : ¬ ((m + 1 : Nat) : Int) < ((m + 1 : Nat) : Int) := by omega
      have HF := hid (show ifFin (ab .f32 S) = (meanO (cwP m c (ab .f32 f) (ab .f32 r)) (m + 1), true) by rw [hS.out]; exact ifFin_yes HFM.out)
      go_wp2_with (first
        | (go_at_call 60; refine (ifFinite_num _ _).mono ?_; rw [HF.out]; rintro e w7 ⟨z, rfl, hz, hb7⟩; have HZ := hid hz; have HB7 := hid (below_trans (show Below wr.heap.size wr _ by (repeat (first | (with_reducible assumption) | (with_reducible apply below_refl) | (with_reducible apply below_alloc1) | (with_reducible apply below_drewN1) | (with_reducible apply below_drew1)))) hb7); clear hb7 hz))
      go_ret2
      exact ⟨z, rfl, HZ.out, below_trans HB.out (below_trans hw HB7.out)⟩
end Go.Proofs.Ytkaeohlakeliiaa
