/- Rows of units that are the same: the specification's. -/
import Derived.Test.YtfnhpchgiknmpaaSame5
import Derived.Test.YtfnhpchgiknmpaaSame7
namespace Go.Proofs.Ytfnhpchgiknmpaa
open Go.RowKit

set_option maxRecDepth 100000 in
set_option maxHeartbeats 3200000 in
theorem specSameUnits_any (va vb : Value) (us vs : List Un) (w : World) (ha : UnitsAt w va us) (hb : UnitsAt w vb vs) (wx : ∀ u ∈ us, WfU u) (wy : ∀ u ∈ vs, WfU u) :
    Calls Try.prog 13 #[va, vb] w fun e w' => e = .returned (.bool (sameUs us vs)) ∧ Below w.heap.size w w' := by
  obtain ⟨ao, cap, b, off, rfl, hao, hl, hm, hc⟩ := ha
  obtain ⟨ao', cap', b', off', rfl, hao', hl', hm', hc'⟩ := hb
  unfold maxLen at hm hm'
  have HC := hid hc; have HA := hid hao; have HC' := hid hc'; have HA' := hid hao'
  have WX := hid wx; have WY := hid wy
  clear hc hao hc' hao' wx wy
  by_cases hlen : us.length = vs.length
  rotate_left
  · have HM := hid (sameUs_len hlen)
    have g1 : ((us.length : Int) != (vs.length : Int)) = true := by simp; omega
    have g2 : ((us.length : Int) == (vs.length : Int)) = false := by simp; omega
    clear hlen
    go_enter Try.func13, Try.ntmps13
    go_wp2_with fail
    go_ret
    exact ⟨by rw [HM.out]; rfl, by (repeat (first | (with_reducible assumption) | (with_reducible apply below_refl) | (with_reducible apply below_alloc1) | (with_reducible apply below_drewN1) | (with_reducible apply below_drew1)))⟩
  have g1 : ((us.length : Int) != (vs.length : Int)) = false := by simp; omega
  have g2 : ((us.length : Int) == (vs.length : Int)) = true := by simp; omega
  have HL := hid hlen; clear hlen
  go_enter Try.func13, Try.ntmps13
  go_wp2_with fail
  go_loopw [13] (fun i wr => ∃ k : Nat, k ≤ us.length ∧ i = .int .i64 k ∧ Hid (∀ j (hx : j < us.length) (hy : j < vs.length), j < k → sameU us[j] vs[j] = true) ∧ Below w.heap.size w wr) (fun i _ => us.length - (intOf i).toNat)
  case atStart => exact ⟨0, Nat.zero_le _, rfl, hid (fun j _ _ h => by omega), below_refl _⟩
  case round =>
    obtain ⟨k, hk, rfl, hno, hw⟩ := hrel
    by_cases hlt : k < us.length
    · obtain rfl := HA.out (by omega)
      have hlt' : k < vs.length := by rw [← HL.out]; exact hlt
      obtain rfl := HA'.out (by omega)
      obtain ⟨sa, sc, c0, c1, c2, hrow⟩ := HC.out k hlt
      obtain ⟨sb, sd, d0, d1, d2, hrow2⟩ := HC'.out k hlt'
      have hbl0 : b < w.heap.size := World.block_lt_of_cell? w _ c0
      have hbl1 : b' < w.heap.size := World.block_lt_of_cell? w _ d0
      have c0' : wr.cell? ⟨b, off + k * 3, none⟩ = some (.float .f32 us[k].t) := by rw [hw.cell (p := ⟨b, _, none⟩) hbl0]; exact c0
      have c1' : wr.cell? ⟨b, off + k * 3 + 1, none⟩ = some (.bool us[k].f) := by rw [hw.cell (p := ⟨b, _, none⟩) hbl0]; exact c1
      have c2' : wr.cell? ⟨b, off + k * 3 + 2, none⟩ = some (.slice sa us[k].cs.length sc) := by rw [hw.cell (p := ⟨b, _, none⟩) hbl0]; exact c2
      have d0' : wr.cell? ⟨b', off' + k * 3, none⟩ = some (.float .f32 vs[k].t) := by rw [hw.cell (p := ⟨b', _, none⟩) hbl1]; exact d0
      have d1' : wr.cell? ⟨b', off' + k * 3 + 1, none⟩ = some (.bool vs[k].f) := by rw [hw.cell (p := ⟨b', _, none⟩) hbl1]; exact d1
      have d2' : wr.cell? ⟨b', off' + k * 3 + 2, none⟩ = some (.slice sb vs[k].cs.length sd) := by rw [hw.cell (p := ⟨b', _, none⟩) hbl1]; exact d2
      have hbl : b < wr.heap.size := World.block_lt_of_cell? wr _ c0'
      have hbl2 : b' < wr.heap.size := World.block_lt_of_cell? wr _ d0'
      have q0 : (0 : Int) ≤ (k : Int) := by omega
      have q1 : (k : Int) < (us.length : Int) := by omega
      have q2 : (k : Int) < (vs.length : Int) := by omega
      have HR := hid hrow; have HR2 := hid hrow2
      have bx := WX.out _ (List.getElem_mem hlt)
      have by' := WY.out _ (List.getElem_mem hlt')
      have HNO := hid (sameUs_no (us := us) (vs := vs) k hlt hlt')
      generalize hx : us[k] = u at c0' c1' c2' HR bx HNO
      generalize hy : vs[k] = v at d0' d1' d2' HR2 by' HNO
      have EX := hid hx; have EY := hid hy
      clear hrow hrow2 c0 c1 c2 d0 d1 d2 hbl0 hbl1 hx hy
      cases g1 : sameB (ab .f32 u.t) (ab .f32 v.t)
      · have HM := hid (show sameU u v = false by simp [sameU, g1])
        have G1 := hid g1; clear g1
        go_wp2_with (first
          | go_quiet ((go_at_call 40; exact quiet_at G1.out (drew_of_same (l01Same_q u.t v.t bx.1 by'.1 _)))))
        go_ret
        exact ⟨by rw [HNO.out HM.out]; rfl, below_trans hw (by (repeat (first | (with_reducible assumption) | (with_reducible apply below_refl) | (with_reducible apply below_alloc1) | (with_reducible apply below_drewN1) | (with_reducible apply below_drew1))))⟩
      have G1 := hid g1
      cases g2 : (u.f == v.f)
      · have HM := hid (show sameU u v = false by simp [sameU, g2])
        have g2' : (u.f != v.f) = true := by simp [bne, g2]
        clear g1
        go_wp2_with (first
          | go_quiet ((go_at_call 40; exact quiet_at G1.out (drew_of_same (l01Same_q u.t v.t bx.1 by'.1 _)))))
        go_ret
        exact ⟨by rw [HNO.out HM.out]; rfl, below_trans hw (by (repeat (first | (with_reducible assumption) | (with_reducible apply below_refl) | (with_reducible apply below_alloc1) | (with_reducible apply below_drewN1) | (with_reducible apply below_drew1))))⟩
      have g2' : (u.f != v.f) = false := by simp [bne, g2]
      cases g3 : sameL u.cs v.cs
      all_goals
        have HM := hid (show sameU u v = _ by simp only [sameU, g1, g2, g3]; rfl)
        have G3 := hid g3
        clear g1 g3
        go_wp2_with (first
          | go_quiet (first | (go_at_call 40; exact quiet_at G1.out (drew_of_same (l01Same_q u.t v.t bx.1 by'.1 _))) | (go_at_call 41; exact quiet_at G3.out (l01SameAll_q _ _ u.cs v.cs _ (HR.out.below (below_trans hw (below_drewN _ _))) (HR2.out.below (below_trans hw (below_drewN _ _))) bx.2 by'.2))))
      · go_ret
        exact ⟨by rw [HNO.out HM.out]; rfl, below_trans hw (by (repeat (first | (with_reducible assumption) | (with_reducible apply below_refl) | (with_reducible apply below_alloc1) | (with_reducible apply below_drewN1) | (with_reducible apply below_drew1))))⟩
      · go_roundw
        case rel =>
          refine ⟨k + 1, by omega, by go_num, hid fun j hx hy hj => ?_, below_trans hw (by (repeat (first | (with_reducible assumption) | (with_reducible apply below_refl) | (with_reducible apply below_alloc1) | (with_reducible apply below_drewN1) | (with_reducible apply below_drew1))))⟩
          by_cases hjk : j = k
          · subst hjk
            rw [EX.out, EY.out]; exact HM.out
          · exact hno.out j hx hy (by omega)
        case measure => simp [intOf]; omega
    · obtain rfl : k = us.length := by omega
      have HM := hid (sameUs_yes HL.out (fun j hx hy => hno.out j hx hy hx))
      go_wp2_with fail
      go_ret
      exact ⟨by rw [HM.out]; rfl, hw⟩
end Go.Proofs.Ytfnhpchgiknmpaa
