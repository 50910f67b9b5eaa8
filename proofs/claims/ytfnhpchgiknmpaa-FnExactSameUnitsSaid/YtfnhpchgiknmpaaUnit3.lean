/- Rows of units: comparisons, validity. -/
import Derived.Test.YtfnhpchgiknmpaaUnit2
namespace Go.Proofs.Ytfnhpchgiknmpaa
open Go.RowKit

set_option maxRecDepth 100000 in
set_option maxHeartbeats 800000 in
theorem eqUnit_yes (t : Nat) (f : Bool) (sa sb : Option Addr) (n m sc sd : Nat) (cs : List Nat) (w : World) (ha : RowAt w (.slice sa n sc) (cs.map (Value.float .f32))) (hb : RowAt w (.slice sb m sd) (cs.map (Value.float .f32))) :
    Calls Try.prog 39 #[.agg #[.float .f32 t, .bool f, .slice sa n sc], .agg #[.float .f32 t, .bool f, .slice sb m sd]] w fun e w' => e = .returned (.bool true) ∧ Below w.heap.size w w' := by
  have HV := hid ha; have HU := hid hb; clear ha hb
  go_enter Try.func39, Try.ntmps39
  go_wp2_with (first
    | (refine upon_widen rfl Try.underlying49 ?_; intro r n hr; go_simp)
    | (go_at_call 27; refine (sameFloat_yes _ _ (by simp only [*]) _).mono ?_; rintro e w' ⟨rfl, hb⟩; have hcc := (bcell hb).1; have hB : Below w.heap.size w w' := below_trans (by (repeat (first | (with_reducible assumption) | (with_reducible apply below_refl) | (with_reducible apply below_alloc1) | (with_reducible apply below_drewN1) | (with_reducible apply below_drew1)))) hb; clear hb)
    | (go_at_call 19; (with_reducible refine (eqFloat32S_yes _ _ cs cs _ (HV.out.below (by (repeat (first | (with_reducible assumption) | (with_reducible apply below_refl) | (with_reducible apply below_alloc1) | (with_reducible apply below_drewN1) | (with_reducible apply below_drew1))))) (HU.out.below (by (repeat (first | (with_reducible assumption) | (with_reducible apply below_refl) | (with_reducible apply below_alloc1) | (with_reducible apply below_drewN1) | (with_reducible apply below_drew1))))) rfl).mono ?_); rintro e w' ⟨rfl, hb⟩; have hB : Below w.heap.size w w' := below_trans (by (repeat (first | (with_reducible assumption) | (with_reducible apply below_refl) | (with_reducible apply below_alloc1) | (with_reducible apply below_drewN1) | (with_reducible apply below_drew1)))) hb; have hC := (bcell hB).1; clear hb))
  go_ret
  exact ⟨rfl, by assumption⟩
set_option maxRecDepth 100000 in
set_option maxHeartbeats 1600000 in
theorem eqUnitS_yes (va vb : Value) (us : List Un) (w : World) (ha : UnitsAt w va us) (hb : UnitsAt w vb us) :
    Calls Try.prog 12 #[va, vb] w fun e w' => e = .returned (.bool true) ∧ Below w.heap.size w w' := by
  obtain ⟨ao, cap, b, off, rfl, hao, hl, hm, hc⟩ := ha
  obtain ⟨ao', cap', b', off', rfl, hao', hl', hm', hc'⟩ := hb
  unfold maxLen at hm hm'
  have HA := hid hao; have HC := hid hc; have HA' := hid hao'; have HC' := hid hc'
  clear hao hc hao' hc'
  go_enter Try.func12, Try.ntmps12
  go_wp2_with fail
  go_loopw [5] (fun i wr => ∃ k : Nat, k ≤ us.length ∧ i = .int .i64 k ∧ Below w.heap.size w wr) (fun i _ => us.length - (intOf i).toNat)
  case atStart => exact ⟨0, Nat.zero_le _, rfl, below_refl _⟩
  case round =>
    obtain ⟨k, hk, rfl, hw⟩ := hrel
    by_cases hlt : k < us.length
    · obtain rfl := HA.out (by omega)
      obtain rfl := HA'.out (by omega)
      obtain ⟨sa, sc, c0, c1, c2, hrow⟩ := HC.out k hlt
      obtain ⟨sb, sd, d0, d1, d2, hrow2⟩ := HC'.out k hlt
      have hbl0 : b < w.heap.size := World.block_lt_of_cell? w _ c0
      have hbl1 : b' < w.heap.size := World.block_lt_of_cell? w _ d0
      have c0' : wr.cell? ⟨b, off + k * 3, none⟩ = some (.float .f32 us[k].t) := by rw [hw.cell (p := ⟨b, _, none⟩) hbl0]; exact c0
      have c1' : wr.cell? ⟨b, off + k * 3 + 1, none⟩ = some (.bool us[k].f) := by rw [hw.cell (p := ⟨b, _, none⟩) hbl0]; exact c1
      have c2' : wr.cell? ⟨b, off + k * 3 + 2, none⟩ = some (.slice sa us[k].cs.length sc) := by rw [hw.cell (p := ⟨b, _, none⟩) hbl0]; exact c2
      have d0' : wr.cell? ⟨b', off' + k * 3, none⟩ = some (.float .f32 us[k].t) := by rw [hw.cell (p := ⟨b', _, none⟩) hbl1]; exact d0
      have d1' : wr.cell? ⟨b', off' + k * 3 + 1, none⟩ = some (.bool us[k].f) := by rw [hw.cell (p := ⟨b', _, none⟩) hbl1]; exact d1
      have d2' : wr.cell? ⟨b', off' + k * 3 + 2, none⟩ = some (.slice sb us[k].cs.length sd) := by rw [hw.cell (p := ⟨b', _, none⟩) hbl1]; exact d2
      have hbl : b < wr.heap.size := World.block_lt_of_cell? wr _ c0'
      have hbl2 : b' < wr.heap.size := World.block_lt_of_cell? wr _ d0'
      have hk0 : (0 : Int) ≤ (k : Int) := by omega
      have hltI : (k : Int) < (us.length : Int) := by omega
      have HR := hid hrow; have HR2 := hid hrow2
      generalize us[k] = u at c0' c1' c2' d0' d1' d2' HR HR2
      clear hrow hrow2 c0 c1 c2 d0 d1 d2 hbl0 hbl1
      go_wp2_with (first
        | (go_region_held (fun w' => Below wr.heap.size wr w' ∧ ∀ b o, b < wr.heap.size → w'.cell? ⟨b, o, none⟩ = wr.cell? ⟨b, o, none⟩) (first | exact keep_next ‹_› ‹_› | exact keep_start | exact keep_drew ‹_› | exact keep_of (by (repeat (first | (with_reducible assumption) | (with_reducible apply below_refl) | (with_reducible apply below_alloc1) | (with_reducible apply below_drewN1) | (with_reducible apply below_drew1))))) (first | (go_at_call 39; refine (eqUnit_yes _ _ _ _ _ _ _ _ u.cs _ (HR.out.below (below_trans hw (by first | (repeat (first | (with_reducible assumption) | (with_reducible apply below_refl) | (with_reducible apply below_alloc1) | (with_reducible apply below_drewN1) | (with_reducible apply below_drew1))) | exact (‹_ ∧ _›).1))) (HR2.out.below (below_trans hw (by first | (repeat (first | (with_reducible assumption) | (with_reducible apply below_refl) | (with_reducible apply below_alloc1) | (with_reducible apply below_drewN1) | (with_reducible apply below_drew1))) | exact (‹_ ∧ _›).1)))).mono ?_; rintro e w' ⟨rfl, hb⟩)) <;> (rename_i hHeld; obtain ⟨hB, hC⟩ := hHeld)))
      all_goals
        go_roundw
        case rel => exact ⟨k + 1, by omega, by go_num, below_trans hw (by (repeat (first | (with_reducible assumption) | (with_reducible apply below_refl) | (with_reducible apply below_alloc1) | (with_reducible apply below_drewN1) | (with_reducible apply below_drew1))))⟩
        case measure => simp [intOf]; omega
    · go_wp2_with fail
      go_ret
      exact ⟨rfl, hw⟩
end Go.Proofs.Ytfnhpchgiknmpaa
