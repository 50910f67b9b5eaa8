/- Contracts of the laws' own helpers on rows of rows: copies, comparisons, marks. -/
import Derived.Test.YtjkoihiglfnkkaaNest2
import Derived.Test.YtjkoihiglfnkkaaPush
namespace Go.Proofs.Ytjkoihiglfnkkaa
open Go.RowKit

theorem get_append_one {α : Type} (vs : List α) (u : α) (i : Nat) (x : α) (h : (vs ++ [u])[i]? = some x) : (i < vs.length ∧ vs[i]? = some x) ∨ (i = vs.length ∧ x = u) := by
  by_cases hi : i < vs.length
  · left; rw [List.getElem?_append_left hi] at h; exact ⟨hi, h⟩
  · rw [List.getElem?_append_right (by omega)] at h
    by_cases h2 : i = vs.length
    · right; subst h2; simp at h; exact ⟨rfl, h.symm⟩
    · rw [List.getElem?_eq_none (by simp; omega)] at h; cases h
set_option maxRecDepth 100000 in
set_option maxHeartbeats 1600000 in
theorem toFloat32SS_any (v : Value) (xss : List (List Nat)) (w : World) (hv : RowsAt w v xss) (hn : xss.length ≤ 1048576) (ht : totalLen xss ≤ 1048576) :
    Calls Try.prog 30 #[v] w fun e w' => (∃ u, e = .returned u ∧ NestAt 22 23 w' w.heap.size w'.heap.size u xss) ∧ Below w.heap.size w w' := by
  obtain ⟨i0, hi, hz0, hz1, hz2⟩ := info_parts (P := Try.prog) (e := 22) (z := Value.slice none 0 0) (size := 1) (bytes := 24) (by kernel_rfl)
  obtain ⟨ao, cap, b, off, rfl, hao, hl, hm, hc⟩ := hv.one
  unfold maxLen at hm
  have HA := hid hao; have HC := hid hc
  clear hv hao hc
  go_enter Try.func30, Try.ntmps30
  go_wp2_with (at_make; refine wpList_make_full _ rfl _ _ 37 rfl w.heap.size 22 i0 (Value.slice none 0 0) 1 Try.underlying37 hi hz0 hz1 _ _ _ _ xss.length rfl rfl rfl rfl (by rw [hz2]; omega) (by simp only [maxLen]; omega) (Nat.le_refl _) ?_; intro w1 hown hgrow)
  have hb1 : Below w.heap.size w w1 := wrote_below (u := .slice none 0 0) hgrow (by simp [Value.ownBlock]) (Nat.le_refl _)
  have HO := hid hown; clear hown hgrow
  have s0 : w.heap.size < w1.heap.size := by
    have := (HO.out.lt w.heap.size rfl).2; omega
  go_loopw [4] (fun i wr => ∃ (k : Nat) (vs : List Value), k ≤ xss.length ∧ i = .int .i64 k ∧ Hid (vs.length = k) ∧ Hid (wr.ownsRow w.heap.size 22 1 (.slice (some ⟨w.heap.size, 0, none⟩) xss.length xss.length) xss.length (vs ++ List.replicate (xss.length - k) (Value.slice none 0 0))) ∧ Hid (Inner 23 wr (w.heap.size + 1) vs xss) ∧ Hid (Rising vs) ∧ Below w.heap.size w wr ∧ w.heap.size < wr.heap.size) (fun i _ => xss.length - (intOf i).toNat)
  case atStart => exact ⟨0, [], Nat.zero_le _, rfl, hid rfl, by have h := HO.out; simp only [Nat.mul_one] at h; rw [show (Value.slice none 0 0).cells = #[Value.slice none 0 0] from rfl, toList_madeCells_one] at h; simpa using hid h, hid (fun i u xs h => by simp at h), hid (fun i j u u' _ h => by simp at h), hb1, s0⟩
  case round =>
    obtain ⟨k, vs, hk, rfl, hvl, ho, hin, hris, hb, hs⟩ := hrel
    by_cases hlt : k < xss.length
    · obtain rfl := HA.out (by omega)
      obtain ⟨ao2, cap2, hcell, hrow⟩ := HC.out k hlt
      have hcell' : wr.cell? ⟨b, off + k, none⟩ = some (.slice ao2 (xss[k]).length cap2) := by rw [hb.cell (p := ⟨b, off + k, none⟩) (World.block_lt_of_cell? w _ hcell)]; exact hcell
      have hbl : b < wr.heap.size := World.block_lt_of_cell? wr _ hcell'
      have HROW := hid hrow
      have hle : (xss[k]).length ≤ 1048576 := by
        have h1 := total_take xss k hlt
        have h2 := total_mono xss (k + 1)
        omega
      have hget : xss[k]? = some xss[k] := List.getElem?_eq_getElem hlt
      generalize xss[k] = xs at hcell' HROW hle hget
      have HGET := hid hget
      clear hrow hcell hget
      have hdst : wr.cell? ⟨w.heap.size, k, none⟩ = some (Value.slice none 0 0) := by
        rw [ho.out.cellAt k (by omega), List.getElem?_append_right (by rw [hvl.out]; omega), hvl.out, Nat.sub_self, List.getElem?_replicate, if_pos (by omega)]
      have hfr : wr.frozen? ⟨w.heap.size, k, none⟩ = false := ho.out.frozenAt k
      have hk0 : (0 : Int) ≤ (k : Int) := by omega
      have hltI : (k : Int) < (xss.length : Int) := by omega
      have HDST := hid hdst; have HFR := hid hfr
      clear hdst hfr
      go_wp2_with (first
        | (go_at_call 16; refine (toFloat32S_any _ xs _ (HROW.out.below (below_trans hb (by (repeat (first | (with_reducible assumption) | (with_reducible apply below_refl) | (with_reducible apply below_alloc1) | (with_reducible apply below_drewN1) | (with_reducible apply below_drew1)))))) hle).mono ?_; rintro e w' ⟨u, rfl, hnew, hb2⟩; obtain ⟨ua, uc, _, _, hue, _⟩ := (Own.mk' hnew).row; rw [List.length_map] at hue; subst hue; have hB : Below wr.heap.size wr w' := below_trans (by (repeat (first | (with_reducible assumption) | (with_reducible apply below_refl) | (with_reducible apply below_alloc1) | (with_reducible apply below_drewN1) | (with_reducible apply below_drew1)))) hb2; have hd2 : w'.cell? ⟨w.heap.size, k, none⟩ = some (Value.slice none 0 0) := (by rw [hB.cell (p := ⟨w.heap.size, k, none⟩) hs]; exact HDST.out); have hf2 : w'.frozen? ⟨w.heap.size, k, none⟩ = false := (by rw [hB.frozen (p := ⟨w.heap.size, k, none⟩) hs]; exact HFR.out); have HNEW := hid hnew; have HOO := hid (ownsRow_below ho.out hB); have HII := hid (hin.out.below hB); clear hnew))
      have hst := HOO.out.stored k (.slice ua xs.length uc)
      have hset : (vs ++ List.replicate (xss.length - k) (Value.slice none 0 0)).set k (.slice ua xs.length uc) = (vs ++ [.slice ua xs.length uc]) ++ List.replicate (xss.length - (k + 1)) (Value.slice none 0 0) := by
        rw [List.set_append_right _ _ (by rw [hvl.out]; omega), hvl.out, Nat.sub_self, show xss.length - k = (xss.length - (k + 1)) + 1 by omega, List.replicate_succ, List.set_cons_zero]
        simp
      go_roundw
      case rel =>
        refine ⟨k + 1, vs ++ [.slice ua xs.length uc], by omega, by go_num, hid (by rw [List.length_append, hvl.out]; rfl), hid ?_, hid ?_, hid ?_, ?_, ?_⟩
        · have h := hst.1
          rw [hset] at h
          exact h
        · intro i u0 xs0 hu hx
          have hkeep : ∀ (u1 : Value) (ys : List Value) (lo : Nat), w.heap.size < lo → w'.ownsRow lo 23 1 u1 ys.length ys → (w'.setCell ⟨w.heap.size, k, none⟩ (.slice ua xs.length uc)).ownsRow lo 23 1 u1 ys.length ys := fun u1 ys lo hlo h1 => h1.kept hst.2 (by
            cases hub : u1.ownBlock with
            | none => exact Or.inl rfl
            | some g =>
              right
              have := (h1.lt g hub).1
              intro e
              have e2 : some g = some w.heap.size := e
              have := Option.some.inj e2
              omega)
          rcases get_append_one vs _ i u0 hu with ⟨h1, h2⟩ | ⟨h1, h2⟩
          · exact hkeep _ _ _ (by omega) (HII.out i u0 xs0 h2 hx)
          · subst h2
            rw [hvl.out] at h1
            subst h1
            rw [HGET.out] at hx
            cases hx
            refine hkeep _ _ _ (by omega) (ownsRow_low ?_ hs)
            exact HNEW.out
        · intro i j u0 u1 hij hu0 hu1
          rcases get_append_one vs _ j u1 hu1 with ⟨h1, h2⟩ | ⟨h1, h2⟩
          · rcases get_append_one vs _ i u0 hu0 with ⟨h3, h4⟩ | ⟨h3, h4⟩
            · exact hris.out i j u0 u1 hij h4 h2
            · omega
          · rcases get_append_one vs _ i u0 hu0 with ⟨h3, h4⟩ | ⟨h3, h4⟩
            · refine ⟨wr.heap.size, ?_, ?_⟩
              · intro g hg
                have hxi : xss[i]? = some (xss[i]'(by rw [hvl.out] at h3; omega)) := List.getElem?_eq_getElem _
                exact ((hin.out i u0 _ h4 hxi).lt g hg).2
              · intro g hg
                rw [h2] at hg
                exact (HNEW.out.lt g hg).1
            · omega
        · exact below_setCell1 (below_trans hb hB) (Nat.le_refl _)
        · have := hB.size
          simp
          omega
      case measure => simp [intOf]; omega
    · obtain rfl : k = xss.length := by omega
      go_wp2_with fail
      go_ret
      refine ⟨⟨_, rfl, w.heap.size, vs, rfl, Nat.le_refl _, hs, Nat.le_refl _, hvl.out, ?_, hin.out, ?_, hris.out⟩, hb⟩
      · have h := ho.out
        rw [Nat.sub_self, List.replicate_zero, List.append_nil] at h
        rw [hvl.out]; exact h
      · intro i u hu g hg
        have hi : i < vs.length := (List.getElem?_eq_some_iff.1 hu).1
        have hx : xss[i]? = some (xss[i]'(by rw [← hvl.out]; exact hi)) := List.getElem?_eq_getElem _
        exact ((hin.out i u _ hu hx).lt g hg).2
set_option maxRecDepth 100000 in
set_option maxHeartbeats 800000 in
theorem eqFloat32SS_yes (va vb : Value) (xss : List (List Nat)) (w : World) (ha : RowsAt w va xss) (hb : RowsAt w vb xss) :
    Calls Try.prog 32 #[va, vb] w fun e w' => e = .returned (.bool true) ∧ Below w.heap.size w w' := by
  obtain ⟨ao, cap, b, off, rfl, hao, hl, hm, hc⟩ := ha.one
  obtain ⟨ao', cap', b', off', rfl, hao', hl', hm', hc'⟩ := hb.one
  unfold maxLen at hm hm'
  have HA := hid hao; have HC := hid hc; have HA' := hid hao'; have HC' := hid hc'
  clear ha hb hao hc hao' hc'
  go_enter Try.func32, Try.ntmps32
  go_wp2_with fail
  go_loopw [5] (fun i wr => ∃ k : Nat, k ≤ xss.length ∧ i = .int .i64 k ∧ Below w.heap.size w wr) (fun i _ => xss.length - (intOf i).toNat)
  case atStart => exact ⟨0, Nat.zero_le _, rfl, below_refl _⟩
  case round =>
    obtain ⟨k, hk, rfl, hw⟩ := hrel
    by_cases hlt : k < xss.length
    · obtain rfl := HA.out (by omega)
      obtain rfl := HA'.out (by omega)
      obtain ⟨ao2, cap2, hcell, hrow⟩ := HC.out k hlt
      obtain ⟨ao3, cap3, hcell3, hrow3⟩ := HC'.out k hlt
      have hcell' : wr.cell? ⟨b, off + k, none⟩ = some (.slice ao2 (xss[k]).length cap2) := by rw [hw.cell (p := ⟨b, off + k, none⟩) (World.block_lt_of_cell? w _ hcell)]; exact hcell
      have hcell3' : wr.cell? ⟨b', off' + k, none⟩ = some (.slice ao3 (xss[k]).length cap3) := by rw [hw.cell (p := ⟨b', off' + k, none⟩) (World.block_lt_of_cell? w _ hcell3)]; exact hcell3
      have hbl : b < wr.heap.size := World.block_lt_of_cell? wr _ hcell'
      have hbl3 : b' < wr.heap.size := World.block_lt_of_cell? wr _ hcell3'
      have HROW := hid hrow; have HROW3 := hid hrow3
      have hk0 : (0 : Int) ≤ (k : Int) := by omega
      have hltI : (k : Int) < (xss.length : Int) := by omega
      generalize xss[k] = xs at hcell' hcell3' HROW HROW3
      clear hrow hrow3 hcell hcell3
      go_wp2_with (first
        | (go_at_call 19; refine (eqFloat32S_yes _ _ xs xs _ (HROW.out.below (below_trans hw (by (repeat (first | (with_reducible assumption) | (with_reducible apply below_refl) | (with_reducible apply below_alloc1) | (with_reducible apply below_drewN1) | (with_reducible apply below_drew1)))))) (HROW3.out.below (below_trans hw (by (repeat (first | (with_reducible assumption) | (with_reducible apply below_refl) | (with_reducible apply below_alloc1) | (with_reducible apply below_drewN1) | (with_reducible apply below_drew1)))))) rfl).mono ?_; rintro e w' ⟨rfl, hb⟩; have hB : Below wr.heap.size wr w' := below_trans (by (repeat (first | (with_reducible assumption) | (with_reducible apply below_refl) | (with_reducible apply below_alloc1) | (with_reducible apply below_drewN1) | (with_reducible apply below_drew1)))) hb; clear hb)
        | (go_region_held (fun w' => Below wr.heap.size wr w' ∧ ∀ b o, b < wr.heap.size → w'.cell? ⟨b, o, none⟩ = wr.cell? ⟨b, o, none⟩) (first | exact keep_next ‹_› ‹_› | exact keep_start | exact keep_drew ‹_› | exact keep_of (by (repeat (first | (with_reducible assumption) | (with_reducible apply below_refl) | (with_reducible apply below_alloc1) | (with_reducible apply below_drewN1) | (with_reducible apply below_drew1))))) (first | (go_at_call 19; refine (eqFloat32S_yes _ _ xs xs _ (HROW.out.below (below_trans hw (by first | (repeat (first | (with_reducible assumption) | (with_reducible apply below_refl) | (with_reducible apply below_alloc1) | (with_reducible apply below_drewN1) | (with_reducible apply below_drew1))) | exact (‹_ ∧ _›).1))) (HROW3.out.below (below_trans hw (by first | (repeat (first | (with_reducible assumption) | (with_reducible apply below_refl) | (with_reducible apply below_alloc1) | (with_reducible apply below_drewN1) | (with_reducible apply below_drew1))) | exact (‹_ ∧ _›).1))) rfl).mono ?_; rintro e w' ⟨rfl, hb⟩)) <;> (rename_i hHeld; obtain ⟨hB, hC⟩ := hHeld)))
      all_goals
        go_roundw
        case rel => exact ⟨k + 1, by omega, by go_num, below_trans hw (by (repeat (first | (with_reducible assumption) | (with_reducible apply below_refl) | (with_reducible apply below_alloc1) | (with_reducible apply below_drewN1) | (with_reducible apply below_drew1))))⟩
        case measure => simp [intOf]; omega
    · go_wp2_with fail
      go_ret
      exact ⟨rfl, hw⟩
set_option maxRecDepth 100000 in
set_option maxHeartbeats 1600000 in
theorem markFloat32SS_any (lo hi : Nat) (v : Value) (xss : List (List Nat)) (k0 : Int) (w : World) (hv : NestAt 22 23 w lo hi v xss) (hn : xss.length ≤ 1048576) (ht : totalLen xss ≤ 1048576) (hk0 : 0 ≤ k0 ∧ k0 ≤ 100000000) :
    Calls Try.prog 33 #[v, .int .i64 k0] w fun e w' => e = .returned (.int .i64 (k0 + totalLen xss)) ∧ Outside lo hi w w' := by
  obtain ⟨G, vs, rfl, h2, h3, h4, h5, h6, h7, h8, h9⟩ := hv
  rw [h5] at h6
  have H6 := hid h6; have H7 := hid h7; have H8 := hid h8; have H9 := hid h9; have H5 := hid h5
  clear h6 h7 h8 h9 h5
  go_enter Try.func33, Try.ntmps33
  go_wp2_with fail
  go_loopw [5, 1] (fun i kk wr => ∃ j : Nat, j ≤ xss.length ∧ i = .int .i64 j ∧ kk = .int .i64 (k0 + (totalLen (xss.take j) : Int)) ∧ Hid (wr.ownsRow lo 22 1 (.slice (some ⟨G, 0, none⟩) xss.length xss.length) xss.length vs) ∧ Hid (∀ (i : Nat) (u : Value) (xs : List Nat), j ≤ i → vs[i]? = some u → xss[i]? = some xs → wr.ownsRow (G + 1) 23 1 u (xs.map (Value.float .f32)).length (xs.map (Value.float .f32))) ∧ Hid (Outside lo hi w wr)) (fun i _ _ => xss.length - (intOf i).toNat)
  case atStart => exact ⟨0, Nat.zero_le _, rfl, by simp [totalLen], H6, hid (fun i u xs _ hu hx => H7.out i u xs hu hx), hid (Outside.refl _ _ _)⟩
  case round =>
    obtain ⟨j, hj, rfl, rfl, hor, hin, hout⟩ := hrel
    by_cases hlt : j < xss.length
    · have hjv : j < vs.length := by rw [H5.out]; exact hlt
      have hu : vs[j]? = some vs[j] := List.getElem?_eq_getElem hjv
      have hx : xss[j]? = some xss[j] := List.getElem?_eq_getElem hlt
      have hown := hin.out j _ _ (Nat.le_refl _) hu hx
      obtain ⟨ua, uc, _, _, hue, _⟩ := (Own.mk' hown).row
      have hcell : wr.cell? ⟨G, j, none⟩ = some vs[j] := by rw [hor.out.cellAt j (by omega)]; exact hu
      have hG : G < wr.heap.size := World.block_lt_of_cell? wr _ hcell
      have htk := total_take xss j hlt
      have htm := total_mono xss j
      have htm2 := total_mono xss (j + 1)
      have h8 := H8.out j _ hu
      have hkeep : ∀ i u', j < i → vs[i]? = some u' → Twain u' vs[j] := fun i u' hij hu' => by
        obtain ⟨c, c1, c2⟩ := H9.out j i _ u' hij hu hu'
        cases hb1 : u'.ownBlock with
        | none => exact Or.inl hb1
        | some g =>
          right
          rw [hb1]
          intro e
          have := c1 g e.symm
          have := c2 g hb1
          omega
      have hlow : ∀ g, vs[j].ownBlock = some g → G < g := fun g hg => (hown.lt g hg).1
      rw [List.length_map] at hue
      generalize vs[j] = u0 at hu hown hue hcell h8 hkeep hlow
      subst hue
      generalize hXS : xss[j] = xs at hx hown hcell h8 hkeep hlow htk
      have HX := hid hx; have HOWN := hid hown; have HTK := hid htk; have H8' := hid h8; have HKEEP := hid hkeep; have HLOW := hid hlow
      have hxl : xs.length ≤ 1048576 := by omega
      have hj0 : (0 : Int) ≤ (j : Int) := by omega
      have hjI : (j : Int) < (xss.length : Int) := by omega
      clear hx hown htk h8 hkeep hlow hXS hu
      go_wp2_with (first
        | (go_at_call 26; refine (markFloat32S_any _ _ (xs.map (Value.float .f32)) _ _ HOWN.out (by simp; omega) ⟨by omega, by omega⟩).mono ?_; rintro e w' ⟨rfl, ho, hg⟩))
      go_roundw
      case rel =>
        refine ⟨j + 1, by omega, by go_num, by rw [HTK.out]; congr 1; simp; omega, hid ?_, hid ?_, hid ?_⟩
        · refine hor.out.kept hg ?_
          right
          cases hub : Value.ownBlock (.slice ua xs.length uc) with
          | none => simp [Value.ownBlock]
          | some g =>
            have := HLOW.out g hub
            intro e
            have e2 : some G = some g := e
            have := Option.some.inj e2
            omega
        · intro i u ys hi hu hx
          exact (hin.out i u ys (by omega) hu hx).kept hg (HKEEP.out i u (by omega) hu)
        · exact hout.out.wrote hg (fun g hg2 => ⟨by have := HLOW.out g hg2; omega, H8'.out g hg2⟩)
      case measure => simp [intOf]; omega
    · obtain rfl : j = xss.length := by omega
      go_wp2_with fail
      go_ret
      exact ⟨by rw [List.take_length]; rfl, hout.out⟩
end Go.Proofs.Ytjkoihiglfnkkaa
