/- backwards. -/
import Derived.Test.YtfnhpchgiknmpaaChain4
import Derived.Test.YtfnhpchgiknmpaaGrid
namespace Go.Proofs.Ytfnhpchgiknmpaa
open Go.RowKit

/-- The matrix that rows hold. -/
def Reads (xss : List (List Nat)) (n c : Nat) (B : Mat) : Prop := xss.length = n ∧ (∀ i (hi : i < xss.length), (xss[i]).length = c) ∧ ∀ i j (hi : i < xss.length) (hj : j < (xss[i]).length), ab .f32 (xss[i][j]) = B i j
theorem backS_next (B : Mat) (o : Nat → Option Nat) (n k m : Nat) : backS B o n k (m + 1) = fop .sub .f32 (backS B o n k m) (fop .mul .f32 (B k (k + 1 + m)) (o (k + 1 + m))) := rfl
theorem backO_next (B : Mat) (n m i : Nat) : backO B n (m + 1) i = if i = n - 1 - m then fop .quo .f32 (backS B (backO B n m) n (n - 1 - m) m) (B (n - 1 - m) (n - 1 - m)) else backO B n m i := rfl
/-- A row of the call's own that reads as L. -/
def BackOk (L : List (Option Nat)) (w : World) (e : Ending) (w' : World) : Prop := ∃ (u : Value) (bs : List Nat), e = .returned u ∧ w'.ownsRow w.heap.size 44 1 u (bs.map (Value.float .f32)).length (bs.map (Value.float .f32)) ∧ bs.map (ab .f32) = L ∧ Below w.heap.size w w'
set_option maxRecDepth 100000 in
set_option maxHeartbeats 3200000 in
theorem backwards_any (v : Value) (xss : List (List Nat)) (n : Nat) (B : Mat) (hn1 : 1 ≤ n) (hn8 : n ≤ 8) (hr : Reads xss n (n + 1) B) (w : World) (hv : RowsAt w v xss) :
    Calls Try.prog 55 #[v] w (BackOk (outL B n) w) := by
  obtain ⟨i0, hi, hz0, hz1, hz2⟩ := info_parts (P := Try.prog) (e := 44) (z := Value.float .f32 0) (size := 1) (bytes := 4) (by kernel_rfl)
  obtain ⟨ao, cap, b, off, rfl, hao, hl, hm, hc⟩ := hv.one
  unfold maxLen at hm
  obtain ⟨hlen, hcols, hread⟩ := hr
  have HC := hid hc; have HCOLS := hid hcols; have HREAD := hid hread; have HLEN := hid hlen
  obtain rfl := hao (by omega)
  rw [hlen] at hl ⊢
  clear hc hcols hread hv hao hlen
  go_enter Try.func55, Try.ntmps55
  go_wp2_with (at_make; refine wpList_make_full _ rfl _ _ 30 rfl w.heap.size 44 i0 (Value.float .f32 0) 1 Try.underlying30 hi hz0 hz1 _ _ _ _ n rfl rfl rfl rfl (by rw [hz2]; omega) (by simp only [maxLen]; omega) (Nat.le_refl _) ?_; intro w1 hown hgrow)
  have hb1 : Below w.heap.size w w1 := wrote_below (u := .slice none 0 0) hgrow (by simp [Value.ownBlock]) (Nat.le_refl _)
  have HO := hid hown; clear hown hgrow
  have s0 : w.heap.size < w1.heap.size := by
    have := (HO.out.lt w.heap.size rfl).2; omega
  have hnI : (1 : Int) ≤ (n : Int) := by omega
  go_loopw [5] (fun i wr => ∃ (r : Nat) (z : Int) (bs : List Nat), r ≤ n ∧ z = (r : Int) - 1 ∧ i = .int .i64 z ∧ Hid (bs.length = n) ∧ Hid (wr.ownsRow w.heap.size 44 1 (.slice (some ⟨w.heap.size, 0, none⟩) n n) n (bs.map (Value.float .f32))) ∧ Hid (∀ i (hi : i < bs.length), ab .f32 bs[i] = backO B n (n - r) i) ∧ Below w.heap.size w wr ∧ w.heap.size < wr.heap.size) (fun i _ => (intOf i + 1).toNat)
  case atStart => exact ⟨n, _, List.replicate n 0, Nat.le_refl _, rfl, rfl, hid (by simp), by have h := HO.out; simp only [Nat.mul_one] at h; rw [show (Value.float .f32 0).cells = #[Value.float .f32 0] from rfl, toList_madeCells_one] at h; simpa using hid h, hid (fun i hi => by simp [backO, ab_z32]), hb1, s0⟩
  case round =>
    obtain ⟨r, z, bs, hr, hz, rfl, hbl, ho, hbs, hw, hs⟩ := hrel
    cases r with
    | zero =>
      have hz' : ¬ (0 : Int) ≤ z := by omega
      have hz2 : z < 0 := by omega
      clear hz
      go_wp2_with fail
      go_ret
      refine ⟨_, bs, rfl, by rw [List.length_map, hbl.out]; exact ho.out, ?_, hw⟩
      apply List.ext_getElem?
      intro i
      by_cases hi : i < bs.length
      · have := hbs.out i hi
        rw [Nat.sub_zero] at this
        simp [outL, hi, show i < n by rw [← hbl.out]; exact hi, this]
      · simp [outL, hi, show ¬ i < n by rw [← hbl.out]; exact hi]
    | succ k =>
      obtain rfl : z = (k : Int) := by omega
      clear hz
      have hkn : k < n := by omega
      obtain ⟨ao2, cap2, hcell, hrow⟩ := HC.out k (by rw [HLEN.out]; exact hkn)
      have hkx : k < xss.length := by rw [HLEN.out]; exact hkn
      have hcol := HCOLS.out k hkx
      have hrd := HREAD.out k
      obtain ⟨ao3, cap3, b2, off2, he, hao2, hl2, hm2, hc2⟩ := hrow
      simp only [List.length_map] at he hao2 hl2
      cases he
      rw [hcol] at hcell hl2 hao2
      obtain rfl := hao2 (by omega)
      unfold maxLen at hm2
      have hbl0 : b < w.heap.size := World.block_lt_of_cell? w _ hcell
      have HCELL := hid hcell
      have hfit : ∀ j, j < n + 1 → ∃ x, (∀ wq, Below w.heap.size w wq → wq.cell? ⟨b2, off2 + j, none⟩ = some (.float .f32 x)) ∧ ab .f32 x = B k j := fun j hj => by
        have hj' : j < (xss[k]).length := by rw [hcol]; exact hj
        refine ⟨xss[k][j], fun wq hq => rowc hc2 hq j hj', hrd j hkx hj'⟩
      have HFIT := hid hfit
      have hb2l : b2 < w.heap.size := World.block_lt_of_cell? w _ (rowc hc2 (below_refl w) 0 (by rw [hcol]; omega))
      clear hcell hrd hc2 hfit hao2 hcol
      have kc : wr.cell? ⟨b, off + k, none⟩ = some (.slice (some ⟨b2, off2, none⟩) (n + 1) cap2) := by rw [hw.cell (p := ⟨b, off + k, none⟩) hbl0]; exact HCELL.out
      obtain ⟨x0, hx0, hx0v⟩ := HFIT.out n (by omega)
      have hxc := hx0 wr hw
      have HXV := hid hx0v
      clear hx0 hx0v
      have hkI : (k : Int) < (n : Int) := by omega
      have hkz : (0 : Int) ≤ (k : Int) := by omega
      have hnz : (0 : Int) ≤ (n : Int) := by omega
      have hnn1 : (n : Int) < ((n + 1 : Nat) : Int) := by omega
      have KC := hid kc
      have hblr : b < wr.heap.size := World.block_lt_of_cell? wr _ kc
      have hb2r : b2 < wr.heap.size := World.block_lt_of_cell? wr _ hxc
      go_wp2_with fail
      clear kc hxc
      obtain ⟨wo, hwo⟩ : ∃ wo, wo = wr := ⟨_, rfl⟩
      subst hwo
      go_loopw [6, 7] (fun x j wq => ∃ (J q : Nat), k + 1 ≤ J ∧ J ≤ n ∧ j = .int .i64 J ∧ x = .float .f32 q ∧ Hid (ab .f32 q = backS B (backO B n (n - (k + 1))) n k (J - (k + 1))) ∧ Below wo.heap.size wo wq) (fun _ j _ => n - (intOf j).toNat)
      case atStart => exact ⟨k + 1, x0, Nat.le_refl _, by omega, by go_num, rfl, hid (by rw [Nat.sub_self]; exact HXV.out), by (repeat (first | (with_reducible assumption) | (with_reducible apply below_refl) | (with_reducible apply below_alloc1) | (with_reducible apply below_drewN1) | (with_reducible apply below_drew1)))⟩
      case round =>
        obtain ⟨J, q, hkJ, hJn, rfl, rfl, hq, hwr⟩ := hrel
        have kc : wr.cell? ⟨b, off + k, none⟩ = some (.slice (some ⟨b2, off2, none⟩) (n + 1) cap2) := by rw [hwr.cell (p := ⟨b, off + k, none⟩) hblr]; exact KC.out
        by_cases hlt : J < n
        · obtain ⟨x1, hx1, hx1v⟩ := HFIT.out J (by omega)
          have hxc := hx1 wr (below_trans hw hwr)
          have hJb : J < bs.length := by rw [hbl.out]; exact hlt
          have hoc : wr.cell? ⟨w.heap.size, J, none⟩ = some (.float .f32 bs[J]) := by
            rw [hwr.cell (p := ⟨w.heap.size, J, none⟩) hs, ho.out.cellAt J (by omega)]
            simp [hJb]
          have hov := hbs.out J hJb
          have HN := hid (show backS B (backO B n (n - (k + 1))) n k (J + 1 - (k + 1)) = fop .sub .f32 (ab .f32 q) (fop .mul .f32 (ab .f32 x1) (ab .f32 bs[J])) by
            rw [show J + 1 - (k + 1) = (J - (k + 1)) + 1 by omega, backS_next, show k + 1 + (J - (k + 1)) = J by omega, hq.out, hx1v, hov])
          clear hx1 hx1v hov
          generalize bs[J] = y at hoc HN
          have hJI : (J : Int) < (n : Int) := by omega
          have hJz : (0 : Int) ≤ (J : Int) := by omega
          have hJ1 : (J : Int) < ((n + 1 : Nat) : Int) := by omega
          have l1 : b < wr.heap.size := World.block_lt_of_cell? wr _ kc
          have l2 : b2 < wr.heap.size := World.block_lt_of_cell? wr _ hxc
          have l3 : w.heap.size < wr.heap.size := World.block_lt_of_cell? wr _ hoc
          obtain ⟨fe1, fe2, fe3, fe4⟩ := run_fres4 Try.prog
          obtain ⟨fa1, fa2, fa3, fa4⟩ := ab_fres4
          go_wp2_with (first
            | (go_region_held (fun w' => Below wr.heap.size wr w' ∧ ∀ b o, b < wr.heap.size → w'.cell? ⟨b, o, none⟩ = wr.cell? ⟨b, o, none⟩) (first | exact keep_next ‹_› ‹_› | exact keep_start | exact keep_drew ‹_› | exact keep_of (by (repeat (first | (with_reducible assumption) | (with_reducible apply below_refl) | (with_reducible apply below_alloc1) | (with_reducible apply below_drewN1) | (with_reducible apply below_drew1))))) (fail) <;> (rename_i hHeld; obtain ⟨hB, hC⟩ := hHeld)))
          all_goals
            go_roundw
            case rel => exact ⟨J + 1, _, by omega, by omega, by go_num, rfl, hid (by rw [HN.out]; simp only [fa1, fa2, fa3]), below_trans hwr (by (repeat (first | (with_reducible assumption) | (with_reducible apply below_refl) | (with_reducible apply below_alloc1) | (with_reducible apply below_drewN1) | (with_reducible apply below_drew1))))⟩
            case measure => simp [intOf]; omega
        · have hJe : J = n := by omega
          subst hJe
          obtain ⟨x1, hx1, hx1v⟩ := HFIT.out k (by omega)
          have hxc := hx1 wr (below_trans hw hwr)
          have hkb : k < bs.length := by rw [hbl.out]; exact hkn
          have ho2 := ownsRow_below ho.out hwr
          have hoc : wr.cell? ⟨w.heap.size, k, none⟩ = some (.float .f32 bs[k]) := by
            rw [ho2.cellAt k (by omega)]
            simp [hkb]
          have hfr : wr.frozen? ⟨w.heap.size, k, none⟩ = false := ho2.frozenAt k
          have HO2 := hid ho2
          have HXV2 := hid hx1v
          clear hx1 hx1v ho2
          generalize bs[k] = y at hoc
          have hk1 : (k : Int) < ((J + 1 : Nat) : Int) := by omega
          have l3 : w.heap.size < wr.heap.size := World.block_lt_of_cell? wr _ hoc
          have hgz : ¬ (J : Int) < (J : Int) := by omega
          go_wp2_with (first | (refine upon_float rfl ?_; intro rr nn hrr; go_simp))
          go_roundw
          case rel =>
            have hst := (ownsRow_below HO2.out (below_drewN wr nn)).stored k (.float .f32 rr)
            refine ⟨k, _, bs.set k rr, by omega, rfl, by go_num, hid (by rw [List.length_set]; exact hbl.out), hid (by have h := hst.1; simpa [List.map_set] using h), hid (fun i hi => ?_), ?_, ?_⟩
            · rw [List.length_set] at hi
              rw [show J - k = (J - (k + 1)) + 1 by omega, backO_next, show J - 1 - (J - (k + 1)) = k by omega]
              by_cases hik : i = k
              · subst hik
                rw [if_pos rfl, List.getElem_set_self, hrr, HXV2.out, hq.out]
              · rw [if_neg hik, List.getElem_set_ne (fun e => hik e.symm)]
                exact hbs.out i hi
            · exact below_setCell1 (below_trans hw (below_trans hwr (by (repeat (first | (with_reducible assumption) | (with_reducible apply below_refl) | (with_reducible apply below_alloc1) | (with_reducible apply below_drewN1) | (with_reducible apply below_drew1)))))) (Nat.le_refl _)
            · have := hwr.size
              simp
              omega
          case measure => (first | (simp [intOf]; omega) | simp [intOf])
end Go.Proofs.Ytfnhpchgiknmpaa
