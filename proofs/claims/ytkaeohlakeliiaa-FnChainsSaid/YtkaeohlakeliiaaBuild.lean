/- backwards. -/
import Derived.Test.YtkaeohlakeliiaaChain
import Derived.Test.YtkaeohlakeliiaaGrid
import Derived.BigRegion
namespace Go.Proofs.Ytkaeohlakeliiaa
open Go.RowKit

/-! ## Back -/
/-- The matrix that rows hold. -/
def Reads (xss : List (List Nat)) (n c : Nat) (B : Mat) : Prop := xss.length = n ∧ (∀ i (hi : i < xss.length), (xss[i]).length = c) ∧ ∀ i j (hi : i < xss.length) (hj : j < (xss[i]).length), ab .f32 (xss[i][j]) = B i j
theorem backS_next (B : Mat) (o : Nat → Option Nat) (n k m : Nat) : backS B o n k (m + 1) = fop .sub .f32 (backS B o n k m) (fop .mul .f32 (B k (k + 1 + m)) (o (k + 1 + m))) := rfl
theorem backO_next (B : Mat) (n m i : Nat) : backO B n (m + 1) i = if i = n - 1 - m then fop .quo .f32 (backS B (backO B n m) n (n - 1 - m) m) (B (n - 1 - m) (n - 1 - m)) else backO B n m i := rfl
/-- A row of the call's own that reads as L. -/
def BackOk (L : List (Option Nat)) (w : World) (e : Ending) (w' : World) : Prop := ∃ (u : Value) (bs : List Nat), e = .returned u ∧ w'.ownsRow w.heap.size 27 1 u (bs.map (Value.float .f32)).length (bs.map (Value.float .f32)) ∧ bs.map (ab .f32) = L ∧ Below w.heap.size w w'
set_option maxRecDepth 100000 in
set_option maxHeartbeats 3200000 in
theorem backwards_any (v : Value) (xss : List (List Nat)) (n : Nat) (B : Mat) (hn1 : 1 ≤ n) (hn8 : n ≤ 8) (hr : Reads xss n (n + 1) B) (w : World) (hv : RowsAt w v xss) :
    Calls Try.prog 93 #[v] w (BackOk (outL B n) w) := by
  obtain ⟨i0, hi, hz0, hz1, hz2⟩ := info_parts (P := Try.prog) (e := 27) (z := Value.float .f32 0) (size := 1) (bytes := 4) (by kernel_rfl)
  obtain ⟨ao, cap, b, off, rfl, hao, hl, hm, hc⟩ := hv.one
  unfold maxLen at hm
  obtain ⟨hlen, hcols, hread⟩ := hr
  have HC := hid hc; have HCOLS := hid hcols; have HREAD := hid hread; have HLEN := hid hlen
  obtain rfl := hao (by omega)
  rw [hlen] at hl ⊢
  clear hc hcols hread hv hao hlen
  go_enter Try.func93, Try.ntmps93
  go_wp2_with (at_make; refine wpList_make_full _ rfl _ _ 25 rfl w.heap.size 27 i0 (Value.float .f32 0) 1 Try.underlying25 hi hz0 hz1 _ _ _ _ n rfl rfl rfl rfl (by rw [hz2]; omega) (by simp only [maxLen]; omega) (Nat.le_refl _) ?_; intro w1 hown hgrow)
  have hb1 : Below w.heap.size w w1 := wrote_below (u := .slice none 0 0) hgrow (by simp [Value.ownBlock]) (Nat.le_refl _)
  have HO := hid hown; clear hown hgrow
  have s0 : w.heap.size < w1.heap.size := by
    have := (HO.out.lt w.heap.size rfl).2; omega
  have hnI : (1 : Int) ≤ (n : Int) := by omega
  go_loopw [5] (fun i wr => ∃ (r : Nat) (z : Int) (bs : List Nat), r ≤ n ∧ z = (r : Int) - 1 ∧ i = .int .i64 z ∧ Hid (bs.length = n) ∧ Hid (wr.ownsRow w.heap.size 27 1 (.slice (some ⟨w.heap.size, 0, none⟩) n n) n (bs.map (Value.float .f32))) ∧ Hid (∀ i (hi : i < bs.length), ab .f32 bs[i] = backO B n (n - r) i) ∧ Below w.heap.size w wr ∧ w.heap.size < wr.heap.size) (fun i _ => (intOf i + 1).toNat)
  case atStart => exact ⟨n, _, List.replicate n 0, Nat.le_refl _, rfl, rfl, hid (by simp), by have h := HO.out; simp only [Nat.mul_one] at h; rw [show (Value.float .f32 0).cells = #[Value.float .f32 0] from rfl, toList_madeCells_one] at h; simpa using hid h, hid (fun i hi => by simp [backO, ab_z32]), hb1, s0⟩
  case round =>
    obtain ⟨r, z, bs, hr, hz, rfl, hbl, ho, hbs, hw, hs⟩ := hrel
    cases r with
    | zero =>
      have hz' : ¬ (0 : Int) ≤ z := by omega
      have hz2 : z < 0 := by omega
      clear hz
      go_wp2_with fail
      go_ret
      refine ⟨_, bs, rfl, by rw [List.length_map, hbl.out]; exact ho.out, ?_, hw⟩
      apply List.ext_getElem?
      intro i
      by_cases hi : i < bs.length
      · have := hbs.out i hi
        rw [Nat.sub_zero] at this
        simp [outL, hi, show i < n by rw [← hbl.out]; exact hi, this]
      · simp [outL, hi, show ¬ i < n by rw [← hbl.out]; exact hi]
    | succ k =>
      obtain rfl : z = (k : Int) := by omega
      clear hz
      have hkn : k < n := by omega
      obtain ⟨ao2, cap2, hcell, hrow⟩ := HC.out k (by rw [HLEN.out]; exact hkn)
      have hkx : k < xss.length := by rw [HLEN.out]; exact hkn
      have hcol := HCOLS.out k hkx
      have hrd := HREAD.out k
      obtain ⟨ao3, cap3, b2, off2, he, hao2, hl2, hm2, hc2⟩ := hrow
      simp only [List.length_map] at he hao2 hl2
      cases he
      rw [hcol] at hcell hl2 hao2
      obtain rfl := hao2 (by omega)
      unfold maxLen at hm2
      have hbl0 : b < w.heap.size := World.block_lt_of_cell? w _ hcell
      have HCELL := hid hcell
      have hfit : ∀ j, j < n + 1 → ∃ x, (∀ wq, Below w.heap.size w wq → wq.cell? ⟨b2, off2 + j, none⟩ = some (.float .f32 x)) ∧ ab .f32 x = B k j := fun j hj => by
        have hj' : j < (xss[k]).length := by rw [hcol]; exact hj
        refine ⟨xss[k][j], fun wq hq => rowc hc2 hq j hj', hrd j hkx hj'⟩
      have HFIT := hid hfit
      have hb2l : b2 < w.heap.size := World.block_lt_of_cell? w _ (rowc hc2 (below_refl w) 0 (by rw [hcol]; omega))
      clear hcell hrd hc2 hfit hao2 hcol
      have kc : wr.cell? ⟨b, off + k, none⟩ = some (.slice (some ⟨b2, off2, none⟩) (n + 1) cap2) := by rw [hw.cell (p := ⟨b, off + k, none⟩) hbl0]; exact HCELL.out
      obtain ⟨x0, hx0, hx0v⟩ := HFIT.out n (by omega)
      have hxc := hx0 wr hw
      have HXV := hid hx0v
      clear hx0 hx0v
      have hkI : (k : Int) < (n : Int) := by omega
      have hkz : (0 : Int) ≤ (k : Int) := by omega
      have hnz : (0 : Int) ≤ (n : Int) := by omega
      have hnn1 : (n : Int) < ((n + 1 : Nat) : Int) := by omega
      have KC := hid kc
      have hblr : b < wr.heap.size := World.block_lt_of_cell? wr _ kc
      have hb2r : b2 < wr.heap.size := World.block_lt_of_cell? wr _ hxc
      go_wp2_with fail
      clear kc hxc
      obtain ⟨wo, hwo⟩ : ∃ wo, wo = wr := ⟨_, rfl⟩
      subst hwo
      go_loopw [6, 7] (fun x j wq => ∃ (J q : Nat), k + 1 ≤ J ∧ J ≤ n ∧ j = .int .i64 J ∧ x = .float .f32 q ∧ Hid (ab .f32 q = backS B (backO B n (n - (k + 1))) n k (J - (k + 1))) ∧ Below wo.heap.size wo wq) (fun _ j _ => n - (intOf j).toNat)
      case atStart => exact ⟨k + 1, x0, Nat.le_refl _, by omega, by go_num, rfl, hid (by rw [Nat.sub_self]; exact HXV.out), by (repeat (first | (with_reducible assumption) | (with_reducible apply below_refl) | (with_reducible apply below_alloc1) | (with_reducible apply below_drewN1) | (with_reducible apply below_drew1)))⟩
      case round =>
        obtain ⟨J, q, hkJ, hJn, rfl, rfl, hq, hwr⟩ := hrel
        have kc : wr.cell? ⟨b, off + k, none⟩ = some (.slice (some ⟨b2, off2, none⟩) (n + 1) cap2) := by rw [hwr.cell (p := ⟨b, off + k, none⟩) hblr]; exact KC.out
        by_cases hlt : J < n
        · obtain ⟨x1, hx1, hx1v⟩ := HFIT.out J (by omega)
          have hxc := hx1 wr (below_trans hw hwr)
          have hJb : J < bs.length := by rw [hbl.out]; exact hlt
          have hoc : wr.cell? ⟨w.heap.size, J, none⟩ = some (.float .f32 bs[J]) := by
            rw [hwr.cell (p := ⟨w.heap.size, J, none⟩) hs, ho.out.cellAt J (by omega)]
            simp [hJb]
          have hov := hbs.out J hJb
          have HN := hid (show backS B (backO B n (n - (k + 1))) n k (J + 1 - (k + 1)) = fop .sub .f32 (ab .f32 q) (fop .mul .f32 (ab .f32 x1) (ab .f32 bs[J])) by
            rw [show J + 1 - (k + 1) = (J - (k + 1)) + 1 by omega, backS_next, show k + 1 + (J - (k + 1)) = J by omega, hq.out, hx1v, hov])
          clear hx1 hx1v hov
          generalize bs[J] = y at hoc HN
          have hJI : (J : Int) < (n : Int) := by omega
          have hJz : (0 : Int) ≤ (J : Int) := by omega
          have hJ1 : (J : Int) < ((n + 1 : Nat) : Int) := by omega
          have l1 : b < wr.heap.size := World.block_lt_of_cell? wr _ kc
          have l2 : b2 < wr.heap.size := World.block_lt_of_cell? wr _ hxc
          have l3 : w.heap.size < wr.heap.size := World.block_lt_of_cell? wr _ hoc
          obtain ⟨fe1, fe2, fe3, fe4⟩ := run_fres4 Try.prog
          obtain ⟨fa1, fa2, fa3, fa4⟩ := ab_fres4
          go_wp2_with (first
            | (go_region_held (fun w' => Below wr.heap.size wr w' ∧ ∀ b o, b < wr.heap.size → w'.cell? ⟨b, o, none⟩ = wr.cell? ⟨b, o, none⟩) (first | exact keep_next ‹_› ‹_› | exact keep_start | exact keep_drew ‹_› | exact keep_of (by (repeat (first | (with_reducible assumption) | (with_reducible apply below_refl) | (with_reducible apply below_alloc1) | (with_reducible apply below_drewN1) | (with_reducible apply below_drew1))))) (fail) <;> (rename_i hHeld; obtain ⟨hB, hC⟩ := hHeld)))
          all_goals
            go_roundw
            case rel => exact ⟨J + 1, _, by omega, by omega, by go_num, rfl, hid (by rw [HN.out]; simp only [fa1, fa2, fa3]), below_trans hwr (by (repeat (first | (with_reducible assumption) | (with_reducible apply below_refl) | (with_reducible apply below_alloc1) | (with_reducible apply below_drewN1) | (with_reducible apply below_drew1))))⟩
            case measure => simp [intOf]; omega
        · have hJe : J = n := by omega
          subst hJe
          obtain ⟨x1, hx1, hx1v⟩ := HFIT.out k (by omega)
          have hxc := hx1 wr (below_trans hw hwr)
          have hkb : k < bs.length := by rw [hbl.out]; exact hkn
          have ho2 := ownsRow_below ho.out hwr
          have hoc : wr.cell? ⟨w.heap.size, k, none⟩ = some (.float .f32 bs[k]) := by
            rw [ho2.cellAt k (by omega)]
            simp [hkb]
          have hfr : wr.frozen? ⟨w.heap.size, k, none⟩ = false := ho2.frozenAt k
          have HO2 := hid ho2
          have HXV2 := hid hx1v
          clear hx1 hx1v ho2
          generalize bs[k] = y at hoc
          have hk1 : (k : Int) < ((J + 1 : Nat) : Int) := by omega
          have l3 : w.heap.size < wr.heap.size := World.block_lt_of_cell? wr _ hoc
          have hgz : ¬ (J : Int) < (J : Int) := by omega
          go_wp2_with (first | (refine upon_float rfl ?_; intro rr nn hrr; go_simp))
          go_roundw
          case rel =>
            have hst := (ownsRow_below HO2.out (below_drewN wr nn)).stored k (.float .f32 rr)
            refine ⟨k, _, bs.set k rr, by omega, rfl, by go_num, hid (by rw [List.length_set]; exact hbl.out), hid (by have h := hst.1; simpa [List.map_set] using h), hid (fun i hi => ?_), ?_, ?_⟩
            · rw [List.length_set] at hi
              rw [show J - k = (J - (k + 1)) + 1 by omega, backO_next, show J - 1 - (J - (k + 1)) = k by omega]
              by_cases hik : i = k
              · subst hik
                rw [if_pos rfl, List.getElem_set_self, hrr, HXV2.out, hq.out]
              · rw [if_neg hik, List.getElem_set_ne (fun e => hik e.symm)]
                exact hbs.out i hi
            · exact below_setCell1 (below_trans hw (below_trans hwr (by (repeat (first | (with_reducible assumption) | (with_reducible apply below_refl) | (with_reducible apply below_alloc1) | (with_reducible apply below_drewN1) | (with_reducible apply below_drew1)))))) (Nat.le_refl _)
            · have := hwr.size
              simp
              omega
          case measure => (first | (simp [intOf]; omega) | simp [intOf])

/-! ## Build -/
/-! ## Mat -/
/-- Rows of the call's own that hold the matrix B. -/
def MatV (E2 E : TypeId) (w : World) (lo : Nat) (G cap n c : Nat) (B : Mat) (vs : List Value) : Prop := ∃ xss : List (List Nat), GridV E2 E w lo (.slice (some ⟨G, 0, none⟩) n cap) xss vs ∧ Reads xss n c B
theorem GridV.lt {E2 E : TypeId} {w : World} {lo : Nat} {v : Value} {xss : List (List Nat)} {vs : List Value} (h : GridV E2 E w lo v xss vs) : (∀ g, v.ownBlock = some g → lo ≤ g ∧ g < w.heap.size) ∧ ∀ u ∈ vs, ∀ g, u.ownBlock = some g → lo ≤ g ∧ g < w.heap.size := by
  obtain ⟨h1, h2, h3, h4⟩ := h
  refine ⟨fun g hg => h2.lt g hg, fun u hu g hg => ?_⟩
  obtain ⟨j, hj⟩ := List.getElem?_of_mem hu
  have hjl : j < xss.length := by have := (List.getElem?_eq_some_iff.1 hj).1; omega
  exact (h3 j u xss[j] hj (List.getElem?_eq_getElem hjl)).2.1.lt g hg
section
variable {E2 E : TypeId} {w : World} {lo G cap n c : Nat} {B : Mat} {vs : List Value}
theorem MatV.below {w' : World} (h : MatV E2 E w lo G cap n c B vs) (hb : Below w.heap.size w w') : MatV E2 E w' lo G cap n c B vs := by
  obtain ⟨xss, h1, h2⟩ := h
  exact ⟨xss, h1.below hb, h2⟩
theorem MatV.kept {w' : World} {r : Nat} (h : MatV E2 E w lo G cap n c B vs) (hg : w.grownBy w' (some r)) (hG : G ≠ r) (hr : ∀ x ∈ vs, x.ownBlock ≠ some r) : MatV E2 E w' lo G cap n c B vs := by
  obtain ⟨xss, h1, h2⟩ := h
  exact ⟨xss, h1.kept hg (Or.inr (by simpa [Value.ownBlock] using hG)) (fun x hx => Or.inr (hr x hx)), h2⟩
theorem MatV.congr {B' : Mat} (h : MatV E2 E w lo G cap n c B vs) (he : ∀ i j, i < n → j < c → B i j = B' i j) : MatV E2 E w lo G cap n c B' vs := by
  obtain ⟨xss, h1, h2, h3, h4⟩ := h
  exact ⟨xss, h1, h2, h3, fun i j hi hj => by rw [h4 i j hi hj]; exact he i j (by omega) (by rw [← h3 i hi]; exact hj)⟩
theorem MatV.lt (h : MatV E2 E w lo G cap n c B vs) : lo ≤ G ∧ G < w.heap.size ∧ ∀ x ∈ vs, ∀ g, x.ownBlock = some g → lo ≤ g ∧ g < w.heap.size := by
  obtain ⟨xss, h1, _⟩ := h
  have := h1.lt.1 G rfl
  exact ⟨this.1, this.2, h1.lt.2⟩
/-- What is read of the matrix. -/
theorem MatV.at (h : MatV E2 E w lo G cap n c B vs) {i : Nat} (hi : i < n) : w.frozen? ⟨G, i, none⟩ = false ∧ G < w.heap.size ∧ lo ≤ G ∧ n ≤ cap ∧ cap ≤ maxLen ∧ ∃ g cp, c ≤ cp ∧ cp ≤ maxLen ∧ lo ≤ g ∧ g ≠ G ∧ g < w.heap.size ∧ w.cell? ⟨G, i, none⟩ = some (.slice (some ⟨g, 0, none⟩) c cp) ∧
    ∀ j, j < c → ∃ x, w.cell? ⟨g, j, none⟩ = some (.float .f32 x) ∧ ab .f32 x = B i j ∧ w.frozen? ⟨g, j, none⟩ = false := by
  obtain ⟨xss, h1, h2, h3, h4⟩ := h
  obtain ⟨G', cap', hv, q1, q2, q3⟩ := Grid.at ⟨vs, h1⟩
  rcases hv with hv | hv
  · omega
  · cases hv
    obtain ⟨a1, a2, a3, g, cp, b1, b2, b3, b4, b5, b6, b7⟩ := q3 i (by omega)
    rw [h3 i (by omega)] at b1 b6
    refine ⟨a3, a1, a2, by omega, q2, g, cp, b1, b2, b3, b4, b5, b6, fun j hj => ?_⟩
    have hjl : j < (xss[i]'(by omega)).length := by rw [h3 i (by omega)]; exact hj
    exact ⟨_, (b7 j hjl).1, h4 i j (by omega) hjl, (b7 j hjl).2⟩
/-- One number is written. -/
theorem MatV.stored {B' : Mat} (h : MatV E2 E w lo G cap n c B vs) {i j g m cp q : Nat} (hi : i < n) (hj : j < c) (hc : w.cell? ⟨G, i, none⟩ = some (.slice (some ⟨g, 0, none⟩) m cp)) (hq : ab .f32 q = B' i j)
    (he : ∀ r s, r < n → s < c → ¬ (r = i ∧ s = j) → B r s = B' r s) :
    MatV E2 E (w.setCell ⟨g, j, none⟩ (.float .f32 q)) lo G cap n c B' vs ∧ w.grownBy (w.setCell ⟨g, j, none⟩ (.float .f32 q)) (some g) ∧ ∃ x ∈ vs, x.ownBlock = some g := by
  obtain ⟨xss, h1, h2, h3, h4⟩ := h
  have hix : i < xss.length := by omega
  have hjl : j < (xss[i]).length := by rw [h3 i hix]; exact hj
  have hs := h1.stored hix hjl q (G := G) (c := cap) (by rw [h2]) hc
  refine ⟨⟨_, hs.1, by rw [List.length_set]; exact h2, fun r hr => ?_, fun r s hr hs => ?_⟩, hs.2.1, hs.2.2⟩
  · rw [List.length_set] at hr
    by_cases e : r = i
    · subst e
      rw [List.getElem_set_self, List.length_set]; exact h3 r (by simpa using hr)
    · rw [List.getElem_set_ne (fun x => e x.symm)]; exact h3 r hr
  · rw [List.length_set] at hr
    by_cases e : r = i
    · subst e
      simp only [List.getElem_set_self] at hs ⊢
      rw [List.length_set] at hs
      by_cases e2 : s = j
      · subst e2
        rw [List.getElem_set_self]; exact hq
      · rw [List.getElem_set_ne (fun x => e2 x.symm), h4 r s (by simpa using hr) hs]
        exact he r s (by omega) (by rw [← h3 r (by simpa using hr)]; exact hs) (fun x => e2 x.2)
    · simp only [List.getElem_set_ne (fun x => e x.symm)] at hs ⊢
      rw [h4 r s hr hs]
      exact he r s (by omega) (by rw [← h3 r hr]; exact hs) (fun x => e x.1)
/-- Two rows change places. -/
theorem MatV.swapped (h : MatV E2 E w lo G cap n c B vs) {b k : Nat} (hb : b < n) (hk : k < n) {x y : Value} (hx : w.cell? ⟨G, b, none⟩ = some x) (hy : w.cell? ⟨G, k, none⟩ = some y) :
    MatV E2 E ((w.setCell ⟨G, b, none⟩ y).setCell ⟨G, k, none⟩ x) lo G cap n c (swp B k b) ((vs.set b y).set k x) ∧ w.grownBy ((w.setCell ⟨G, b, none⟩ y).setCell ⟨G, k, none⟩ x) (some G) ∧ ∀ z ∈ (vs.set b y).set k x, z ∈ vs := by
  obtain ⟨xss, h1, h2, h3, h4⟩ := h
  have hbx : b < xss.length := by omega
  have hkx : k < xss.length := by omega
  have hs := h1.swapped hbx hkx (G := G) (c := cap) (by rw [h2]) hx hy
  have hpick : ∀ r (hr : r < ((xss.set b xss[k]).set k xss[b]).length), ((xss.set b xss[k]).set k xss[b])[r] = if r = k then xss[b] else if r = b then xss[k] else xss[r]'(by simpa using hr) := fun r hr => by
    by_cases e : r = k
    · subst e; rw [List.getElem_set_self, if_pos rfl]
    · rw [List.getElem_set_ne (fun z => e z.symm), if_neg e]
      by_cases e2 : r = b
      · subst e2; rw [List.getElem_set_self, if_pos rfl]
      · rw [List.getElem_set_ne (fun z => e2 z.symm), if_neg e2]
  refine ⟨⟨_, hs.1, by simpa using h2, fun r hr => ?_, fun r s hr hs => ?_⟩, hs.2⟩
  · rw [hpick r hr]
    have hr' : r < xss.length := by simpa using hr
    by_cases e : r = k
    · rw [if_pos e]; exact h3 b hbx
    · rw [if_neg e]
      by_cases e2 : r = b
      · rw [if_pos e2]; exact h3 k hkx
      · rw [if_neg e2]; exact h3 r hr'
  · have hr' : r < xss.length := by simpa using hr
    simp only [hpick r hr] at hs ⊢
    unfold swp
    by_cases e : r = k
    · simp only [if_pos e] at hs ⊢
      by_cases e2 : r = b
      · refine (h4 b s hbx hs).trans ?_
        rw [if_pos e2, ← e2, e]
      · refine (h4 b s hbx hs).trans ?_
        rw [if_neg e2]
    · simp only [if_neg e] at hs ⊢
      by_cases e2 : r = b
      · simp only [if_pos e2] at hs ⊢
        exact h4 k s hkx hs
      · simp only [if_neg e2] at hs ⊢
        exact h4 r s hr' hs
theorem MatV.rows (h : MatV E2 E w lo G cap n c B vs) : ∃ xss : List (List Nat), Reads xss n c B ∧ RowsAt w (.slice (some ⟨G, 0, none⟩) n cap) xss := by
  obtain ⟨xss, h1, h2⟩ := h
  exact ⟨xss, h2, Grid.rows ⟨vs, h1⟩⟩
end
theorem GridV.mat {E2 E : TypeId} {w : World} {lo n c : Nat} {B : Mat} {v : Value} {xss : List (List Nat)} {vs : List Value} (hn : 1 ≤ n) (h : GridV E2 E w lo v xss vs) (hr : Reads xss n c B) : ∃ G cap, v = .slice (some ⟨G, 0, none⟩) n cap ∧ MatV E2 E w lo G cap n c B vs := by
  have hxl : xss.length = n := hr.1
  obtain ⟨G, cap, e1, _⟩ := slice_of_own h.2.1 (by rw [h.1]; omega)
  rw [h.1, hxl] at e1
  subst e1
  exact ⟨G, cap, rfl, xss, h, hr⟩
theorem swp_comm (B : Mat) (k b : Nat) : swp B b k = swp B k b := by
  funext i j
  unfold swp
  by_cases c1 : i = k <;> by_cases c2 : i = b
  · subst c1; subst c2; rfl
  · rw [if_pos c1, if_neg c2, if_pos c1]
  · rw [if_neg c1, if_pos c2, if_pos c2]
  · rw [if_neg c1, if_neg c2, if_neg c2, if_neg c1]
/-- A matrix of n rows and n columns, and a right side, its column n. -/
def SolveAt (E2 E : TypeId) (w : World) (lo G cap R capR n : Nat) (B : Mat) : Prop := ∃ (vs : List Value) (rs : List Nat), MatV E2 E w lo G cap n n B vs ∧ w.ownsRow lo E 1 (.slice (some ⟨R, 0, none⟩) n capR) n (rs.map (Value.float .f32)) ∧ G ≠ R ∧ (∀ x ∈ vs, x.ownBlock ≠ some R) ∧ rs.length = n ∧ ∀ i (hi : i < rs.length), ab .f32 rs[i] = B i n
section
variable {E2 E : TypeId} {w : World} {lo G cap R capR n : Nat} {B : Mat}
theorem SolveAt.below {w' : World} (h : SolveAt E2 E w lo G cap R capR n B) (hb : Below w.heap.size w w') : SolveAt E2 E w' lo G cap R capR n B := by
  obtain ⟨vs, rs, h1, h2, h3⟩ := h
  exact ⟨vs, rs, h1.below hb, ownsRow_below h2 hb, h3⟩
theorem SolveAt.congr {B' : Mat} (h : SolveAt E2 E w lo G cap R capR n B) (he : ∀ i j, i < n → j < n + 1 → B i j = B' i j) : SolveAt E2 E w lo G cap R capR n B' := by
  obtain ⟨vs, rs, h1, h2, h3, h4, h5, h6⟩ := h
  exact ⟨vs, rs, h1.congr (fun i j hi hj => he i j hi (by omega)), h2, h3, h4, h5, fun i hi => by rw [h6 i hi]; exact he i n (by omega) (by omega)⟩
/-- What is read. -/
theorem SolveAt.at (h : SolveAt E2 E w lo G cap R capR n B) {i : Nat} (hi : i < n) : w.frozen? ⟨G, i, none⟩ = false ∧ G < w.heap.size ∧ lo ≤ G ∧ n ≤ cap ∧ cap ≤ maxLen ∧ ∃ g cp, n ≤ cp ∧ cp ≤ maxLen ∧ lo ≤ g ∧ g ≠ G ∧ g < w.heap.size ∧ w.cell? ⟨G, i, none⟩ = some (.slice (some ⟨g, 0, none⟩) n cp) ∧
    ∀ j, j < n → ∃ x, w.cell? ⟨g, j, none⟩ = some (.float .f32 x) ∧ ab .f32 x = B i j ∧ w.frozen? ⟨g, j, none⟩ = false := by
  obtain ⟨vs, rs, h1, _⟩ := h
  exact h1.at hi
theorem SolveAt.right (h : SolveAt E2 E w lo G cap R capR n B) {i : Nat} (hi : i < n) : R < w.heap.size ∧ lo ≤ R ∧ n ≤ capR ∧ capR ≤ maxLen ∧ w.frozen? ⟨R, i, none⟩ = false ∧ ∃ x, w.cell? ⟨R, i, none⟩ = some (.float .f32 x) ∧ ab .f32 x = B i n := by
  obtain ⟨vs, rs, h1, h2, h3, h4, h5, h6⟩ := h
  have hl := h2.lt R rfl
  have hc : n ≤ capR ∧ capR ≤ maxLen := by
    rcases h2.2 with ⟨e, _⟩ | ⟨g, c, cur, e, _, _, q1, q2, _⟩
    · cases e
    · cases e; exact ⟨q1, q2⟩
  refine ⟨hl.2, hl.1, hc.1, hc.2, h2.frozenAt i, rs[i]'(by omega), ?_, h6 i (by omega)⟩
  rw [h2.cellAt i (by omega)]
  simp [show i < rs.length by omega]
/-- One number of the matrix is written. -/
theorem SolveAt.stored {B' : Mat} (h : SolveAt E2 E w lo G cap R capR n B) {i j g m cp q : Nat} (hi : i < n) (hj : j < n) (hc : w.cell? ⟨G, i, none⟩ = some (.slice (some ⟨g, 0, none⟩) m cp)) (hq : ab .f32 q = B' i j)
    (he : ∀ r s, r < n → s < n + 1 → ¬ (r = i ∧ s = j) → B r s = B' r s) : SolveAt E2 E (w.setCell ⟨g, j, none⟩ (.float .f32 q)) lo G cap R capR n B' := by
  obtain ⟨vs, rs, h1, h2, h3, h4, h5, h6⟩ := h
  obtain ⟨k1, k2, x, hx, k3⟩ := h1.stored (B' := B') hi hj hc hq (fun r s hr hs hn => he r s hr (by omega) hn)
  refine ⟨vs, rs, k1, h2.kept k2 (Or.inr ?_), h3, h4, h5, fun r hr => ?_⟩
  · have := h4 x hx
    rw [k3] at this
    intro e
    exact this (e.symm)
  · rw [h6 r hr]; exact he r n (by omega) (by omega) (by omega)
/-- One number of the right side is written. -/
theorem SolveAt.storedR {B' : Mat} (h : SolveAt E2 E w lo G cap R capR n B) {i q : Nat} (hi : i < n) (hq : ab .f32 q = B' i n)
    (he : ∀ r s, r < n → s < n + 1 → ¬ (r = i ∧ s = n) → B r s = B' r s) : SolveAt E2 E (w.setCell ⟨R, i, none⟩ (.float .f32 q)) lo G cap R capR n B' := by
  obtain ⟨vs, rs, h1, h2, h3, h4, h5, h6⟩ := h
  have hst := h2.stored i (.float .f32 q)
  refine ⟨vs, rs.set i q, (h1.kept hst.2 h3 h4).congr (fun r s hr hs => he r s hr (by omega) (by omega)), ?_, h3, h4, by rw [List.length_set]; exact h5, fun r hr => ?_⟩
  · have := hst.1
    simpa [List.map_set] using this
  · rw [List.length_set] at hr
    by_cases e : r = i
    · subst e
      rw [List.getElem_set_self]; exact hq
    · rw [List.getElem_set_ne (fun z => e z.symm), h6 r hr]
      exact he r n (by omega) (by omega) (fun z => e z.1)
/-- Two rows of the matrix change places. -/
theorem SolveAt.swapped (h : SolveAt E2 E w lo G cap R capR n B) {b k : Nat} (hb : b < n) (hk : k < n) {x y : Value} (hx : w.cell? ⟨G, b, none⟩ = some x) (hy : w.cell? ⟨G, k, none⟩ = some y) :
    SolveAt E2 E ((w.setCell ⟨G, b, none⟩ y).setCell ⟨G, k, none⟩ x) lo G cap R capR n (fun i j => if j < n then swp B k b i j else B i j) := by
  obtain ⟨vs, rs, h1, h2, h3, h4, h5, h6⟩ := h
  obtain ⟨k1, k2, k3⟩ := h1.swapped hb hk hx hy
  refine ⟨_, rs, k1.congr (fun i j _ hj => by rw [if_pos hj]), h2.kept k2 (Or.inr ?_), h3, fun z hz => h4 z (k3 z hz), h5, fun r hr => ?_⟩
  · intro e
    exact h3 (Option.some.inj e).symm
  · rw [h6 r hr]
    show _ = if n < n then _ else _
    rw [if_neg (by omega)]
/-- Two numbers of the right side change places too. -/
theorem SolveAt.swappedR (b k : Nat) (h : SolveAt E2 E w lo G cap R capR n (fun i j => if j < n then swp B k b i j else B i j)) (hb : b < n) (hk : k < n) {x y : Nat} (hx : ab .f32 x = B b n) (hy : ab .f32 y = B k n) :
    SolveAt E2 E ((w.setCell ⟨R, b, none⟩ (.float .f32 y)).setCell ⟨R, k, none⟩ (.float .f32 x)) lo G cap R capR n (swp B k b) := by
  have h1 := h.storedR (B' := fun i j => if j < n then swp B k b i j else if i = b then B k j else B i j) hb (q := y) (by simp [hy]) (fun r s hr hs hn => by
    by_cases c : s < n
    · simp [c]
    · have : ¬ r = b := fun e => hn ⟨e, by omega⟩
      simp [c, this])
  have h2 := h1.storedR (B' := fun i j => if j < n then swp B k b i j else if i = k then B b j else if i = b then B k j else B i j) hk (q := x) (by simp [hx]) (fun r s hr hs hn => by
    by_cases c : s < n
    · simp [c]
    · have : ¬ r = k := fun e => hn ⟨e, by omega⟩
      simp [c, this])
  refine h2.congr (fun i j hi hj => ?_)
  by_cases c : j < n
  · simp [c]
  · simp only [c, if_false]
    unfold swp
    by_cases c1 : i = k <;> by_cases c2 : i = b
    · subst c1; subst c2; simp
    · rw [if_pos c1, if_neg c2, if_pos c1]
    · rw [if_neg c1, if_pos c2, if_pos c2]
    · rw [if_neg c1, if_neg c2, if_neg c2, if_neg c1]
end

/-! ## Solve -/
/-- What a solution answers. -/
def SolveOk (M : Option (List (Option Nat))) (lo : Nat) (w : World) (e : Ending) (w' : World) : Prop :=
  (match M with
  | none => e = .returned (.tuple #[.slice none 0 0, .bool false])
  | some L => ∃ (u : Value) (bs : List Nat), e = .returned (.tuple #[u, .bool true]) ∧ w'.ownsRow w.heap.size 27 1 u (bs.map (Value.float .f32)).length (bs.map (Value.float .f32)) ∧ bs.map (ab .f32) = L) ∧ Below lo w w'
theorem run_step {n k : Nat} {A B : Mat} (h : runM n A k = some B) : runM n A (k + 1) = stepM n B k := by
  show (runM n A k).bind _ = _
  rw [h]; rfl
theorem run_none {n k : Nat} {A : Mat} (h : runM n A k = none) : ∀ m, runM n A (k + m) = none
  | 0 => h
  | m + 1 => by
    show (runM n A (k + m)).bind _ = _
    rw [run_none h m]; rfl
theorem step_none {n k : Nat} {A B : Mat} (hk : k < n) (h : runM n A k = some B) (hs : ford .f32 (swp B k (bst B k (n - k)) k k) (some 0) = some .eq) : runM n A n = none := by
  have h1 : runM n A (k + 1) = none := by
    rw [run_step h]
    unfold stepM
    rw [hs]; rfl
  have := run_none h1 (n - (k + 1))
  rwa [show k + 1 + (n - (k + 1)) = n by omega] at this
theorem step_some {n k : Nat} {A B : Mat} (h : runM n A k = some B) (hs : ¬ ford .f32 (swp B k (bst B k (n - k)) k k) (some 0) = some .eq) : runM n A (k + 1) = some (elim (swp B k (bst B k (n - k))) k n (k + 1)) := by
  rw [run_step h]
  unfold stepM
  rw [if_neg (by simpa using hs)]
theorem bst_next (A : Mat) (k m : Nat) : bst A k (m + 1) = if gtX A (k + m) (bst A k m) k then k + m else bst A k m := rfl
theorem wp_world {P : Program} {c : Code} {Q : Exit → Act → World → Prop} {a : Act} {W w2 : World} (h : W = w2) (hw : Code.wp P c Q a w2) : Code.wp P c Q a W := h ▸ hw
theorem set_over {w : World} {p q : Addr} {u v : Value} (hp : w.cell? p = some u) (hq : w.cell? q = some v) : (w.setCell p v).cell? q = some v := by
  by_cases h : q = p
  · subst h
    exact World.cell?_setCell_same _ _ _ hp
  · rw [World.cell?_setCell_other _ _ _ _ (fun e => h e.symm)]; exact hq
theorem gtX_size {A : Mat} {i j k x y : Nat} (hx : ab .f32 x = A i k) (hy : ab .f32 y = A j k) : gtX A i j k = (ford .f32 (sizeM (ab .f32 x)) (sizeM (ab .f32 y)) == some .gt) := by
  unfold gtX
  rw [← hx, ← hy, ((abs_alike x).ford _).1, ((abs_alike y).ford _).2]

/-! ## Build -/
/-- append of one element to a row of the call's own; where the new row lies. -/
theorem wpList_pushR {P : Program} {ops : Array Oper} {rest : List Oper} {o : Oper} {a : Act} {Q : Exit → Act → World → Prop} {w : World} {E : TypeId} {i : TypeInfo} {z y : Value} {bytes : Nat}
    (hgd : o.guard = none) (s x : Operand) (t : TypeId) (ho : o.op = .call { callee := .builtin .append, args := #[s, x], argTypes := #[t, t] })
    (ht : P.underlying t = some (.slice E)) (hi : P.info? E = some i) (hz : i.zero = some z) (hsz : i.size = 1) (hby : i.bytes = bytes) (hzc : z.cells.size = 1)
    (base : Nat) (v : Value) (xs : List Value) (hs : a.eval s = v) (hx : a.eval x = .slice (some ⟨w.heap.size, 0, none⟩) 1 1)
    (hown : w.ownsRow base E 1 v xs.length xs) (h1 : y.oneCell' = true) (hn : xs.length ≤ 2097152) (hb : bytes ≤ 64) (hbase : base ≤ w.heap.size)
    (h : ∀ v' w', w'.ownsRow base E 1 v' (xs ++ [y]).length (xs ++ [y]) → w.grownBy w' v.ownBlock → (v'.ownBlock = v.ownBlock ∨ v'.ownBlock = some (w.heap.size + 1)) → Below base w w' → wpList P ops Q rest (a.put o.dst v') w') :
    wpList P ops Q (o :: rest) a (w.alloc (.cells #[y] E)) := by
  have hown' : (w.alloc (.cells #[y] E)).ownsRow base E 1 v xs.length xs := hown.alloc _
  have hsize : (w.alloc (.cells #[y] E)).heap.size = w.heap.size + 1 := by simp
  have hnb : (xs.length + 1) * bytes ≤ 140737488355328 := by
    have : (xs.length + 1) * bytes ≤ 2097153 * 64 := Nat.mul_le_mul (by omega) hb
    omega
  refine wpList_append_own_at _ hgd s x t ho base E i z 1 bytes ht hi hz hsz hby hzc (by decide) v xs.length xs hs hown' ⟨w.heap.size, 0, none⟩ 1 1 [y] hx rfl ?_ (by simpa using h1) (by simp only [maxLen]; omega) hnb (by omega) ?_
  · exact cell_one_new _ _ _
  · intro v' w' ho' hg _ hblk
    refine h v' w' (by simpa using ho') ((World.grownBy_alloc w _ _).trans hg) (by simpa [hsize] using hblk) ?_
    have hb1 : Below base w (w.alloc (.cells #[y] E)) := (Below.refl base w).alloc hbase _
    exact hb1.grown hg (by omega) (fun k hk => (hown.lt k hk).1)
/-- A grid and a row beside it. -/
def BuildV (E2 E : TypeId) (w : World) (lo : Nat) (v u : Value) (xss : List (List Nat)) (rs : List Nat) (vs : List Value) : Prop :=
  GridV E2 E w lo v xss vs ∧ w.ownsRow lo E 1 u (rs.map (Value.float .f32)).length (rs.map (Value.float .f32)) ∧ Twain u v ∧ ∀ x ∈ vs, Twain x u
theorem twain_fresh {w : World} {lo : Nat} {E : TypeId} {u v v' : Value} {n : Nat} {xs : List Value} (hu : w.ownsRow lo E 1 u n xs) (h : Twain u v) (hb : v'.ownBlock = v.ownBlock ∨ v'.ownBlock = some (w.heap.size + 1)) : Twain u v' := by
  rcases hb with e | e
  · rcases h with h2 | h2
    · exact Or.inl h2
    · right; rw [e]; exact h2
  · cases hub : u.ownBlock with
    | none => exact Or.inl hub
    | some g =>
      right
      rw [hub, e]
      have := (hu.lt g hub).2
      intro e2
      have := Option.some.inj e2
      omega
section
variable {E2 E : TypeId} {w w' : World} {lo : Nat} {v u v' u' y : Value} {xss : List (List Nat)} {rs ys : List Nat} {vs : List Value}
theorem BuildV.below (h : BuildV E2 E w lo v u xss rs vs) (hb : Below w.heap.size w w') : BuildV E2 E w' lo v u xss rs vs := ⟨h.1.below hb, ownsRow_below h.2.1 hb, h.2.2⟩
theorem BuildV.row (h : BuildV E2 E w lo v u xss rs vs) (hgv : GridV E2 E w' lo v' (xss ++ [ys]) (vs ++ [y])) (hg : w.grownBy w' v.ownBlock) (hb : v'.ownBlock = v.ownBlock ∨ v'.ownBlock = some (w.heap.size + 1)) (hy : Twain y u) : BuildV E2 E w' lo v' u (xss ++ [ys]) rs (vs ++ [y]) := by
  obtain ⟨h1, h2, h3, h4⟩ := h
  refine ⟨hgv, h2.kept hg h3, twain_fresh h2 h3 hb, fun x hx => ?_⟩
  rcases List.mem_append.1 hx with hx | hx
  · exact h4 x hx
  · have : x = y := by simpa using hx
    rw [this]; exact hy
theorem BuildV.right {q : Nat} (h : BuildV E2 E w lo v u xss rs vs) (ho : w'.ownsRow lo E 1 u' (rs.map (Value.float .f32) ++ [Value.float .f32 q]).length (rs.map (Value.float .f32) ++ [Value.float .f32 q])) (hg : w.grownBy w' u.ownBlock) (hb : u'.ownBlock = u.ownBlock ∨ u'.ownBlock = some (w.heap.size + 1)) : BuildV E2 E w' lo v u' xss (rs ++ [q]) vs := by
  obtain ⟨h1, h2, h3, h4⟩ := h
  have hv : ∃ vs', w.ownsRow lo E2 1 v vs'.length vs' := ⟨_, h1.2.1⟩
  obtain ⟨vs', hv⟩ := hv
  refine ⟨h1.kept hg h3.symm (fun x hx => h4 x hx), by rw [fl_vals]; exact ho, (twain_fresh hv h3.symm hb).symm, fun x hx => ?_⟩
  obtain ⟨j, hj⟩ := List.getElem?_of_mem hx
  have hjl : j < xss.length := by have := (List.getElem?_eq_some_iff.1 hj).1; have := h1.1; omega
  have hx2 := (h1.2.2.1 j x xss[j] hj (List.getElem?_eq_getElem hjl)).2.1
  exact twain_fresh hx2 (h4 x hx) hb
/-- The blocks lie below the world's size. -/
theorem BuildV.lt (h : BuildV E2 E w lo v u xss rs vs) : (∀ g, v.ownBlock = some g → g < w.heap.size) ∧ (∀ x ∈ vs, ∀ g, x.ownBlock = some g → g < w.heap.size) ∧ ∀ g, u.ownBlock = some g → g < w.heap.size := by
  obtain ⟨h1, h2, h3, h4⟩ := h
  exact ⟨fun g hg => (h1.lt.1 g hg).2, fun x hx g hg => (h1.lt.2 x hx g hg).2, fun g hg => (h2.lt g hg).2⟩
theorem BuildV.nil (E2 E : TypeId) (w : World) (lo : Nat) : BuildV E2 E w lo (.slice none 0 0) (.slice none 0 0) [] [] [] :=
  ⟨⟨rfl, World.ownsRow_nil w lo E2 1, fun i u xs hu => by simp at hu, fun i j u u' _ hu => by simp at hu⟩, World.ownsRow_nil w lo E 1, Or.inl rfl, fun x hx => by cases hx⟩
theorem build_made (E2 E : TypeId) (w : World) : BuildV E2 E ((w.alloc (.cells #[] E2)).alloc (.cells #[] E)) w.heap.size (.slice (some ⟨w.heap.size, 0, none⟩) 0 0) (.slice (some ⟨w.heap.size + 1, 0, none⟩) 0 0) [] [] [] := by
  refine ⟨⟨rfl, ?_, fun i u xs hu => by simp at hu, fun i j u u' _ hu => by simp at hu⟩, ?_, Or.inr ?_, fun x hx => by cases hx⟩
  · exact (World.ownsRow_made w #[] 0 (Nat.le_refl _) (by simp [maxLen]) rfl).alloc _
  · have := World.ownsRow_made (base := w.heap.size) (e := E) (size := 1) (w.alloc (.cells #[] E2)) #[] 0 (by simp) (by simp [maxLen]) rfl
    simpa using this
  · simp [Value.ownBlock]
theorem BuildV.solve {n : Nat} {B : Mat} (h : BuildV E2 E w lo v u xss rs vs) (hn : 1 ≤ n) (hr : Reads xss n n B) (hl : rs.length = n) (hb : ∀ i (hi : i < rs.length), ab .f32 rs[i] = B i n) :
    ∃ G cap R capR, v = .slice (some ⟨G, 0, none⟩) n cap ∧ u = .slice (some ⟨R, 0, none⟩) n capR ∧ SolveAt E2 E w lo G cap R capR n B := by
  obtain ⟨h1, h2, h3, h4⟩ := h
  have hxl : xss.length = n := hr.1
  obtain ⟨G, cap, e1, _⟩ := slice_of_own h1.2.1 (by rw [h1.1]; omega)
  obtain ⟨R, capR, e2, _⟩ := slice_of_own h2 (by simp; omega)
  rw [h1.1, hxl] at e1
  rw [List.length_map, hl] at e2
  subst e1 e2
  refine ⟨G, cap, R, capR, rfl, rfl, vs, rs, ⟨xss, h1, hr⟩, by rw [← hl] at h2 ⊢; simpa using h2, ?_, fun x hx => ?_, hl, hb⟩
  · rcases h3 with h3 | h3
    · simp [Value.ownBlock] at h3
    · intro e
      exact h3 (by simp [Value.ownBlock, e])
  · obtain ⟨j, hj⟩ := List.getElem?_of_mem hx
    have hjl : j < xss.length := by have := (List.getElem?_eq_some_iff.1 hj).1; have := h1.1; omega
    have hx2 := h1.2.2.1 j x xss[j] hj (List.getElem?_eq_getElem hjl)
    obtain ⟨g, c, e, _⟩ := slice_of_own hx2.2.1 (by simpa using hx2.1)
    rcases h4 x hx with h | h
    · rw [e] at h; simp [Value.ownBlock] at h
    · exact h
end
/-- The answer, out of the raw one. -/
def balAll : Option (List (Option Nat)) → Bool
  | some L => finL L
  | none => false
def balXs : Option (List (Option Nat)) → List Nat
  | some L => if finL L then bitsOf L else []
  | none => []
theorem reads_push {xss : List (List Nat)} {ys : List Nat} {k c : Nat} {B : Mat} (h : Reads xss k c B) (hl : ys.length = c) (hy : ∀ j (hj : j < ys.length), ab .f32 ys[j] = B k j) : Reads (xss ++ [ys]) (k + 1) c B := by
  obtain ⟨h1, h2, h3⟩ := h
  refine ⟨by simp [h1], fun i hi => ?_, fun i j hi hj => ?_⟩
  · by_cases e : i < xss.length
    · rw [List.getElem_append_left e]; exact h2 i e
    · have : i = xss.length := by simp at hi; omega
      subst this
      simpa using hl
  · by_cases e : i < xss.length
    · simp only [List.getElem_append_left e] at hj ⊢
      exact h3 i j e hj
    · have : i = xss.length := by simp at hi; omega
      subst this
      simp only [List.getElem_concat_length] at hj ⊢
      exact (hy j hj).trans (by rw [h1])
end Go.Proofs.Ytkaeohlakeliiaa
