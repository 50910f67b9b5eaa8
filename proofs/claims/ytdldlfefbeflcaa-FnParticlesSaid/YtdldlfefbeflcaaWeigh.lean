/- Contracts: WeighParticles. -/
import Derived.Test.YtdldlfefbeflcaaDraw
import Derived.Test.YtdldlfefbeflcaaExp2
import Derived.Test.YtdldlfefbeflcaaGrow
namespace Go.Proofs.Ytdldlfefbeflcaa
open Go.RowKit

def wgBy (wd : Option Nat) : Option Nat := fop .mul .f32 (fop .mul .f32 (some 1073741824) wd) wd
def wgArg (p x b : Option Nat) : Option Nat := fop .sub .f32 (some 0) (fop .quo .f32 (fop .mul .f32 (fop .sub .f32 x p) (fop .sub .f32 x p)) b)
def wgX (xs ws : List Nat) (x b : Option Nat) (k : Nat) : Option Nat := fop .mul .f32 (ab .f32 (ws.getD k 0)) (exX (wgArg (ab .f32 (xs.getD k 0)) x b))
def wgL (xs ws : List Nat) (x b : Option Nat) (k : Nat) : List (Option Nat) := (List.range k).map (wgX xs ws x b)
theorem wgL_next (xs ws : List Nat) (x b : Option Nat) (k : Nat) : wgL xs ws x b (k + 1) = wgL xs ws x b k ++ [wgX xs ws x b k] := range_next _ _
theorem wgL_len (xs ws : List Nat) (x b : Option Nat) (k : Nat) : (wgL xs ws x b k).length = k := by simp [wgL]
def wgSum (xs ws : List Nat) (x b : Option Nat) : Nat → Option Nat
  | 0 => some 0
  | k + 1 => fop .add .f32 (wgSum xs ws x b k) (wgX xs ws x b k)
theorem wgSum_next (xs ws : List Nat) (x b : Option Nat) (k : Nat) : wgSum xs ws x b (k + 1) = fop .add .f32 (wgSum xs ws x b k) (wgX xs ws x b k) := rfl
def wgMix (xs ws : List Nat) (x b S : Option Nat) (n j : Nat) : List (Option Nat) := (List.range n).map fun k => if k < j then fop .quo .f32 (wgX xs ws x b k) S else wgX xs ws x b k
theorem wgMix_zero (xs ws : List Nat) (x b S : Option Nat) (n : Nat) : wgMix xs ws x b S n 0 = wgL xs ws x b n := by simp [wgMix, wgL]
theorem wgMix_get (xs ws : List Nat) (x b S : Option Nat) (n j : Nat) (h : j < n) : (wgMix xs ws x b S n j)[j]? = some (wgX xs ws x b j) := by simp [wgMix, h]
theorem wgMix_next (xs ws : List Nat) (x b S : Option Nat) (n j : Nat) (h : j < n) : (wgMix xs ws x b S n j).set j (fop .quo .f32 (wgX xs ws x b j) S) = wgMix xs ws x b S n (j + 1) := by
  apply List.ext_getElem
  · simp [wgMix]
  · intro i h1 h2
    simp only [wgMix, List.getElem_set, List.getElem_map, List.getElem_range]
    by_cases e : j = i
    · subst e; simp
    · rw [if_neg e]
      by_cases h3 : i < j
      · rw [if_pos h3, if_pos (by omega)]
      · rw [if_neg h3, if_neg (by omega)]
theorem sum_reads {zs : List Nat} {xs ws : List Nat} {x b : Option Nat} {n : Nat} (h : zs.map (ab .f32) = wgL xs ws x b n) (k : Nat) (hk : k ≤ n) : sumX zs k = wgSum xs ws x b k := by
  have hlen : zs.length = n := by have := congrArg List.length h; simpa [wgL_len] using this
  induction k with
  | zero => rfl
  | succ k ih =>
    rw [sumX_next, wgSum_next, ih (by omega), atX_get (by omega)]
    have := congrArg (·[k]?) h
    simp [wgL, show k < zs.length by omega, show k < n by omega] at this
    rw [this]
def wgOk (xs ws : List Nat) (x wd : Option Nat) : Bool := partsB xs ws && finite32 x && moreB wd
def wgTot (xs ws : List Nat) (x wd : Option Nat) : Option Nat := wgSum xs ws x (wgBy wd) xs.length
def wgRes (xs ws : List Nat) (x wd : Option Nat) : List (Option Nat) := wgMix xs ws x (wgBy wd) (wgTot xs ws x wd) xs.length xs.length
def wgAll (xs ws : List Nat) (x wd : Option Nat) : Bool := wgOk xs ws x wd && (ford .f32 (wgTot xs ws x wd) (some 0) == some .gt) && finL (wgRes xs ws x wd)
def wgXs (xs ws : List Nat) (x wd : Option Nat) : List Nat := if wgAll xs ws x wd then bitsOf (wgRes xs ws x wd) else []
theorem wg_no {xs ws : List Nat} {x wd : Option Nat} (h : wgAll xs ws x wd = false) : wgXs xs ws x wd = [] ∧ wgAll xs ws x wd = false := by simp [wgXs, h]
theorem wg_yes {xs ws : List Nat} {x wd : Option Nat} (h : wgAll xs ws x wd = true) : wgXs xs ws x wd = bitsOf (wgRes xs ws x wd) := by simp [wgXs, h]
theorem wgRes_len (xs ws : List Nat) (x wd : Option Nat) : (wgRes xs ws x wd).length = xs.length := by simp [wgRes, wgMix]
theorem wgXs_len (xs ws : List Nat) (x wd : Option Nat) : (wgXs xs ws x wd).length ≤ 64 := by
  cases h : wgAll xs ws x wd
  · rw [(wg_no h).1]; simp
  · rw [wg_yes h]
    simp only [wgAll, wgOk, Bool.and_eq_true] at h
    have := (partsB_true h.1.1.1.1).2.1
    simp [bitsOf, wgRes_len]; omega
theorem ab_readable (op : BinOp) (k : FloatKind) (x y : Option Nat) {b : Nat} (h : fop op k x y = some b) : ab k b = some b := by
  cases x with
  | none => rw [fop_none_left] at h; cases h
  | some a =>
    cases y with
    | none => rw [fop_none_right] at h; cases h
    | some c => exact (floatBits_nan (op := op) (x := a) (y := c) h).1
theorem ps_two : Ps .f32 (some 1073741824) := Or.inr ⟨_, rfl, Or.inl ⟨8388608, -22, by decide⟩⟩
theorem wg_neg {wd : Nat} (h : moreB (ab .f32 wd) = true) (p x : Option Nat) : Neg (wgArg p x (wgBy (ab .f32 wd))) := by
  obtain ⟨v, hv, h0⟩ := more_isV h
  have h1 : Ps .f32 (wgBy (ab .f32 wd)) := ps_mul (ps_mul ps_two (ps_isV hv h0)) (ps_isV hv h0)
  exact neg_of_ps (ps_quo (ps_square _ _) h1) (fun b hb => ab_readable _ _ _ _ hb)
theorem implExp_at {x : Nat} {a : Option Nat} (h : ab .f32 x = a) (hn : Neg a) (w : World) : Calls Try.prog 41 #[.float .f32 x] w (FltOk (exX a) w) := by
  subst h; exact implExp_any x hn w
@[go_sem] theorem ab_two32 : ab .f32 1073741824 = some 1073741824 := by decide
set_option maxRecDepth 100000 in
set_option maxHeartbeats 2000000 in
theorem implWeigh_any (v u : Value) (xs ws : List Nat) (x wd : Nat) (w : World) (hv : RowAt w v (xs.map (Value.float .f32))) (hu : RowAt w u (ws.map (Value.float .f32))) :
    Calls Try.prog 16 #[v, u, .float .f32 x, .float .f32 wd] w (FRowOk 23 (wgXs xs ws (ab .f32 x) (ab .f32 wd)) (wgAll xs ws (ab .f32 x) (ab .f32 wd)) w) := by
  obtain ⟨i0, hi0, hz0, hz1, hz2⟩ := info_parts (P := Try.prog) (e := 23) (z := Value.float .f32 0) (size := 1) (bytes := 4) (by kernel_rfl)
  have HV := hid hv
  have HU := hid hu
  obtain ⟨ao, cap, b, off, rfl, hao, hl, hm, hc⟩ := hv
  obtain ⟨ao', cap', b', off', rfl, hao', hl', hm', hc'⟩ := hu
  simp only [List.length_map] at hl HV hl' HU hao hao' ⊢
  unfold maxLen at hm hm'
  have HC := hid hc; have HA := hid hao; have HC' := hid hc'; have HA' := hid hao'
  clear hc hao hc' hao'
  cases g1 : partsB xs ws
  · have HE := hid (wg_no (xs := xs) (ws := ws) (x := ab .f32 x) (wd := ab .f32 wd) (by simp [wgAll, wgOk, g1]))
    have G1 := hid g1; clear g1
    go_enter Try.func16, Try.ntmps16
    go_wp2_with (first | (go_at_call 26; (with_reducible refine (areParticles_any _ _ xs ws _ (HV.out.below (by (repeat (first | (with_reducible assumption) | (with_reducible apply below_refl) | (with_reducible apply below_alloc1) | (with_reducible apply below_drewN1) | (with_reducible apply below_drew1))))) (HU.out.below (by (repeat (first | (with_reducible assumption) | (with_reducible apply below_refl) | (with_reducible apply below_alloc1) | (with_reducible apply below_drewN1) | (with_reducible apply below_drew1)))))).mono ?_); rw [G1.out]; rintro e w' ⟨rfl, hb⟩; have hB : Below w.heap.size w w' := below_trans (by (repeat (first | (with_reducible assumption) | (with_reducible apply below_refl) | (with_reducible apply below_alloc1) | (with_reducible apply below_drewN1) | (with_reducible apply below_drew1)))) hb; have hC := (bcell hB).1; clear hb))
    go_ret2
    exact frow_no HE.out.1 HE.out.2 (by assumption)
  have G1 := hid g1
  cases g2 : finite32 (ab .f32 x)
  · have HE := hid (wg_no (xs := xs) (ws := ws) (x := ab .f32 x) (wd := ab .f32 wd) (by simp [wgAll, wgOk, g2]))
    have G2 := hid g2; clear g1 g2
    go_enter Try.func16, Try.ntmps16
    go_wp2_with (first | (go_at_call 26; (with_reducible refine (areParticles_any _ _ xs ws _ (HV.out.below (by (repeat (first | (with_reducible assumption) | (with_reducible apply below_refl) | (with_reducible apply below_alloc1) | (with_reducible apply below_drewN1) | (with_reducible apply below_drew1))))) (HU.out.below (by (repeat (first | (with_reducible assumption) | (with_reducible apply below_refl) | (with_reducible apply below_alloc1) | (with_reducible apply below_drewN1) | (with_reducible apply below_drew1)))))).mono ?_); rw [G1.out]; rintro e w' ⟨rfl, hb⟩; have hB : Below w.heap.size w w' := below_trans (by (repeat (first | (with_reducible assumption) | (with_reducible apply below_refl) | (with_reducible apply below_alloc1) | (with_reducible apply below_drewN1) | (with_reducible apply below_drew1)))) hb; have hC := (bcell hB).1; clear hb) | (go_at_call 28; (with_reducible refine (implFinite_any _ _).mono ?_); rw [G2.out]; rintro e w' ⟨rfl, hb⟩; have hB : Below w.heap.size w w' := below_trans (by (repeat (first | (with_reducible assumption) | (with_reducible apply below_refl) | (with_reducible apply below_alloc1) | (with_reducible apply below_drewN1) | (with_reducible apply below_drew1)))) hb; have hC := (bcell hB).1; clear hb))
    go_ret2
    exact frow_no HE.out.1 HE.out.2 (by assumption)
  have G2 := hid g2
  cases g3 : moreB (ab .f32 wd)
  · have HE := hid (wg_no (xs := xs) (ws := ws) (x := ab .f32 x) (wd := ab .f32 wd) (by simp [wgAll, wgOk, g3]))
    have G3 := hid g3; clear g1 g2 g3
    go_enter Try.func16, Try.ntmps16
    go_wp2_with (first | (go_at_call 26; (with_reducible refine (areParticles_any _ _ xs ws _ (HV.out.below (by (repeat (first | (with_reducible assumption) | (with_reducible apply below_refl) | (with_reducible apply below_alloc1) | (with_reducible apply below_drewN1) | (with_reducible apply below_drew1))))) (HU.out.below (by (repeat (first | (with_reducible assumption) | (with_reducible apply below_refl) | (with_reducible apply below_alloc1) | (with_reducible apply below_drewN1) | (with_reducible apply below_drew1)))))).mono ?_); rw [G1.out]; rintro e w' ⟨rfl, hb⟩; have hB : Below w.heap.size w w' := below_trans (by (repeat (first | (with_reducible assumption) | (with_reducible apply below_refl) | (with_reducible apply below_alloc1) | (with_reducible apply below_drewN1) | (with_reducible apply below_drew1)))) hb; have hC := (bcell hB).1; clear hb) | (go_at_call 28; (with_reducible refine (implFinite_any _ _).mono ?_); rw [G2.out]; rintro e w' ⟨rfl, hb⟩; have hB : Below w.heap.size w w' := below_trans (by (repeat (first | (with_reducible assumption) | (with_reducible apply below_refl) | (with_reducible apply below_alloc1) | (with_reducible apply below_drewN1) | (with_reducible apply below_drew1)))) hb; have hC := (bcell hB).1; clear hb) | (go_at_call 27; (with_reducible refine (areMore_1 _ _ rfl G3.out _ (rowAt_alloc _ _ [.float .f32 _] (by simp [maxLen]))).mono ?_); rintro e w' ⟨rfl, hb⟩; have hB : Below w.heap.size w w' := below_trans (by (repeat (first | (with_reducible assumption) | (with_reducible apply below_refl) | (with_reducible apply below_alloc1) | (with_reducible apply below_drewN1) | (with_reducible apply below_drew1)))) hb; have hC := (bcell hB).1; clear hb))
    go_ret2
    exact frow_no HE.out.1 HE.out.2 (by assumption)
  have G3 := hid g3
  have HOK := hid (show wgOk xs ws (ab .f32 x) (ab .f32 wd) = true by simp [wgOk, g1, g2, g3])
  have HNEG := hid (wg_neg g3)
  obtain ⟨l1, l2, l3⟩ := partsB_true g1
  have HL3 := hid l3
  obtain rfl := HA.out (by omega)
  obtain rfl := HA'.out (by omega)
  clear g1 g2 g3 l3
  go_enter Try.func16, Try.ntmps16
  go_wp2_with (first | (go_at_call 26; (with_reducible refine (areParticles_any _ _ xs ws _ (HV.out.below (by (repeat (first | (with_reducible assumption) | (with_reducible apply below_refl) | (with_reducible apply below_alloc1) | (with_reducible apply below_drewN1) | (with_reducible apply below_drew1))))) (HU.out.below (by (repeat (first | (with_reducible assumption) | (with_reducible apply below_refl) | (with_reducible apply below_alloc1) | (with_reducible apply below_drewN1) | (with_reducible apply below_drew1)))))).mono ?_); rw [G1.out]; rintro e w' ⟨rfl, hb⟩; have hB : Below w.heap.size w w' := below_trans (by (repeat (first | (with_reducible assumption) | (with_reducible apply below_refl) | (with_reducible apply below_alloc1) | (with_reducible apply below_drewN1) | (with_reducible apply below_drew1)))) hb; have hC := (bcell hB).1; clear hb) | (go_at_call 28; (with_reducible refine (implFinite_any _ _).mono ?_); rw [G2.out]; rintro e w' ⟨rfl, hb⟩; have hB : Below w.heap.size w w' := below_trans (by (repeat (first | (with_reducible assumption) | (with_reducible apply below_refl) | (with_reducible apply below_alloc1) | (with_reducible apply below_drewN1) | (with_reducible apply below_drew1)))) hb; have hC := (bcell hB).1; clear hb) | (go_at_call 27; (with_reducible refine (areMore_1 _ _ rfl G3.out _ (rowAt_alloc _ _ [.float .f32 _] (by simp [maxLen]))).mono ?_); rintro e w' ⟨rfl, hb⟩; have hB : Below w.heap.size w w' := below_trans (by (repeat (first | (with_reducible assumption) | (with_reducible apply below_refl) | (with_reducible apply below_alloc1) | (with_reducible apply below_drewN1) | (with_reducible apply below_drew1)))) hb; have hC := (bcell hB).1; clear hb) | (refine upon_float rfl ?_; intro r n hr; go_simp))
  have HBY := hid (show ab .f32 r = wgBy (ab .f32 wd) by rw [wgBy]; simp only [*, ab_two32])
  generalize r = B at HBY ⊢
  rw [← HBY.out] at HNEG
  have hsz := (show Below w.heap.size w _ from by assumption).size
  go_loopw [10, 39] (fun v y wr => ∃ (k : Nat) (zs : List Nat), k ≤ xs.length ∧ y = .int .i64 k ∧ Hid (zs.map (ab .f32) = wgL xs ws (ab .f32 x) (ab .f32 B) k) ∧ Hid (wr.ownsRow w.heap.size 23 1 v (zs.map (Value.float .f32)).length (zs.map (Value.float .f32))) ∧ Below w.heap.size w wr) (fun _ y _ => xs.length - (intOf y).toNat)
  case atStart => exact ⟨0, [], by omega, rfl, hid rfl, hid (ownsRow_below (World.ownsRow_made _ #[] 0 hsz (by simp [maxLen]) rfl) (below_drewN _ _)), by (repeat (first | (with_reducible assumption) | (with_reducible apply below_refl) | (with_reducible apply below_alloc1) | (with_reducible apply below_drewN1) | (with_reducible apply below_drew1)))⟩
  case round =>
    obtain ⟨k, zs, hk, rfl, hx, ho, hw⟩ := hrel
    have hlen : zs.length = k := by have := congrArg List.length hx.out; simpa [wgL_len] using this
    have HLEN := hid hlen; clear hlen
    by_cases hlt : k < xs.length
    · have l3 := HL3.out
      have hlt2 : k < ws.length := by omega
      have hcell := rowc HC.out hw k hlt
      have hcell2 := rowc HC'.out hw k hlt2
      have hbl2 : b' < wr.heap.size := World.block_lt_of_cell? wr _ hcell2
      have hgx := getD_atM xs k hlt
      have hgw := getD_atM ws k hlt2
      have hk0 : (0 : Int) ≤ (k : Int) := by omega
      have hltI : (k : Int) < (ws.length : Int) := by omega
      have hX : wgX xs ws (ab .f32 x) (ab .f32 B) k = fop .mul .f32 (ab .f32 ws[k]) (exX (wgArg (ab .f32 xs[k]) (ab .f32 x) (ab .f32 B))) := by rw [wgX, hgx, hgw]
      generalize xs[k] = p at hcell hX
      generalize ws[k] = q at hcell2 hX
      have HX := hid hX
      clear hgx hgw hX l3
      go_wp2_with (refine upon_float rfl ?_; intro r n hr; go_simp)
      have HD := hid hr
      obtain ⟨fe1, fe2, fe3, fe4⟩ := run_fres4 Try.prog
      obtain ⟨fa1, fa2, fa3, fa4⟩ := ab_fres4
      generalize r = d at HD ⊢
      clear hr
      go_region_law (first
          | (go_simp; go_at_call 41; refine (implExp_at (a := wgArg (ab .f32 p) (ab .f32 x) (ab .f32 B)) (by simp only [fa1, fa2, fa3, fa4, HD.out, wgArg, ab_z32]) (HNEG.out _ _) _).mono ?_; rintro e w' ⟨y, rfl, hy, hb⟩; have hW : Below wr.heap.size wr w' := below_trans (by (repeat (first | (with_reducible assumption) | (with_reducible apply below_refl) | (with_reducible apply below_alloc1) | (with_reducible apply below_drewN1) | (with_reducible apply below_drew1)))) hb; have hO := hid (ownsRow_below ho.out hW); have hcq := (bcell hW).1; clear hb)
          | (refine step_push rfl _ _ 22 rfl Try.underlying22 hi0 hz0 hz1 hz2 rfl w.heap.size _ _ (by simp [Act.eval, Act.put]) (by simp [Act.eval, Act.put]) (ownsRow_below hO.out (by (repeat (first | (with_reducible assumption) | (with_reducible apply below_refl) | (with_reducible apply below_alloc1) | (with_reducible apply below_drewN1) | (with_reducible apply below_drew1))))) rfl (by rw [List.length_map, HLEN.out]; omega) (by decide) (Nat.le_trans hw.size (Below.size (below_trans hW (by (repeat (first | (with_reducible assumption) | (with_reducible apply below_refl) | (with_reducible apply below_alloc1) | (with_reducible apply below_drewN1) | (with_reducible apply below_drew1))))))) ?_; intro v1 w2 hown hb2))
      all_goals
        obtain ⟨zs2, hz3, hz4⟩ := pushed (o := wgX xs ws (ab .f32 x) (ab .f32 B) k) hown hx.out (by rw [HX.out]; simp only [fa1, fa2, fa3, fa4, hy])
        go_wp2_with fail
        go_roundw
        case rel =>
          exact ⟨k + 1, zs2, by omega, by go_num, hid (by rw [wgL_next]; exact hz3), hid hz4, (below_trans (below_trans hw hW) (by (repeat (first | (with_reducible assumption) | (with_reducible apply below_refl) | (with_reducible apply below_alloc1) | (with_reducible apply below_drewN1) | (with_reducible apply below_drew1))))).trans hb2⟩
        case measure => simp [intOf]; omega
    · obtain rfl : k = xs.length := by omega
      have hS : sumX zs zs.length = wgSum xs ws (ab .f32 x) (ab .f32 B) xs.length := by rw [HLEN.out]; exact sum_reads hx.out xs.length (Nat.le_refl _)
      have HS := hid hS; clear hS
      have HROW0 := hid (Own.mk' ho.out).row
      obtain ⟨g, capo, rfl, hg0, hg1⟩ := ho.out.form (show 0 < (zs.map (Value.float .f32)).length by rw [List.length_map, HLEN.out]; omega)
      have HROW := HROW0
      simp only [List.length_map, HLEN.out] at ho HROW ⊢
      have hT : wgTot xs ws (ab .f32 x) (ab .f32 wd) = wgSum xs ws (ab .f32 x) (ab .f32 B) xs.length := by rw [wgTot, ← HBY.out]
      have HT := hid hT; clear hT
      cases ht : (ford .f32 (wgSum xs ws (ab .f32 x) (ab .f32 B) xs.length) (some 0) == some .gt)
      · have HE := hid (wg_no (xs := xs) (ws := ws) (x := ab .f32 x) (wd := ab .f32 wd) (by rw [wgAll, HT.out, ht]; simp))
        go_wp2_with (first | (go_at_call 42; refine (addUp_any _ zs _ HROW.out).mono ?_; rw [HS.out]; rintro e w' ⟨r, rfl, hr, hb⟩; have hB : Below wr.heap.size wr w' := below_trans (by (repeat (first | (with_reducible assumption) | (with_reducible apply below_refl) | (with_reducible apply below_alloc1) | (with_reducible apply below_drewN1) | (with_reducible apply below_drew1)))) hb; clear hb))
        go_ret2
        exact frow_no HE.out.1 HE.out.2 (below_trans hw (by (repeat (first | (with_reducible assumption) | (with_reducible apply below_refl) | (with_reducible apply below_alloc1) | (with_reducible apply below_drewN1) | (with_reducible apply below_drew1)))))
      have HTT := hid ht
      go_wp2_with (first | (go_at_call 42; refine (addUp_any _ zs _ HROW.out).mono ?_; rw [HS.out]; rintro e w' ⟨r, rfl, hr, hb⟩; have hB : Below wr.heap.size wr w' := below_trans (by (repeat (first | (with_reducible assumption) | (with_reducible apply below_refl) | (with_reducible apply below_alloc1) | (with_reducible apply below_drewN1) | (with_reducible apply below_drew1)))) hb; clear hb))
      have HR := hid hr
      clear hr
      generalize r = S at HR ht ⊢
      have HO1 := hid (ownsRow_below ho.out (show Below wr.heap.size wr _ by assumption))
      have hw1 := below_trans hw (show Below wr.heap.size wr _ by assumption)
      have hmix : zs.map (ab .f32) = wgMix xs ws (ab .f32 x) (ab .f32 B) (ab .f32 S) xs.length 0 := by rw [wgMix_zero]; exact hx.out
      have HMIX := hid hmix; clear hmix
      have hRes : wgRes xs ws (ab .f32 x) (ab .f32 wd) = wgMix xs ws (ab .f32 x) (ab .f32 B) (ab .f32 S) xs.length xs.length := by rw [wgRes, HT.out, ← HBY.out, HR.out]
      have HRES := hid hRes; clear hRes
      go_loopw [70] (fun i w2 => ∃ (j : Nat) (us : List Nat), j ≤ xs.length ∧ i = .int .i64 j ∧ Hid (us.length = xs.length) ∧ Hid (us.map (ab .f32) = wgMix xs ws (ab .f32 x) (ab .f32 B) (ab .f32 S) xs.length j) ∧ Hid (w2.ownsRow w.heap.size 23 1 (.slice (some ⟨g, 0, none⟩) xs.length capo) xs.length (us.map (Value.float .f32))) ∧ Below w.heap.size w w2) (fun i _ => xs.length - (intOf i).toNat)
      case atStart => exact ⟨0, zs, by omega, rfl, HLEN, HMIX, HO1, hw1⟩
      case round =>
        obtain ⟨j, us, hj, rfl, hul, hum, hou, hwj⟩ := hrel
        by_cases hjt : j < xs.length
        · have hjI : (j : Int) < (xs.length : Int) := by omega
          have hj0 : (0 : Int) ≤ (j : Int) := by omega
          have hju : j < us.length := by rw [hul.out]; exact hjt
          have hcell : wr.cell? ⟨g, j, none⟩ = some (.float .f32 us[j]) := by
            rw [hou.out.cellAt j (by omega)]; simp [hju]
          have hfr : wr.frozen? ⟨g, j, none⟩ = false := hou.out.frozenAt j
          have hread : ab .f32 us[j] = wgX xs ws (ab .f32 x) (ab .f32 B) j := by
            have h1 := wgMix_get xs ws (ab .f32 x) (ab .f32 B) (ab .f32 S) xs.length j hjt
            rw [← hum.out] at h1
            simpa [hju] using h1
          generalize us[j] = y at hcell hread
          have HREAD := hid hread; clear hread
          go_wp2_with (first | (refine upon_float rfl ?_; intro r n hr; go_simp))
          have hst := (ownsRow_below hou.out (below_drewN _ n)).stored j (Value.float .f32 r)
          go_roundw
          case rel =>
            refine ⟨j + 1, us.set j r, by omega, by go_num, hid (by rw [List.length_set]; exact hul.out), hid ?_, hid ?_, ?_⟩
            · rw [List.map_set, hum.out, hr, HREAD.out]
              exact wgMix_next xs ws (ab .f32 x) (ab .f32 B) (ab .f32 S) xs.length j hjt
            · rw [List.map_set]; exact hst.1
            · exact below_setCell1 (below_drewN1 hwj) hg0
          case measure => simp [intOf]; omega
        · obtain rfl : j = xs.length := by omega
          have HROW2 := hid (show RowAt wr (.slice (some ⟨g, 0, none⟩) xs.length capo) (us.map (Value.float .f32)) from (Own.mk' (by rw [List.length_map, hul.out]; exact hou.out)).row)
          cases hfin : finL (wgRes xs ws (ab .f32 x) (ab .f32 wd))
          · have HE := hid (wg_no (xs := xs) (ws := ws) (x := ab .f32 x) (wd := ab .f32 wd) (by rw [wgAll, hfin]; simp))
            have HF := hid (show (us.all fun b => finB (ab .f32 b)) = false by rw [finL_map, hum.out, ← HRES.out, hfin])
            clear hfin
            go_wp2_with ((go_at_call 30; (with_reducible refine (ifAll_no _ us HF.out _ HROW2.out).mono ?_); rintro e w' ⟨rfl, hb⟩; have hB : Below wr.heap.size wr w' := below_trans (by (repeat (first | (with_reducible assumption) | (with_reducible apply below_refl) | (with_reducible apply below_alloc1) | (with_reducible apply below_drewN1) | (with_reducible apply below_drew1)))) hb; have hC := (bcell hB).1; clear hb))
            go_ret2
            exact frow_no HE.out.1 HE.out.2 (below_trans hwj (by assumption))
          · have hall : wgAll xs ws (ab .f32 x) (ab .f32 wd) = true := by rw [wgAll, HOK.out, HT.out, HTT.out, hfin]; rfl
            have HALL := hid hall
            have HE := hid (wg_yes hall)
            have HF := hid (show (us.all fun b => finB (ab .f32 b)) = true by rw [finL_map, hum.out, ← HRES.out, hfin])
            have HXX := hid (show us = bitsOf (wgRes xs ws (ab .f32 x) (ab .f32 wd)) from ab_bits _ _ (by rw [hum.out, HRES.out]) hfin)
            clear hfin hall
            go_wp2_with ((go_at_call 30; (with_reducible refine (ifAll_yes _ us HF.out _ HROW2.out).mono ?_); rintro e w' ⟨rfl, hb⟩; have hB : Below wr.heap.size wr w' := below_trans (by (repeat (first | (with_reducible assumption) | (with_reducible apply below_refl) | (with_reducible apply below_alloc1) | (with_reducible apply below_drewN1) | (with_reducible apply below_drew1)))) hb; have hC := (bcell hB).1; clear hb))
            go_ret2
            exact frow_yes HALL.out (by rw [HE.out, ← HXX.out, List.length_map, hul.out]; exact ownsRow_below hou.out (by assumption)) (below_trans hwj (by assumption))
end Go.Proofs.Ytdldlfefbeflcaa
