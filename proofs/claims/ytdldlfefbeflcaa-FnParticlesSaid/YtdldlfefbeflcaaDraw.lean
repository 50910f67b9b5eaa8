/- Contracts: DrawAgain. -/
import Derived.Test.YtdldlfefbeflcaaMove
import Derived.Test.YtdldlfefbeflcaaLine
import Derived.Test.YtdldlfefbeflcaaQuiet
namespace Go.Proofs.Ytdldlfefbeflcaa
open Go.RowKit

def drawBar (s A : Option Nat) (n : Nat) (i : Nat) : Option Nat := fop .mul .f32 (fop .quo .f32 (fop .add .f32 (some (floatOfInt .f32 (i : Int))) s) (some (floatOfInt .f32 (n : Int)))) A
def drawHit (ws : List Nat) (B : Option Nat) (k : Nat) : Bool := ford .f32 (sumX ws (k + 1)) B == some .gt
/-- The first place where the sum is above the bar, the last one if it never is. -/
def drawPick (ws : List Nat) (B : Option Nat) (n k : Nat) : Nat := (firstAt (drawHit ws B) k).getD (n - 1)
theorem pick_hit {ws : List Nat} {B : Option Nat} {n m k : Nat} (hk : k < m) (hp : drawHit ws B k = true) (hno : ∀ j, j < k → drawHit ws B j = false) : drawPick ws B n m = k := by
  rw [drawPick, firstAt_some hk hp hno]; rfl
theorem pick_none {ws : List Nat} {B : Option Nat} {n m : Nat} (hno : ∀ j, j < m → drawHit ws B j = false) : drawPick ws B n m = n - 1 := by
  rw [drawPick, firstAt_none hno]; rfl
theorem pick_next (ws : List Nat) (B : Option Nat) (n k : Nat) (hk : k < n) : drawPick ws B n (k + 1) = if drawHit ws B k = true ∧ k < drawPick ws B n k then k else drawPick ws B n k := by
  by_cases h : ∃ j, j < k ∧ drawHit ws B j = true
  · obtain ⟨j, hj, hh⟩ := h
    have hex : ∃ j, j < k ∧ drawHit ws B j = true ∧ ∀ i, i < j → drawHit ws B i = false := by
      induction j using Nat.strongRecOn with
      | ind j ih =>
        by_cases h2 : ∃ i, i < j ∧ drawHit ws B i = true
        · obtain ⟨i, hi, hi2⟩ := h2
          exact ih i hi (by omega) hi2
        · exact ⟨j, hj, hh, fun i hi => by
            cases hb : drawHit ws B i with
            | false => rfl
            | true => exact absurd ⟨i, hi, hb⟩ h2⟩
    obtain ⟨j, hj, hh, hno⟩ := hex
    rw [pick_hit (m := k + 1) (by omega) hh hno, pick_hit hj hh hno, if_neg (by omega)]
  · have hno : ∀ j, j < k → drawHit ws B j = false := fun j hj => by
      cases hb : drawHit ws B j with
      | false => rfl
      | true => exact absurd ⟨j, hj, hb⟩ h
    rw [pick_none hno]
    cases hb : drawHit ws B k with
    | true =>
      rw [pick_hit (m := k + 1) (by omega) hb hno]
      by_cases hk2 : k < n - 1
      · simp [hk2]
      · have : k = n - 1 := by omega
        simp [this]
    | false =>
      rw [pick_none (fun j hj => by
        by_cases e : j = k
        · rw [e]; exact hb
        · exact hno j (by omega))]
      simp
theorem pick_lt (ws : List Nat) (B : Option Nat) (n k : Nat) (hn : 0 < n) (hk : k ≤ n) : drawPick ws B n k < n := by
  induction k with
  | zero =>
    rw [pick_none (fun j hj => absurd hj (Nat.not_lt_zero _))]
    omega
  | succ k ih =>
    rw [pick_next ws B n k (by omega)]
    split
    · omega
    · exact ih (by omega)
def drawX (xs ws : List Nat) (s : Option Nat) (i : Nat) : Nat := xs.getD (drawPick ws (drawBar s (sumX ws ws.length) xs.length i) xs.length ws.length) 0
def drawL (xs ws : List Nat) (s : Option Nat) (k : Nat) : List Nat := (List.range k).map (drawX xs ws s)
theorem drawL_next (xs ws : List Nat) (s : Option Nat) (k : Nat) : drawL xs ws s (k + 1) = drawL xs ws s k ++ [drawX xs ws s k] := range_next _ _
theorem drawL_len (xs ws : List Nat) (s : Option Nat) (k : Nat) : (drawL xs ws s k).length = k := by simp [drawL]
def drawAll (xs ws : List Nat) (s : Option Nat) : Bool := partsB xs ws && shareB s && moreB (sumX ws ws.length)
def drawXs (xs ws : List Nat) (s : Option Nat) : List Nat := if drawAll xs ws s then drawL xs ws s xs.length else []
theorem draw_no {xs ws : List Nat} {s : Option Nat} (h : drawAll xs ws s = false) : drawXs xs ws s = [] ∧ drawAll xs ws s = false := by simp [drawXs, h]
theorem draw_yes {xs ws : List Nat} {s : Option Nat} (h : drawAll xs ws s = true) : drawXs xs ws s = drawL xs ws s xs.length := by simp [drawXs, h]
theorem partsB_true {xs ws : List Nat} (h : partsB xs ws = true) : 1 ≤ xs.length ∧ xs.length ≤ 64 ∧ ws.length = xs.length := by
  simp only [partsB, Bool.and_eq_true, decide_eq_true_eq] at h
  have := cloudB_true h.1.1
  exact ⟨this.1, this.2.1, h.1.2⟩
theorem drawXs_len (xs ws : List Nat) (s : Option Nat) : (drawXs xs ws s).length ≤ 64 := by
  cases h : drawAll xs ws s
  · rw [(draw_no h).1]; simp
  · rw [draw_yes h]
    simp only [drawAll, Bool.and_eq_true] at h
    rw [drawL_len]
    exact (partsB_true h.1.1).2.1
theorem areMore_1 (v : Value) (x : Nat) {a : Option Nat} {r : Bool} (h1 : ab .f32 x = a) (h : moreB a = r) (w : World) (hv : RowAt w v ([x].map (Value.float .f32))) :
    Calls Try.prog 27 #[v] w fun e w' => e = .returned (.bool r) ∧ Below w.heap.size w w' := by
  have : ([x].all fun b => moreB (ab .f32 b)) = r := by rw [← h, ← h1]; simp
  exact this ▸ areMore_any v [x] w hv
theorem draw_append (L : List Nat) (x : Nat) : (L ++ [x]).map (Value.float .f32) = L.map (Value.float .f32) ++ [Value.float .f32 x] := fl_vals L x

set_option maxRecDepth 100000 in
set_option maxHeartbeats 2000000 in
theorem implDraw_any (v u : Value) (xs ws : List Nat) (s : Nat) (w : World) (hv : RowAt w v (xs.map (Value.float .f32))) (hu : RowAt w u (ws.map (Value.float .f32))) :
    Calls Try.prog 17 #[v, u, .float .f32 s] w (FRowOk 23 (drawXs xs ws (ab .f32 s)) (drawAll xs ws (ab .f32 s)) w) := by
  obtain ⟨i0, hi0, hz0, hz1, hz2⟩ := info_parts (P := Try.prog) (e := 23) (z := Value.float .f32 0) (size := 1) (bytes := 4) (by kernel_rfl)
  have HV := hid hv
  have HU := hid hu
  obtain ⟨ao, cap, b, off, rfl, hao, hl, hm, hc⟩ := hv
  obtain ⟨ao', cap', b', off', rfl, hao', hl', hm', hc'⟩ := hu
  simp only [List.length_map] at hl HV hl' HU hao hao' ⊢
  unfold maxLen at hm hm'
  have HC := hid hc; have HA := hid hao; have HC' := hid hc'; have HA' := hid hao'
  clear hc hao hc' hao'
  cases g1 : partsB xs ws
  · have HE := hid (draw_no (xs := xs) (ws := ws) (s := ab .f32 s) (by simp [drawAll, g1]))
    have G1 := hid g1; clear g1
    go_enter Try.func17, Try.ntmps17
    go_wp2_with (first | (go_at_call 26; (with_reducible refine (areParticles_any _ _ xs ws _ (HV.out.below (by (repeat (first | (with_reducible assumption) | (with_reducible apply below_refl) | (with_reducible apply below_alloc1) | (with_reducible apply below_drewN1) | (with_reducible apply below_drew1))))) (HU.out.below (by (repeat (first | (with_reducible assumption) | (with_reducible apply below_refl) | (with_reducible apply below_alloc1) | (with_reducible apply below_drewN1) | (with_reducible apply below_drew1)))))).mono ?_); rw [G1.out]; rintro e w' ⟨rfl, hb⟩; have hB : Below w.heap.size w w' := below_trans (by (repeat (first | (with_reducible assumption) | (with_reducible apply below_refl) | (with_reducible apply below_alloc1) | (with_reducible apply below_drewN1) | (with_reducible apply below_drew1)))) hb; have hC := (bcell hB).1; clear hb))
    go_ret2
    exact frow_no HE.out.1 HE.out.2 (by assumption)
  have G1 := hid g1
  cases g2 : shareB (ab .f32 s)
  · have HE := hid (draw_no (xs := xs) (ws := ws) (s := ab .f32 s) (by simp [drawAll, g2]))
    have G2 := hid g2; clear g1 g2
    go_enter Try.func17, Try.ntmps17
    go_wp2_with (first | (go_at_call 26; (with_reducible refine (areParticles_any _ _ xs ws _ (HV.out.below (by (repeat (first | (with_reducible assumption) | (with_reducible apply below_refl) | (with_reducible apply below_alloc1) | (with_reducible apply below_drewN1) | (with_reducible apply below_drew1))))) (HU.out.below (by (repeat (first | (with_reducible assumption) | (with_reducible apply below_refl) | (with_reducible apply below_alloc1) | (with_reducible apply below_drewN1) | (with_reducible apply below_drew1)))))).mono ?_); rw [G1.out]; rintro e w' ⟨rfl, hb⟩; have hB : Below w.heap.size w w' := below_trans (by (repeat (first | (with_reducible assumption) | (with_reducible apply below_refl) | (with_reducible apply below_alloc1) | (with_reducible apply below_drewN1) | (with_reducible apply below_drew1)))) hb; have hC := (bcell hB).1; clear hb) | (go_at_call 43; (with_reducible refine (isShare_any _ _).mono ?_); rw [G2.out]; rintro e w' ⟨rfl, hb⟩; have hB : Below w.heap.size w w' := below_trans (by (repeat (first | (with_reducible assumption) | (with_reducible apply below_refl) | (with_reducible apply below_alloc1) | (with_reducible apply below_drewN1) | (with_reducible apply below_drew1)))) hb; have hC := (bcell hB).1; clear hb))
    go_ret2
    exact frow_no HE.out.1 HE.out.2 (by assumption)
  have G2 := hid g2
  cases g3 : moreB (sumX ws ws.length)
  · have HE := hid (draw_no (xs := xs) (ws := ws) (s := ab .f32 s) (by simp [drawAll, g3]))
    have G3 := hid g3; clear g1 g2 g3
    go_enter Try.func17, Try.ntmps17
    go_wp2_with (first | (go_at_call 26; (with_reducible refine (areParticles_any _ _ xs ws _ (HV.out.below (by (repeat (first | (with_reducible assumption) | (with_reducible apply below_refl) | (with_reducible apply below_alloc1) | (with_reducible apply below_drewN1) | (with_reducible apply below_drew1))))) (HU.out.below (by (repeat (first | (with_reducible assumption) | (with_reducible apply below_refl) | (with_reducible apply below_alloc1) | (with_reducible apply below_drewN1) | (with_reducible apply below_drew1)))))).mono ?_); rw [G1.out]; rintro e w' ⟨rfl, hb⟩; have hB : Below w.heap.size w w' := below_trans (by (repeat (first | (with_reducible assumption) | (with_reducible apply below_refl) | (with_reducible apply below_alloc1) | (with_reducible apply below_drewN1) | (with_reducible apply below_drew1)))) hb; have hC := (bcell hB).1; clear hb) | (go_at_call 43; (with_reducible refine (isShare_any _ _).mono ?_); rw [G2.out]; rintro e w' ⟨rfl, hb⟩; have hB : Below w.heap.size w w' := below_trans (by (repeat (first | (with_reducible assumption) | (with_reducible apply below_refl) | (with_reducible apply below_alloc1) | (with_reducible apply below_drewN1) | (with_reducible apply below_drew1)))) hb; have hC := (bcell hB).1; clear hb) | (go_at_call 42; (with_reducible refine (addUp_any _ ws _ (HU.out.below (by (repeat (first | (with_reducible assumption) | (with_reducible apply below_refl) | (with_reducible apply below_alloc1) | (with_reducible apply below_drewN1) | (with_reducible apply below_drew1)))))).mono ?_); rintro e w' ⟨r, rfl, hr, hb⟩; (try replace oS := hid (OwnAt.step oS.out (below_trans (by (repeat (first | (with_reducible assumption) | (with_reducible apply below_refl) | (with_reducible apply below_alloc1) | (with_reducible apply below_drewN1) | (with_reducible apply below_drew1)))) hb))); (try replace oX := hid (OwnAt.step oX.out (below_trans (by (repeat (first | (with_reducible assumption) | (with_reducible apply below_refl) | (with_reducible apply below_alloc1) | (with_reducible apply below_drewN1) | (with_reducible apply below_drew1)))) hb))); (try replace oG := hid (OwnAt.step oG.out (below_trans (by (repeat (first | (with_reducible assumption) | (with_reducible apply below_refl) | (with_reducible apply below_alloc1) | (with_reducible apply below_drewN1) | (with_reducible apply below_drew1)))) hb))); (try replace oH := hid (OwnAt.step oH.out (below_trans (by (repeat (first | (with_reducible assumption) | (with_reducible apply below_refl) | (with_reducible apply below_alloc1) | (with_reducible apply below_drewN1) | (with_reducible apply below_drew1)))) hb))); (try replace oY := hid (OwnAt.step oY.out (below_trans (by (repeat (first | (with_reducible assumption) | (with_reducible apply below_refl) | (with_reducible apply below_alloc1) | (with_reducible apply below_drewN1) | (with_reducible apply below_drew1)))) hb))); (try replace oZ := hid (OwnAt.step oZ.out (below_trans (by (repeat (first | (with_reducible assumption) | (with_reducible apply below_refl) | (with_reducible apply below_alloc1) | (with_reducible apply below_drewN1) | (with_reducible apply below_drew1)))) hb))); (try replace oK := hid (OwnAt.step oK.out (below_trans (by (repeat (first | (with_reducible assumption) | (with_reducible apply below_refl) | (with_reducible apply below_alloc1) | (with_reducible apply below_drewN1) | (with_reducible apply below_drew1)))) hb))); (try replace oM := hid (OwnAt.step oM.out (below_trans (by (repeat (first | (with_reducible assumption) | (with_reducible apply below_refl) | (with_reducible apply below_alloc1) | (with_reducible apply below_drewN1) | (with_reducible apply below_drew1)))) hb))); (try replace oT := hid (OwnAt.step oT.out (below_trans (by (repeat (first | (with_reducible assumption) | (with_reducible apply below_refl) | (with_reducible apply below_alloc1) | (with_reducible apply below_drewN1) | (with_reducible apply below_drew1)))) hb))); (try replace oU := hid (OwnAt.step oU.out (below_trans (by (repeat (first | (with_reducible assumption) | (with_reducible apply below_refl) | (with_reducible apply below_alloc1) | (with_reducible apply below_drewN1) | (with_reducible apply below_drew1)))) hb))); (try replace oV := hid (OwnAt.step oV.out (below_trans (by (repeat (first | (with_reducible assumption) | (with_reducible apply below_refl) | (with_reducible apply below_alloc1) | (with_reducible apply below_drewN1) | (with_reducible apply below_drew1)))) hb))); have hB : Below w.heap.size w _ := below_trans (by (repeat (first | (with_reducible assumption) | (with_reducible apply below_refl) | (with_reducible apply below_alloc1) | (with_reducible apply below_drewN1) | (with_reducible apply below_drew1)))) hb; have hC := (bcell hB).1; clear hb) | (go_at_call 27; refine (areMore_1 _ _ (by assumption) G3.out _ (rowAt_alloc _ _ [.float .f32 _] (by simp [maxLen]))).mono ?_; rintro e w' ⟨rfl, hb⟩; have hB : Below w.heap.size w w' := below_trans (by (repeat (first | (with_reducible assumption) | (with_reducible apply below_refl) | (with_reducible apply below_alloc1) | (with_reducible apply below_drewN1) | (with_reducible apply below_drew1)))) hb; have hC := (bcell hB).1; clear hb))
    go_ret2
    exact frow_no HE.out.1 HE.out.2 (by assumption)
  have G3 := hid g3
  have hall : drawAll xs ws (ab .f32 s) = true := by simp [drawAll, g1, g2, g3]
  have HALL := hid hall
  have HE := hid (draw_yes hall)
  obtain ⟨l1, l2, l3⟩ := partsB_true g1
  have HL3 := hid l3
  obtain rfl := HA.out (by omega)
  obtain rfl := HA'.out (by omega)
  clear g1 g2 g3 hall l3
  go_enter Try.func17, Try.ntmps17
  go_wp2_with (first | (go_at_call 26; (with_reducible refine (areParticles_any _ _ xs ws _ (HV.out.below (by (repeat (first | (with_reducible assumption) | (with_reducible apply below_refl) | (with_reducible apply below_alloc1) | (with_reducible apply below_drewN1) | (with_reducible apply below_drew1))))) (HU.out.below (by (repeat (first | (with_reducible assumption) | (with_reducible apply below_refl) | (with_reducible apply below_alloc1) | (with_reducible apply below_drewN1) | (with_reducible apply below_drew1)))))).mono ?_); rw [G1.out]; rintro e w' ⟨rfl, hb⟩; have hB : Below w.heap.size w w' := below_trans (by (repeat (first | (with_reducible assumption) | (with_reducible apply below_refl) | (with_reducible apply below_alloc1) | (with_reducible apply below_drewN1) | (with_reducible apply below_drew1)))) hb; have hC := (bcell hB).1; clear hb) | (go_at_call 43; (with_reducible refine (isShare_any _ _).mono ?_); rw [G2.out]; rintro e w' ⟨rfl, hb⟩; have hB : Below w.heap.size w w' := below_trans (by (repeat (first | (with_reducible assumption) | (with_reducible apply below_refl) | (with_reducible apply below_alloc1) | (with_reducible apply below_drewN1) | (with_reducible apply below_drew1)))) hb; have hC := (bcell hB).1; clear hb) | (go_at_call 42; (with_reducible refine (addUp_any _ ws _ (HU.out.below (by (repeat (first | (with_reducible assumption) | (with_reducible apply below_refl) | (with_reducible apply below_alloc1) | (with_reducible apply below_drewN1) | (with_reducible apply below_drew1)))))).mono ?_); rintro e w' ⟨r, rfl, hr, hb⟩; (try replace oS := hid (OwnAt.step oS.out (below_trans (by (repeat (first | (with_reducible assumption) | (with_reducible apply below_refl) | (with_reducible apply below_alloc1) | (with_reducible apply below_drewN1) | (with_reducible apply below_drew1)))) hb))); (try replace oX := hid (OwnAt.step oX.out (below_trans (by (repeat (first | (with_reducible assumption) | (with_reducible apply below_refl) | (with_reducible apply below_alloc1) | (with_reducible apply below_drewN1) | (with_reducible apply below_drew1)))) hb))); (try replace oG := hid (OwnAt.step oG.out (below_trans (by (repeat (first | (with_reducible assumption) | (with_reducible apply below_refl) | (with_reducible apply below_alloc1) | (with_reducible apply below_drewN1) | (with_reducible apply below_drew1)))) hb))); (try replace oH := hid (OwnAt.step oH.out (below_trans (by (repeat (first | (with_reducible assumption) | (with_reducible apply below_refl) | (with_reducible apply below_alloc1) | (with_reducible apply below_drewN1) | (with_reducible apply below_drew1)))) hb))); (try replace oY := hid (OwnAt.step oY.out (below_trans (by (repeat (first | (with_reducible assumption) | (with_reducible apply below_refl) | (with_reducible apply below_alloc1) | (with_reducible apply below_drewN1) | (with_reducible apply below_drew1)))) hb))); (try replace oZ := hid (OwnAt.step oZ.out (below_trans (by (repeat (first | (with_reducible assumption) | (with_reducible apply below_refl) | (with_reducible apply below_alloc1) | (with_reducible apply below_drewN1) | (with_reducible apply below_drew1)))) hb))); (try replace oK := hid (OwnAt.step oK.out (below_trans (by (repeat (first | (with_reducible assumption) | (with_reducible apply below_refl) | (with_reducible apply below_alloc1) | (with_reducible apply below_drewN1) | (with_reducible apply below_drew1)))) hb))); (try replace oM := hid (OwnAt.step oM.out (below_trans (by (repeat (first | (with_reducible assumption) | (with_reducible apply below_refl) | (with_reducible apply below_alloc1) | (with_reducible apply below_drewN1) | (with_reducible apply below_drew1)))) hb))); (try replace oT := hid (OwnAt.step oT.out (below_trans (by (repeat (first | (with_reducible assumption) | (with_reducible apply below_refl) | (with_reducible apply below_alloc1) | (with_reducible apply below_drewN1) | (with_reducible apply below_drew1)))) hb))); (try replace oU := hid (OwnAt.step oU.out (below_trans (by (repeat (first | (with_reducible assumption) | (with_reducible apply below_refl) | (with_reducible apply below_alloc1) | (with_reducible apply below_drewN1) | (with_reducible apply below_drew1)))) hb))); (try replace oV := hid (OwnAt.step oV.out (below_trans (by (repeat (first | (with_reducible assumption) | (with_reducible apply below_refl) | (with_reducible apply below_alloc1) | (with_reducible apply below_drewN1) | (with_reducible apply below_drew1)))) hb))); have hB : Below w.heap.size w _ := below_trans (by (repeat (first | (with_reducible assumption) | (with_reducible apply below_refl) | (with_reducible apply below_alloc1) | (with_reducible apply below_drewN1) | (with_reducible apply below_drew1)))) hb; have hC := (bcell hB).1; clear hb) | (go_at_call 27; refine (areMore_1 _ _ (by assumption) G3.out _ (rowAt_alloc _ _ [.float .f32 _] (by simp [maxLen]))).mono ?_; rintro e w' ⟨rfl, hb⟩; have hB : Below w.heap.size w w' := below_trans (by (repeat (first | (with_reducible assumption) | (with_reducible apply below_refl) | (with_reducible apply below_alloc1) | (with_reducible apply below_drewN1) | (with_reducible apply below_drew1)))) hb; have hC := (bcell hB).1; clear hb))
  have HS := hid hr
  generalize r = A at HS ⊢
  have hsz := (show Below w.heap.size w _ from by assumption).size
  go_loopw [9, 37] (fun v y wr => ∃ (k : Nat), k ≤ xs.length ∧ y = .int .i64 k ∧ Hid (wr.ownsRow w.heap.size 23 1 v ((drawL xs ws (ab .f32 s) k).map (Value.float .f32)).length ((drawL xs ws (ab .f32 s) k).map (Value.float .f32))) ∧ Below w.heap.size w wr) (fun _ y _ => xs.length - (intOf y).toNat)
  case atStart => exact ⟨0, by omega, rfl, hid (World.ownsRow_made _ #[] 0 hsz (by simp [maxLen]) rfl), by (repeat (first | (with_reducible assumption) | (with_reducible apply below_refl) | (with_reducible apply below_alloc1) | (with_reducible apply below_drewN1) | (with_reducible apply below_drew1)))⟩
  case round =>
    obtain ⟨k, hk, rfl, ho, hw⟩ := hrel
    by_cases hlt : k < xs.length
    · have hk0 : (k : Int) < (xs.length : Int) := by omega
      have W0 : IntKind.i64.wrap ((xs.length : Int) - 1) = ((xs.length - 1 : Nat) : Int) := by rw [IntKind.wrap_i64]; omega
      go_wp2_with (refine upon_float rfl ?_; intro r n hr; go_simp)
      have HB := hid (show ab .f32 r = drawBar (ab .f32 s) (ab .f32 A) xs.length k by rw [drawBar]; simp only [*, ab_ofInt])
      generalize r = B at HB ⊢
      rw [HS.out] at HB
      have l3 := HL3.out
      have hX := hid (show ∀ p (hp : p < xs.length), drawPick ws (ab .f32 B) xs.length ws.length = p → drawX xs ws (ab .f32 s) k = xs[p] from fun p hp h => by
        unfold drawX; rw [← HB.out, h, getD_atM xs p hp])
      have hw2 := below_trans hw (show Below wr.heap.size wr _ by (repeat (first | (with_reducible assumption) | (with_reducible apply below_refl) | (with_reducible apply below_alloc1) | (with_reducible apply below_drewN1) | (with_reducible apply below_drew1))))
      clear l3
      go_loopw [12, 13, 55] (fun y x i w2 => ∃ (j q : Nat), j ≤ ws.length ∧ y = .int .i64 ((xs.length - 1 : Nat) : Int) ∧ i = .int .i64 j ∧ x = .float .f32 q ∧ ab .f32 q = sumX ws j ∧ Hid (∀ i, i < j → drawHit ws (ab .f32 B) i = false) ∧ Below wr.heap.size wr w2) (fun _ _ i _ => ws.length - (intOf i).toNat)
      case atStart => exact ⟨0, 0, by omega, rfl, rfl, rfl, ab_z32, hid (fun j h => absurd h (Nat.not_lt_zero _)), by (repeat (first | (with_reducible assumption) | (with_reducible apply below_refl) | (with_reducible apply below_alloc1) | (with_reducible apply below_drewN1) | (with_reducible apply below_drew1)))⟩
      case round =>
        obtain ⟨j, q, hj, rfl, rfl, rfl, hq, hno, hwj⟩ := hrel
        have hwwj := below_trans hw hwj
        by_cases hjt : j < ws.length
        · have hcell := rowc HC'.out hwwj j hjt
          have hnx := sumX_next ws j
          rw [atX_get hjt, ← hq] at hnx
          have hh : drawHit ws (ab .f32 B) j = (ford .f32 (fop .add .f32 (ab .f32 q) (ab .f32 ws[j])) (ab .f32 B) == some .gt) := by unfold drawHit; rw [hnx]
          have hjx : j < xs.length := by have := HL3.out; omega
          have hcx := rowc HC.out hwwj j hjx
          have hXj := hX.out j hjx
          have hjI : (j : Int) < (xs.length : Int) := by omega
          have hj0 : (0 : Int) ≤ (j : Int) := by omega
          generalize ws[j] = y at hcell hnx hh
          generalize xs[j] = x at hcx hXj
          have HXJ := hid hXj; have HN := hid hnx
          clear hXj hnx hq
          cases ht : (ford .f32 (fop .add .f32 (ab .f32 q) (ab .f32 y)) (ab .f32 B) == some .gt)
          · have HNO := hid (show ∀ i, i < j + 1 → drawHit ws (ab .f32 B) i = false from fun i hi => by
              by_cases e : i = j
              · rw [e, hh, ht]
              · exact hno.out i (by omega))
            clear hh
            go_wp2_with (refine upon_float rfl ?_; intro r n hr; go_simp)
            go_roundw
            case rel => exact ⟨j + 1, _, by omega, rfl, by go_num, rfl, by rw [HN.out]; simp only [*], HNO, below_trans hwj (by (repeat (first | (with_reducible assumption) | (with_reducible apply below_refl) | (with_reducible apply below_alloc1) | (with_reducible apply below_drewN1) | (with_reducible apply below_drew1))))⟩
            case measure => simp [intOf]; omega
          · have HD := hid (HXJ.out (pick_hit hjt (hh.trans ht) hno.out))
            clear hh
            go_wp2_with (first
              | (refine upon_float rfl ?_; intro r n hr; go_simp)
              | (at_builtin; refine wpList_push rfl _ _ 22 rfl Try.underlying22 hi0 hz0 hz1 hz2 rfl w.heap.size _ _ rfl rfl (ownsRow_below ho.out (below_trans hwj (by (repeat (first | (with_reducible assumption) | (with_reducible apply below_refl) | (with_reducible apply below_alloc1) | (with_reducible apply below_drewN1) | (with_reducible apply below_drew1)))))) rfl (by rw [List.length_map, drawL_len]; omega) (by decide) (Nat.le_trans hw.size (Below.size (below_trans hwj (by (repeat (first | (with_reducible assumption) | (with_reducible apply below_refl) | (with_reducible apply below_alloc1) | (with_reducible apply below_drewN1) | (with_reducible apply below_drew1))))))) ?_; intro v1 w2 hown hb2))
            go_roundw
            case rel => exact ⟨k + 1, by omega, by go_num, hid (by rw [drawL_next, HD.out, draw_append]; exact hown), (below_trans hw (below_trans hwj (by (repeat (first | (with_reducible assumption) | (with_reducible apply below_refl) | (with_reducible apply below_alloc1) | (with_reducible apply below_drewN1) | (with_reducible apply below_drew1)))))).trans hb2⟩
            case measure => simp [intOf]; omega
        · obtain rfl : j = ws.length := by omega
          have hp : xs.length - 1 < xs.length := by omega
          have hcx := rowc HC.out hwwj (xs.length - 1) hp
          have hXj := hX.out (xs.length - 1) hp (pick_none hno.out)
          have hjI : ((xs.length - 1 : Nat) : Int) < (xs.length : Int) := by omega
          have hj0 : (0 : Int) ≤ ((xs.length - 1 : Nat) : Int) := by omega
          generalize xs[xs.length - 1] = x at hcx hXj
          have HD := hid hXj
          clear hXj hq
          go_wp2_with (first
            | (at_builtin; refine wpList_push rfl _ _ 22 rfl Try.underlying22 hi0 hz0 hz1 hz2 rfl w.heap.size _ _ rfl rfl (ownsRow_below ho.out (below_trans hwj (by (repeat (first | (with_reducible assumption) | (with_reducible apply below_refl) | (with_reducible apply below_alloc1) | (with_reducible apply below_drewN1) | (with_reducible apply below_drew1)))))) rfl (by rw [List.length_map, drawL_len]; omega) (by decide) (Nat.le_trans hw.size (Below.size (below_trans hwj (by (repeat (first | (with_reducible assumption) | (with_reducible apply below_refl) | (with_reducible apply below_alloc1) | (with_reducible apply below_drewN1) | (with_reducible apply below_drew1))))))) ?_; intro v1 w2 hown hb2))
          go_roundw
          case rel => exact ⟨k + 1, by omega, by go_num, hid (by rw [drawL_next, HD.out, draw_append]; exact hown), (below_trans hw (below_trans hwj (by (repeat (first | (with_reducible assumption) | (with_reducible apply below_refl) | (with_reducible apply below_alloc1) | (with_reducible apply below_drewN1) | (with_reducible apply below_drew1)))))).trans hb2⟩
          case measure => simp [intOf]; omega
    · obtain rfl : k = xs.length := by omega
      go_wp2_with fail
      go_ret2
      exact frow_yes HALL.out (by rw [HE.out]; exact ownsRow_below ho.out (by (repeat (first | (with_reducible assumption) | (with_reducible apply below_refl) | (with_reducible apply below_alloc1) | (with_reducible apply below_drewN1) | (with_reducible apply below_drew1))))) (below_trans hw (by (repeat (first | (with_reducible assumption) | (with_reducible apply below_refl) | (with_reducible apply below_alloc1) | (with_reducible apply below_drewN1) | (with_reducible apply below_drew1)))))
end Go.Proofs.Ytdldlfefbeflcaa
