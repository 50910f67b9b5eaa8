/- Contracts: DrawAgain, the reference's. -/
import Derived.Test.YtdldlfefbeflcaaDraw
namespace Go.Proofs.Ytdldlfefbeflcaa
open Go.RowKit

set_option maxRecDepth 100000 in
set_option maxHeartbeats 800000 in
theorem l05Weighed_any (v u : Value) (xs ws : List Nat) (w : World) (hv : RowAt w v (xs.map (Value.float .f32))) (hu : RowAt w u (ws.map (Value.float .f32))) :
    Calls Try.prog 44 #[v, u] w fun e w' => e = .returned (.bool (partsB xs ws)) ∧ Below w.heap.size w w' := by
  have HV := hid hv
  obtain ⟨ao, cap, b, off, rfl, -, hl, hm, -⟩ := hv
  obtain ⟨ao', cap', b', off', rfl, hao', hl', hm', hc'⟩ := hu
  simp only [List.length_map] at hl HV hl' hao' ⊢
  unfold maxLen at hm hm'
  have HC' := hid hc'; have HA' := hid hao'
  clear hc' hao'
  cases g1 : cloudB xs
  · have HM := hid (show partsB xs ws = false by simp [partsB, g1])
    have G1 := hid g1; clear g1
    go_enter Try.func44, Try.ntmps44
    go_wp2_with (first | (go_at_call 21; (with_reducible refine (l05Cloud_any _ xs _ (HV.out.below (by (repeat (first | (with_reducible assumption) | (with_reducible apply below_refl) | (with_reducible apply below_alloc1) | (with_reducible apply below_drewN1) | (with_reducible apply below_drew1)))))).mono ?_); rw [G1.out]; rintro e w' ⟨rfl, hb⟩; have hB : Below w.heap.size w w' := below_trans (by (repeat (first | (with_reducible assumption) | (with_reducible apply below_refl) | (with_reducible apply below_alloc1) | (with_reducible apply below_drewN1) | (with_reducible apply below_drew1)))) hb; have hC := (bcell hB).1; clear hb))
    go_ret
    exact ⟨by rw [HM.out]; rfl, by assumption⟩
  have G1 := hid g1
  by_cases h3 : ws.length = xs.length
  rotate_left
  · have HM := hid (show partsB xs ws = false by simp [partsB, h3])
    have h3' : ((ws.length : Int) != (xs.length : Int)) = true := by simp; omega
    have h3'' : ((ws.length : Int) == (xs.length : Int)) = false := by simp; omega
    clear h3 g1
    go_enter Try.func44, Try.ntmps44
    go_wp2_with (first | (go_at_call 21; (with_reducible refine (l05Cloud_any _ xs _ (HV.out.below (by (repeat (first | (with_reducible assumption) | (with_reducible apply below_refl) | (with_reducible apply below_alloc1) | (with_reducible apply below_drewN1) | (with_reducible apply below_drew1)))))).mono ?_); rw [G1.out]; rintro e w' ⟨rfl, hb⟩; have hB : Below w.heap.size w w' := below_trans (by (repeat (first | (with_reducible assumption) | (with_reducible apply below_refl) | (with_reducible apply below_alloc1) | (with_reducible apply below_drewN1) | (with_reducible apply below_drew1)))) hb; have hC := (bcell hB).1; clear hb))
    go_ret
    exact ⟨by rw [HM.out]; rfl, by assumption⟩
  have h3' : ((ws.length : Int) != (xs.length : Int)) = false := by simp; omega
  have h3'' : ((ws.length : Int) == (xs.length : Int)) = true := by simp; omega
  have HM := hid (show partsB xs ws = ws.all fun b => notLessB (ab .f32 b) by simp [partsB, g1, h3])
  have l1 := (cloudB_true g1).1
  obtain rfl := HA'.out (by omega)
  clear h3 g1
  go_enter Try.func44, Try.ntmps44
  go_wp2_with (first | (go_at_call 21; (with_reducible refine (l05Cloud_any _ xs _ (HV.out.below (by (repeat (first | (with_reducible assumption) | (with_reducible apply below_refl) | (with_reducible apply below_alloc1) | (with_reducible apply below_drewN1) | (with_reducible apply below_drew1)))))).mono ?_); rw [G1.out]; rintro e w' ⟨rfl, hb⟩; have hB : Below w.heap.size w w' := below_trans (by (repeat (first | (with_reducible assumption) | (with_reducible apply below_refl) | (with_reducible apply below_alloc1) | (with_reducible apply below_drewN1) | (with_reducible apply below_drew1)))) hb; have hC := (bcell hB).1; clear hb))
  go_loopw [18] (fun i wr => ∃ (k : Nat), k ≤ ws.length ∧ i = .int .i64 k ∧ Hid (∀ j x, j < k → ws[j]? = some x → notLessB (ab .f32 x) = true) ∧ Below w.heap.size w wr) (fun i _ => ws.length - (intOf i).toNat)
  case atStart => exact ⟨0, Nat.zero_le _, rfl, hid (fun j x h => absurd h (Nat.not_lt_zero _)), by (repeat (first | (with_reducible assumption) | (with_reducible apply below_refl) | (with_reducible apply below_alloc1) | (with_reducible apply below_drewN1) | (with_reducible apply below_drew1)))⟩
  case round =>
    obtain ⟨k, hk, rfl, hno, hw⟩ := hrel
    by_cases hlt : k < ws.length
    · have hcell := rowc HC'.out hw k hlt
      have hbl : b' < wr.heap.size := World.block_lt_of_cell? wr _ hcell
      have hk0 : (0 : Int) ≤ (k : Int) := by omega
      have hltI : (k : Int) < (ws.length : Int) := by omega
      have hset : ∀ j x, ws[j]? = some x → j = k → x = ws[k] := fun j x hx e => by
        subst e; rw [List.getElem?_eq_getElem hlt] at hx; cases hx; rfl
      have hbad : notLessB (ab .f32 ws[k]) = false → (ws.all fun b => notLessB (ab .f32 b)) = false := fun h => by
        rw [List.all_eq_false]; exact ⟨_, List.getElem_mem hlt, by simp [h]⟩
      generalize ws[k] = y at hcell hset hbad
      have HSET := hid hset; have HBAD := hid hbad
      clear hset hbad
      cases hp : notLessB (ab .f32 y)
      · have HP := hid hp
        have HR := hid (HBAD.out hp)
        clear hp
        go_wp2_with (first
          | (go_at_call 55; (with_reducible refine (l02Least_any _ _).mono ?_); rw [HP.out]; rintro e w' ⟨rfl, hb⟩; have hB : Below wr.heap.size wr w' := below_trans (by (repeat (first | (with_reducible assumption) | (with_reducible apply below_refl) | (with_reducible apply below_alloc1) | (with_reducible apply below_drewN1) | (with_reducible apply below_drew1)))) hb; have hC := (bcell hB).1; clear hb)
          | (go_region_held (fun w' => Below wr.heap.size wr w' ∧ ∀ b o, b < wr.heap.size → w'.cell? ⟨b, o, none⟩ = wr.cell? ⟨b, o, none⟩) (first | exact keep_next ‹_› ‹_› | exact keep_start | exact keep_drew ‹_› | exact keep_of (by (repeat (first | (with_reducible assumption) | (with_reducible apply below_refl) | (with_reducible apply below_alloc1) | (with_reducible apply below_drewN1) | (with_reducible apply below_drew1))))) (first | (go_at_call 55; refine (l02Least_any _ _).mono ?_; rw [HP.out]; rintro e w' ⟨rfl, hb⟩)) <;> (rename_i hHeld; obtain ⟨hB, hC⟩ := hHeld)))
        go_ret
        exact ⟨by rw [HM.out, HR.out]; rfl, below_trans hw (by (repeat (first | (with_reducible assumption) | (with_reducible apply below_refl) | (with_reducible apply below_alloc1) | (with_reducible apply below_drewN1) | (with_reducible apply below_drew1))))⟩
      · have HP := hid hp
        have HN := hid (show ∀ j x, j < k + 1 → ws[j]? = some x → notLessB (ab .f32 x) = true from fun j x hj hx => by
          by_cases e : j = k
          · rw [HSET.out j x hx e]; exact hp
          · exact hno.out j x (by omega) hx)
        clear hp
        go_wp2_with (first
          | (go_at_call 55; (with_reducible refine (l02Least_any _ _).mono ?_); rw [HP.out]; rintro e w' ⟨rfl, hb⟩; have hB : Below wr.heap.size wr w' := below_trans (by (repeat (first | (with_reducible assumption) | (with_reducible apply below_refl) | (with_reducible apply below_alloc1) | (with_reducible apply below_drewN1) | (with_reducible apply below_drew1)))) hb; have hC := (bcell hB).1; clear hb)
          | (go_region_held (fun w' => Below wr.heap.size wr w' ∧ ∀ b o, b < wr.heap.size → w'.cell? ⟨b, o, none⟩ = wr.cell? ⟨b, o, none⟩) (first | exact keep_next ‹_› ‹_› | exact keep_start | exact keep_drew ‹_› | exact keep_of (by (repeat (first | (with_reducible assumption) | (with_reducible apply below_refl) | (with_reducible apply below_alloc1) | (with_reducible apply below_drewN1) | (with_reducible apply below_drew1))))) (first | (go_at_call 55; refine (l02Least_any _ _).mono ?_; rw [HP.out]; rintro e w' ⟨rfl, hb⟩)) <;> (rename_i hHeld; obtain ⟨hB, hC⟩ := hHeld)))
        go_roundw
        case rel => exact ⟨k + 1, by omega, by go_num, HN, below_trans hw (by (repeat (first | (with_reducible assumption) | (with_reducible apply below_refl) | (with_reducible apply below_alloc1) | (with_reducible apply below_drewN1) | (with_reducible apply below_drew1))))⟩
        case measure => simp [intOf]; omega
    · obtain rfl : k = ws.length := by omega
      have HR := hid (show (ws.all fun b => notLessB (ab .f32 b)) = true by
        rw [List.all_eq_true]
        intro x hx
        obtain ⟨j, hj, rfl⟩ := List.getElem_of_mem hx
        exact hno.out j _ hj (List.getElem?_eq_getElem hj))
      go_wp2_with fail
      go_ret
      exact ⟨by rw [HM.out, HR.out]; rfl, hw⟩
set_option maxRecDepth 100000 in
set_option maxHeartbeats 2000000 in
theorem specDraw_any (v u : Value) (xs ws : List Nat) (s : Nat) (w : World) (hv : RowAt w v (xs.map (Value.float .f32))) (hu : RowAt w u (ws.map (Value.float .f32))) :
    Calls Try.prog 18 #[v, u, .float .f32 s] w (FRowOk 23 (drawXs xs ws (ab .f32 s)) (drawAll xs ws (ab .f32 s)) w) := by
  obtain ⟨i0, hi0, hz0, hz1, hz2⟩ := info_parts (P := Try.prog) (e := 23) (z := Value.float .f32 0) (size := 1) (bytes := 4) (by kernel_rfl)
  have HV := hid hv
  have HU := hid hu
  obtain ⟨ao, cap, b, off, rfl, hao, hl, hm, hc⟩ := hv
  obtain ⟨ao', cap', b', off', rfl, hao', hl', hm', hc'⟩ := hu
  simp only [List.length_map] at hl HV hl' HU hao hao' ⊢
  unfold maxLen at hm hm'
  have HC := hid hc; have HA := hid hao; have HC' := hid hc'; have HA' := hid hao'
  clear hc hao hc' hao'
  cases g1 : partsB xs ws
  · have HE := hid (draw_no (xs := xs) (ws := ws) (s := ab .f32 s) (by simp [drawAll, g1]))
    have G1 := hid g1; clear g1
    go_enter Try.func18, Try.ntmps18
    go_wp2_with (first | (go_at_call 44; (with_reducible refine (l05Weighed_any _ _ xs ws _ (HV.out.below (by (repeat (first | (with_reducible assumption) | (with_reducible apply below_refl) | (with_reducible apply below_alloc1) | (with_reducible apply below_drewN1) | (with_reducible apply below_drew1))))) (HU.out.below (by (repeat (first | (with_reducible assumption) | (with_reducible apply below_refl) | (with_reducible apply below_alloc1) | (with_reducible apply below_drewN1) | (with_reducible apply below_drew1)))))).mono ?_); rw [G1.out]; rintro e w' ⟨rfl, hb⟩; have hB : Below w.heap.size w w' := below_trans (by (repeat (first | (with_reducible assumption) | (with_reducible apply below_refl) | (with_reducible apply below_alloc1) | (with_reducible apply below_drewN1) | (with_reducible apply below_drew1)))) hb; have hC := (bcell hB).1; clear hb))
    go_ret2
    exact frow_no HE.out.1 HE.out.2 (by assumption)
  have G1 := hid g1
  cases g2 : shareB (ab .f32 s)
  · have HE := hid (draw_no (xs := xs) (ws := ws) (s := ab .f32 s) (by simp [drawAll, g2]))
    have G2 := hid g2; clear g1 g2
    go_enter Try.func18, Try.ntmps18
    go_wp2_with (first | (go_at_call 44; (with_reducible refine (l05Weighed_any _ _ xs ws _ (HV.out.below (by (repeat (first | (with_reducible assumption) | (with_reducible apply below_refl) | (with_reducible apply below_alloc1) | (with_reducible apply below_drewN1) | (with_reducible apply below_drew1))))) (HU.out.below (by (repeat (first | (with_reducible assumption) | (with_reducible apply below_refl) | (with_reducible apply below_alloc1) | (with_reducible apply below_drewN1) | (with_reducible apply below_drew1)))))).mono ?_); rw [G1.out]; rintro e w' ⟨rfl, hb⟩; have hB : Below w.heap.size w w' := below_trans (by (repeat (first | (with_reducible assumption) | (with_reducible apply below_refl) | (with_reducible apply below_alloc1) | (with_reducible apply below_drewN1) | (with_reducible apply below_drew1)))) hb; have hC := (bcell hB).1; clear hb) | (go_at_call 45; (with_reducible refine (l02Share_any _ _).mono ?_); rw [G2.out]; rintro e w' ⟨rfl, hb⟩; have hB : Below w.heap.size w w' := below_trans (by (repeat (first | (with_reducible assumption) | (with_reducible apply below_refl) | (with_reducible apply below_alloc1) | (with_reducible apply below_drewN1) | (with_reducible apply below_drew1)))) hb; have hC := (bcell hB).1; clear hb))
    go_ret2
    exact frow_no HE.out.1 HE.out.2 (by assumption)
  have G2 := hid g2
  obtain ⟨l1, l2, l3⟩ := partsB_true g1
  have HL3 := hid l3
  have HG1 := hid g1; have HG2 := hid g2
  obtain rfl := HA.out (by omega)
  obtain rfl := HA'.out (by omega)
  clear g1 g2 l3
  go_enter Try.func18, Try.ntmps18
  go_wp2_with (first | (go_at_call 44; (with_reducible refine (l05Weighed_any _ _ xs ws _ (HV.out.below (by (repeat (first | (with_reducible assumption) | (with_reducible apply below_refl) | (with_reducible apply below_alloc1) | (with_reducible apply below_drewN1) | (with_reducible apply below_drew1))))) (HU.out.below (by (repeat (first | (with_reducible assumption) | (with_reducible apply below_refl) | (with_reducible apply below_alloc1) | (with_reducible apply below_drewN1) | (with_reducible apply below_drew1)))))).mono ?_); rw [G1.out]; rintro e w' ⟨rfl, hb⟩; have hB : Below w.heap.size w w' := below_trans (by (repeat (first | (with_reducible assumption) | (with_reducible apply below_refl) | (with_reducible apply below_alloc1) | (with_reducible apply below_drewN1) | (with_reducible apply below_drew1)))) hb; have hC := (bcell hB).1; clear hb) | (go_at_call 45; (with_reducible refine (l02Share_any _ _).mono ?_); rw [G2.out]; rintro e w' ⟨rfl, hb⟩; have hB : Below w.heap.size w w' := below_trans (by (repeat (first | (with_reducible assumption) | (with_reducible apply below_refl) | (with_reducible apply below_alloc1) | (with_reducible apply below_drewN1) | (with_reducible apply below_drew1)))) hb; have hC := (bcell hB).1; clear hb))
  go_loopw [8, 27] (fun x i wr => ∃ (k : Nat) (q : Nat), k ≤ ws.length ∧ i = .int .i64 k ∧ x = .float .f32 q ∧ ab .f32 q = sumX ws k ∧ Below w.heap.size w wr) (fun _ i _ => ws.length - (intOf i).toNat)
  case atStart => exact ⟨0, 0, Nat.zero_le _, rfl, rfl, ab_z32, by (repeat (first | (with_reducible assumption) | (with_reducible apply below_refl) | (with_reducible apply below_alloc1) | (with_reducible apply below_drewN1) | (with_reducible apply below_drew1)))⟩
  case round =>
    obtain ⟨k, q, hk, rfl, rfl, hq, hw⟩ := hrel
    by_cases hlt : k < ws.length
    · have hcell := rowc HC'.out hw k hlt
      have hnx := sumX_next ws k
      rw [atX_get hlt, ← hq] at hnx
      have HN := hid hnx
      clear hnx hq
      have hk0 : (0 : Int) ≤ (k : Int) := by omega
      have hltI : (k : Int) < (ws.length : Int) := by omega
      generalize ws[k] = y at hcell HN
      go_wp2_with (first | (refine upon_float rfl ?_; intro r n hr; go_simp) | go_quiet (fail))
      go_roundw
      case rel => exact ⟨k + 1, _, by omega, by go_num, rfl, by rw [HN.out]; simp only [*], by (repeat (first | (with_reducible assumption) | (with_reducible apply below_refl) | (with_reducible apply below_alloc1) | (with_reducible apply below_drewN1) | (with_reducible apply below_drew1)))⟩
      case measure => simp [intOf]; omega
    · obtain rfl : k = ws.length := by omega
      have HS := hid hq
      clear hq
      generalize q = A at HS
      cases g3 : moreB (ab .f32 A)
      · have HE := hid (draw_no (xs := xs) (ws := ws) (s := ab .f32 s) (by rw [drawAll, ← HS.out, g3]; simp))
        have G3 := hid g3; clear g3
        go_wp2_with (first | (go_at_call 22; (with_reducible refine (l02Above_any _ _).mono ?_); rw [G3.out]; rintro e w' ⟨rfl, hb⟩; have hB : Below wr.heap.size wr w' := below_trans (by (repeat (first | (with_reducible assumption) | (with_reducible apply below_refl) | (with_reducible apply below_alloc1) | (with_reducible apply below_drewN1) | (with_reducible apply below_drew1)))) hb; have hC := (bcell hB).1; clear hb))
        go_ret2
        exact frow_no HE.out.1 HE.out.2 (below_trans hw (by (repeat (first | (with_reducible assumption) | (with_reducible apply below_refl) | (with_reducible apply below_alloc1) | (with_reducible apply below_drewN1) | (with_reducible apply below_drew1)))))
      have G3 := hid g3
      have hall : drawAll xs ws (ab .f32 s) = true := by rw [drawAll, ← HS.out, g3, HG1.out, HG2.out]; rfl
      have HALL := hid hall
      have HE := hid (draw_yes hall)
      clear g3 hall
      go_wp2_with (first | (go_at_call 22; (with_reducible refine (l02Above_any _ _).mono ?_); rw [G3.out]; rintro e w' ⟨rfl, hb⟩; have hB : Below wr.heap.size wr w' := below_trans (by (repeat (first | (with_reducible assumption) | (with_reducible apply below_refl) | (with_reducible apply below_alloc1) | (with_reducible apply below_drewN1) | (with_reducible apply below_drew1)))) hb; have hC := (bcell hB).1; clear hb))
      have hw1 := below_trans hw (show Below wr.heap.size wr _ from by assumption)
      have hsz := hw1.size
      go_loopw [10, 43] (fun v y w2 => ∃ (k : Nat), k ≤ xs.length ∧ y = .int .i64 k ∧ Hid (w2.ownsRow w.heap.size 23 1 v ((drawL xs ws (ab .f32 s) k).map (Value.float .f32)).length ((drawL xs ws (ab .f32 s) k).map (Value.float .f32))) ∧ Below w.heap.size w w2) (fun _ y _ => xs.length - (intOf y).toNat)
      case atStart => exact ⟨0, by omega, rfl, hid (World.ownsRow_made _ #[] 0 hsz (by simp [maxLen]) rfl), below_alloc1 hw1⟩
      case round =>
        obtain ⟨k, hk, rfl, ho, hwq⟩ := hrel
        by_cases hlt : k < xs.length
        · have hk0 : (k : Int) < (xs.length : Int) := by omega
          have W0 : IntKind.i64.wrap ((xs.length : Int) - 1) = ((xs.length - 1 : Nat) : Int) := by rw [IntKind.wrap_i64]; omega
          go_wp2_with (refine upon_float rfl ?_; intro r n hr; go_simp)
          have HB := hid (show ab .f32 r = drawBar (ab .f32 s) (ab .f32 A) xs.length k by rw [drawBar]; simp only [*, ab_ofInt])
          generalize r = B at HB ⊢
          rw [HS.out] at HB
          have hX := hid (show ∀ p (hp : p < xs.length), drawPick ws (ab .f32 B) xs.length ws.length = p → drawX xs ws (ab .f32 s) k = xs[p] from fun p hp h => by
            unfold drawX; rw [← HB.out, h, getD_atM xs p hp])

          go_loopw [13, 14, 61] (fun y x i w2 => ∃ (j q p : Nat), j ≤ ws.length ∧ p < xs.length ∧ Hid (drawPick ws (ab .f32 B) xs.length j = p) ∧ y = .int .i64 (p : Int) ∧ i = .int .i64 j ∧ x = .float .f32 q ∧ ab .f32 q = sumX ws j ∧ Below wr.heap.size wr w2) (fun _ _ i _ => ws.length - (intOf i).toNat)
          case atStart => exact ⟨0, 0, xs.length - 1, by omega, by omega, hid (pick_none (fun j h => absurd h (Nat.not_lt_zero _))), rfl, rfl, rfl, ab_z32, by (repeat (first | (with_reducible assumption) | (with_reducible apply below_refl) | (with_reducible apply below_alloc1) | (with_reducible apply below_drewN1) | (with_reducible apply below_drew1)))⟩
          case round =>
            obtain ⟨j, q, p, hj, hp, hpk, rfl, rfl, rfl, hq, hwj⟩ := hrel
            have hwwj := below_trans hwq hwj
            by_cases hjt : j < ws.length
            · have hcell := rowc HC'.out hwwj j hjt
              have hnx := sumX_next ws j
              rw [atX_get hjt, ← hq] at hnx
              have hh : drawHit ws (ab .f32 B) j = (ford .f32 (fop .add .f32 (ab .f32 q) (ab .f32 ws[j])) (ab .f32 B) == some .gt) := by unfold drawHit; rw [hnx]
              have hpn := pick_next ws (ab .f32 B) xs.length j (by have := HL3.out; omega)
              rw [hpk.out, hh] at hpn
              have hjI : (j : Int) < (ws.length : Int) := by omega
              have hj0 : (0 : Int) ≤ (j : Int) := by omega
              have hjx : j < xs.length := by have := HL3.out; omega
              generalize ws[j] = y at hcell hnx hh hpn
              have HN := hid hnx
              clear hnx hq hh
              cases ht : (ford .f32 (fop .add .f32 (ab .f32 q) (ab .f32 y)) (ab .f32 B) == some .gt)
              · rw [ht, if_neg (by simp)] at hpn
                have HPN := hid hpn; clear hpn
                go_wp2_with (first | (refine upon_float rfl ?_; intro r n hr; go_simp) | go_quiet (fail))
                go_roundw
                case rel => exact ⟨j + 1, _, p, by omega, hp, HPN, rfl, by go_num, rfl, by rw [HN.out]; simp only [*], below_trans hwj (by (repeat (first | (with_reducible assumption) | (with_reducible apply below_refl) | (with_reducible apply below_alloc1) | (with_reducible apply below_drewN1) | (with_reducible apply below_drew1))))⟩
                case measure => simp [intOf]; omega
              · by_cases hjp : j < p
                · rw [ht, if_pos ⟨rfl, hjp⟩] at hpn
                  have HPN := hid hpn; clear hpn
                  have hjpI : (j : Int) < (p : Int) := by omega
                  go_wp2_with (first | (refine upon_float rfl ?_; intro r n hr; go_simp) | go_quiet (fail))
                  go_roundw
                  case rel => exact ⟨j + 1, _, j, by omega, hjx, HPN, rfl, by go_num, rfl, by rw [HN.out]; simp only [*], below_trans hwj (by (repeat (first | (with_reducible assumption) | (with_reducible apply below_refl) | (with_reducible apply below_alloc1) | (with_reducible apply below_drewN1) | (with_reducible apply below_drew1))))⟩
                  case measure => simp [intOf]; omega
                · rw [if_neg (fun h => hjp h.2)] at hpn
                  have HPN := hid hpn; clear hpn
                  have hjpI : ¬ (j : Int) < (p : Int) := by omega
                  go_wp2_with (first | (refine upon_float rfl ?_; intro r n hr; go_simp) | go_quiet (fail))
                  go_roundw
                  case rel => exact ⟨j + 1, _, p, by omega, hp, HPN, rfl, by go_num, rfl, by rw [HN.out]; simp only [*], below_trans hwj (by (repeat (first | (with_reducible assumption) | (with_reducible apply below_refl) | (with_reducible apply below_alloc1) | (with_reducible apply below_drewN1) | (with_reducible apply below_drew1))))⟩
                  case measure => simp [intOf]; omega
            · obtain rfl : j = ws.length := by omega
              have hcx := rowc HC.out hwwj p hp
              have hXj := hX.out p hp hpk.out
              have hjI : (p : Int) < (xs.length : Int) := by omega
              have hj0 : (0 : Int) ≤ (p : Int) := by omega
              generalize xs[p] = x at hcx hXj
              have HD := hid hXj
              clear hXj hq
              go_wp2_with (first
                | (at_builtin; refine wpList_push rfl _ _ 22 rfl Try.underlying22 hi0 hz0 hz1 hz2 rfl w.heap.size _ _ rfl rfl (ownsRow_below ho.out (below_trans hwj (by (repeat (first | (with_reducible assumption) | (with_reducible apply below_refl) | (with_reducible apply below_alloc1) | (with_reducible apply below_drewN1) | (with_reducible apply below_drew1)))))) rfl (by rw [List.length_map, drawL_len]; omega) (by decide) (Nat.le_trans hwq.size (Below.size (below_trans hwj (by (repeat (first | (with_reducible assumption) | (with_reducible apply below_refl) | (with_reducible apply below_alloc1) | (with_reducible apply below_drewN1) | (with_reducible apply below_drew1))))))) ?_; intro v1 w2 hown hb2))
              go_roundw
              case rel => exact ⟨k + 1, by omega, by go_num, hid (by rw [drawL_next, HD.out, draw_append]; exact hown), (below_trans hwq (below_trans hwj (by (repeat (first | (with_reducible assumption) | (with_reducible apply below_refl) | (with_reducible apply below_alloc1) | (with_reducible apply below_drewN1) | (with_reducible apply below_drew1)))))).trans hb2⟩
              case measure => simp [intOf]; omega
        · obtain rfl : k = xs.length := by omega
          go_wp2_with fail
          go_ret2
          exact frow_yes HALL.out (by rw [HE.out]; exact ownsRow_below ho.out (by (repeat (first | (with_reducible assumption) | (with_reducible apply below_refl) | (with_reducible apply below_alloc1) | (with_reducible apply below_drewN1) | (with_reducible apply below_drew1))))) (below_trans hwq (by (repeat (first | (with_reducible assumption) | (with_reducible apply below_refl) | (with_reducible apply below_alloc1) | (with_reducible apply below_drewN1) | (with_reducible apply below_drew1)))))
end Go.Proofs.Ytdldlfefbeflcaa
