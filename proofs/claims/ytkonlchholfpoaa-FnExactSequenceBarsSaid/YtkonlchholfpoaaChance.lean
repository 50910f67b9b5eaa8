/- Contracts: ChanceAccept. -/
import Derived.Test.YtkonlchholfpoaaPlan
import Derived.Test.YtkonlchholfpoaaCom
namespace Go.Proofs.Ytkonlchholfpoaa
open Go.RowKit

/-- x times f, n times, rounded each time. -/
def powM (x f : Option Nat) : Nat → Option Nat
  | 0 => x
  | n + 1 => fop .mul .f32 (powM x f n) f
def oneMinus (s : Option Nat) : Option Nat := fop .sub .f32 (some 1065353216) s
def termM (a : Int) (s : Option Nat) (k : Nat) : Option Nat := powM (powM (some (floatOfInt .f32 (binI a.toNat k : Nat))) s k) (oneMinus s) (a - k).toNat
def chSum (a : Int) (s : Option Nat) : Nat → Option Nat
  | 0 => some 0
  | k + 1 => fop .add .f32 (chSum a s k) (termM a s k)
def chanceM (a b : Int) (s : Option Nat) : Option Nat × Bool := if vldP a b && shareB s then ifFin (chSum a s (b + 1).toNat) else (some 0, false)
theorem chanceM_no {a b : Int} {s : Option Nat} (h : (vldP a b && shareB s) = false) : chanceM a b s = (some 0, false) := by simp only [chanceM, h]; rfl
theorem chanceM_yes {a b : Int} {s : Option Nat} (h : (vldP a b && shareB s) = true) : chanceM a b s = ifFin (chSum a s (b + 1).toNat) := by simp only [chanceM, h]; rfl
theorem vldP_true {a b : Int} (h : vldP a b = true) : 1 ≤ a ∧ a ≤ 40 ∧ 0 ≤ b ∧ b ≤ a := by
  simp only [vldP, inB, Bool.and_eq_true, decide_eq_true_eq] at h
  omega

set_option maxRecDepth 100000 in
set_option maxHeartbeats 2000000 in
theorem implChance_any (a b : Int) (s : Nat) (w : World) :
    Calls Try.prog 57 #[.agg #[.int .i64 a, .int .i64 b], .float .f32 s] w (NumOk (chanceM a b (ab .f32 s)) w) := by
  cases h1 : vldP a b
  · have HM := hid (chanceM_no (a := a) (b := b) (s := ab .f32 s) (by simp [h1]))
    go_enter Try.func57, Try.ntmps57
    go_wp2_with fail
    obtain ⟨w1, hw1⟩ : ∃ w1 : World, w1 = (w.alloc (Obj.cells #[.int .i64 a, .int .i64 b] 27)) := ⟨_, rfl⟩
    have c0 : w1.cell? ⟨w.heap.size, 0, none⟩ = some (.int .i64 a) := by subst hw1; go_simp
    have c1 : w1.cell? ⟨w.heap.size, 1, none⟩ = some (.int .i64 b) := by subst hw1; go_simp
    rw [← hw1]
    have hb1 : Below w.heap.size w w1 := by subst hw1; exact below_alloc _ _
    have s0 : w.heap.size < w1.heap.size := by subst hw1; simp
    clear hw1
    go_wp2_with (first | (go_at_call 79; refine (implValidPlan_any _ _ _).mono ?_; rintro e w' ⟨rfl, hb⟩; have hB : Below w1.heap.size w1 w' := below_trans (by (repeat (first | (with_reducible assumption) | (with_reducible apply below_refl) | (with_reducible apply below_alloc1) | (with_reducible apply below_drewN1) | (with_reducible apply below_drew1)))) hb; have hC := (bcell hB).1; clear hb) | (go_at_call 82; refine (isShare_any _ _).mono ?_; rintro e w' ⟨rfl, hb⟩; have hB : Below w1.heap.size w1 w' := below_trans (by (repeat (first | (with_reducible assumption) | (with_reducible apply below_refl) | (with_reducible apply below_alloc1) | (with_reducible apply below_drewN1) | (with_reducible apply below_drew1)))) hb; have hC := (bcell hB).1; clear hb))
    go_ret2
    exact numOk_no HM.out (below_trans hb1 (by assumption))
  · cases h2 : shareB (ab .f32 s)
    · have HM := hid (chanceM_no (a := a) (b := b) (s := ab .f32 s) (by simp [h2]))
      go_enter Try.func57, Try.ntmps57
      go_wp2_with fail
      obtain ⟨w1, hw1⟩ : ∃ w1 : World, w1 = (w.alloc (Obj.cells #[.int .i64 a, .int .i64 b] 27)) := ⟨_, rfl⟩
      have c0 : w1.cell? ⟨w.heap.size, 0, none⟩ = some (.int .i64 a) := by subst hw1; go_simp
      have c1 : w1.cell? ⟨w.heap.size, 1, none⟩ = some (.int .i64 b) := by subst hw1; go_simp
      rw [← hw1]
      have hb1 : Below w.heap.size w w1 := by subst hw1; exact below_alloc _ _
      have s0 : w.heap.size < w1.heap.size := by subst hw1; simp
      clear hw1
      go_wp2_with (first | (go_at_call 79; refine (implValidPlan_any _ _ _).mono ?_; rintro e w' ⟨rfl, hb⟩; have hB : Below w1.heap.size w1 w' := below_trans (by (repeat (first | (with_reducible assumption) | (with_reducible apply below_refl) | (with_reducible apply below_alloc1) | (with_reducible apply below_drewN1) | (with_reducible apply below_drew1)))) hb; have hC := (bcell hB).1; clear hb) | (go_at_call 82; refine (isShare_any _ _).mono ?_; rintro e w' ⟨rfl, hb⟩; have hB : Below w1.heap.size w1 w' := below_trans (by (repeat (first | (with_reducible assumption) | (with_reducible apply below_refl) | (with_reducible apply below_alloc1) | (with_reducible apply below_drewN1) | (with_reducible apply below_drew1)))) hb; have hC := (bcell hB).1; clear hb))
      go_ret2
      exact numOk_no HM.out (below_trans hb1 (by assumption))
    · have HM := hid (chanceM_yes (a := a) (b := b) (s := ab .f32 s) (by simp [h1, h2]))
      obtain ⟨q1, q2, q3, q4⟩ := vldP_true h1
      go_enter Try.func57, Try.ntmps57
      go_wp2_with fail
      obtain ⟨w1, hw1⟩ : ∃ w1 : World, w1 = (w.alloc (Obj.cells #[.int .i64 a, .int .i64 b] 27)) := ⟨_, rfl⟩
      have c0 : w1.cell? ⟨w.heap.size, 0, none⟩ = some (.int .i64 a) := by subst hw1; go_simp
      have c1 : w1.cell? ⟨w.heap.size, 1, none⟩ = some (.int .i64 b) := by subst hw1; go_simp
      rw [← hw1]
      have hb1 : Below w.heap.size w w1 := by subst hw1; exact below_alloc _ _
      have s0 : w.heap.size < w1.heap.size := by subst hw1; simp
      clear hw1
      go_wp2_with (first | (go_at_call 79; refine (implValidPlan_any _ _ _).mono ?_; rintro e w' ⟨rfl, hb⟩; have hB : Below w1.heap.size w1 w' := below_trans (by (repeat (first | (with_reducible assumption) | (with_reducible apply below_refl) | (with_reducible apply below_alloc1) | (with_reducible apply below_drewN1) | (with_reducible apply below_drew1)))) hb; have hC := (bcell hB).1; clear hb) | (go_at_call 82; refine (isShare_any _ _).mono ?_; rintro e w' ⟨rfl, hb⟩; have hB : Below w1.heap.size w1 w' := below_trans (by (repeat (first | (with_reducible assumption) | (with_reducible apply below_refl) | (with_reducible apply below_alloc1) | (with_reducible apply below_drewN1) | (with_reducible apply below_drew1)))) hb; have hC := (bcell hB).1; clear hb))
      go_loopw [6, 20] (fun x y wr => ∃ k r : Nat, (k : Int) ≤ b + 1 ∧ y = .int .i64 k ∧ x = .float .f32 r ∧ Hid (ab .f32 r = chSum a (ab .f32 s) k) ∧ Below w1.heap.size w1 wr) (fun _ y _ => (b + 1).toNat - (intOf y).toNat)
      case atStart => exact ⟨0, 0, by omega, rfl, rfl, hid ab_z32, by assumption⟩
      case round =>
        obtain ⟨k, r0, hk, rfl, rfl, hx, hw⟩ := hrel
        obtain ⟨wo, rfl⟩ : ∃ wo : World, wo = wr := ⟨_, rfl⟩
        have hC1 := (bcell hw).1
        by_cases hlt : (k : Int) < b + 1
        · go_wp2_with (go_at_call 49; refine (choose_i _ _ ⟨by omega, by omega⟩ ⟨by omega, by omega⟩ _).mono ?_; rintro e w' ⟨rfl, hb⟩; have hB : Below w1.heap.size w1 w' := below_trans (by (repeat (first | (with_reducible assumption) | (with_reducible apply below_refl) | (with_reducible apply below_alloc1) | (with_reducible apply below_drewN1) | (with_reducible apply below_drew1)))) hb; have hC := (bcell hB).1; clear hb)
          go_loopw [8, 29] (fun x y wr => ∃ j r : Nat, j ≤ k ∧ y = .int .i64 j ∧ x = .float .f32 r ∧ Hid (ab .f32 r = powM (some (floatOfInt .f32 (binI a.toNat k : Nat))) (ab .f32 s) j) ∧ Below w1.heap.size w1 wr) (fun _ y _ => k - (intOf y).toNat)
          case atStart => exact ⟨0, _, by omega, rfl, rfl, hid (ab_ofInt _ _), by assumption⟩
          case round =>
            obtain ⟨j, r1, hj, rfl, rfl, hx1, hw1⟩ := hrel
            have hC2 := (bcell hw1).1
            by_cases hlt1 : j < k
            · go_wp2_with (first | (refine upon_float rfl ?_; intro r n hr; go_simp))
              go_roundw
              case rel => exact ⟨j + 1, _, by omega, by go_num, rfl, hid (by simp only [*, hx1.out, powM]), by (repeat (first | (with_reducible assumption) | (with_reducible apply below_refl) | (with_reducible apply below_alloc1) | (with_reducible apply below_drewN1) | (with_reducible apply below_drew1)))⟩
              case measure => simp [intOf]; omega
            · obtain rfl : j = k := by omega
              go_wp2_with fail
              go_loopw [8, 39] (fun x y wr => ∃ i r : Nat, (i : Int) ≤ a - j ∧ y = .int .i64 i ∧ x = .float .f32 r ∧ Hid (ab .f32 r = powM (powM (some (floatOfInt .f32 (binI a.toNat j : Nat))) (ab .f32 s) j) (oneMinus (ab .f32 s)) i) ∧ Below w1.heap.size w1 wr) (fun _ y _ => (a - j).toNat - (intOf y).toNat)
              case atStart => exact ⟨0, r1, by omega, rfl, rfl, hx1, by assumption⟩
              case round =>
                obtain ⟨i, r2, hi, rfl, rfl, hx2, hw2⟩ := hrel
                by_cases hlt2 : (i : Int) < a - j
                · go_wp2_with (first | (refine upon_float rfl ?_; intro r n hr; go_simp))
                  go_roundw
                  case rel => exact ⟨i + 1, _, by omega, by go_num, rfl, hid (by simp only [*, hx2.out, powM, oneMinus, ab_one32]), by (repeat (first | (with_reducible assumption) | (with_reducible apply below_refl) | (with_reducible apply below_alloc1) | (with_reducible apply below_drewN1) | (with_reducible apply below_drew1)))⟩
                  case measure => simp [intOf]; omega
                · have hi' : i = (a - j).toNat := by omega
                  have HI := hid hi'; clear hi'
                  go_wp2_with (first | (refine upon_float rfl ?_; intro r n hr; go_simp))
                  go_roundw
                  case rel => exact ⟨j + 1, _, by omega, by go_num, rfl, hid (by simp only [*, hx.out, hx2.out, chSum, termM, ← HI.out]), by (repeat (first | (with_reducible assumption) | (with_reducible apply below_refl) | (with_reducible apply below_alloc1) | (with_reducible apply below_drewN1) | (with_reducible apply below_drew1)))⟩
                  case measure => simp [intOf]; omega
        · have hk' : k = (b + 1).toNat := by omega
          have HK := hid hk'; clear hk'
          have hx' := hx.out
          go_wp2_with (go_at_call 58; refine (ifFinite_num _ _).mono ?_; rintro e w' ⟨r, rfl, hr, hb⟩; have hB : Below w1.heap.size w1 w' := below_trans (by (repeat (first | (with_reducible assumption) | (with_reducible apply below_refl) | (with_reducible apply below_alloc1) | (with_reducible apply below_drewN1) | (with_reducible apply below_drew1)))) hb; have hC := (bcell hB).1; clear hb)
          go_ret2
          exact ⟨_, by rw [HM.out, ← HK.out]; rfl, by rw [HM.out, ← HK.out]; simp only [*], below_trans hb1 (by assumption)⟩
set_option maxRecDepth 100000 in
set_option maxHeartbeats 2000000 in
theorem l06Chance_any (p o : Nat) (a b : Int) (s : Nat) (w : World) (e1 : w.cell? ⟨p, o, none⟩ = some (.int .i64 a)) (e2 : w.cell? ⟨p, o + 1, none⟩ = some (.int .i64 b)) (hv : vldP a b = true) :
    Calls Try.prog 81 #[.pointer (some ⟨p, o, none⟩), .float .f32 s] w (FltOk (chSum a (ab .f32 s) (b + 1).toNat) w) := by
  have hlt : p < w.heap.size := World.block_lt_of_cell? w _ e1
  obtain ⟨q1, q2, q3, q4⟩ := vldP_true hv
  clear hv
  go_enter Try.func81, Try.ntmps81
  go_wp2_with fail
  go_loopw [5, 6] (fun x y wr => ∃ k r : Nat, (k : Int) ≤ b + 1 ∧ y = .int .i64 k ∧ x = .float .f32 r ∧ Hid (ab .f32 r = chSum a (ab .f32 s) k) ∧ Below w.heap.size w wr) (fun _ y _ => (b + 1).toNat - (intOf y).toNat)
  case atStart => exact ⟨0, 0, by omega, rfl, rfl, hid ab_z32, below_refl _⟩
  case round =>
    obtain ⟨k, r0, hk, rfl, rfl, hx, hw⟩ := hrel
    obtain ⟨wo, rfl⟩ : ∃ wo : World, wo = wr := ⟨_, rfl⟩
    have hC1 := (bcell hw).1
    by_cases hlt : (k : Int) < b + 1
    · have hle : (k : Int) ≤ b := by omega
      go_wp2_with (go_at_call 46; refine (l06Choose_i _ _ ⟨by omega, by omega⟩ ⟨by omega, by omega⟩ _).mono ?_; rintro e w' ⟨rfl, hb⟩; have hB : Below w.heap.size w w' := below_trans (by (repeat (first | (with_reducible assumption) | (with_reducible apply below_refl) | (with_reducible apply below_alloc1) | (with_reducible apply below_drewN1) | (with_reducible apply below_drew1)))) hb; have hC := (bcell hB).1; clear hb)
      go_loopw [7, 8] (fun x y wr => ∃ j r : Nat, j ≤ k ∧ y = .int .i64 j ∧ x = .float .f32 r ∧ Hid (ab .f32 r = powM (some (floatOfInt .f32 (binI a.toNat k : Nat))) (ab .f32 s) j) ∧ Below w.heap.size w wr) (fun _ y _ => k - (intOf y).toNat)
      case atStart => exact ⟨0, _, by omega, rfl, rfl, hid (ab_ofInt _ _), by assumption⟩
      case round =>
        obtain ⟨j, r1, hj, rfl, rfl, hx1, hw1⟩ := hrel
        have hC2 := (bcell hw1).1
        by_cases hlt1 : j < k
        · go_wp2_with (first | (refine upon_float rfl ?_; intro r n hr; go_simp))
          go_roundw
          case rel => exact ⟨j + 1, _, by omega, by go_num, rfl, hid (by simp only [*, hx1.out, powM]), by (repeat (first | (with_reducible assumption) | (with_reducible apply below_refl) | (with_reducible apply below_alloc1) | (with_reducible apply below_drewN1) | (with_reducible apply below_drew1)))⟩
          case measure => simp [intOf]; omega
        · obtain rfl : j = k := by omega
          go_wp2_with fail
          go_loopw [7, 9] (fun x y wr => ∃ i r : Nat, (i : Int) ≤ a - j ∧ y = .int .i64 (j + i : Nat) ∧ x = .float .f32 r ∧ Hid (ab .f32 r = powM (powM (some (floatOfInt .f32 (binI a.toNat j : Nat))) (ab .f32 s) j) (oneMinus (ab .f32 s)) i) ∧ Below w.heap.size w wr) (fun _ y _ => a.toNat - (intOf y).toNat)
          case atStart => exact ⟨0, r1, by omega, rfl, rfl, hx1, by assumption⟩
          case round =>
            obtain ⟨i, r2, hi, rfl, rfl, hx2, hw2⟩ := hrel
            have hC3 := (bcell hw2).1
            by_cases hlt2 : (i : Int) < a - j
            · have hlt3 : ((j + i : Nat) : Int) < a := by omega
              go_wp2_with (first | (refine upon_float rfl ?_; intro r n hr; go_simp))
              go_roundw
              case rel => exact ⟨i + 1, _, by omega, by go_num, rfl, hid (by simp only [*, hx2.out, powM, oneMinus, ab_one32]), by (repeat (first | (with_reducible assumption) | (with_reducible apply below_refl) | (with_reducible apply below_alloc1) | (with_reducible apply below_drewN1) | (with_reducible apply below_drew1)))⟩
              case measure => simp [intOf]; omega
            · have hlt3 : ¬ ((j + i : Nat) : Int) < a := by omega
              have hi' : i = (a - j).toNat := by omega
              have HI := hid hi'; clear hi'
              go_wp2_with (first | (refine upon_float rfl ?_; intro r n hr; go_simp))
              go_roundw
              case rel => exact ⟨j + 1, _, by omega, by go_num, rfl, hid (by simp only [*, hx.out, hx2.out, chSum, termM, ← HI.out]), by (repeat (first | (with_reducible assumption) | (with_reducible apply below_refl) | (with_reducible apply below_alloc1) | (with_reducible apply below_drewN1) | (with_reducible apply below_drew1)))⟩
              case measure => simp [intOf]; omega
    · have hle : ¬ (k : Int) ≤ b := by omega
      have hk' : k = (b + 1).toNat := by omega
      have HK := hid hk'; clear hk'
      go_wp2_with fail
      go_ret
      exact ⟨r0, rfl, by rw [← HK.out]; exact hx.out, hw⟩
end Go.Proofs.Ytkonlchholfpoaa
