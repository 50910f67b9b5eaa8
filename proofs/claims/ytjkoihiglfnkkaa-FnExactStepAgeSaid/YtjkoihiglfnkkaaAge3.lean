/- Contracts: StepAge, the reference's. -/
import Derived.Test.YtjkoihiglfnkkaaAge
import Derived.Test.YtjkoihiglfnkkaaQuiet
namespace Go.Proofs.Ytjkoihiglfnkkaa
open Go.RowKit

set_option maxRecDepth 100000 in
set_option maxHeartbeats 2000000 in
theorem specAge_any (v u : Value) (xs ys : List Nat) (t : Nat) (w : World) (hv : RowAt w v (xs.map (Value.float .f32))) (hu : RowAt w u (ys.map (Value.float .f32))) :
    Calls Try.prog 20 #[v, u, .float .f32 t] w (NumOk (ageM xs ys (ab .f32 t)) w) := by
  have HV := hid hv
  have HU := hid hu
  obtain ⟨ao, cap, b, off, rfl, hao, hl, hm, hc⟩ := hv
  obtain ⟨ao', cap', b', off', rfl, hao', hl', hm', hc'⟩ := hu
  simp only [List.length_map] at hl HV hl' HU hao hao' ⊢
  unfold maxLen at hm hm'
  have HC := hid hc; have HA := hid hao; have HC' := hid hc'; have HA' := hid hao'
  clear hc hao hc' hao'
  by_cases h1 : 1 ≤ xs.length
  rotate_left
  · have HM := hid (age_no (xs := xs) (ys := ys) (t := ab .f32 t) (by simp [ageOk, h1]))
    have h1' : (xs.length : Int) < 1 := by omega
    go_enter Try.func20, Try.ntmps20
    go_wp2_with fail
    go_ret2
    exact numOk_no HM.out (by (repeat (first | (with_reducible assumption) | (with_reducible apply below_refl) | (with_reducible apply below_alloc1) | (with_reducible apply below_drewN1) | (with_reducible apply below_drew1))))
  have h1' : ¬ (xs.length : Int) < 1 := by omega
  by_cases h2 : xs.length ≤ 16
  rotate_left
  · have HM := hid (age_no (xs := xs) (ys := ys) (t := ab .f32 t) (by simp [ageOk, h2]))
    have h2' : (16 : Int) < (xs.length : Int) := by omega
    go_enter Try.func20, Try.ntmps20
    go_wp2_with fail
    go_ret2
    exact numOk_no HM.out (by (repeat (first | (with_reducible assumption) | (with_reducible apply below_refl) | (with_reducible apply below_alloc1) | (with_reducible apply below_drewN1) | (with_reducible apply below_drew1))))
  have h2' : ¬ (16 : Int) < (xs.length : Int) := by omega
  by_cases h3 : ys.length = xs.length
  rotate_left
  · have HM := hid (age_no (xs := xs) (ys := ys) (t := ab .f32 t) (by simp [ageOk, h3]))
    have h3' : ((ys.length : Int) != (xs.length : Int)) = true := by simp; omega
    have h3'' : ((ys.length : Int) == (xs.length : Int)) = false := by simp; omega
    clear h3
    go_enter Try.func20, Try.ntmps20
    go_wp2_with fail
    go_ret2
    exact numOk_no HM.out (by (repeat (first | (with_reducible assumption) | (with_reducible apply below_refl) | (with_reducible apply below_alloc1) | (with_reducible apply below_drewN1) | (with_reducible apply below_drew1))))
  have HL3 := hid h3
  have h3' : ((ys.length : Int) != (xs.length : Int)) = false := by simp; omega
  have h3'' : ((ys.length : Int) == (xs.length : Int)) = true := by simp; omega
  cases g2 : (ys.all fun b => finB (ab .f32 b))
  · have HM := hid (age_no (xs := xs) (ys := ys) (t := ab .f32 t) (by simp only [ageOk, g2, Bool.and_false, Bool.false_and]))
    have G2 := hid g2; clear g2 h3
    go_enter Try.func20, Try.ntmps20
    go_wp2_with (first | (go_at_call 47; (with_reducible refine (l02Finite_any _ ys _ (HU.out.below (by (repeat (first | (with_reducible assumption) | (with_reducible apply below_refl) | (with_reducible apply below_alloc1) | (with_reducible apply below_drewN1) | (with_reducible apply below_drew1)))))).mono ?_); rw [G2.out]; rintro e w' ⟨rfl, hb⟩; have hB : Below w.heap.size w w' := below_trans (by (repeat (first | (with_reducible assumption) | (with_reducible apply below_refl) | (with_reducible apply below_alloc1) | (with_reducible apply below_drewN1) | (with_reducible apply below_drew1)))) hb; have hC := (bcell hB).1; clear hb))
    go_ret2
    exact numOk_no HM.out (by assumption)
  have G2 := hid g2
  obtain rfl := HA.out (by omega)
  obtain rfl := HA'.out (by omega)
  have hcell0 := rowc HC'.out (below_refl w) 0 (by omega)
  have hbl0 : b' < w.heap.size := World.block_lt_of_cell? w _ hcell0
  have hg0 := getD_at ys 0 (by omega)
  rw [Nat.add_zero] at hcell0
  have hlY : 0 < ys.length := by omega
  generalize ys[0]'(by omega) = y0 at hcell0 hg0
  have hC0 := (bcell (below_refl w)).1
  by_cases g3 : ford .f32 (ab .f32 y0) (some 0) = some Ordering.eq
  rotate_left
  · have HM := hid (age_no (xs := xs) (ys := ys) (t := ab .f32 t) (by simp only [ageOk, hg0, show (ford .f32 (ab .f32 y0) (some 0) == some Ordering.eq) = false by simpa using g3, Bool.and_false, Bool.false_and]))
    clear g2 h3 hg0
    go_enter Try.func20, Try.ntmps20
    go_wp2_with (first | (go_at_call 47; (with_reducible refine (l02Finite_any _ ys _ (HU.out.below (by (repeat (first | (with_reducible assumption) | (with_reducible apply below_refl) | (with_reducible apply below_alloc1) | (with_reducible apply below_drewN1) | (with_reducible apply below_drew1)))))).mono ?_); rw [G2.out]; rintro e w' ⟨rfl, hb⟩; have hB : Below w.heap.size w w' := below_trans (by (repeat (first | (with_reducible assumption) | (with_reducible apply below_refl) | (with_reducible apply below_alloc1) | (with_reducible apply below_drewN1) | (with_reducible apply below_drew1)))) hb; have hC := (bcell hB).1; clear hb))
    go_ret2
    exact numOk_no HM.out (by assumption)
  cases g5 : notLessB (ab .f32 t)
  · have HM := hid (age_no (xs := xs) (ys := ys) (t := ab .f32 t) (by simp only [ageOk, g5, Bool.and_false]))
    have G5 := hid g5
    clear g2 h3 hg0 g5
    go_enter Try.func20, Try.ntmps20
    go_wp2_with (first | (go_at_call 47; (with_reducible refine (l02Finite_any _ ys _ (HU.out.below (by (repeat (first | (with_reducible assumption) | (with_reducible apply below_refl) | (with_reducible apply below_alloc1) | (with_reducible apply below_drewN1) | (with_reducible apply below_drew1)))))).mono ?_); rw [G2.out]; rintro e w' ⟨rfl, hb⟩; have hB : Below w.heap.size w w' := below_trans (by (repeat (first | (with_reducible assumption) | (with_reducible apply below_refl) | (with_reducible apply below_alloc1) | (with_reducible apply below_drewN1) | (with_reducible apply below_drew1)))) hb; have hC := (bcell hB).1; clear hb) | (go_at_call 56; (with_reducible refine (l02Least_any _ _).mono ?_); rw [G5.out]; rintro e w' ⟨rfl, hb⟩; have hB : Below w.heap.size w w' := below_trans (by (repeat (first | (with_reducible assumption) | (with_reducible apply below_refl) | (with_reducible apply below_alloc1) | (with_reducible apply below_drewN1) | (with_reducible apply below_drew1)))) hb; have hC := (bcell hB).1; clear hb))
    go_ret2
    exact numOk_no HM.out (by assumption)
  have G5 := hid g5
  have HOK := hid (show (∀ j, j < xs.length → notLessB (ab .f32 (xs.getD j 0)) = true) → (∀ j, j + 1 < xs.length → riseAt ys j = true) → ageOk xs ys (ab .f32 t) = true from fun q1 q2 => by
    have q3 : (xs.all fun b => notLessB (ab .f32 b)) = true := by
      rw [List.all_eq_true]
      intro x hx
      obtain ⟨j, hj, rfl⟩ := List.getElem_of_mem hx
      have := q1 j hj
      rwa [getD_at xs j hj] at this
    have q4 : riseB ys = true := riseB_yes (fun j hj => q2 j (by omega))
    simp only [ageOk, q3, g2, hg0, g3, q4, g5, h1, h2, h3, decide_true, Bool.and_true, beq_self_eq_true])
  clear g2 h3 hg0 g5
  go_enter Try.func20, Try.ntmps20
  go_wp2_with (first | (go_at_call 47; (with_reducible refine (l02Finite_any _ ys _ (HU.out.below (by (repeat (first | (with_reducible assumption) | (with_reducible apply below_refl) | (with_reducible apply below_alloc1) | (with_reducible apply below_drewN1) | (with_reducible apply below_drew1)))))).mono ?_); rw [G2.out]; rintro e w' ⟨rfl, hb⟩; have hB : Below w.heap.size w w' := below_trans (by (repeat (first | (with_reducible assumption) | (with_reducible apply below_refl) | (with_reducible apply below_alloc1) | (with_reducible apply below_drewN1) | (with_reducible apply below_drew1)))) hb; have hC := (bcell hB).1; clear hb) | (go_at_call 56; (with_reducible refine (l02Least_any _ _).mono ?_); rw [G5.out]; rintro e w' ⟨rfl, hb⟩; have hB : Below w.heap.size w w' := below_trans (by (repeat (first | (with_reducible assumption) | (with_reducible apply below_refl) | (with_reducible apply below_alloc1) | (with_reducible apply below_drewN1) | (with_reducible apply below_drew1)))) hb; have hC := (bcell hB).1; clear hb))
  clear hC0 hcell0 hbl0
  go_loopw [9, 45] (fun x i wr => ∃ (k : Nat) (q : Nat), k ≤ xs.length ∧ i = .int .i64 k ∧ x = .float .f32 q ∧ ab .f32 q = ageAt xs ys (ageEndS ys (ab .f32 t)) k ∧ Hid ((∀ j, j < k → notLessB (ab .f32 (xs.getD j 0)) = true) ∧ (∀ j, j + 1 < k → riseAt ys j = true)) ∧ Below w.heap.size w wr) (fun _ i _ => xs.length - (intOf i).toNat)
  case atStart => exact ⟨0, 0, Nat.zero_le _, rfl, rfl, ab_z32, hid ⟨fun j h => absurd h (Nat.not_lt_zero _), fun j h => absurd h (Nat.not_lt_zero _)⟩, by (repeat (first | (with_reducible assumption) | (with_reducible apply below_refl) | (with_reducible apply below_alloc1) | (with_reducible apply below_drewN1) | (with_reducible apply below_drew1)))⟩
  case round =>
    obtain ⟨k, q, hk, rfl, rfl, hq, hyes, hw⟩ := hrel
    by_cases hlt : k < xs.length
    · have l3 := HL3.out
      have hlt2 : k < ys.length := by omega
      have hcell := rowc HC.out hw k hlt
      have hcell2 := rowc HC'.out hw k hlt2
      have hgx := getD_at xs k hlt
      have hgy := getD_at ys k hlt2
      have hltY : (k : Int) < (ys.length : Int) := by omega
      have hk0 : (0 : Int) ≤ (k : Int) := by omega
      have hk1 : (0 : Int) ≤ (k : Int) + 1 := by omega
      have W1 : IntKind.i64.wrap ((k : Int) + 1) = (k : Int) + 1 := by rw [IntKind.wrap_i64]; omega
      have i1 : ((k : Int) + 1).toNat = k + 1 := by omega
      have hbl1 : b < wr.heap.size := World.block_lt_of_cell? wr _ hcell
      have hbl2 : b' < wr.heap.size := World.block_lt_of_cell? wr _ hcell2
      cases n1 : notLessB (ab .f32 xs[k])
      · have HM := hid (age_no (xs := xs) (ys := ys) (t := ab .f32 t) (by
          have : (xs.all fun b => notLessB (ab .f32 b)) = false := by rw [List.all_eq_false]; exact ⟨xs[k], List.getElem_mem hlt, by simp [n1]⟩
          simp only [ageOk, this, Bool.and_false, Bool.false_and]))
        generalize xs[k] = x at hcell n1
        have N1 := hid n1
        clear l3 hgx hgy n1
        go_wp2_with (first | go_quiet ((go_at_call 56; exact quiet_at N1.out (l02Least_q _ _))))
        go_ret2
        exact numOk_no HM.out (by (repeat (first | (with_reducible assumption) | (with_reducible apply below_refl) | (with_reducible apply below_alloc1) | (with_reducible apply below_drewN1) | (with_reducible apply below_drew1))))
      have hno := hyes.out.2
      have hD : (¬ (0 : Int) < (k : Int) ∧ Hid (∀ j, j + 1 < k + 1 → riseAt ys j = true)) ∨ (∃ (p y' : Nat), (0 : Int) < (k : Int) ∧ IntKind.i64.wrap ((k : Int) - 1) = (p : Int) ∧ (k : Int) - 1 = (p : Int) ∧ (p : Int) < (ys.length : Int) ∧ (0 : Int) ≤ (p : Int) ∧ wr.cell? ⟨b', off' + p, none⟩ = some (.float .f32 y') ∧ (ford .f32 (ab .f32 ys[k]) (ab .f32 y') == some .gt) = true ∧ Hid (∀ j, j + 1 < k + 1 → riseAt ys j = true)) ∨ (∃ (p y' : Nat), (0 : Int) < (k : Int) ∧ IntKind.i64.wrap ((k : Int) - 1) = (p : Int) ∧ (k : Int) - 1 = (p : Int) ∧ (p : Int) < (ys.length : Int) ∧ (0 : Int) ≤ (p : Int) ∧ wr.cell? ⟨b', off' + p, none⟩ = some (.float .f32 y') ∧ (ford .f32 (ab .f32 ys[k]) (ab .f32 y') == some .gt) = false ∧ Hid (ageM xs ys (ab .f32 t) = (some 0, false))) := by
        cases k with
        | zero => exact Or.inl ⟨by omega, hid (fun j hj => by omega)⟩
        | succ p =>
          right
          have hc4 := rowc HC'.out hw p (by omega)
          have hr : riseAt ys p = (ford .f32 (ab .f32 ys[p + 1]) (ab .f32 ys[p]) == some .gt) := by unfold riseAt; rw [getD_at ys (p + 1) hlt2, getD_at ys p (by omega)]
          have a1 : (0 : Int) < ((p + 1 : Nat) : Int) := by omega
          have a2 : IntKind.i64.wrap (((p + 1 : Nat) : Int) - 1) = (p : Int) := by rw [IntKind.wrap_i64]; omega
          have a3 : ((p + 1 : Nat) : Int) - 1 = (p : Int) := by omega
          have a4 : (p : Int) < (ys.length : Int) := by omega
          have a5 : (0 : Int) ≤ (p : Int) := by omega
          cases hg : (ford .f32 (ab .f32 ys[p + 1]) (ab .f32 ys[p]) == some .gt)
          · refine Or.inr ⟨p, ys[p], a1, a2, a3, a4, a5, hc4, hg, hid (age_no ?_)⟩
            have := riseB_no hlt2 (hr.trans hg)
            simp only [ageOk, this, Bool.and_false, Bool.false_and]
          · refine Or.inl ⟨p, ys[p], a1, a2, a3, a4, a5, hc4, hg, hid (fun j hj => ?_)⟩
            by_cases e : j = p
            · rw [e]; exact hr.trans hg
            · exact hno j (by omega)
      have HY := hid (show ∀ j, j < k + 1 → notLessB (ab .f32 (xs.getD j 0)) = true from fun j hj => by
        by_cases e : j = k
        · rw [e, hgx]; exact n1
        · exact hyes.out.1 j (by omega))
      have hE : (¬ (k : Int) + 1 < (xs.length : Int) ∧ Hid (ageLong ys (ageEndS ys (ab .f32 t)) k = fop .sub .f32 (ab .f32 t) (ab .f32 ys[k]))) ∨ (∃ z, (k : Int) + 1 < (xs.length : Int) ∧ (k : Int) + 1 < (ys.length : Int) ∧ wr.cell? ⟨b', off' + (k + 1), none⟩ = some (.float .f32 z) ∧ (ford .f32 (ab .f32 z) (ab .f32 t) == some .lt) = true ∧ Hid (ageLong ys (ageEndS ys (ab .f32 t)) k = fop .sub .f32 (ab .f32 z) (ab .f32 ys[k]))) ∨ (∃ z, (k : Int) + 1 < (xs.length : Int) ∧ (k : Int) + 1 < (ys.length : Int) ∧ wr.cell? ⟨b', off' + (k + 1), none⟩ = some (.float .f32 z) ∧ (ford .f32 (ab .f32 z) (ab .f32 t) == some .lt) = false ∧ Hid (ageLong ys (ageEndS ys (ab .f32 t)) k = fop .sub .f32 (ab .f32 t) (ab .f32 ys[k]))) := by
        by_cases hin : k + 1 < ys.length
        · right
          have hc5 := rowc HC'.out hw (k + 1) hin
          cases hg : (ford .f32 (ab .f32 ys[k + 1]) (ab .f32 t) == some .lt)
          · exact Or.inr ⟨_, by omega, by omega, hc5, hg, hid (ageLong_at hlt2 (ageEndS_no hin hg))⟩
          · exact Or.inl ⟨_, by omega, by omega, hc5, hg, hid (ageLong_at hlt2 (ageEndS_in hin hg))⟩
        · exact Or.inl ⟨by omega, hid (ageLong_at hlt2 (ageEndS_out hin))⟩
      have HQ := hid hq
      have HGX := hid hgx
      have N1 := hid n1
      clear l3 hgx hgy hno hq n1
      generalize xs[k] = x at hcell HGX N1
      generalize ys[k] = y at hcell2 hD hE
      rcases hD with ⟨d1, HR⟩ | ⟨p, y', d1, d2, d3, d4, d5, d6, d7, HR⟩ | ⟨p, y', d1, d2, d3, d4, d5, d6, d7, HM⟩
      rotate_left 2
      · clear hE
        have d1n : 0 < k := by omega
        go_wp2_with (first | go_quiet ((go_at_call 56; exact quiet_at N1.out (l02Least_q _ _))))
        go_ret2
        exact numOk_no HM.out (by (repeat (first | (with_reducible assumption) | (with_reducible apply below_refl) | (with_reducible apply below_alloc1) | (with_reducible apply below_drewN1) | (with_reducible apply below_drew1))))
      all_goals
        have d1n := d1
        simp only [Int.natCast_pos] at d1n
      all_goals
        rcases hE with ⟨e1, HL⟩ | ⟨z, e1, e2, e3, e4, HL⟩ | ⟨z, e1, e2, e3, e4, HL⟩
      all_goals
        rcases Bool.eq_false_or_eq_true (ford .f32 (ageLong ys (ageEndS ys (ab .f32 t)) k) (some 0) == some .gt) with ht | ht
      all_goals
        have HS : Hid (ageAt xs ys (ageEndS ys (ab .f32 t)) (k + 1) = if (ford .f32 (ageLong ys (ageEndS ys (ab .f32 t)) k) (some 0) == some .gt) = true then fop .add .f32 (ab .f32 q) (fop .mul .f32 (ab .f32 x) (ageLong ys (ageEndS ys (ab .f32 t)) k)) else ab .f32 q) := hid (by rw [HQ.out, ← HGX.out]; rfl)
        rw [HL.out] at ht HS
        rw [ht] at HS
        clear HQ HGX HL
        go_wp2_with (first | go_quiet ((go_at_call 56; exact quiet_at N1.out (l02Least_q _ _))) | (refine upon_float rfl ?_; intro r n hr; go_simp) | go_quiet (fail))
        go_roundw
        case rel => exact ⟨k + 1, _, by omega, by go_num, rfl, by rw [HS.out]; simp [*], hid ⟨HY.out, fun j hj => HR.out j hj⟩, by (repeat (first | (with_reducible assumption) | (with_reducible apply below_refl) | (with_reducible apply below_alloc1) | (with_reducible apply below_drewN1) | (with_reducible apply below_drew1)))⟩
        case measure => simp [intOf]; omega
    · obtain rfl : k = xs.length := by omega
      have hok := HOK.out hyes.out.1 hyes.out.2
      have HM := hid (age_yes hok)
      rw [age_same hok, ← hq] at HM
      clear hq hok
      go_wp2_with (first | (go_at_call 49; refine (l02Number_num _ _).mono ?_; rintro e w' ⟨r, rfl, hr, hb⟩))
      go_ret2
      exact ⟨_, by rw [HM.out]; rfl, by rw [HM.out]; exact hr, below_trans hw (by (repeat (first | (with_reducible assumption) | (with_reducible apply below_refl) | (with_reducible apply below_alloc1) | (with_reducible apply below_drewN1) | (with_reducible apply below_drew1))))⟩
end Go.Proofs.Ytjkoihiglfnkkaa
