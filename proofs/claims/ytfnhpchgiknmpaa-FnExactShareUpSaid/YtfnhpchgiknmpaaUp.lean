/- ShareUp: both sides. -/
import Derived.Test.YtfnhpchgiknmpaaBalBoth
namespace Go.Proofs.Ytfnhpchgiknmpaa
open Go.RowKit

def upS (xs : List Nat) (us : List Bool) : Nat → Option Nat
  | 0 => some 0
  | m + 1 => if us.getD m false = true then fop .add .f32 (upS xs us m) (atX xs m) else upS xs us m
theorem upS_next (xs : List Nat) (us : List Bool) (m : Nat) : upS xs us (m + 1) = if us.getD m false = true then fop .add .f32 (upS xs us m) (atX xs m) else upS xs us m := rfl
def upM (rs : List Nat) (s : Int) (us : List Bool) : Option Nat × Bool :=
  if balAll (balOf rs s) = true ∧ us.length = (balXs (balOf rs s)).length then ifFin (upS (balXs (balOf rs s)) us us.length) else (some 0, false)
theorem balAll_len {rs : List Nat} {s : Int} (h : balAll (balOf rs s) = true) : ((balXs (balOf rs s)).length : Int) = s ∧ 1 ≤ (balXs (balOf rs s)).length ∧ (balXs (balOf rs s)).length ≤ 8 := by
  unfold balOf at h ⊢
  cases hC : chainB rs s
  · rw [hC] at h; simp [balAll] at h
  · obtain ⟨n, rfl, hn1, hn8, -⟩ := chainB_parts hC
    rw [hC] at h
    simp only [if_true, Int.toNat_natCast] at h ⊢
    cases hM : balRaw rs n with
    | none => rw [hM] at h; simp [balAll] at h
    | some L =>
      rw [hM] at h
      have hl := balRaw_len hM
      have hf : finL L = true := h
      simp only [balXs, hf, if_true, bitsOf, List.length_map]
      omega
set_option maxRecDepth 100000 in
set_option maxHeartbeats 1600000 in
theorem implUp_any (s : Int) (v : Value) (rs : List Nat) (u : Value) (us : List Bool) (w : World) (hv : RowAt w v (rs.map (Value.float .f32))) (hu : RowAt w u (us.map Value.bool)) :
    Calls Try.prog 26 #[.agg #[.int .i64 s, v], u] w (NumOk (upM rs s us) w) := by
  have HV := hid hv
  obtain ⟨ao, cap, b, off, rfl, hao, hl, hm, hc⟩ := hu
  simp only [List.length_map] at hao hl ⊢
  unfold maxLen at hm
  have HA := hid hao; have HC := hid hc
  clear hv hao hc
  cases hok : balAll (balOf rs s)
  · have HOK := hid hok
    have HM := hid (show upM rs s us = (some 0, false) by unfold upM; rw [hok]; simp)
    clear hok
    go_enter Try.func26, Try.ntmps26
    go_wp2_with (first
      | (go_at_call 18; refine (implBalance_v s _ rs _ (HV.out.below (by (repeat (first | (with_reducible assumption) | (with_reducible apply below_refl) | (with_reducible apply below_alloc1) | (with_reducible apply below_drewN1) | (with_reducible apply below_drew1)))))).mono ?_; rintro e w' ⟨x, rfl, ho, hb⟩; rw [HOK.out]; have hB : Below w.heap.size w w' := below_trans (by (repeat (first | (with_reducible assumption) | (with_reducible apply below_refl) | (with_reducible apply below_alloc1) | (with_reducible apply below_drewN1) | (with_reducible apply below_drew1)))) hb; clear hb ho))
    go_ret2
    exact numOk_no HM.out (by assumption)
  obtain ⟨l1, l2, l3⟩ := balAll_len hok
  have HOK := hid hok
  have HM := hid (show upM rs s us = if us.length = (balXs (balOf rs s)).length then ifFin (upS (balXs (balOf rs s)) us us.length) else (some 0, false) by unfold upM; rw [hok]; simp)
  clear hok
  obtain ⟨xs, hxs⟩ : ∃ xs, xs = balXs (balOf rs s) := ⟨_, rfl⟩
  rw [← hxs] at l1 l2 l3 HM
  have L1 := hid l1
  clear l1
  have HX := hid hxs
  clear hxs
  by_cases hlen : us.length = xs.length
  · have HM2 := hid (show upM rs s us = ifFin (upS xs us us.length) by rw [HM.out, if_pos hlen])
    have hlenI : (us.length : Int) = (xs.length : Int) := by omega
    go_enter Try.func26, Try.ntmps26
    go_wp2_with (first
      | (go_at_call 18; refine (implBalance_v s _ rs _ (HV.out.below (by (repeat (first | (with_reducible assumption) | (with_reducible apply below_refl) | (with_reducible apply below_alloc1) | (with_reducible apply below_drewN1) | (with_reducible apply below_drew1)))))).mono ?_; rintro e w' ⟨x, rfl, ho, hb⟩; rw [HOK.out]; rw [← HX.out] at ho; obtain ⟨g, cx, e1, -⟩ := slice_of_own ho (by rw [List.length_map]; omega); rw [List.length_map] at e1; subst e1; have HO := hid ho; have hB : Below w.heap.size w w' := below_trans (by (repeat (first | (with_reducible assumption) | (with_reducible apply below_refl) | (with_reducible apply below_alloc1) | (with_reducible apply below_drewN1) | (with_reducible apply below_drew1)))) hb; clear hb ho))
    obtain ⟨wo, hwo⟩ : ∃ wo, wo = w' := ⟨_, rfl⟩
    subst hwo
    obtain rfl := HA.out (by omega)
    have HCO := hid (show ∀ (k : Nat) (hk : k < us.length) (wq : World), Below wo.heap.size wo wq → wq.cell? ⟨b, off + k, none⟩ = some (.bool us[k]) from fun k hk wq hq => rowc HC.out (below_trans hB hq) k hk)
    go_loopw [8, 27] (fun x i wr => ∃ (k q : Nat), k ≤ xs.length ∧ i = .int .i64 k ∧ x = .float .f32 q ∧ Hid (ab .f32 q = upS xs us k) ∧ Below wo.heap.size wo wr) (fun _ i _ => xs.length - (intOf i).toNat)
    case atStart => exact ⟨0, 0, Nat.zero_le _, rfl, rfl, hid ab_z32, by (repeat (first | (with_reducible assumption) | (with_reducible apply below_refl) | (with_reducible apply below_alloc1) | (with_reducible apply below_drewN1) | (with_reducible apply below_drew1)))⟩
    case round =>
      obtain ⟨k, q, hk, rfl, rfl, hq, hwr⟩ := hrel
      by_cases hlt : k < xs.length
      · have hkI : (k : Int) < (xs.length : Int) := by omega
        have hkz : (0 : Int) ≤ (k : Int) := by omega
        have hku : k < us.length := by omega
        have hcu := HCO.out k hku wr hwr
        have ho2 := ownsRow_below HO.out hwr
        have hcx : wr.cell? ⟨g, k, none⟩ = some (.float .f32 xs[k]) := by
          have h := ho2
          rw [List.length_map] at h
          rw [h.cellAt k (by omega)]
          simp [hlt]
        have HN := hid (show upS xs us (k + 1) = if us[k] = true then fop .add .f32 (ab .f32 q) (ab .f32 xs[k]) else ab .f32 q by
          rw [upS_next, ← hq.out, atX_get hlt]
          simp [hku])
        clear ho2
        generalize xs[k] = y at hcx HN
        generalize us[k] = bb at hcu HN
        cases bb
        · go_wp2_with fail
          go_roundw
          case rel => exact ⟨k + 1, q, by omega, by go_num, rfl, hid (by rw [HN.out]; rfl), below_trans hwr (by (repeat (first | (with_reducible assumption) | (with_reducible apply below_refl) | (with_reducible apply below_alloc1) | (with_reducible apply below_drewN1) | (with_reducible apply below_drew1))))⟩
          case measure => simp [intOf]; omega
        · go_wp2_with (refine upon_float rfl ?_; intro r nn hr; go_simp)
          go_roundw
          case rel => exact ⟨k + 1, r, by omega, by go_num, rfl, hid (by rw [HN.out, hr]; rfl), below_trans hwr (by (repeat (first | (with_reducible assumption) | (with_reducible apply below_refl) | (with_reducible apply below_alloc1) | (with_reducible apply below_drewN1) | (with_reducible apply below_drew1))))⟩
          case measure => simp [intOf]; omega
      · obtain rfl : k = xs.length := by omega
        have HF := hid (show ab .f32 q = upS xs us us.length by rw [hlen]; exact hq.out)
        go_wp2_with (first
          | (go_at_call 57; refine (ifFinite_num _ _).mono ?_; rw [HF.out, ← HM2.out]; rintro e w7 ⟨r, rfl, hr, hb7⟩; have HR := hid hr; have HB7 := hid (below_trans (show Below wr.heap.size wr _ by (repeat (first | (with_reducible assumption) | (with_reducible apply below_refl) | (with_reducible apply below_alloc1) | (with_reducible apply below_drewN1) | (with_reducible apply below_drew1)))) hb7); clear hb7 hr))
        go_ret2
        exact ⟨r, rfl, HR.out, below_trans hB (below_trans hwr HB7.out)⟩
  · have HM2 := hid (show upM rs s us = (some 0, false) by rw [HM.out, if_neg hlen])
    have hlenI : ¬ (us.length : Int) = (xs.length : Int) := by omega
    have hlenb : ((us.length : Int) != (xs.length : Int)) = true := by simpa using hlenI
    go_enter Try.func26, Try.ntmps26
    go_wp2_with (first
      | (go_at_call 18; refine (implBalance_v s _ rs _ (HV.out.below (by (repeat (first | (with_reducible assumption) | (with_reducible apply below_refl) | (with_reducible apply below_alloc1) | (with_reducible apply below_drewN1) | (with_reducible apply below_drew1)))))).mono ?_; rintro e w' ⟨x, rfl, ho, hb⟩; rw [HOK.out]; rw [← HX.out] at ho; obtain ⟨g, cx, e1, -⟩ := slice_of_own ho (by rw [List.length_map]; omega); rw [List.length_map] at e1; subst e1; have HO := hid ho; have hB : Below w.heap.size w w' := below_trans (by (repeat (first | (with_reducible assumption) | (with_reducible apply below_refl) | (with_reducible apply below_alloc1) | (with_reducible apply below_drewN1) | (with_reducible apply below_drew1)))) hb; clear hb ho))
    go_ret2
    exact numOk_no HM2.out (by assumption)
set_option maxRecDepth 100000 in
set_option maxHeartbeats 1600000 in
theorem specUp_any (s : Int) (v : Value) (rs : List Nat) (u : Value) (us : List Bool) (w : World) (hv : RowAt w v (rs.map (Value.float .f32))) (hu : RowAt w u (us.map Value.bool)) :
    Calls Try.prog 24 #[.agg #[.int .i64 s, v], u] w (NumOk (upM rs s us) w) := by
  have HV := hid hv
  obtain ⟨av, cv, bv, ov, rfl, -⟩ := hv
  obtain ⟨ao, cap, b, off, rfl, hao, hl, hm, hc⟩ := hu
  rw [List.length_map] at HV
  simp only [List.length_map] at hao hl ⊢
  unfold maxLen at hm
  have HA := hid hao; have HC := hid hc
  have W1 : IntKind.i64.wrap (us.length : Int) = (us.length : Int) := by rw [IntKind.wrap_i64]; omega
  clear hao hc
  cases hok : balAll (balOf rs s)
  · have HOK := hid hok
    have HM := hid (show upM rs s us = (some 0, false) by unfold upM; rw [hok]; simp)
    clear hok
    go_enter Try.func24, Try.ntmps24
    go_wp2_with (first
      | (go_at_call 16; refine (specBalance_v s _ rs _ (HV.out.below (by (repeat (first | (with_reducible assumption) | (with_reducible apply below_refl) | (with_reducible apply below_alloc1) | (with_reducible apply below_drewN1) | (with_reducible apply below_drew1)))))).mono ?_; rintro e w' ⟨x, rfl, ho, hb⟩; rw [HOK.out]; have hB : Below w.heap.size w w' := below_trans (by (repeat (first | (with_reducible assumption) | (with_reducible apply below_refl) | (with_reducible apply below_alloc1) | (with_reducible apply below_drewN1) | (with_reducible apply below_drew1)))) hb; clear hb ho))
    go_ret2
    exact numOk_no HM.out (by assumption)
  obtain ⟨l1, l2, l3⟩ := balAll_len hok
  have HOK := hid hok
  have HM := hid (show upM rs s us = if us.length = (balXs (balOf rs s)).length then ifFin (upS (balXs (balOf rs s)) us us.length) else (some 0, false) by unfold upM; rw [hok]; simp)
  clear hok
  obtain ⟨xs, hxs⟩ : ∃ xs, xs = balXs (balOf rs s) := ⟨_, rfl⟩
  rw [← hxs] at l1 l2 l3 HM
  have HX := hid hxs
  clear hxs
  by_cases hlen : us.length = xs.length
  · have HM2 := hid (show upM rs s us = ifFin (upS xs us us.length) by rw [HM.out, if_pos hlen])
    have HL := hid hlen
    have hs : s = (us.length : Int) := by omega
    subst hs
    clear l1 hlen
    go_enter Try.func24, Try.ntmps24
    go_wp2_with (first
      | (go_at_call 16; refine (specBalance_v _ _ rs _ (HV.out.below (by (repeat (first | (with_reducible assumption) | (with_reducible apply below_refl) | (with_reducible apply below_alloc1) | (with_reducible apply below_drewN1) | (with_reducible apply below_drew1)))))).mono ?_; rintro e w' ⟨x, rfl, ho, hb⟩; rw [HOK.out]; rw [← HX.out] at ho; obtain ⟨g, cx, e1, -⟩ := slice_of_own ho (by rw [List.length_map]; omega); rw [List.length_map] at e1; subst e1; have HO := hid ho; have hB : Below w.heap.size w w' := below_trans (by (repeat (first | (with_reducible assumption) | (with_reducible apply below_refl) | (with_reducible apply below_alloc1) | (with_reducible apply below_drewN1) | (with_reducible apply below_drew1)))) hb; have hcc := (bcell hb).1; have k0 : w'.cell? ⟨w.heap.size, 0, none⟩ = some (.int .i64 _) := (by rw [hcc _ _ (by simp)]; simp; rfl); clear hb ho hcc))
    obtain ⟨wo, hwo⟩ : ∃ wo, wo = w' := ⟨_, rfl⟩
    subst hwo
    obtain rfl := HA.out (by have := HL.out; omega)
    clear k0
    have HCO := hid (show ∀ (k : Nat) (hk : k < us.length) (wq : World), Below wo.heap.size wo wq → wq.cell? ⟨b, off + k, none⟩ = some (.bool us[k]) from fun k hk wq hq => rowc HC.out (below_trans hB hq) k hk)
    go_loopw [8, 9] (fun x i wr => ∃ (k q : Nat), k ≤ us.length ∧ i = .int .i64 k ∧ x = .float .f32 q ∧ Hid (ab .f32 q = upS xs us k) ∧ Below wo.heap.size wo wr) (fun _ i _ => us.length - (intOf i).toNat)
    case atStart => exact ⟨0, 0, Nat.zero_le _, rfl, rfl, hid ab_z32, by (repeat (first | (with_reducible assumption) | (with_reducible apply below_refl) | (with_reducible apply below_alloc1) | (with_reducible apply below_drewN1) | (with_reducible apply below_drew1)))⟩
    case round =>
      obtain ⟨k, q, hk, rfl, rfl, hq, hwr⟩ := hrel
      by_cases hku : k < us.length
      · have hlt : k < xs.length := by rw [← HL.out]; exact hku
        have hkI : (k : Int) < (us.length : Int) := by omega
        have hkX : (k : Int) < (xs.length : Int) := by omega
        have hkz : (0 : Int) ≤ (k : Int) := by omega
        have hcu := HCO.out k hku wr hwr
        have ho2 := ownsRow_below HO.out hwr
        have hcx : wr.cell? ⟨g, k, none⟩ = some (.float .f32 xs[k]) := by
          have h := ho2
          rw [List.length_map] at h
          rw [h.cellAt k (by omega)]
          simp [hlt]
        have HN := hid (show upS xs us (k + 1) = if us[k] = true then fop .add .f32 (ab .f32 q) (ab .f32 xs[k]) else ab .f32 q by
          rw [upS_next, ← hq.out, atX_get hlt]
          simp [hku])
        clear ho2
        generalize xs[k] = y at hcx HN
        generalize us[k] = bb at hcu HN
        cases bb
        · go_wp2_with fail
          go_roundw
          case rel => exact ⟨k + 1, q, by omega, by go_num, rfl, hid (by rw [HN.out]; rfl), below_trans hwr (by (repeat (first | (with_reducible assumption) | (with_reducible apply below_refl) | (with_reducible apply below_alloc1) | (with_reducible apply below_drewN1) | (with_reducible apply below_drew1))))⟩
          case measure => simp [intOf]; omega
        · go_wp2_with (refine upon_float rfl ?_; intro r nn hr; go_simp)
          go_roundw
          case rel => exact ⟨k + 1, r, by omega, by go_num, rfl, hid (by rw [HN.out, hr]; rfl), below_trans hwr (by (repeat (first | (with_reducible assumption) | (with_reducible apply below_refl) | (with_reducible apply below_alloc1) | (with_reducible apply below_drewN1) | (with_reducible apply below_drew1))))⟩
          case measure => simp [intOf]; omega
      · obtain rfl : k = us.length := by omega
        have HF := hid hq.out
        go_wp2_with (first
          | (go_at_call 56; refine (l02Number_num _ _).mono ?_; rw [HF.out, ← HM2.out]; rintro e w7 ⟨r, rfl, hr, hb7⟩; have HR := hid hr; have HB7 := hid (below_trans (show Below wr.heap.size wr _ by (repeat (first | (with_reducible assumption) | (with_reducible apply below_refl) | (with_reducible apply below_alloc1) | (with_reducible apply below_drewN1) | (with_reducible apply below_drew1)))) hb7); clear hb7 hr))
        go_ret2
        exact ⟨r, rfl, HR.out, below_trans hB (below_trans hwr HB7.out)⟩
  · have HM2 := hid (show upM rs s us = (some 0, false) by rw [HM.out, if_neg hlen])
    have hlenI : ¬ (us.length : Int) = s := by omega
    have hlenb : ((us.length : Int) != s) = true := by simpa using hlenI
    clear l1
    go_enter Try.func24, Try.ntmps24
    go_wp2_with (first
      | (go_at_call 16; refine (specBalance_v s _ rs _ (HV.out.below (by (repeat (first | (with_reducible assumption) | (with_reducible apply below_refl) | (with_reducible apply below_alloc1) | (with_reducible apply below_drewN1) | (with_reducible apply below_drew1)))))).mono ?_; rintro e w' ⟨x, rfl, ho, hb⟩; rw [HOK.out]; rw [← HX.out] at ho; obtain ⟨g, cx, e1, -⟩ := slice_of_own ho (by rw [List.length_map]; omega); rw [List.length_map] at e1; subst e1; have HO := hid ho; have hB : Below w.heap.size w w' := below_trans (by (repeat (first | (with_reducible assumption) | (with_reducible apply below_refl) | (with_reducible apply below_alloc1) | (with_reducible apply below_drewN1) | (with_reducible apply below_drew1)))) hb; have hcc := (bcell hb).1; have k0 : w'.cell? ⟨w.heap.size, 0, none⟩ = some (.int .i64 _) := (by rw [hcc _ _ (by simp)]; simp; rfl); clear hb ho hcc))
    go_ret2
    exact numOk_no HM2.out (by assumption)
end Go.Proofs.Ytfnhpchgiknmpaa
