/- Contracts: StressFit, the reference's. -/
import Derived.Test.YtfnhpchgiknmpaaStress2
namespace Go.Proofs.Ytfnhpchgiknmpaa
open Go.RowKit

theorem lnM_flagS (xs ys : List Nat) : (lnM xs ys).2 = (lnRaw xs ys).2 := by
  cases h : (lnRaw xs ys).2
  · rw [lnM_no h]
  · rw [lnM_yes h, h]
set_option maxRecDepth 100000 in
set_option maxHeartbeats 2000000 in
theorem specFit_any (v u : Value) (kind : Int) (xs ys : List Nat) (w : World) (hv : RowAt w v (xs.map (Value.float .f32))) (hu : RowAt w u (ys.map (Value.float .f32))) (hxl : xs.length ≤ 1048576) (hyl : ys.length ≤ 1048576) :
    Calls Try.prog 29 #[.int .i64 kind, v, u] w (TwoOk (fitM kind xs ys) w) := by
  obtain ⟨i0, hi0, hz0, hz1, hz2⟩ := info_parts (P := Try.prog) (e := 44) (z := Value.float .f32 0) (size := 1) (bytes := 4) (by kernel_rfl)
  obtain ⟨ao, cap, b, off, rfl, hao, hl, hm, hc⟩ := hv
  obtain ⟨ao', cap', b', off', rfl, hao', hl', hm', hc'⟩ := hu
  simp only [List.length_map] at hl hl' hao hao' ⊢
  unfold maxLen at hm hm'
  have HC := hid hc; have HA := hid hao; have HC' := hid hc'; have HA' := hid hao'
  clear hc hao hc' hao'
  cases g1 : inB kind 0 2
  · have HM := hid (fit_no (kind := kind) (xs := xs) (ys := ys) (by simp [fitOk, g1]))
    have G1 := hid g1; clear g1
    go_enter Try.func29, Try.ntmps29
    go_wp2_with (first | (go_at_call 58; (with_reducible refine (l00In_any _ _ _ _).mono ?_); rw [G1.out]; rintro e w' ⟨rfl, hb⟩; have hB : Below w.heap.size w w' := below_trans (by (repeat (first | (with_reducible assumption) | (with_reducible apply below_refl) | (with_reducible apply below_alloc1) | (with_reducible apply below_drewN1) | (with_reducible apply below_drew1)))) hb; have hC := (bcell hB).1; clear hb))
    go_ret3
    exact twoOk_no HM.out (by assumption)
  have G1 := hid g1
  by_cases h3 : ys.length = xs.length
  rotate_left
  · have HM := hid (fit_len (kind := kind) h3)
    have h3' : ((xs.length : Int) != (ys.length : Int)) = true := by simp; omega
    have h3'' : ((xs.length : Int) == (ys.length : Int)) = false := by simp; omega
    clear h3 g1
    go_enter Try.func29, Try.ntmps29
    go_wp2_with (first | (go_at_call 58; (with_reducible refine (l00In_any _ _ _ _).mono ?_); rw [G1.out]; rintro e w' ⟨rfl, hb⟩; have hB : Below w.heap.size w w' := below_trans (by (repeat (first | (with_reducible assumption) | (with_reducible apply below_refl) | (with_reducible apply below_alloc1) | (with_reducible apply below_drewN1) | (with_reducible apply below_drew1)))) hb; have hC := (bcell hB).1; clear hb))
    go_ret3
    exact twoOk_no HM.out (by assumption)
  have HL3 := hid h3
  have h3' : ((xs.length : Int) != (ys.length : Int)) = false := by simp; omega
  have h3'' : ((xs.length : Int) == (ys.length : Int)) = true := by simp; omega
  have HNX := hid (show ∀ k (h : k < xs.length), moreB (ab .f32 xs[k]) = false → fitM kind xs ys = (some 0, some 0, false) from fun k hk h => fit_no (by
    have : (xs.all fun b => moreB (ab .f32 b)) = false := by rw [List.all_eq_false]; exact ⟨_, List.getElem_mem hk, by simp [h]⟩
    simp only [fitOk, this, Bool.and_false, Bool.false_and]))
  have HNY := hid (show ∀ k (h : k < ys.length), moreB (ab .f32 ys[k]) = false → fitM kind xs ys = (some 0, some 0, false) from fun k hk h => fit_no (by
    have : (ys.all fun b => moreB (ab .f32 b)) = false := by rw [List.all_eq_false]; exact ⟨_, List.getElem_mem hk, by simp [h]⟩
    simp only [fitOk, this, Bool.and_false]))
  have HYES := hid (show (∀ k (h : k < xs.length), moreB (ab .f32 xs[k]) = true) → (∀ k (h : k < ys.length), moreB (ab .f32 ys[k]) = true) → fitOk kind xs ys = true from fun q1 q2 => by
    have a1 : (xs.all fun b => moreB (ab .f32 b)) = true := by
      rw [List.all_eq_true]; intro x hx; obtain ⟨j, hj, rfl⟩ := List.getElem_of_mem hx; exact q1 j hj
    have a2 : (ys.all fun b => moreB (ab .f32 b)) = true := by
      rw [List.all_eq_true]; intro x hx; obtain ⟨j, hj, rfl⟩ := List.getElem_of_mem hx; exact q2 j hj
    simp only [fitOk, g1, a1, a2, Bool.and_true])
  have hk2 := inB_true g1
  clear g1 h3
  go_enter Try.func29, Try.ntmps29
  go_wp2_with (first | (go_at_call 58; (with_reducible refine (l00In_any _ _ _ _).mono ?_); rw [G1.out]; rintro e w' ⟨rfl, hb⟩; have hB : Below w.heap.size w w' := below_trans (by (repeat (first | (with_reducible assumption) | (with_reducible apply below_refl) | (with_reducible apply below_alloc1) | (with_reducible apply below_drewN1) | (with_reducible apply below_drew1)))) hb; have hC := (bcell hB).1; clear hb))
  have hw0 := (show Below w.heap.size w _ from by assumption)
  have hsz := hw0.size
  have hq1 := World.ownsRow_made (e := 44) (size := 1) _ #[] 0 hsz (by simp [maxLen]) rfl
  have hq2 := World.ownsRow_made (e := 44) (size := 1) _ #[] 0 (Below.size (below_alloc1 (o := Obj.cells #[] 44) hw0)) (by simp [maxLen]) rfl
  simp only [World.size_alloc] at hq2
  have HQ1 := hid (hq1.alloc (.cells #[] 44))
  have HQ2 := hid hq2
  have hbb : Below w.heap.size w ((w'.alloc (Obj.cells #[] 44)).alloc (Obj.cells #[] 44)) := below_alloc1 (below_alloc1 hw0)
  have HTW := hid (twain_made (w'.heap.size + 1) w'.heap.size (Nat.succ_ne_self _) 0 0 0 0)
  clear hq1 hq2
  generalize w'.heap.size + 1 = B2 at HQ2 HTW ⊢
  go_loopw [9, 10, 31] (fun v u y wr => ∃ (k : Nat) (zs us : List Nat), k ≤ xs.length ∧ y = .int .i64 k ∧ Hid (zs.map (ab .f32) = (xs.take k).map fun b => stK kind (ab .f32 b)) ∧ Hid (someL (zs.map (ab .f32))) ∧ Hid (us.map (ab .f32) = (ys.take k).map fun b => lg32 (ab .f32 b)) ∧ Hid (someL (us.map (ab .f32))) ∧ Hid ((∀ j (h : j < xs.length), j < k → moreB (ab .f32 xs[j]) = true) ∧ (∀ j (h : j < ys.length), j < k → moreB (ab .f32 ys[j]) = true)) ∧ Hid (wr.ownsRow w.heap.size 44 1 v (zs.map (Value.float .f32)).length (zs.map (Value.float .f32))) ∧ Hid (wr.ownsRow w.heap.size 44 1 u (us.map (Value.float .f32)).length (us.map (Value.float .f32))) ∧ Hid (Twain u v) ∧ Below w.heap.size w wr) (fun _ _ y _ => xs.length - (intOf y).toNat)
  case atStart => exact ⟨0, [], [], by omega, rfl, hid rfl, hid (fun o h => by cases h), hid rfl, hid (fun o h => by cases h), hid ⟨fun j _ h => absurd h (Nat.not_lt_zero _), fun j _ h => absurd h (Nat.not_lt_zero _)⟩, HQ1, HQ2, HTW, hbb⟩
  case round =>
    obtain ⟨k, zs, us, hk, rfl, hx, hsm, hx2, hsm2, hyes, ho, ho2, htw, hw⟩ := hrel
    have hlen : zs.length = k := by have := congrArg List.length hx.out; simpa [hk] using this
    have HLEN := hid hlen; clear hlen
    have hlen2 : us.length = k := by have := congrArg List.length hx2.out; simp [HL3.out, hk] at this; exact this
    have HLEN2 := hid hlen2; clear hlen2
    by_cases hlt : k < xs.length
    · have l3 := HL3.out
      have hlt2 : k < ys.length := by omega
      obtain rfl := HA.out (by omega)
      obtain rfl := HA'.out (by omega)
      have hcell := rowc HC.out hw k hlt
      have hcell2 := rowc HC'.out hw k hlt2
      have hbl : b < wr.heap.size := World.block_lt_of_cell? wr _ hcell
      have hbl2 : b' < wr.heap.size := World.block_lt_of_cell? wr _ hcell2
      have hk0 : (0 : Int) ≤ (k : Int) := by omega
      have hltI : (k : Int) < (xs.length : Int) := by omega
      have hltI2 : (k : Int) < (ys.length : Int) := by omega
      have hnxx := fit_next xs (fun b => stK kind (ab .f32 b)) k hlt
      have hnxy := fit_next ys (fun b => lg32 (ab .f32 b)) k hlt2
      have hnx := HNX.out k hlt
      have hny := HNY.out k hlt2
      have hcy := fun (w3 : World) (h3 : Below w.heap.size w w3) => rowc HC'.out h3 k hlt2
      have hmx := (show moreB (ab .f32 xs[k]) = true → moreB (ab .f32 ys[k]) = true → (∀ j (h : j < xs.length), j < k + 1 → moreB (ab .f32 xs[j]) = true) ∧ (∀ j (h : j < ys.length), j < k + 1 → moreB (ab .f32 ys[j]) = true) from fun q1 q2 => ⟨fun j h hj => by
          by_cases e : j = k
          · subst e; exact q1
          · exact hyes.out.1 j h (by omega), fun j h hj => by
          by_cases e : j = k
          · subst e; exact q2
          · exact hyes.out.2 j h (by omega)⟩)
      generalize xs[k] = x at hcell hnxx hnx hmx
      generalize ys[k] = y at hcell2 hnxy hny hcy hmx
      have HNXX := hid hnxx; have HNXY := hid hnxy; have HCY := hid hcy
      have HBX := hid hnx; have HBY := hid hny; have HMX := hid hmx
      clear hnxx hnxy hcy hnx hny hmx l3
      cases nx : moreB (ab .f32 x)
      · have HM := hid (HBX.out nx)
        have NX := hid nx
        clear nx
        go_wp2_with (first | (go_at_call 59; (with_reducible refine (l02Above_any _ _).mono ?_); rw [NX.out]; rintro e w' ⟨rfl, hb⟩; have hB : Below wr.heap.size wr w' := below_trans (by (repeat (first | (with_reducible assumption) | (with_reducible apply below_refl) | (with_reducible apply below_alloc1) | (with_reducible apply below_drewN1) | (with_reducible apply below_drew1)))) hb; have hC := (bcell hB).1; clear hb))
        go_ret3
        exact twoOk_no HM.out (below_trans hw (by (repeat (first | (with_reducible assumption) | (with_reducible apply below_refl) | (with_reducible apply below_alloc1) | (with_reducible apply below_drewN1) | (with_reducible apply below_drew1)))))
      have NX := hid nx
      cases ny : moreB (ab .f32 y)
      · have HM := hid (HBY.out ny)
        have NY := hid ny
        clear nx ny
        go_wp2_with (first | (go_at_call 59; (with_reducible refine (l02Above_any _ _).mono ?_); (first | rw [NX.out] | rw [NY.out]); rintro e w' ⟨rfl, hb⟩; have hB : Below wr.heap.size wr w' := below_trans (by (repeat (first | (with_reducible assumption) | (with_reducible apply below_refl) | (with_reducible apply below_alloc1) | (with_reducible apply below_drewN1) | (with_reducible apply below_drew1)))) hb; have hC := (bcell hB).1; clear hb))
        go_ret3
        exact twoOk_no HM.out (below_trans hw (by (repeat (first | (with_reducible assumption) | (with_reducible apply below_refl) | (with_reducible apply below_alloc1) | (with_reducible apply below_drewN1) | (with_reducible apply below_drew1)))))
      have NY := hid ny
      have HMORE := hid (HMX.out nx ny)
      clear nx ny
      have hkind : kind = 0 ∨ kind = 1 ∨ kind = 2 := by omega
      rcases hkind with hkd | hkd | hkd
      · subst hkd
        go_wp2_with (first
          | (go_at_call 59; (with_reducible refine (l02Above_any _ _).mono ?_); (first | rw [NX.out] | rw [NY.out]); rintro e w' ⟨rfl, hb⟩; have hB : Below wr.heap.size wr w' := below_trans (by (repeat (first | (with_reducible assumption) | (with_reducible apply below_refl) | (with_reducible apply below_alloc1) | (with_reducible apply below_drewN1) | (with_reducible apply below_drew1)))) hb; have hC := (bcell hB).1; clear hb)
          | (refine upon_float rfl ?_; intro r n hr; go_simp)
          | (go_at_call 60; refine (specLog_any _ (more_gt NY.out) _).mono ?_; rintro e w' ⟨ry, rfl, hry, hb⟩; have hB2 : Below w2.heap.size w2 w' := below_trans (by (repeat (first | (with_reducible assumption) | (with_reducible apply below_refl) | (with_reducible apply below_alloc1) | (with_reducible apply below_drewN1) | (with_reducible apply below_drew1)))) hb; have HSY := hid hry; clear hb hry)
          | (at_builtin; (fail_if_success have := HPX); refine wpList_push2 rfl _ _ 30 rfl Try.underlying30 hi0 hz0 hz1 hz2 rfl w.heap.size _ _ rfl rfl (ownsRow_below ho.out (by (repeat (first | (with_reducible assumption) | (with_reducible apply below_refl) | (with_reducible apply below_alloc1) | (with_reducible apply below_drewN1) | (with_reducible apply below_drew1))))) rfl (by rw [List.length_map, HLEN.out]; omega) (by decide) (Nat.le_trans hw.size (Below.size (show Below wr.heap.size wr _ by (repeat (first | (with_reducible assumption) | (with_reducible apply below_refl) | (with_reducible apply below_alloc1) | (with_reducible apply below_drewN1) | (with_reducible apply below_drew1)))))) w.heap.size 44 _ _ (ownsRow_below ho2.out (by (repeat (first | (with_reducible assumption) | (with_reducible apply below_refl) | (with_reducible apply below_alloc1) | (with_reducible apply below_drewN1) | (with_reducible apply below_drew1))))) htw.out ?_; intro v1 w2 hown hown2 htw2 hb2; have hw2 := (below_trans hw (show Below wr.heap.size wr _ by (repeat (first | (with_reducible assumption) | (with_reducible apply below_refl) | (with_reducible apply below_alloc1) | (with_reducible apply below_drewN1) | (with_reducible apply below_drew1))))).trans hb2; have hcy2 := HCY.out w2 hw2; have HPX := hid hown; have HPY := hid hown2; have HTW2 := hid htw2.symm; clear hown hown2 htw2)
          | (at_builtin; refine wpList_push2 rfl _ _ 30 rfl Try.underlying30 hi0 hz0 hz1 hz2 rfl w.heap.size _ _ rfl rfl (ownsRow_below HPY.out (by (repeat (first | (with_reducible assumption) | (with_reducible apply below_refl) | (with_reducible apply below_alloc1) | (with_reducible apply below_drewN1) | (with_reducible apply below_drew1))))) rfl (by rw [List.length_map, HLEN2.out]; omega) (by decide) (Nat.le_trans hw2.size (Below.size (show Below w2.heap.size w2 _ by (repeat (first | (with_reducible assumption) | (with_reducible apply below_refl) | (with_reducible apply below_alloc1) | (with_reducible apply below_drewN1) | (with_reducible apply below_drew1)))))) w.heap.size 44 _ _ (ownsRow_below HPX.out (by (repeat (first | (with_reducible assumption) | (with_reducible apply below_refl) | (with_reducible apply below_alloc1) | (with_reducible apply below_drewN1) | (with_reducible apply below_drew1))))) HTW2.out ?_; intro v3 w3 hown3 hown4 htw3 hb3))
        go_roundw
        case rel =>
          refine ⟨k + 1, zs ++ [r], us ++ [ry], by omega, by go_num, hid ?_, hid ?_, hid ?_, hid ?_, HMORE, hid (by rw [fl_vals]; exact hown4), hid (by rw [fl_vals]; exact hown3), hid htw3.symm, (below_trans' hw2 (Nat.le_refl _) (show Below w2.heap.size w2 _ by (repeat (first | (with_reducible assumption) | (with_reducible apply below_refl) | (with_reducible apply below_alloc1) | (with_reducible apply below_drewN1) | (with_reducible apply below_drew1))))).trans hb3⟩
          · rw [HNXX.out]; exact fl_push hx.out (by rw [hr, ab_one32]; rfl)
          · rw [List.map_append]
            exact some_next hsm.out (by rw [hr, ab_one32]; exact quo_some NX.out)
          · rw [HNXY.out]; exact fl_push hx2.out (lgOk_at NY.out HSY.out).1
          · rw [List.map_append]
            exact some_next hsm2.out (by rw [(lgOk_at NY.out HSY.out).1]; exact (lgOk_at NY.out HSY.out).2)
        case measure => simp [intOf]; omega
      · subst hkd
        go_wp2_with (first
          | (go_at_call 59; (with_reducible refine (l02Above_any _ _).mono ?_); (first | rw [NX.out] | rw [NY.out]); rintro e w' ⟨rfl, hb⟩; have hB : Below wr.heap.size wr w' := below_trans (by (repeat (first | (with_reducible assumption) | (with_reducible apply below_refl) | (with_reducible apply below_alloc1) | (with_reducible apply below_drewN1) | (with_reducible apply below_drew1)))) hb; have hC := (bcell hB).1; clear hb)
          | (go_at_call 60; (fail_if_success have := HSX); refine (specLog_any _ (more_gt NX.out) _).mono ?_; rintro e w' ⟨sx, rfl, hsx, hb⟩; have hB : Below wr.heap.size wr w' := below_trans (by (repeat (first | (with_reducible assumption) | (with_reducible apply below_refl) | (with_reducible apply below_alloc1) | (with_reducible apply below_drewN1) | (with_reducible apply below_drew1)))) hb; have hC := (bcell hB).1; have HSX := hid hsx; clear hb hsx)
          | (go_at_call 60; refine (specLog_any _ (more_gt NY.out) _).mono ?_; rintro e w' ⟨ry, rfl, hry, hb⟩; have hB2 : Below w2.heap.size w2 w' := below_trans (by (repeat (first | (with_reducible assumption) | (with_reducible apply below_refl) | (with_reducible apply below_alloc1) | (with_reducible apply below_drewN1) | (with_reducible apply below_drew1)))) hb; have HSY := hid hry; clear hb hry)
          | (at_builtin; (fail_if_success have := HPX); refine wpList_push2 rfl _ _ 30 rfl Try.underlying30 hi0 hz0 hz1 hz2 rfl w.heap.size _ _ rfl rfl (ownsRow_below ho.out (by (repeat (first | (with_reducible assumption) | (with_reducible apply below_refl) | (with_reducible apply below_alloc1) | (with_reducible apply below_drewN1) | (with_reducible apply below_drew1))))) rfl (by rw [List.length_map, HLEN.out]; omega) (by decide) (Nat.le_trans hw.size (Below.size (show Below wr.heap.size wr _ by (repeat (first | (with_reducible assumption) | (with_reducible apply below_refl) | (with_reducible apply below_alloc1) | (with_reducible apply below_drewN1) | (with_reducible apply below_drew1)))))) w.heap.size 44 _ _ (ownsRow_below ho2.out (by (repeat (first | (with_reducible assumption) | (with_reducible apply below_refl) | (with_reducible apply below_alloc1) | (with_reducible apply below_drewN1) | (with_reducible apply below_drew1))))) htw.out ?_; intro v1 w2 hown hown2 htw2 hb2; have hw2 := (below_trans hw (show Below wr.heap.size wr _ by (repeat (first | (with_reducible assumption) | (with_reducible apply below_refl) | (with_reducible apply below_alloc1) | (with_reducible apply below_drewN1) | (with_reducible apply below_drew1))))).trans hb2; have hcy2 := HCY.out w2 hw2; have HPX := hid hown; have HPY := hid hown2; have HTW2 := hid htw2.symm; clear hown hown2 htw2)
          | (at_builtin; refine wpList_push2 rfl _ _ 30 rfl Try.underlying30 hi0 hz0 hz1 hz2 rfl w.heap.size _ _ rfl rfl (ownsRow_below HPY.out (by (repeat (first | (with_reducible assumption) | (with_reducible apply below_refl) | (with_reducible apply below_alloc1) | (with_reducible apply below_drewN1) | (with_reducible apply below_drew1))))) rfl (by rw [List.length_map, HLEN2.out]; omega) (by decide) (Nat.le_trans hw2.size (Below.size (show Below w2.heap.size w2 _ by (repeat (first | (with_reducible assumption) | (with_reducible apply below_refl) | (with_reducible apply below_alloc1) | (with_reducible apply below_drewN1) | (with_reducible apply below_drew1)))))) w.heap.size 44 _ _ (ownsRow_below HPX.out (by (repeat (first | (with_reducible assumption) | (with_reducible apply below_refl) | (with_reducible apply below_alloc1) | (with_reducible apply below_drewN1) | (with_reducible apply below_drew1))))) HTW2.out ?_; intro v3 w3 hown3 hown4 htw3 hb3))
        go_roundw
        case rel =>
          refine ⟨k + 1, zs ++ [sx], us ++ [ry], by omega, by go_num, hid ?_, hid ?_, hid ?_, hid ?_, HMORE, hid (by rw [fl_vals]; exact hown4), hid (by rw [fl_vals]; exact hown3), hid htw3.symm, (below_trans' hw2 (Nat.le_refl _) (show Below w2.heap.size w2 _ by (repeat (first | (with_reducible assumption) | (with_reducible apply below_refl) | (with_reducible apply below_alloc1) | (with_reducible apply below_drewN1) | (with_reducible apply below_drew1))))).trans hb3⟩
          · rw [HNXX.out]; exact fl_push hx.out (lgOk_at NX.out HSX.out).1
          · rw [List.map_append]
            exact some_next hsm.out (by rw [(lgOk_at NX.out HSX.out).1]; exact (lgOk_at NX.out HSX.out).2)
          · rw [HNXY.out]; exact fl_push hx2.out (lgOk_at NY.out HSY.out).1
          · rw [List.map_append]
            exact some_next hsm2.out (by rw [(lgOk_at NY.out HSY.out).1]; exact (lgOk_at NY.out HSY.out).2)
        case measure => simp [intOf]; omega
      · subst hkd
        go_wp2_with (first
          | (go_at_call 59; (with_reducible refine (l02Above_any _ _).mono ?_); (first | rw [NX.out] | rw [NY.out]); rintro e w' ⟨rfl, hb⟩; have hB : Below wr.heap.size wr w' := below_trans (by (repeat (first | (with_reducible assumption) | (with_reducible apply below_refl) | (with_reducible apply below_alloc1) | (with_reducible apply below_drewN1) | (with_reducible apply below_drew1)))) hb; have hC := (bcell hB).1; clear hb)
          | (go_at_call 60; refine (specLog_any _ (more_gt NY.out) _).mono ?_; rintro e w' ⟨ry, rfl, hry, hb⟩; have hB2 : Below w2.heap.size w2 w' := below_trans (by (repeat (first | (with_reducible assumption) | (with_reducible apply below_refl) | (with_reducible apply below_alloc1) | (with_reducible apply below_drewN1) | (with_reducible apply below_drew1)))) hb; have HSY := hid hry; clear hb hry)
          | (at_builtin; (fail_if_success have := HPX); refine wpList_push2 rfl _ _ 30 rfl Try.underlying30 hi0 hz0 hz1 hz2 rfl w.heap.size _ _ rfl rfl (ownsRow_below ho.out (by (repeat (first | (with_reducible assumption) | (with_reducible apply below_refl) | (with_reducible apply below_alloc1) | (with_reducible apply below_drewN1) | (with_reducible apply below_drew1))))) rfl (by rw [List.length_map, HLEN.out]; omega) (by decide) (Nat.le_trans hw.size (Below.size (show Below wr.heap.size wr _ by (repeat (first | (with_reducible assumption) | (with_reducible apply below_refl) | (with_reducible apply below_alloc1) | (with_reducible apply below_drewN1) | (with_reducible apply below_drew1)))))) w.heap.size 44 _ _ (ownsRow_below ho2.out (by (repeat (first | (with_reducible assumption) | (with_reducible apply below_refl) | (with_reducible apply below_alloc1) | (with_reducible apply below_drewN1) | (with_reducible apply below_drew1))))) htw.out ?_; intro v1 w2 hown hown2 htw2 hb2; have hw2 := (below_trans hw (show Below wr.heap.size wr _ by (repeat (first | (with_reducible assumption) | (with_reducible apply below_refl) | (with_reducible apply below_alloc1) | (with_reducible apply below_drewN1) | (with_reducible apply below_drew1))))).trans hb2; have hcy2 := HCY.out w2 hw2; have HPX := hid hown; have HPY := hid hown2; have HTW2 := hid htw2.symm; clear hown hown2 htw2)
          | (at_builtin; refine wpList_push2 rfl _ _ 30 rfl Try.underlying30 hi0 hz0 hz1 hz2 rfl w.heap.size _ _ rfl rfl (ownsRow_below HPY.out (by (repeat (first | (with_reducible assumption) | (with_reducible apply below_refl) | (with_reducible apply below_alloc1) | (with_reducible apply below_drewN1) | (with_reducible apply below_drew1))))) rfl (by rw [List.length_map, HLEN2.out]; omega) (by decide) (Nat.le_trans hw2.size (Below.size (show Below w2.heap.size w2 _ by (repeat (first | (with_reducible assumption) | (with_reducible apply below_refl) | (with_reducible apply below_alloc1) | (with_reducible apply below_drewN1) | (with_reducible apply below_drew1)))))) w.heap.size 44 _ _ (ownsRow_below HPX.out (by (repeat (first | (with_reducible assumption) | (with_reducible apply below_refl) | (with_reducible apply below_alloc1) | (with_reducible apply below_drewN1) | (with_reducible apply below_drew1))))) HTW2.out ?_; intro v3 w3 hown3 hown4 htw3 hb3))
        go_roundw
        case rel =>
          refine ⟨k + 1, zs ++ [x], us ++ [ry], by omega, by go_num, hid ?_, hid ?_, hid ?_, hid ?_, HMORE, hid (by rw [fl_vals]; exact hown4), hid (by rw [fl_vals]; exact hown3), hid htw3.symm, (below_trans' hw2 (Nat.le_refl _) (show Below w2.heap.size w2 _ by (repeat (first | (with_reducible assumption) | (with_reducible apply below_refl) | (with_reducible apply below_alloc1) | (with_reducible apply below_drewN1) | (with_reducible apply below_drew1))))).trans hb3⟩
          · rw [HNXX.out]; exact fl_push hx.out rfl
          · rw [List.map_append]
            exact some_next hsm.out (fun e => by have h1 := more_gt NX.out; rw [e, ford_none_left] at h1; cases h1)
          · rw [HNXY.out]; exact fl_push hx2.out (lgOk_at NY.out HSY.out).1
          · rw [List.map_append]
            exact some_next hsm2.out (by rw [(lgOk_at NY.out HSY.out).1]; exact (lgOk_at NY.out HSY.out).2)
        case measure => simp [intOf]; omega
    · obtain rfl : k = xs.length := by omega
      have hok := HYES.out (fun j h => hyes.out.1 j h h) (fun j h => hyes.out.2 j h (by have := HL3.out; omega))
      have HM := hid (fit_yes hok)
      have hT : zs = bitsOf (fitT kind xs) := bits_some (L := fitT kind xs) (by rw [hx.out, List.take_length]; rfl) (by have := hsm.out; rw [hx.out, List.take_length] at this; exact this)
      have htk : ys.take xs.length = ys := by rw [← HL3.out, List.take_length]
      have hV : us = bitsOf (fitV ys) := bits_some (L := fitV ys) (by rw [hx2.out, htk]; rfl) (by have := hsm2.out; rw [hx2.out, htk] at this; exact this)
      have hR1 := hid (Own.mk' ho.out).row
      have hR2 := hid (Own.mk' ho2.out).row
      rw [hT] at hR1
      rw [hV] at hR2
      clear hV hT hok htk
      have hfl := lnM_flagS (bitsOf (fitT kind xs)) (bitsOf (fitV ys))
      cases hr : (lnRaw (bitsOf (fitT kind xs)) (bitsOf (fitV ys))).2
      · have HN := hid (lnM_no hr)
        have HR := hid hr; clear hr hfl
        rw [HN.out] at HM
        go_wp2_with (first | (go_at_call 61; refine (l05Line_any _ _ (bitsOf (fitT kind xs)) (bitsOf (fitV ys)) _ (hR1.out.below (by (repeat (first | (with_reducible assumption) | (with_reducible apply below_refl) | (with_reducible apply below_alloc1) | (with_reducible apply below_drewN1) | (with_reducible apply below_drew1))))) (hR2.out.below (by (repeat (first | (with_reducible assumption) | (with_reducible apply below_refl) | (with_reducible apply below_alloc1) | (with_reducible apply below_drewN1) | (with_reducible apply below_drew1)))))).mono ?_; rintro e w' ⟨x, y, z, rfl, hx, hy, hz, hb⟩; rw [HR.out]))
        go_ret3
        exact twoOk_no HM.out (below_trans hw (by (repeat (first | (with_reducible assumption) | (with_reducible apply below_refl) | (with_reducible apply below_alloc1) | (with_reducible apply below_drewN1) | (with_reducible apply below_drew1)))))
      · have HN := hid (lnM_yes hr)
        rw [hr] at hfl
        have HFL := hid hfl
        have HR := hid hr; clear hr hfl
        go_wp2_with (first | (go_at_call 61; refine (l05Line_any _ _ (bitsOf (fitT kind xs)) (bitsOf (fitV ys)) _ (hR1.out.below (by (repeat (first | (with_reducible assumption) | (with_reducible apply below_refl) | (with_reducible apply below_alloc1) | (with_reducible apply below_drewN1) | (with_reducible apply below_drew1))))) (hR2.out.below (by (repeat (first | (with_reducible assumption) | (with_reducible apply below_refl) | (with_reducible apply below_alloc1) | (with_reducible apply below_drewN1) | (with_reducible apply below_drew1)))))).mono ?_; rintro e w' ⟨x, y, z, rfl, hx, hy, hz, hb⟩; rw [HR.out]))
        go_ret3
        exact ⟨_, _, by rw [HM.out, HFL.out]; rfl, by rw [HM.out, HN.out]; exact hx, by rw [HM.out, HN.out]; exact hy, below_trans hw (by (repeat (first | (with_reducible assumption) | (with_reducible apply below_refl) | (with_reducible apply below_alloc1) | (with_reducible apply below_drewN1) | (with_reducible apply below_drew1))))⟩
end Go.Proofs.Ytfnhpchgiknmpaa
