/- Rows of units: copies. -/
import Derived.Test.YtfnhpchgiknmpaaUnit
namespace Go.Proofs.Ytfnhpchgiknmpaa
open Go.RowKit

theorem ownsRow_setBelow {w : World} {lo : Nat} {E : TypeId} {size : Nat} {v : Value} {n : Nat} {xs : List Value} {p : Addr} {u : Value} (h : w.ownsRow lo E size v n xs) (hp : p.block < lo) : (w.setCell p u).ownsRow lo E size v n xs := by
  obtain ⟨h1, h2⟩ := h
  refine ⟨h1, ?_⟩
  rcases h2 with h2 | ⟨g, cap, cur, hv, hb, hg, r⟩
  · exact Or.inl h2
  · refine Or.inr ⟨g, cap, cur, hv, hb, ?_, r⟩
    rw [heap_setCell_other w p g u (by omega)]
    exact hg
set_option maxRecDepth 100000 in
set_option maxHeartbeats 400000 in
theorem toUnit_any (t : Nat) (f : Bool) (ao : Option Addr) (n cap : Nat) (xs : List Nat) (w : World) (hv : RowAt w (.slice ao n cap) (xs.map (Value.float .f32))) (hn : xs.length ≤ 1048576) :
    Calls Try.prog 34 #[.agg #[.float .f32 t, .bool f, .slice ao n cap]] w fun e w' => ∃ c, e = .returned (.agg #[.float .f32 t, .bool f, c]) ∧ w'.ownsRow w.heap.size 44 1 c (xs.map (Value.float .f32)).length (xs.map (Value.float .f32)) ∧ Below w.heap.size w w' := by
  have HV := hid hv; clear hv
  go_enter Try.func34, Try.ntmps34
  go_wp2_with (first
    | (go_at_call 30; refine (toFloat32S_any _ xs _ (HV.out.below (by (repeat (first | (with_reducible assumption) | (with_reducible apply below_refl) | (with_reducible apply below_alloc1) | (with_reducible apply below_drewN1) | (with_reducible apply below_drew1))))) hn).mono ?_; rintro e w' ⟨c, rfl, hc, hb⟩; obtain ⟨ua, uc, _, _, hue, _⟩ := (Own.mk' hc).row; rw [List.length_map] at hue; subst hue; have hcc := (bcell hb).1; have hcf := (bcell hb).2))
  refine bodyPost_ret (v := .agg #[.float .f32 t, .bool f, .slice ua xs.length uc]) (by simp [results, Try.results34, go_sem, hcc, hcf]) rfl ?_
  have hs : w.heap.size + 3 ≤ w'.heap.size := by
    have := hb.size
    simp at this
    omega
  refine ⟨_, rfl, ?_, ?_⟩
  · refine ownsRow_low (lo := w.heap.size + 3) ?_ (by omega)
    refine ownsRow_setBelow (ownsRow_setBelow (ownsRow_setBelow (ownsRow_setBelow ?_ ?_) ?_) ?_) ?_
    · simpa using hc
    all_goals
      show _ < _
      simp
  · refine below_setCell1 (below_setCell1 (below_setCell1 (below_setCell1 (below_trans (by (repeat (first | (with_reducible assumption) | (with_reducible apply below_refl) | (with_reducible apply below_alloc1) | (with_reducible apply below_drewN1) | (with_reducible apply below_drew1)))) hb) ?_) ?_) ?_) ?_ <;> (show _ ≤ _) <;> simp <;> omega
theorem three_made (us : List Un) (k : Nat) (n : Nat) (h : k < n) (ws : List Value) (hw : ws.length = k * 3) (z0 z1 z2 : Value) (j : Nat) (hj : j < 3) :
    (ws ++ (List.replicate (n - k) [z0, z1, z2]).flatten)[k * 3 + j]? = [z0, z1, z2][j]? := by
  rw [List.getElem?_append_right (by omega), hw, show n - k = (n - (k + 1)) + 1 by omega, List.replicate_succ, List.flatten_cons, List.getElem?_append_left (by simp; omega)]
  congr 1
  omega
theorem three_set (k n : Nat) (h : k < n) (ws : List Value) (hw : ws.length = k * 3) (z0 z1 z2 a b c : Value) :
    (((ws ++ (List.replicate (n - k) [z0, z1, z2]).flatten).set (k * 3) a).set (k * 3 + 1) b).set (k * 3 + 2) c = (ws ++ [a, b, c]) ++ (List.replicate (n - (k + 1)) [z0, z1, z2]).flatten := by
  rw [List.set_append_right _ _ (by omega), List.set_append_right _ _ (by omega), List.set_append_right _ _ (by omega), hw, show n - k = (n - (k + 1)) + 1 by omega, List.replicate_succ, List.flatten_cons, List.append_assoc]
  congr 1
  rw [Nat.sub_self, show k * 3 + 1 - k * 3 = 1 by omega, show k * 3 + 2 - k * 3 = 2 by omega]
  rfl
theorem three_cells (z0 z1 z2 : Value) (n : Nat) : (madeCells #[z0, z1, z2] (n * 3)).toList = (List.replicate n [z0, z1, z2]).flatten := by
  have key : ∀ (n j : Nat), (List.replicate n [z0, z1, z2]).flatten[j]? = if j < n * 3 then some (#[z0, z1, z2][j % 3]!) else none := by
    intro n
    induction n with
    | zero => intro j; simp
    | succ n ih =>
      intro j
      rw [List.replicate_succ, List.flatten_cons]
      by_cases hj : j < 3
      · rw [List.getElem?_append_left (by simpa using hj), if_pos (by omega)]
        have : j = 0 ∨ j = 1 ∨ j = 2 := by omega
        rcases this with rfl | rfl | rfl <;> rfl
      · rw [List.getElem?_append_right (by simp; omega), ih]
        simp only [List.length_cons, List.length_nil]
        rw [show (j - (0 + 1 + 1 + 1)) % 3 = j % 3 by omega]
        by_cases h2 : j < (n + 1) * 3
        · rw [if_pos h2, if_pos (by omega)]
        · rw [if_neg h2, if_neg (by omega)]
  apply List.ext_getElem?
  intro j
  rw [key]
  by_cases hj : j < n * 3
  · simp [madeCells, hj]
  · simp [madeCells, hj]
theorem ownsRow_belowN {w w' : World} {lo : Nat} {E : TypeId} {size : Nat} {v : Value} {n : Nat} {xs : List Value} (h : w.ownsRow lo E size v n xs) (hb : Below w.heap.size w w') : w'.ownsRow lo E size v n xs := by
  obtain ⟨h1, h2⟩ := h
  refine ⟨h1, ?_⟩
  rcases h2 with h2 | ⟨g, cap, cur, hv, hlo, hg, r⟩
  · exact Or.inl h2
  · refine Or.inr ⟨g, cap, cur, hv, hlo, ?_, r⟩
    rw [hb.block g (Array.getElem?_eq_some_iff.1 hg).1]
    exact hg
theorem three_get (ws : List Value) (k : Nat) (hw : ws.length = k * 3) (a b c : Value) : (ws ++ [a, b, c])[k * 3]? = some a ∧ (ws ++ [a, b, c])[k * 3 + 1]? = some b ∧ (ws ++ [a, b, c])[k * 3 + 2]? = some c := by
  refine ⟨?_, ?_, ?_⟩ <;> (rw [List.getElem?_append_right (by omega), hw])
  · rw [Nat.sub_self]; rfl
  · rw [show k * 3 + 1 - k * 3 = 1 by omega]; rfl
  · rw [show k * 3 + 2 - k * 3 = 2 by omega]; rfl

set_option maxRecDepth 100000 in
set_option maxHeartbeats 1600000 in
theorem toUnitS_any (v : Value) (us : List Un) (w : World) (hv : UnitsAt w v us) (hn : us.length ≤ 1048576) (ht : coverLen us ≤ 1048576) :
    Calls Try.prog 10 #[v] w fun e w' => (∃ u, e = .returned u ∧ UnitsAt w' u us) ∧ Below w.heap.size w w' := by
  obtain ⟨i0, hi, hz0, hz1, hz2⟩ := info_parts (P := Try.prog) (e := 59) (z := Value.agg #[.float .f32 0, .bool false, .slice none 0 0]) (size := 3) (bytes := 32) (by kernel_rfl)
  obtain ⟨ao, cap, b, off, rfl, hao, hl, hm, hc⟩ := hv
  unfold maxLen at hm
  have HA := hid hao; have HC := hid hc
  clear hao hc
  go_enter Try.func10, Try.ntmps10
  go_wp2_with (at_make; refine wpList_make_full _ rfl _ _ 25 rfl w.heap.size 59 i0 (Value.agg #[.float .f32 0, .bool false, .slice none 0 0]) 3 Try.underlying25 hi hz0 hz1 _ _ _ _ us.length rfl rfl rfl rfl (by rw [hz2]; omega) (by simp only [maxLen]; omega) (Nat.le_refl _) ?_; intro w1 hown hgrow)
  have hb1 : Below w.heap.size w w1 := wrote_below (u := .slice none 0 0) hgrow (by simp [Value.ownBlock]) (Nat.le_refl _)
  have HO := hid hown; clear hown hgrow
  have s0 : w.heap.size < w1.heap.size := by
    have := (HO.out.lt w.heap.size rfl).2; omega
  go_loopw [4] (fun i wr => ∃ (k : Nat) (ws : List Value), k ≤ us.length ∧ i = .int .i64 k ∧ Hid (ws.length = k * 3) ∧ Hid (wr.ownsRow w.heap.size 59 3 (.slice (some ⟨w.heap.size, 0, none⟩) us.length us.length) us.length (ws ++ (List.replicate (us.length - k) [.float .f32 0, .bool false, .slice none 0 0]).flatten)) ∧ Hid (∀ j (h : j < us.length), j < k → ∃ sa sc, ws[j * 3]? = some (.float .f32 us[j].t) ∧ ws[j * 3 + 1]? = some (.bool us[j].f) ∧ ws[j * 3 + 2]? = some (.slice sa us[j].cs.length sc) ∧ wr.ownsRow (w.heap.size + 1) 44 1 (.slice sa us[j].cs.length sc) (us[j].cs.map (Value.float .f32)).length (us[j].cs.map (Value.float .f32))) ∧ Below w.heap.size w wr ∧ w.heap.size < wr.heap.size) (fun i _ => us.length - (intOf i).toNat)
  case atStart => exact ⟨0, [], Nat.zero_le _, rfl, hid rfl, by have h := HO.out; rw [show (Value.agg #[Value.float .f32 0, Value.bool false, Value.slice none 0 0]).cells = #[Value.float .f32 0, Value.bool false, Value.slice none 0 0] from rfl, three_cells] at h; simpa using hid h, hid (fun j h1 h2 => by omega), hb1, s0⟩
  case round =>
    obtain ⟨k, ws, hk, rfl, hwl, ho, hin, hb, hs⟩ := hrel
    by_cases hlt : k < us.length
    · obtain rfl := HA.out (by omega)
      obtain ⟨sa, sc, c0, c1, c2, hrow⟩ := HC.out k hlt
      have hbl0 : b < w.heap.size := World.block_lt_of_cell? w _ c0
      have c0' : wr.cell? ⟨b, off + k * 3, none⟩ = some (.float .f32 us[k].t) := by rw [hb.cell (p := ⟨b, _, none⟩) hbl0]; exact c0
      have c1' : wr.cell? ⟨b, off + k * 3 + 1, none⟩ = some (.bool us[k].f) := by rw [hb.cell (p := ⟨b, _, none⟩) hbl0]; exact c1
      have c2' : wr.cell? ⟨b, off + k * 3 + 2, none⟩ = some (.slice sa us[k].cs.length sc) := by rw [hb.cell (p := ⟨b, _, none⟩) hbl0]; exact c2
      have hbl : b < wr.heap.size := World.block_lt_of_cell? wr _ c0'
      have hle : us[k].cs.length ≤ 1048576 := by
        have h1 := cover_take us k hlt
        have h2 := cover_mono us (k + 1)
        omega
      have hk0 : (0 : Int) ≤ (k : Int) := by omega
      have hltI : (k : Int) < (us.length : Int) := by omega
      have hcat : ∀ j, j < 3 → wr.cell? ⟨w.heap.size, k * 3 + j, none⟩ = [Value.float .f32 0, .bool false, .slice none 0 0][j]? := fun j hj => by
        rw [ho.out.cellAt _ (by omega)]
        exact three_made us k us.length hlt ws hwl.out _ _ _ j hj
      have d0 := hcat 0 (by omega); have d1 := hcat 1 (by omega); have d2 := hcat 2 (by omega)
      have f0 := ho.out.frozenAt (k * 3); have f1 := ho.out.frozenAt (k * 3 + 1); have f2 := ho.out.frozenAt (k * 3 + 2)
      have HROW := hid hrow
      generalize hu : us[k] = u at c0' c1' c2' HROW hle
      have D0 := hid d0; have D1 := hid d1; have D2 := hid d2; have F0 := hid f0; have F1 := hid f1; have F2 := hid f2
      have HU := hid hu
      clear hcat d0 d1 d2 f0 f1 f2 hrow c0 c1 c2 hu
      go_wp2_with (first
        | (go_at_call 34; refine (toUnit_any _ _ _ _ _ u.cs _ (HROW.out.below (below_trans hb (by (repeat (first | (with_reducible assumption) | (with_reducible apply below_refl) | (with_reducible apply below_alloc1) | (with_reducible apply below_drewN1) | (with_reducible apply below_drew1)))))) hle).mono ?_; rintro e w' ⟨c, rfl, hnew, hb2⟩; obtain ⟨ua, uc, _, _, hue, _⟩ := (Own.mk' hnew).row; rw [List.length_map] at hue; subst hue; have hB : Below wr.heap.size wr w' := below_trans (by (repeat (first | (with_reducible assumption) | (with_reducible apply below_refl) | (with_reducible apply below_alloc1) | (with_reducible apply below_drewN1) | (with_reducible apply below_drew1)))) hb2; have d0 : w'.cell? ⟨w.heap.size, k * 3, none⟩ = some (Value.float .f32 0) := (by rw [hB.cell (p := ⟨w.heap.size, _, none⟩) hs]; exact D0.out); have d1 : w'.cell? ⟨w.heap.size, k * 3 + 1, none⟩ = some (Value.bool false) := (by rw [hB.cell (p := ⟨w.heap.size, _, none⟩) hs]; exact D1.out); have d2 : w'.cell? ⟨w.heap.size, k * 3 + 2, none⟩ = some (Value.slice none 0 0) := (by rw [hB.cell (p := ⟨w.heap.size, _, none⟩) hs]; exact D2.out); have f0 : w'.frozen? ⟨w.heap.size, k * 3, none⟩ = false := (by rw [hB.frozen (p := ⟨w.heap.size, _, none⟩) hs]; exact F0.out); have f1 : w'.frozen? ⟨w.heap.size, k * 3 + 1, none⟩ = false := (by rw [hB.frozen (p := ⟨w.heap.size, _, none⟩) hs]; exact F1.out); have f2 : w'.frozen? ⟨w.heap.size, k * 3 + 2, none⟩ = false := (by rw [hB.frozen (p := ⟨w.heap.size, _, none⟩) hs]; exact F2.out); have HNEW := hid hnew; have HOO := hid (ownsRow_belowN ho.out hB); clear hnew))
      go_roundw
      case rel =>
        have q0 := HOO.out.stored (k * 3) (.float .f32 u.t)
        have q1 := q0.1.stored (k * 3 + 1) (.bool u.f)
        have q2 := q1.1.stored (k * 3 + 2) (.slice ua u.cs.length uc)
        have q3 := q2.1
        rw [three_set k us.length hlt ws hwl.out] at q3
        refine ⟨k + 1, ws ++ [.float .f32 u.t, .bool u.f, .slice ua u.cs.length uc], by omega, by go_num, hid (by rw [List.length_append, hwl.out]; simp; omega), hid q3, hid ?_, ?_, ?_⟩
        · intro j hj hjk
          by_cases hjk2 : j = k
          · subst hjk2
            rw [HU.out]
            obtain ⟨g0, g1, g2⟩ := three_get ws j hwl.out (.float .f32 u.t) (.bool u.f) (.slice ua u.cs.length uc)
            refine ⟨ua, uc, g0, g1, g2, ?_⟩
            refine ownsRow_setBelow (ownsRow_setBelow (ownsRow_setBelow (ownsRow_low HNEW.out (by first | exact hs | (simp; omega))) ?_) ?_) ?_ <;> (show w.heap.size < w.heap.size + 1; omega)
          · obtain ⟨sa, sc, g0, g1, g2, g3⟩ := hin.out j hj (by omega)
            have hwl' := hwl.out
            refine ⟨sa, sc, ?_, ?_, ?_, ?_⟩
            · rw [List.getElem?_append_left (by omega)]; exact g0
            · rw [List.getElem?_append_left (by omega)]; exact g1
            · rw [List.getElem?_append_left (by omega)]; exact g2
            · refine ownsRow_setBelow (ownsRow_setBelow (ownsRow_setBelow (ownsRow_below g3 hB) ?_) ?_) ?_ <;> (show w.heap.size < w.heap.size + 1; omega)
        · exact below_setCell1 (below_setCell1 (below_setCell1 (below_trans hb hB) (Nat.le_refl _)) (Nat.le_refl _)) (Nat.le_refl _)
        · have := hB.size
          simp
          omega
      case measure => simp [intOf]; omega
    · obtain rfl : k = us.length := by omega
      go_wp2_with fail
      go_ret
      refine ⟨⟨_, rfl, some ⟨w.heap.size, 0, none⟩, us.length, w.heap.size, 0, rfl, fun _ => rfl, Nat.le_refl _, by unfold maxLen; omega, fun k hk => ?_⟩, hb⟩
      obtain ⟨sa, sc, g0, g1, g2, g3⟩ := hin.out k hk hk
      have hwl' := hwl.out
      have hcat : ∀ j, j < us.length * 3 → wr.cell? ⟨w.heap.size, 0 + j, none⟩ = ws[j]? := fun j hj => by
        rw [Nat.zero_add, ho.out.cellAt _ hj, Nat.sub_self, List.replicate_zero, List.flatten_nil, List.append_nil]
      refine ⟨sa, sc, ?_, ?_, ?_, (Own.mk' g3).row⟩
      · rw [hcat _ (by omega)]; exact g0
      · rw [Nat.add_assoc, hcat _ (by omega)]; exact g1
      · rw [Nat.add_assoc, hcat _ (by omega)]; exact g2
end Go.Proofs.Ytfnhpchgiknmpaa
