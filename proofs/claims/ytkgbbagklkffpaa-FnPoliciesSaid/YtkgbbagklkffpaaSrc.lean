/- Contracts: the source of choices: bytes, then a simple sequence. -/
import Derived.Test.YtkgbbagklkffpaaSeed
import Derived.Test.YtkgbbagklkffpaaByte
namespace Go.Proofs.Ytkgbbagklkffpaa
open Go.RowKit

/-- The source lies in block b; its bytes are a row of a world before it. -/
structure SrcAt (w0 w : World) (b : Nat) (vc : Value) (cs : List Int) (at_ sd : Int) : Prop where
  row : RowAt w0 vc (cs.map (Value.int .u8))
  below : Below w0.heap.size w0 w
  far : w0.heap.size ≤ b
  c0 : w.cell? ⟨b, 0, none⟩ = some vc
  c1 : w.cell? ⟨b, 1, none⟩ = some (.int .i64 at_)
  c2 : w.cell? ⟨b, 2, none⟩ = some (.int .u64 sd)
  f1 : w.frozen? ⟨b, 1, none⟩ = false
  f2 : w.frozen? ⟨b, 2, none⟩ = false
  at0 : 0 ≤ at_
  sd0 : 0 ≤ sd ∧ sd < 18446744073709551616
  by_ : ∀ c ∈ cs, 0 ≤ c ∧ c ≤ 255
theorem SrcAt.lt {w0 w : World} {b : Nat} {vc : Value} {cs : List Int} {at_ sd : Int} (h : SrcAt w0 w b vc cs at_ sd) : b < w.heap.size := World.block_lt_of_cell? w _ h.c0
theorem SrcAt.keep {w0 w w' : World} {b : Nat} {vc : Value} {cs : List Int} {at_ sd : Int} (h : SrcAt w0 w b vc cs at_ sd) (hb : Below w.heap.size w w') : SrcAt w0 w' b vc cs at_ sd :=
  ⟨h.row, h.below.trans (hb.mono h.below.size), h.far, by rw [hb.cell (p := ⟨b, 0, none⟩) h.lt]; exact h.c0, by rw [hb.cell (p := ⟨b, 1, none⟩) h.lt]; exact h.c1, by rw [hb.cell (p := ⟨b, 2, none⟩) h.lt]; exact h.c2, by rw [hb.frozen (p := ⟨b, 1, none⟩) h.lt]; exact h.f1, by rw [hb.frozen (p := ⟨b, 2, none⟩) h.lt]; exact h.f2, h.at0, h.sd0, h.by_⟩
theorem grown_setAt (w : World) (b o : Nat) (u : Value) : w.grownBy (w.setCell ⟨b, o, none⟩ u) (some b) := by
  refine ⟨rfl, rfl, rfl, by simp [World.setCell], fun i _ hne => ?_⟩
  have : b ≠ i := fun e => hne (by rw [e])
  simp [World.setCell, Array.getElem?_modify, this]
theorem SrcAt.two {w0 w : World} {b : Nat} {vc : Value} {cs : List Int} {at_ sd : Int} (h : SrcAt w0 w b vc cs at_ sd) (n m : Nat) (q s : Int) (hq : 0 ≤ q) (hs : 0 ≤ s ∧ s < 18446744073709551616) :
    SrcAt w0 ((((w.drewN n).setCell ⟨b, 1, none⟩ (.int .i64 q)).setCell ⟨b, 2, none⟩ (.int .u64 s)).drewN m) b vc cs q s ∧ w.grownBy ((((w.drewN n).setCell ⟨b, 1, none⟩ (.int .i64 q)).setCell ⟨b, 2, none⟩ (.int .u64 s)).drewN m) (some b) := by
  have h2 := h.keep (below_drewN w n)
  have hg : w.grownBy ((((w.drewN n).setCell ⟨b, 1, none⟩ (.int .i64 q)).setCell ⟨b, 2, none⟩ (.int .u64 s)).drewN m) (some b) :=
    grown_trans (grown_of_below (below_drewN w n) _) (grown_trans (grown_setAt _ b 1 _) (grown_trans (grown_setAt _ b 2 _) (grown_of_below (below_drewN _ m) _)))
  obtain ⟨hrow, hbel, hfar, c0, c1, c2, f1, f2, -, -, hby⟩ := h2
  refine ⟨⟨hrow, ?_, hfar, ?_, ?_, ?_, ?_, ?_, hq, hs, hby⟩, hg⟩
  · exact below_box h.below hg h.below.size hfar
  · go_simp
  · go_simp
  · go_simp
  · go_simp
  · go_simp
theorem SrcAt.keepB {w0 w w' : World} {B b : Nat} {vc : Value} {cs : List Int} {at_ sd : Int} (h : SrcAt w0 w b vc cs at_ sd) (hb : Below B w w') (hB : b < B) : SrcAt w0 w' b vc cs at_ sd :=
  ⟨h.row, h.below.trans (hb.mono (Nat.le_trans h.far (Nat.le_of_lt hB))), h.far, by rw [hb.cell (p := ⟨b, 0, none⟩) hB]; exact h.c0, by rw [hb.cell (p := ⟨b, 1, none⟩) hB]; exact h.c1, by rw [hb.cell (p := ⟨b, 2, none⟩) hB]; exact h.c2, by rw [hb.frozen (p := ⟨b, 1, none⟩) hB]; exact h.f1, by rw [hb.frozen (p := ⟨b, 2, none⟩) hB]; exact h.f2, h.at0, h.sd0, h.by_⟩
/-- What a choice leaves. -/
def PickOk (w0 : World) (b : Nat) (vc : Value) (cs : List Int) (at_ : Int) (lim : Int) (w : World) (e : Ending) (w' : World) : Prop :=
  ∃ x sd, e = .returned (.int .i64 x) ∧ 0 ≤ x ∧ x ≤ lim ∧ SrcAt w0 w' b vc cs (at_ + 1) sd ∧ w.grownBy w' (some b)
theorem u64_rg (z : Int) : 0 ≤ IntKind.u64.wrap z ∧ IntKind.u64.wrap z < 18446744073709551616 := by rw [IntKind.wrap_u64]; omega
theorem and_rg (z : Int) (hz : 0 ≤ z ∧ z < 18446744073709551616) : 0 ≤ wrap64 (bits .and .u64 (z / 1099511627776) 255) ∧ wrap64 (bits .and .u64 (z / 1099511627776) 255) ≤ 255 := by
  obtain ⟨q, hq⟩ := Int.eq_ofNat_of_zero_le (show 0 ≤ z / 1099511627776 by omega)
  have hlt : q < 18446744073709551616 := by omega
  rw [hq, show (255 : Int) = ((255 : Nat) : Int) from rfl, bits_and_u64_nat _ _ hlt (by omega)]
  have := Nat.and_le_right (n := q) (m := 255)
  unfold wrap64
  omega
set_option maxRecDepth 100000 in
set_option maxHeartbeats 800000 in
theorem next_any (w0 : World) (b : Nat) (vc : Value) (cs : List Int) (at_ sd : Int) (w : World) (hat : at_ ≤ 1000000000) (h : SrcAt w0 w b vc cs at_ sd) :
    Calls Try.prog 47 #[.pointer (some ⟨b, 0, none⟩)] w (PickOk w0 b vc cs at_ 255 w) := by
  have HS := hid h
  have hlt := h.lt
  obtain ⟨hrow, hbel, hfar, c0, c1, c2, f1, f2, at0, ⟨sd0, sd1⟩, hby⟩ := h
  have hrow' := hrow.below hbel
  obtain ⟨ao, cap, g, off, rfl, hao, hl, hm, hc⟩ := hrow'
  obtain ⟨ao2, cap2, g2, off2, e2, hao2, hl2, hm2, hc2⟩ := hrow
  simp only [List.length_map] at hao hl hao2 hl2 e2 c0 HS ⊢
  unfold maxLen at hm
  obtain ⟨k, rfl⟩ := Int.eq_ofNat_of_zero_le at0
  have W1 : IntKind.i64.wrap ((k : Int) + 1) = (k : Int) + 1 := by rw [IntKind.wrap_i64]; omega
  have HB := hid hby
  by_cases hk : k < cs.length
  · obtain rfl := hao (by omega)
    have hcell := hc k (.int .u8 cs[k]) (by simp [hk])
    have hx := HB.out _ (List.getElem_mem hk)
    generalize cs[k] = x at hcell hx
    have hkI : (k : Int) < (cs.length : Int) := by omega
    have hkI2 : (k : Int) + 1 ≤ (cs.length : Int) := by omega
    have hk0 : (0 : Int) ≤ (k : Int) := by omega
    have HC := hid hc; have HA := hid hao
    clear hc hao hc2 hao2 hbel hby at0
    go_enter Try.func47, Try.ntmps47
    go_wp2_with (first | go_quiet (fail))
    go_ret
    refine ⟨_, _, rfl, hx.1, hx.2, (HS.out.two _ _ _ _ (by omega) (u64_rg _)).1, (HS.out.two _ _ _ _ (by omega) (u64_rg _)).2⟩
  · have hkI : ¬ (k : Int) < (cs.length : Int) := by omega
    have hkI2 : ¬ (k : Int) + 1 ≤ (cs.length : Int) := by omega
    have hk0 : (0 : Int) ≤ (k : Int) := by omega
    clear hc hao hc2 hao2 hbel hby at0
    go_enter Try.func47, Try.ntmps47
    go_wp2_with (first | go_quiet (fail))
    go_ret
    exact ⟨_, _, rfl, (and_rg _ (u64_rg _)).1, (and_rg _ (u64_rg _)).2, (HS.out.two _ _ _ _ (by omega) (u64_rg _)).1, (HS.out.two _ _ _ _ (by omega) (u64_rg _)).2⟩
set_option maxRecDepth 100000 in
set_option maxHeartbeats 800000 in
theorem pick_any (w0 : World) (b : Nat) (vc : Value) (cs : List Int) (at_ sd n : Int) (hn : 2 ≤ n ∧ n ≤ 200) (w : World) (hat : at_ ≤ 1000000000) (h : SrcAt w0 w b vc cs at_ sd) :
    Calls Try.prog 39 #[.pointer (some ⟨b, 0, none⟩), .int .i64 n] w (PickOk w0 b vc cs at_ (n - 1) w) := by
  have HS := hid h; clear h
  have n1 : ¬ n ≤ 1 := by omega
  have n2 : ¬ 200 < n := by omega
  have hz : (n == 0) = false := by simp; omega
  have hnp : 0 < n := by omega
  go_enter Try.func39, Try.ntmps39
  go_wp2_with (first | (go_at_call 47; (refine (next_any w0 b vc cs at_ sd _ hat (HS.out.keep (by (repeat (first | (with_reducible assumption) | (with_reducible apply below_refl) | (with_reducible apply below_alloc1) | (with_reducible apply below_drewN1) | (with_reducible apply below_drew1)))))).mono ?_); rintro e w' ⟨x, sd', rfl, hx0, hx1, hS, hg⟩; have HS' := hid hS; have HG := hid (grown_trans (grown_of_below (show Below w.heap.size w _ by (repeat (first | (with_reducible assumption) | (with_reducible apply below_refl) | (with_reducible apply below_alloc1) | (with_reducible apply below_drewN1) | (with_reducible apply below_drew1)))) _) hg); clear hS hg; have hb := Int.emod_nonneg x (show n ≠ 0 by omega); have hb2 := Int.emod_lt_of_pos x hnp))
  go_ret
  exact ⟨_, _, rfl, by omega, by omega, HS'.out, HG.out⟩
set_option maxHeartbeats 400000 in
theorem from_any (w0 : World) (vc : Value) (cs : List Int) (w : World) (hrow : RowAt w0 vc (cs.map (Value.int .u8))) (hby : ∀ c ∈ cs, 0 ≤ c ∧ c ≤ 255) (hb : Below w0.heap.size w0 w) :
    Calls Try.prog 19 #[vc] w fun e w' => ∃ b, e = .returned (.pointer (some ⟨b, 0, none⟩)) ∧ w.heap.size ≤ b ∧ SrcAt w0 w' b vc cs 0 0 ∧ Below w.heap.size w w' := by
  have hr := hrow
  obtain ⟨ao, cap, g, off, rfl, hao, hl, hm, hc⟩ := hr
  have HR := hid hrow
  clear hao hl hm hc hrow
  have HB := hid hby; clear hby
  have hsz := hb.size
  go_enter Try.func19, Try.ntmps19
  go_wp2_with fail
  go_ret
  exact ⟨_, rfl, Nat.le_refl _, ⟨HR.out, hb.alloc hsz _, hsz, by go_simp, by go_simp, by go_simp, by go_simp, by go_simp, by omega, by omega, HB.out⟩, below_alloc _ _⟩
end Go.Proofs.Ytkgbbagklkffpaa
