/- BalanceOf of both sides, over whatever slice. -/
import Derived.Test.YtfnhpchgiknmpaaBalImpl
namespace Go.Proofs.Ytfnhpchgiknmpaa
open Go.RowKit

theorem chain_box {w : World} {s : Int} {ao : Option Addr} {cap : Nat} {rs : List Nat} (t : TypeId) (hv : RowAt w (.slice ao rs.length cap) (rs.map (Value.float .f32))) : ChainAt (w.alloc (.cells #[.int .i64 s, .slice ao rs.length cap] t)) w.heap.size s rs :=
  ⟨ao, cap, by simp, by simp, hv.below (below_alloc _ _)⟩
set_option maxRecDepth 100000 in
set_option maxHeartbeats 1600000 in
theorem specBalance_any (s : Int) (ao : Option Addr) (cap : Nat) (rs : List Nat) (w : World) (hv : RowAt w (.slice ao rs.length cap) (rs.map (Value.float .f32))) :
    Calls Try.prog 16 #[.agg #[.int .i64 s, .slice ao rs.length cap]] w (FRowOk 44 (balXs (balOf rs s)) (balAll (balOf rs s)) w) := by
  have HV := hid hv
  clear hv
  cases hC : chainB rs s
  · have HC := hid hC
    have HE := hid (show balOf rs s = none by unfold balOf; rw [hC]; rfl)
    clear hC
    go_enter Try.func16, Try.ntmps16
    go_wp2_with (first
      | (go_at_call 47; (with_reducible refine (l04Is_any _ s rs _ ((chain_box _ HV.out).below (by (repeat (first | (with_reducible assumption) | (with_reducible apply below_refl) | (with_reducible apply below_alloc1) | (with_reducible apply below_drewN1) | (with_reducible apply below_drew1)))))).mono ?_); rw [HC.out]; rintro e w' ⟨rfl, hb⟩; have hB : Below w.heap.size w w' := below_trans (by (repeat (first | (with_reducible assumption) | (with_reducible apply below_refl) | (with_reducible apply below_alloc1) | (with_reducible apply below_drewN1) | (with_reducible apply below_drew1)))) hb; have hC := (bcell hB).1; clear hb))
    go_ret2
    exact frow_no (by rw [HE.out]; rfl) (by rw [HE.out]; rfl) (by assumption)
  obtain ⟨n, rfl, hn1, hn8, hl, -, -⟩ := chainB_parts hC
  have HE := hid (show balOf rs n = balRaw rs n by unfold balOf; rw [hC]; simp)
  have HCC := hid hC
  have HL := hid hl
  clear hC hl
  go_enter Try.func16, Try.ntmps16
  go_wp2_with (first
    | (go_at_call 47; (with_reducible refine (l04Is_any _ _ rs _ ((chain_box _ HV.out).below (by (repeat (first | (with_reducible assumption) | (with_reducible apply below_refl) | (with_reducible apply below_alloc1) | (with_reducible apply below_drewN1) | (with_reducible apply below_drew1)))))).mono ?_); rw [HCC.out]; rintro e w' ⟨rfl, hb⟩; have hB : Below w.heap.size w w' := below_trans (by (repeat (first | (with_reducible assumption) | (with_reducible apply below_refl) | (with_reducible apply below_alloc1) | (with_reducible apply below_drewN1) | (with_reducible apply below_drew1)))) hb; have hB2 := hid hb; clear hb)
    | (go_at_call 48; (with_reducible refine (l04Balance_any _ n rs hn1 hn8 HL.out _ (((chain_box _ HV.out).below hB2.out).below (by (repeat (first | (with_reducible assumption) | (with_reducible apply below_refl) | (with_reducible apply below_alloc1) | (with_reducible apply below_drewN1) | (with_reducible apply below_drew1)))))).mono ?_); rintro e w' ⟨v, rfl, ho, hb⟩; have HO := hid (ownsRow_low ho (show w.heap.size ≤ _ from Below.size (show Below w.heap.size w _ by (repeat (first | (with_reducible assumption) | (with_reducible apply below_refl) | (with_reducible apply below_alloc1) | (with_reducible apply below_drewN1) | (with_reducible apply below_drew1)))))); have hB : Below w.heap.size w w' := below_trans (by (repeat (first | (with_reducible assumption) | (with_reducible apply below_refl) | (with_reducible apply below_alloc1) | (with_reducible apply below_drewN1) | (with_reducible apply below_drew1)))) hb; clear hb ho))
  go_ret2
  exact ⟨v, by rw [HE.out]; rfl, by rw [HE.out]; exact HO.out, by assumption⟩
theorem specBalance_v (s : Int) (v : Value) (rs : List Nat) (w : World) (hv : RowAt w v (rs.map (Value.float .f32))) :
    Calls Try.prog 16 #[.agg #[.int .i64 s, v]] w (FRowOk 44 (balXs (balOf rs s)) (balAll (balOf rs s)) w) := by
  have h := hv
  obtain ⟨ao, cap, b, off, rfl, -⟩ := hv
  rw [List.length_map] at h ⊢
  exact specBalance_any s ao cap rs w h
theorem implBalance_v (s : Int) (v : Value) (rs : List Nat) (w : World) (hv : RowAt w v (rs.map (Value.float .f32))) :
    Calls Try.prog 18 #[.agg #[.int .i64 s, v]] w (FRowOk 44 (balXs (balOf rs s)) (balAll (balOf rs s)) w) := by
  have h := hv
  obtain ⟨ao, cap, b, off, rfl, -⟩ := hv
  rw [List.length_map] at h ⊢
  exact implBalance_any s ao cap rs w h
theorem balRaw_len {rs : List Nat} {n : Nat} {L : List (Option Nat)} (h : balRaw rs n = some L) : L.length = n := by
  unfold balRaw at h
  cases hr : runM n (mat0 rs n) n with
  | none => rw [hr] at h; cases h
  | some B =>
    rw [hr] at h
    cases h
    simp [outL]
theorem balOf_len (rs : List Nat) (s : Int) : (balXs (balOf rs s)).length ≤ 8 := by
  unfold balOf
  cases hC : chainB rs s
  · simp [balXs]
  · obtain ⟨n, rfl, -, hn8, -⟩ := chainB_parts hC
    simp only [if_true, Int.toNat_natCast]
    cases hM : balRaw rs n with
    | none => simp [balXs]
    | some L =>
      have := balRaw_len hM
      unfold balXs
      simp only
      split
      · simp [bitsOf]; omega
      · simp
theorem toChain_v (s : Int) (v : Value) (xs : List Nat) (w : World) (hv : RowAt w v (xs.map (Value.float .f32))) (hn : xs.length ≤ 1048576) :
    Calls Try.prog 17 #[.agg #[.int .i64 s, v]] w fun e w' => ∃ c, e = .returned (.agg #[.int .i64 s, c]) ∧ w'.ownsRow w.heap.size 44 1 c (xs.map (Value.float .f32)).length (xs.map (Value.float .f32)) ∧ Below w.heap.size w w' := by
  have h := hv
  obtain ⟨ao, cap, b, off, rfl, -⟩ := hv
  exact toChain_any s ao _ cap xs w h hn
theorem szChain_v (s : Int) (v : Value) (xs : List Nat) (left : Int) (hl : 0 ≤ left ∧ left ≤ 1048576) (w : World) (hv : RowAt w v (xs.map (Value.float .f32))) :
    Calls Try.prog 15 #[.agg #[.int .i64 s, v], .int .i64 left] w fun e w' => e = .returned (.int .i64 (if left - (xs.length : Nat) < 0 then -1 else left - (xs.length : Nat))) ∧ Below w.heap.size w w' := by
  have h := hv
  obtain ⟨ao, cap, b, off, rfl, -, h2, h3, -⟩ := hv
  rw [List.length_map] at h2 ⊢
  exact szChain_any s ao xs.length cap left hl ⟨h2, h3⟩ w
theorem eqChain_v (s : Int) (va vb : Value) (cs : List Nat) (w : World) (ha : RowAt w va (cs.map (Value.float .f32))) (hb : RowAt w vb (cs.map (Value.float .f32))) :
    Calls Try.prog 20 #[.agg #[.int .i64 s, va], .agg #[.int .i64 s, vb]] w fun e w' => e = .returned (.bool true) ∧ Below w.heap.size w w' := by
  have h := ha; have h2 := hb
  obtain ⟨ao, cap, b, off, rfl, -⟩ := ha
  obtain ⟨ao', cap', b', off', rfl, -⟩ := hb
  exact eqChain_yes s ao ao' _ _ cap cap' cs w h h2
set_option maxHeartbeats 800000 in
theorem markChain_v (lo : Nat) (s : Int) (v : Value) (xs : List Value) (k : Int) (w : World) (hv : w.ownsRow lo 44 1 v xs.length xs) (hn : xs.length ≤ 2097152) (hk : 0 ≤ k ∧ k ≤ 1000000000) :
    Calls Try.prog 21 #[.agg #[.int .i64 s, v], .int .i64 k] w fun e w' => e = .returned (.int .i64 (k + xs.length)) ∧ w'.ownsRow lo 44 1 v (marksFloat32S k xs.length).length (marksFloat32S k xs.length) ∧ w.grownBy w' v.ownBlock := by
  have HV := hid hv
  have hr := (Own.mk' hv).row
  obtain ⟨ao, cap, b, off, rfl, -⟩ := hr
  clear hv
  go_enter Try.func21, Try.ntmps21
  go_wp2_with (go_at_call 22; refine (markFloat32S_any _ lo xs k _ (ownsRow_below HV.out (by (repeat (first | (with_reducible assumption) | (with_reducible apply below_refl) | (with_reducible apply below_alloc1) | (with_reducible apply below_drewN1) | (with_reducible apply below_drew1))))) hn hk).mono ?_; rintro e w' ⟨rfl, ho, hg⟩; have HO := hid ho; have hG : w.grownBy w' (Value.slice ao xs.length cap).ownBlock := grown_after (by (repeat (first | (with_reducible assumption) | (with_reducible apply below_refl) | (with_reducible apply below_alloc1) | (with_reducible apply below_drewN1) | (with_reducible apply below_drew1)))) hg; clear hg ho)
  go_ret
  exact ⟨rfl, HO.out, by assumption⟩
end Go.Proofs.Ytfnhpchgiknmpaa
