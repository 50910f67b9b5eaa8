/- Rows of units: what is read of them; their sizes. -/
import Derived.Test.YtfnhpchgiknmpaaOpen
import Derived.Test.YtfnhpchgiknmpaaEq
namespace Go.Proofs.Ytfnhpchgiknmpaa
open Go.RowKit

structure Un where
  t : Nat
  f : Bool
  cs : List Nat

/-- v is a slice that reads as the units us. -/
def UnitsAt (w : World) (v : Value) (us : List Un) : Prop :=
  ∃ ao cap b off, v = .slice ao us.length cap ∧ (0 < us.length → ao = some ⟨b, off, none⟩) ∧ us.length ≤ cap ∧ cap ≤ maxLen ∧
    ∀ k (h : k < us.length), ∃ sa sc, w.cell? ⟨b, off + k * 3, none⟩ = some (.float .f32 us[k].t) ∧ w.cell? ⟨b, off + k * 3 + 1, none⟩ = some (.bool us[k].f) ∧ w.cell? ⟨b, off + k * 3 + 2, none⟩ = some (.slice sa us[k].cs.length sc) ∧
      RowAt w (.slice sa us[k].cs.length sc) (us[k].cs.map (Value.float .f32))
theorem UnitsAt.below {w w' : World} {v : Value} {us : List Un} (h : UnitsAt w v us) (hb : Below w.heap.size w w') : UnitsAt w' v us := by
  obtain ⟨ao, cap, b, off, h1, h2, h3, h4, h5⟩ := h
  refine ⟨ao, cap, b, off, h1, h2, h3, h4, fun k hk => ?_⟩
  obtain ⟨sa, sc, c0, c1, c2, c3⟩ := h5 k hk
  have hlt : b < w.heap.size := World.block_lt_of_cell? w _ c0
  exact ⟨sa, sc, by rw [hb.cell (p := ⟨b, _, none⟩) hlt]; exact c0, by rw [hb.cell (p := ⟨b, _, none⟩) hlt]; exact c1, by rw [hb.cell (p := ⟨b, _, none⟩) hlt]; exact c2, c3.below hb⟩
def coverLen (us : List Un) : Nat := us.foldr (fun u n => u.cs.length + n) 0
theorem cover_take (us : List Un) (k : Nat) (h : k < us.length) : coverLen (us.take (k + 1)) = coverLen (us.take k) + (us[k]).cs.length := by
  induction us generalizing k with
  | nil => simp at h
  | cons a t ih =>
    cases k with
    | zero => simp [coverLen]
    | succ k =>
      have := ih k (by simpa using h)
      simp only [List.take_succ_cons, List.getElem_cons_succ]
      unfold coverLen at this ⊢
      simp only [List.foldr_cons]
      omega
theorem cover_mono (us : List Un) (k : Nat) : coverLen (us.take k) ≤ coverLen us := by
  induction us generalizing k with
  | nil => simp [coverLen]
  | cons a t ih =>
    cases k with
    | zero => simp [coverLen]
    | succ k =>
      have := ih k
      simp only [List.take_succ_cons]
      unfold coverLen at this ⊢
      simp only [List.foldr_cons]
      omega
theorem row_caps {w : World} {sa : Option Addr} {n sc : Nat} {xs : List Value} (h : RowAt w (.slice sa n sc) xs) : n ≤ sc ∧ sc ≤ maxLen := by
  obtain ⟨_, c2, _, _, e, _, e3, e4, _⟩ := h
  cases e
  exact ⟨e3, e4⟩

set_option maxHeartbeats 400000 in
theorem szFloat32S_any (ao : Option Addr) (n cap : Nat) (left : Int) (hl : 0 ≤ left ∧ left ≤ 1048576) (hn : n ≤ cap ∧ cap ≤ maxLen) (w : World) :
    Calls Try.prog 46 #[.slice ao n cap, .int .i64 left] w fun e w' => e = .returned (.int .i64 (if left - n < 0 then -1 else left - n)) ∧ Below w.heap.size w w' := by
  have hm := hn.2
  unfold maxLen at hm
  have W1 : IntKind.i64.wrap (left - (n : Int)) = left - (n : Int) := by rw [IntKind.wrap_i64]; omega
  by_cases h : left - (n : Int) < 0
  · have h' := h
    rw [if_pos h]
    go_enter Try.func46, Try.ntmps46
    go_wp2_with fail
    go_ret
    exact ⟨rfl, below_refl _⟩
  · rw [if_neg h]
    go_enter Try.func46, Try.ntmps46
    go_wp2_with fail
    go_ret
    exact ⟨rfl, below_refl _⟩
set_option maxHeartbeats 400000 in
theorem szUnit_any (t : Nat) (f : Bool) (ao : Option Addr) (n cap : Nat) (left : Int) (hl : 0 ≤ left ∧ left ≤ 1048576) (hn : n ≤ cap ∧ cap ≤ maxLen) (w : World) :
    Calls Try.prog 32 #[.agg #[.float .f32 t, .bool f, .slice ao n cap], .int .i64 left] w fun e w' => e = .returned (.int .i64 (if left - n < 0 then -1 else left - n)) ∧ Below w.heap.size w w' := by
  by_cases h : left - (n : Int) < 0
  all_goals
    go_enter Try.func32, Try.ntmps32
    go_wp2_with (first
      | (go_at_call 46; refine (szFloat32S_any _ _ _ _ hl hn _).mono ?_; (first | rw [if_pos h] | rw [if_neg h]); rintro e w' ⟨rfl, hb⟩; have hB : Below w.heap.size w w' := below_trans (by (repeat (first | (with_reducible assumption) | (with_reducible apply below_refl) | (with_reducible apply below_alloc1) | (with_reducible apply below_drewN1) | (with_reducible apply below_drew1)))) hb; clear hb))
    go_ret
    exact ⟨by simp [h], by assumption⟩
set_option maxRecDepth 100000 in
set_option maxHeartbeats 800000 in
theorem szUnitS_any (v : Value) (us : List Un) (w : World) (L : Int) (hL : 0 ≤ L ∧ L ≤ 1048576) (hv : UnitsAt w v us) :
    Calls Try.prog 8 #[v, .int .i64 L] w fun e w' => (∃ r : Int, e = .returned (.int .i64 r) ∧ ((r < 0 ∧ L < us.length + coverLen us) ∨ (0 ≤ r ∧ r = L - us.length - coverLen us))) ∧ Below w.heap.size w w' := by
  obtain ⟨ao, cap, b, off, rfl, hao, hl, hm, hc⟩ := hv
  unfold maxLen at hm
  have HA := hid hao; have HC := hid hc
  clear hao hc
  have W1 : IntKind.i64.wrap (L - (us.length : Int)) = L - (us.length : Int) := by rw [IntKind.wrap_i64]; omega
  by_cases h1 : L - (us.length : Int) < 0
  · go_enter Try.func8, Try.ntmps8
    go_wp2_with fail
    go_ret
    exact ⟨⟨-1, rfl, Or.inl ⟨by omega, by omega⟩⟩, below_refl _⟩
  go_enter Try.func8, Try.ntmps8
  go_wp2_with fail
  go_loopw [5, 1] (fun i lf wr => ∃ (k : Nat) (z : Int), k ≤ us.length ∧ i = .int .i64 k ∧ lf = .int .i64 z ∧ 0 ≤ z ∧ Hid (z = L - (us.length : Int) - (coverLen (us.take k) : Int)) ∧ Below w.heap.size w wr) (fun i _ _ => us.length - (intOf i).toNat)
  case atStart => exact ⟨0, _, Nat.zero_le _, rfl, rfl, by omega, hid (by simp [coverLen]), by (repeat (first | (with_reducible assumption) | (with_reducible apply below_refl) | (with_reducible apply below_alloc1) | (with_reducible apply below_drewN1) | (with_reducible apply below_drew1)))⟩
  case round =>
    obtain ⟨k, z, hk, rfl, rfl, hz, hzt, hw⟩ := hrel
    have hzu : z ≤ 1048576 := by have := hzt.out; omega
    by_cases hlt : k < us.length
    · obtain rfl := HA.out (by omega)
      obtain ⟨sa, sc, c0, c1, c2, hrow⟩ := HC.out k hlt
      have hbl0 : b < w.heap.size := World.block_lt_of_cell? w _ c0
      have c0' : wr.cell? ⟨b, off + k * 3, none⟩ = some (.float .f32 us[k].t) := by rw [hw.cell (p := ⟨b, _, none⟩) hbl0]; exact c0
      have c1' : wr.cell? ⟨b, off + k * 3 + 1, none⟩ = some (.bool us[k].f) := by rw [hw.cell (p := ⟨b, _, none⟩) hbl0]; exact c1
      have c2' : wr.cell? ⟨b, off + k * 3 + 2, none⟩ = some (.slice sa us[k].cs.length sc) := by rw [hw.cell (p := ⟨b, _, none⟩) hbl0]; exact c2
      have hcap := row_caps hrow
      have hbl : b < wr.heap.size := World.block_lt_of_cell? wr _ c0'
      have hk0 : (0 : Int) ≤ (k : Int) := by omega
      have hltI : (k : Int) < (us.length : Int) := by omega
      have htk := cover_take us k hlt
      have htm := cover_mono us (k + 1)
      generalize us[k].t = t at c0'
      generalize us[k].f = f at c1'
      generalize us[k].cs.length = n at c2' htk hcap
      clear hrow c0 c1 c2 hbl0
      by_cases hneg : z - (n : Int) < 0
      · go_wp2_with (first
          | (go_at_call 32; refine (szUnit_any _ _ _ _ _ _ ⟨hz, hzu⟩ hcap _).mono ?_; rw [if_pos hneg]; rintro e w' ⟨rfl, hb⟩; have hB : Below wr.heap.size wr w' := below_trans (by (repeat (first | (with_reducible assumption) | (with_reducible apply below_refl) | (with_reducible apply below_alloc1) | (with_reducible apply below_drewN1) | (with_reducible apply below_drew1)))) hb; clear hb))
        go_ret
        exact ⟨⟨-1, rfl, Or.inl ⟨by omega, by have := hzt.out; omega⟩⟩, below_trans hw (by (repeat (first | (with_reducible assumption) | (with_reducible apply below_refl) | (with_reducible apply below_alloc1) | (with_reducible apply below_drewN1) | (with_reducible apply below_drew1))))⟩
      · go_wp2_with (first
          | (go_at_call 32; refine (szUnit_any _ _ _ _ _ _ ⟨hz, hzu⟩ hcap _).mono ?_; rw [if_neg hneg]; rintro e w' ⟨rfl, hb⟩; have hB : Below wr.heap.size wr w' := below_trans (by (repeat (first | (with_reducible assumption) | (with_reducible apply below_refl) | (with_reducible apply below_alloc1) | (with_reducible apply below_drewN1) | (with_reducible apply below_drew1)))) hb; clear hb))
        go_roundw
        case rel => exact ⟨k + 1, _, by omega, by go_num, rfl, by omega, hid (by rw [htk]; have := hzt.out; omega), below_trans hw (by (repeat (first | (with_reducible assumption) | (with_reducible apply below_refl) | (with_reducible apply below_alloc1) | (with_reducible apply below_drewN1) | (with_reducible apply below_drew1))))⟩
        case measure => simp [intOf]; omega
    · obtain rfl : k = us.length := by omega
      go_wp2_with fail
      go_ret
      refine ⟨⟨_, rfl, Or.inr ⟨hz, ?_⟩⟩, by (repeat (first | (with_reducible assumption) | (with_reducible apply below_refl) | (with_reducible apply below_alloc1) | (with_reducible apply below_drewN1) | (with_reducible apply below_drew1)))⟩
      have h2 := hzt.out
      rw [List.take_length] at h2
      omega
end Go.Proofs.Ytfnhpchgiknmpaa
