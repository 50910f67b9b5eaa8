/- Contracts of the laws' own helpers on rows of rows: copies, sizes, comparisons, marks. -/
import Derived.Test.YtjkoihiglfnkkaaNest
import Derived.Test.YtjkoihiglfnkkaaEq
namespace Go.Proofs.Ytjkoihiglfnkkaa
open Go.RowKit

/-- Rows that do not share blocks, one behind the other. -/
def Rising (vs : List Value) : Prop := ∀ (i j : Nat) (u u' : Value), i < j → vs[i]? = some u → vs[j]? = some u' → ∃ c : Nat, (∀ g, u.ownBlock = some g → g < c) ∧ (∀ g, u'.ownBlock = some g → c ≤ g)
def Inner (E : TypeId) (w : World) (lo : Nat) (vs : List Value) (xss : List (List Nat)) : Prop :=
  ∀ (i : Nat) (u : Value) (xs : List Nat), vs[i]? = some u → xss[i]? = some xs → w.ownsRow lo E 1 u (xs.map (Value.float .f32)).length (xs.map (Value.float .f32))
/-- Rows of rows of the call's own: all blocks from lo on and below hi. -/
def NestAt (E2 E : TypeId) (w : World) (lo hi : Nat) (v : Value) (xss : List (List Nat)) : Prop :=
  ∃ (G : Nat) (vs : List Value), v = .slice (some ⟨G, 0, none⟩) xss.length xss.length ∧ lo ≤ G ∧ G < hi ∧ hi ≤ w.heap.size ∧ vs.length = xss.length ∧ w.ownsRow lo E2 1 v vs.length vs ∧ Inner E w (G + 1) vs xss ∧
    (∀ (i : Nat) (u : Value), vs[i]? = some u → ∀ g, u.ownBlock = some g → g < hi) ∧ Rising vs
theorem Inner.below {E : TypeId} {w w' : World} {lo : Nat} {vs : List Value} {xss : List (List Nat)} (h : Inner E w lo vs xss) (hb : Below w.heap.size w w') : Inner E w' lo vs xss :=
  fun i u xs hu hx => ownsRow_below (h i u xs hu hx) hb
theorem NestAt.step {E2 E : TypeId} {w w' : World} {lo hi : Nat} {v : Value} {xss : List (List Nat)} (h : NestAt E2 E w lo hi v xss) (hb : Below w.heap.size w w') : NestAt E2 E w' lo hi v xss := by
  obtain ⟨G, vs, h1, h2, h3, h4, h5, h6, h7, h8, h9⟩ := h
  exact ⟨G, vs, h1, h2, h3, Nat.le_trans h4 hb.size, h5, ownsRow_below h6 hb, h7.below hb, h8, h9⟩
theorem NestAt.rows {E2 E : TypeId} {w : World} {lo hi : Nat} {v : Value} {xss : List (List Nat)} (h : NestAt E2 E w lo hi v xss) : RowsAt w v xss := by
  obtain ⟨G, vs, h1, h2, h3, h4, h5, h6, h7, h8, h9⟩ := h
  exact ⟨vs, (Own.mk' h6).row, h5, fun i u xs hu hx => (Own.mk' (h7 i u xs hu hx)).row⟩
/-- Nothing turns but what lies from lo on and below hi. -/
def Outside (lo hi : Nat) (w w' : World) : Prop := w'.os = w.os ∧ w'.tape = w.tape ∧ w'.output = w.output ∧ w.heap.size ≤ w'.heap.size ∧ ∀ b, b < w.heap.size → (b < lo ∨ hi ≤ b) → w'.heap[b]? = w.heap[b]?
theorem Outside.refl (lo hi : Nat) (w : World) : Outside lo hi w w := ⟨rfl, rfl, rfl, Nat.le_refl _, fun _ _ _ => rfl⟩
theorem Outside.below {lo hi : Nat} {w w' : World} (h : Outside lo hi w w') (hl : lo ≤ w.heap.size) : Below lo w w' := by
  obtain ⟨h1, h2, h3, h4, h5⟩ := h
  exact ⟨h1, h2, h3, h4, fun b hb => h5 b (by omega) (Or.inl hb)⟩
theorem Outside.wrote {lo hi : Nat} {w a b : World} {u : Value} (h : Outside lo hi w a) (hg : a.grownBy b u.ownBlock) (hu : ∀ g, u.ownBlock = some g → lo ≤ g ∧ g < hi) : Outside lo hi w b := by
  obtain ⟨h1, h2, h3, h4, h5⟩ := h
  refine ⟨hg.os.trans h1, hg.tape.trans h2, hg.output.trans h3, Nat.le_trans h4 hg.size, fun q hq ho => ?_⟩
  rw [hg.block q (by omega) (fun e => by have := hu q e.symm; omega)]
  exact h5 q hq ho
theorem Outside.next {lo hi : Nat} {w a b : World} (h : Outside lo hi w a) (hb : Below a.heap.size a b) : Outside lo hi w b := by
  obtain ⟨h1, h2, h3, h4, h5⟩ := h
  refine ⟨hb.os.trans h1, hb.tape.trans h2, hb.output.trans h3, Nat.le_trans h4 hb.size, fun q hq ho => ?_⟩
  rw [hb.block q (by omega)]
  exact h5 q hq ho
theorem OwnAt.outside {w wc w' : World} {lo hi lo2 hi2 : Nat} {E : TypeId} {v : Value} {xs : List Value} (h : OwnAt w lo hi E v xs) (hb : Below w.heap.size w wc) (ho : Outside lo2 hi2 wc w') (hd : hi ≤ lo2 ∨ hi2 ≤ lo) : OwnAt w' lo hi E v xs := by
  have h1 := h.step hb
  obtain ⟨⟨hown, hlt⟩, hs⟩ := h1
  obtain ⟨q1, q2, q3, q4, q5⟩ := ho
  refine ⟨⟨?_, hlt⟩, Nat.le_trans hs q4⟩
  obtain ⟨a1, a2⟩ := hown
  refine ⟨a1, ?_⟩
  rcases a2 with a2 | ⟨g, cap, cur, hv, hlo, hg, r⟩
  · exact Or.inl a2
  · refine Or.inr ⟨g, cap, cur, hv, hlo, ?_, r⟩
    have hgh := hlt g (by rw [hv]; rfl)
    rw [q5 g (by omega) (by omega)]
    exact hg
def totalLen (xss : List (List Nat)) : Nat := xss.foldr (fun xs n => xs.length + n) 0
theorem total_take (xss : List (List Nat)) (k : Nat) (h : k < xss.length) : totalLen (xss.take (k + 1)) = totalLen (xss.take k) + (xss[k]).length := by
  induction xss generalizing k with
  | nil => simp at h
  | cons a t ih =>
    cases k with
    | zero => simp [totalLen]
    | succ k =>
      have := ih k (by simpa using h)
      simp only [List.take_succ_cons, List.getElem_cons_succ]
      unfold totalLen at this ⊢
      simp only [List.foldr_cons]
      omega
theorem total_mono (xss : List (List Nat)) (k : Nat) : totalLen (xss.take k) ≤ totalLen xss := by
  induction xss generalizing k with
  | nil => simp [totalLen]
  | cons a t ih =>
    cases k with
    | zero => simp [totalLen]
    | succ k =>
      have := ih k
      simp only [List.take_succ_cons]
      unfold totalLen at this ⊢
      simp only [List.foldr_cons]
      omega

set_option maxHeartbeats 400000 in
theorem szFloat32S_any (ao : Option Addr) (n cap : Nat) (left : Int) (hl : 0 ≤ left ∧ left ≤ 1048576) (hn : n ≤ cap ∧ cap ≤ maxLen) (w : World) :
    Calls Try.prog 67 #[.slice ao n cap, .int .i64 left] w fun e w' => e = .returned (.int .i64 (if left - n < 0 then -1 else left - n)) ∧ Below w.heap.size w w' := by
  have hm := hn.2
  unfold maxLen at hm
  have W1 : IntKind.i64.wrap (left - (n : Int)) = left - (n : Int) := by rw [IntKind.wrap_i64]; omega
  by_cases h : left - (n : Int) < 0
  · have h' := h
    rw [if_pos h]
    go_enter Try.func67, Try.ntmps67
    go_wp2_with fail
    go_ret
    exact ⟨rfl, below_refl _⟩
  · rw [if_neg h]
    go_enter Try.func67, Try.ntmps67
    go_wp2_with fail
    go_ret
    exact ⟨rfl, below_refl _⟩
set_option maxRecDepth 100000 in
set_option maxHeartbeats 800000 in
theorem szFloat32SS_any (v : Value) (xss : List (List Nat)) (w : World) (hv : RowsAt w v xss) :
    Calls Try.prog 28 #[v, .int .i64 1048576] w fun e w' => (∃ r : Int, e = .returned (.int .i64 r) ∧ ((r < 0 ∧ 1048576 < xss.length + totalLen xss) ∨ (0 ≤ r ∧ xss.length + totalLen xss ≤ 1048576))) ∧ Below w.heap.size w w' := by
  obtain ⟨ao, cap, b, off, rfl, hao, hl, hm, hc⟩ := hv.one
  unfold maxLen at hm
  have HA := hid hao; have HC := hid hc
  clear hv hao hc
  by_cases h1 : xss.length ≤ 1048576
  rotate_left
  · have W1 : IntKind.i64.wrap (1048576 - (xss.length : Int)) = 1048576 - (xss.length : Int) := by rw [IntKind.wrap_i64]; omega
    have h1' : (1048576 : Int) - (xss.length : Int) < 0 := by omega
    go_enter Try.func28, Try.ntmps28
    go_wp2_with fail
    go_ret
    exact ⟨⟨-1, rfl, Or.inl ⟨by omega, by omega⟩⟩, below_refl _⟩
  have W1 : IntKind.i64.wrap (1048576 - (xss.length : Int)) = 1048576 - (xss.length : Int) := by rw [IntKind.wrap_i64]; omega
  have h1' : ¬ (1048576 : Int) - (xss.length : Int) < 0 := by omega
  go_enter Try.func28, Try.ntmps28
  go_wp2_with fail
  go_loopw [5, 1] (fun i lf wr => ∃ (k : Nat) (z : Int), k ≤ xss.length ∧ i = .int .i64 k ∧ lf = .int .i64 z ∧ 0 ≤ z ∧ Hid (z = 1048576 - (xss.length : Int) - (totalLen (xss.take k) : Int)) ∧ Below w.heap.size w wr) (fun i _ _ => xss.length - (intOf i).toNat)
  case atStart => exact ⟨0, _, Nat.zero_le _, rfl, rfl, by omega, hid (by simp [totalLen]), by (repeat (first | (with_reducible assumption) | (with_reducible apply below_refl) | (with_reducible apply below_alloc1) | (with_reducible apply below_drewN1) | (with_reducible apply below_drew1)))⟩
  case round =>
    obtain ⟨k, z, hk, rfl, rfl, hz, hzt, hw⟩ := hrel
    have hzu : z ≤ 1048576 := by have := hzt.out; omega
    by_cases hlt : k < xss.length
    · obtain rfl := HA.out (by omega)
      obtain ⟨ao2, cap2, hcell, hrow⟩ := HC.out k hlt
      have hcell' : wr.cell? ⟨b, off + k, none⟩ = some (.slice ao2 (xss[k]).length cap2) := by rw [hw.cell (p := ⟨b, off + k, none⟩) (World.block_lt_of_cell? w _ hcell)]; exact hcell
      have hcap : (xss[k]).length ≤ cap2 ∧ cap2 ≤ maxLen := by
        obtain ⟨_, c2, _, _, e, _, e3, e4, _⟩ := hrow
        simp only [List.length_map] at e e3
        cases e
        exact ⟨e3, e4⟩
      have hbl : b < wr.heap.size := World.block_lt_of_cell? wr _ hcell'
      have hk0 : (0 : Int) ≤ (k : Int) := by omega
      have hltI : (k : Int) < (xss.length : Int) := by omega
      have htk := total_take xss k hlt
      have htm := total_mono xss (k + 1)
      generalize hN : (xss[k]).length = n at hcell' htk hcap
      clear hrow hcell hN
      by_cases hneg : z - (n : Int) < 0
      · go_wp2_with (first
          | (go_at_call 67; refine (szFloat32S_any _ _ _ _ ⟨hz, hzu⟩ hcap _).mono ?_; rw [if_pos hneg]; rintro e w' ⟨rfl, hb⟩; have hB : Below wr.heap.size wr w' := below_trans (by (repeat (first | (with_reducible assumption) | (with_reducible apply below_refl) | (with_reducible apply below_alloc1) | (with_reducible apply below_drewN1) | (with_reducible apply below_drew1)))) hb; clear hb)
          | (go_region_held (fun w' => Below wr.heap.size wr w' ∧ ∀ b o, b < wr.heap.size → w'.cell? ⟨b, o, none⟩ = wr.cell? ⟨b, o, none⟩) (first | exact keep_next ‹_› ‹_› | exact keep_start | exact keep_drew ‹_› | exact keep_of (by (repeat (first | (with_reducible assumption) | (with_reducible apply below_refl) | (with_reducible apply below_alloc1) | (with_reducible apply below_drewN1) | (with_reducible apply below_drew1))))) (first | (go_at_call 67; refine (szFloat32S_any _ _ _ _ ⟨hz, hzu⟩ hcap _).mono ?_; rw [if_pos hneg]; rintro e w' ⟨rfl, hb⟩)) <;> (rename_i hHeld; obtain ⟨hB, hC⟩ := hHeld)))
        go_ret
        exact ⟨⟨-1, rfl, Or.inl ⟨by omega, by have := hzt.out; have := htm; omega⟩⟩, below_trans hw (by (repeat (first | (with_reducible assumption) | (with_reducible apply below_refl) | (with_reducible apply below_alloc1) | (with_reducible apply below_drewN1) | (with_reducible apply below_drew1))))⟩
      · go_wp2_with (first
          | (go_at_call 67; refine (szFloat32S_any _ _ _ _ ⟨hz, hzu⟩ hcap _).mono ?_; rw [if_neg hneg]; rintro e w' ⟨rfl, hb⟩; have hB : Below wr.heap.size wr w' := below_trans (by (repeat (first | (with_reducible assumption) | (with_reducible apply below_refl) | (with_reducible apply below_alloc1) | (with_reducible apply below_drewN1) | (with_reducible apply below_drew1)))) hb; clear hb)
          | (go_region_held (fun w' => Below wr.heap.size wr w' ∧ ∀ b o, b < wr.heap.size → w'.cell? ⟨b, o, none⟩ = wr.cell? ⟨b, o, none⟩) (first | exact keep_next ‹_› ‹_› | exact keep_start | exact keep_drew ‹_› | exact keep_of (by (repeat (first | (with_reducible assumption) | (with_reducible apply below_refl) | (with_reducible apply below_alloc1) | (with_reducible apply below_drewN1) | (with_reducible apply below_drew1))))) (first | (go_at_call 67; refine (szFloat32S_any _ _ _ _ ⟨hz, hzu⟩ hcap _).mono ?_; rw [if_neg hneg]; rintro e w' ⟨rfl, hb⟩)) <;> (rename_i hHeld; obtain ⟨hB, hC⟩ := hHeld)))
        go_roundw
        case rel => exact ⟨k + 1, _, by omega, by go_num, rfl, by omega, hid (by rw [htk]; have := hzt.out; omega), below_trans hw (by (repeat (first | (with_reducible assumption) | (with_reducible apply below_refl) | (with_reducible apply below_alloc1) | (with_reducible apply below_drewN1) | (with_reducible apply below_drew1))))⟩
        case measure => simp [intOf]; omega
    · obtain rfl : k = xss.length := by omega
      go_wp2_with fail
      go_ret
      refine ⟨⟨_, rfl, Or.inr ⟨hz, ?_⟩⟩, by (repeat (first | (with_reducible assumption) | (with_reducible apply below_refl) | (with_reducible apply below_alloc1) | (with_reducible apply below_drewN1) | (with_reducible apply below_drew1)))⟩
      have h2 := hzt.out
      rw [List.take_length] at h2
      omega
end Go.Proofs.Ytjkoihiglfnkkaa
