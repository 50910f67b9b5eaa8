/- Contracts of the laws' own helpers on slices: copies, comparisons, marks. -/
import Derived.Test.YtdjpbgdhjkbcmaaRows
import Derived.Test.YtdjpbgdhjkbcmaaOwn
import Derived.Test.YtdjpbgdhjkbcmaaCom
namespace Go.Proofs.Ytdjpbgdhjkbcmaa
open Go.RowKit

/-- One result that is a row of the call's own. -/
def RowOk (E : TypeId) (xs : List Value) (w : World) (e : Ending) (w' : World) : Prop := ∃ v, e = .returned v ∧ w'.ownsRow w.heap.size E 1 v xs.length xs ∧ Below w.heap.size w w'

theorem set_next {α : Type} (xs : List α) (f : α → Value) (z : Value) (k : Nat) (h : k < xs.length) :
    (((xs.take k).map f) ++ List.replicate (xs.length - k) z).set k (f xs[k]) = ((xs.take (k + 1)).map f) ++ List.replicate (xs.length - (k + 1)) z := by
  rw [List.set_append_right _ _ (by simp; omega)]
  rw [show (xs.length - k) = (xs.length - (k + 1)) + 1 by omega, List.replicate_succ]
  rw [show k - ((xs.take k).map f).length = 0 by simp; omega, List.set_cons_zero]
  rw [List.take_succ_eq_append_getElem h, List.map_append]
  simp
theorem take_set_drop (ms xs : List Value) (u : Value) (j : Nat) (hm : j < ms.length) (hx : j < xs.length) (hu : ms[j]? = some u) :
    (ms.take j ++ xs.drop j).set j u = ms.take (j + 1) ++ xs.drop (j + 1) := by
  rw [List.set_append_right _ _ (by simp; omega), show j - (ms.take j).length = 0 by simp; omega]
  rw [List.drop_eq_getElem_cons hx, List.set_cons_zero, List.take_succ_eq_append_getElem hm]
  rw [List.getElem?_eq_getElem hm] at hu
  cases hu
  rw [List.append_assoc]; rfl
theorem next_zero {α : Type} (xs : List α) (f : α → Value) (z : Value) (k : Nat) (h : k < xs.length) :
    (((xs.take k).map f) ++ List.replicate (xs.length - k) z)[k]? = some z := by
  have hk : ((xs.take k).map f).length = k := by simp; omega
  rw [List.getElem?_append_right (by omega), hk, Nat.sub_self, List.getElem?_replicate, if_pos (by omega)]

set_option maxHeartbeats 800000 in
theorem toInt64S_any (v : Value) (xs : List (Int)) (w : World) (hv : RowAt w v (xs.map (Value.int .i64))) (hn : xs.length ≤ 1048576) :
    Calls Try.prog 36 #[v] w (RowOk 2 (xs.map (Value.int .i64)) w) := by
  obtain ⟨i0, hi, hz0, hz1, hz2⟩ := info_parts (P := Try.prog) (e := 2) (z := Value.int .i64 0) (size := 1) (bytes := 8) (by kernel_rfl)
  obtain ⟨ao, cap, b, off, rfl, hao, hl, hm, hc⟩ := hv
  simp only [List.length_map] at hao hl ⊢
  unfold maxLen at hm
  have HC := hid hc; clear hc
  have HA := hid hao; clear hao
  go_enter Try.func36, Try.ntmps36
  go_wp2_with (at_make; refine wpList_make_full _ rfl _ _ 44 rfl w.heap.size 2 i0 (Value.int .i64 0) 1 Try.underlying44 hi hz0 hz1 _ _ _ _ xs.length rfl rfl rfl rfl (by rw [hz2]; omega) (by simp only [maxLen]; omega) (Nat.le_refl _) ?_; intro w1 hown hgrow)
  have hb1 : Below w.heap.size w w1 := wrote_below (u := .slice none 0 0) hgrow (by simp [Value.ownBlock]) (Nat.le_refl _)
  have HO := hid hown; clear hown hgrow
  have s0 : w.heap.size < w1.heap.size := by
    have := (HO.out.lt w.heap.size rfl).2; omega
  go_loopw [4] (fun i wr => ∃ k : Nat, k ≤ xs.length ∧ i = .int .i64 k ∧ Hid (wr.ownsRow w.heap.size 2 1 (.slice (some ⟨w.heap.size, 0, none⟩) xs.length xs.length) xs.length (((xs.take k).map (Value.int .i64)) ++ List.replicate (xs.length - k) (Value.int .i64 0))) ∧ Below w.heap.size w wr) (fun i _ => xs.length - (intOf i).toNat)
  case atStart => exact ⟨0, Nat.zero_le _, rfl, by have h := HO.out; simp only [Nat.mul_one] at h; rw [show (Value.int .i64 0).cells = #[Value.int .i64 0] from rfl, toList_madeCells_one] at h; simpa using hid h, hb1⟩
  case round =>
    obtain ⟨k, hk, rfl, ho, hb⟩ := hrel
    by_cases hlt : k < xs.length
    · obtain rfl := HA.out (by omega)
      have hcell : wr.cell? ⟨b, off + k, none⟩ = some (Value.int .i64 xs[k]) := by
        have h := HC.out k (Value.int .i64 xs[k]) (by simp [hlt])
        rw [hb.cell (p := ⟨b, off + k, none⟩) (World.block_lt_of_cell? w _ h)]; exact h
      have hdst : wr.cell? ⟨w.heap.size, k, none⟩ = some (Value.int .i64 0) := by
        rw [ho.out.cellAt k (by omega)]; exact next_zero xs (Value.int .i64) (Value.int .i64 0) k hlt
      have hfr : wr.frozen? ⟨w.heap.size, k, none⟩ = false := ho.out.frozenAt k
      have hst := ho.out.stored k (Value.int .i64 xs[k])
      have HS := hid (show (wr.setCell ⟨w.heap.size, k, none⟩ (Value.int .i64 xs[k])).ownsRow w.heap.size 2 1 (.slice (some ⟨w.heap.size, 0, none⟩) xs.length xs.length) xs.length (((xs.take (k + 1)).map (Value.int .i64)) ++ List.replicate (xs.length - (k + 1)) (Value.int .i64 0)) by
        have h := hst.1
        rw [set_next xs (Value.int .i64) (Value.int .i64 0) k hlt] at h
        exact h)
      clear hst
      go_wp2
      go_roundw
      case rel => exact ⟨k + 1, by omega, by go_num, HS, hb.setCell (Nat.le_refl _) _⟩
      case measure => simp [intOf]; omega
    · obtain rfl : k = xs.length := by omega
      go_wp2
      go_ret
      refine ⟨_, rfl, ?_, hb⟩
      have h := ho.out
      simp at h
      simpa using h
set_option maxHeartbeats 800000 in
theorem eqInt64S_yes (va vb : Value) (xs : List Int) (w : World) (ha : RowAt w va (xs.map (Value.int .i64))) (hb : RowAt w vb (xs.map (Value.int .i64))) :
    Calls Try.prog 37 #[va, vb] w fun e w' => e = .returned (.bool true) ∧ Below w.heap.size w w' := by
  obtain ⟨ao, cap, b, off, rfl, hao, hl, hm, hc⟩ := ha
  obtain ⟨ao', cap', b', off', rfl, hao', hl', hm', hc'⟩ := hb
  simp only [List.length_map] at hao hl hao' hl' ⊢
  unfold maxLen at hm hm'
  have HC := hid hc; clear hc
  have HA := hid hao; clear hao
  have HC' := hid hc'; clear hc'
  have HA' := hid hao'; clear hao'
  go_enter Try.func37, Try.ntmps37
  go_wp2_with fail
  go_loopw [5] (fun i wr => ∃ k : Nat, k ≤ xs.length ∧ i = .int .i64 k ∧ Below w.heap.size w wr) (fun i _ => xs.length - (intOf i).toNat)
  case atStart => exact ⟨0, Nat.zero_le _, rfl, below_refl _⟩
  case round =>
    obtain ⟨k, hk, rfl, hw⟩ := hrel
    by_cases hlt : k < xs.length
    · obtain rfl := HA.out (by omega)
      obtain rfl := HA'.out (by omega)
      have hcell : wr.cell? ⟨b, off + k, none⟩ = some (.int .i64 xs[k]) := by
        have h := HC.out k (.int .i64 xs[k]) (by simp [hlt])
        rw [hw.cell (p := ⟨b, off + k, none⟩) (World.block_lt_of_cell? w _ h)]; exact h
      have hcell' : wr.cell? ⟨b', off' + k, none⟩ = some (.int .i64 xs[k]) := by
        have h := HC'.out k (.int .i64 xs[k]) (by simp [hlt])
        rw [hw.cell (p := ⟨b', off' + k, none⟩) (World.block_lt_of_cell? w _ h)]; exact h
      have g0 : (0 : Int) ≤ (k : Int) := by omega
      have g1 : (k : Int) < (xs.length : Int) := by omega
      go_wp2_with (first | go_quiet (fail))
      go_roundw
      case rel => exact ⟨k + 1, by omega, by go_num, by (repeat (first | (with_reducible assumption) | (with_reducible apply below_refl) | (with_reducible apply below_alloc1) | (with_reducible apply below_drewN1) | (with_reducible apply below_drew1)))⟩
      case measure => simp [intOf]; omega
    · go_wp2_with fail
      go_ret
      exact ⟨rfl, hw⟩
end Go.Proofs.Ytdjpbgdhjkbcmaa
