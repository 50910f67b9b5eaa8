/- Contracts of the laws' helpers that choose numbers by bytes: b10Long, b10At. -/
import Derived.Test.YtkaeohlakeliiaaRows
import Derived.Test.YtkaeohlakeliiaaLib
import Derived.Test.YtkaeohlakeliiaaInt
namespace Go.Proofs.Ytkaeohlakeliiaa
open Go.RowKit

/-- The number that a byte chooses, or its index behind the end. -/
def byteAt (bs : List Int) (i n : Int) : Int := if n ≤ 1 then 0 else if h : i.toNat < bs.length then bs[i.toNat] % n else (i * 37 + 11) % n
theorem byteAt_bd (bs : List Int) (i n : Int) (hn : 1 ≤ n) : 0 ≤ byteAt bs i n ∧ byteAt bs i n < n := by
  unfold byteAt
  split
  · omega
  · split
    · exact ⟨Int.emod_nonneg _ (by omega), Int.emod_lt_of_pos _ (by omega)⟩
    · exact ⟨Int.emod_nonneg _ (by omega), Int.emod_lt_of_pos _ (by omega)⟩
theorem byteAt_one {bs : List Int} {i n : Int} (h : n ≤ 1) : byteAt bs i n = 0 := by simp [byteAt, h]
theorem byteAt_in {bs : List Int} {i n : Int} (h : ¬ n ≤ 1) (k : i.toNat < bs.length) : byteAt bs i n = bs[i.toNat] % n := by simp [byteAt, h, k]
theorem byteAt_out {bs : List Int} {i n : Int} (h : ¬ n ≤ 1) (k : ¬ i.toNat < bs.length) : byteAt bs i n = (i * 37 + 11) % n := by simp [byteAt, h, k]

set_option maxHeartbeats 800000 in
theorem b10At_any (v : Value) (bs : List Int) (i n : Int) (w : World) (hv : RowAt w v (bs.map (Value.int .u8))) (hbs : ∀ b ∈ bs, 0 ≤ b ∧ b ≤ 255) (hi : 0 ≤ i ∧ i ≤ 1000000) (hn : -9223372036854775808 ≤ n ∧ n ≤ 9223372036854775807) :
    Calls Try.prog 8 #[v, .int .i64 i, .int .i64 n] w fun e w' => e = .returned (.int .i64 (byteAt bs i n)) ∧ Below w.heap.size w w' := by
  obtain ⟨ao, cap, b, off, rfl, hao, hl, hm, hc⟩ := hv
  simp only [List.length_map] at hao hl ⊢
  unfold maxLen at hm
  have HC := hid hc; clear hc
  have HA := hid hao; clear hao
  have HB := hid hbs; clear hbs
  by_cases h1 : n ≤ 1
  · rw [byteAt_one h1]
    go_enter Try.func8, Try.ntmps8
    go_wp2_with fail
    go_ret
    exact ⟨rfl, by (repeat (first | (with_reducible assumption) | (with_reducible apply below_refl) | (with_reducible apply below_alloc1) | (with_reducible apply below_drewN1) | (with_reducible apply below_drew1)))⟩
  · have hb := byteAt_bd bs i n (by omega)
    have hz : (n == 0) = false := by simp; omega
    have hnp : 0 < n := by omega
    obtain ⟨i, rfl⟩ := Int.eq_ofNat_of_zero_le hi.1
    by_cases h2 : i < bs.length
    · have e := byteAt_in (bs := bs) (i := (i : Int)) h1 (by simpa using h2)
      obtain rfl := HA.out (by omega)
      obtain ⟨x, hx⟩ : ∃ x, x = bs[i] := ⟨_, rfl⟩
      have hx2 := HB.out bs[i] (List.getElem_mem h2)
      rw [← hx] at hx2
      have hcell : w.cell? ⟨b, off + i, none⟩ = some (.int .u8 x) := by
        have h := HC.out i (.int .u8 bs[i]) (by simp [h2])
        rw [hx]; exact h
      have e2 : byteAt bs (i : Int) n = x % n := by rw [e]; simp [hx]
      rw [e2] at hb ⊢
      clear e e2 hx
      have h2' : (i : Int) < (bs.length : Int) := by omega
      go_enter Try.func8, Try.ntmps8
      go_wp2_with fail
      go_ret
      exact ⟨rfl, by (repeat (first | (with_reducible assumption) | (with_reducible apply below_refl) | (with_reducible apply below_alloc1) | (with_reducible apply below_drewN1) | (with_reducible apply below_drew1)))⟩
    · have e := byteAt_out (bs := bs) (i := (i : Int)) h1 (by simpa using h2)
      rw [e] at hb ⊢
      clear e
      have h2' : ¬ (i : Int) < (bs.length : Int) := by omega
      go_enter Try.func8, Try.ntmps8
      go_wp2_with fail
      go_ret
      exact ⟨rfl, by (repeat (first | (with_reducible assumption) | (with_reducible apply below_refl) | (with_reducible apply below_alloc1) | (with_reducible apply below_drewN1) | (with_reducible apply below_drew1)))⟩
set_option maxHeartbeats 400000 in
theorem b10Long_any (va vb : Value) (xs ys : List Int) (w : World) (ha : RowAt w va (xs.map (Value.int .u8))) (hb : RowAt w vb (ys.map (Value.int .u8))) (r : Bool) (hr : (decide (1048576 < xs.length) || decide (1048576 < ys.length)) = r) :
    Calls Try.prog 7 #[va, vb] w fun e w' => e = .returned (.bool r) ∧ Below w.heap.size w w' := by
  subst hr
  obtain ⟨ao, cap, b, off, rfl, hao, hl, hm, hc⟩ := ha
  obtain ⟨ao', cap', b', off', rfl, hao', hl', hm', hc'⟩ := hb
  simp only [List.length_map] at hl hl' ⊢
  unfold maxLen at hm hm'
  clear hc hc' hao hao'
  by_cases h1 : 1048576 < xs.length
  · have h1' : (1048576 : Int) < (xs.length : Int) := by omega
    go_enter Try.func7, Try.ntmps7
    go_wp2_with fail
    go_ret
    exact ⟨by simp [h1], by (repeat (first | (with_reducible assumption) | (with_reducible apply below_refl) | (with_reducible apply below_alloc1) | (with_reducible apply below_drewN1) | (with_reducible apply below_drew1)))⟩
  · have h1' : ¬ (1048576 : Int) < (xs.length : Int) := by omega
    by_cases h2 : 1048576 < ys.length
    · have h2' : (1048576 : Int) < (ys.length : Int) := by omega
      go_enter Try.func7, Try.ntmps7
      go_wp2_with fail
      go_ret
      exact ⟨by simp [h2], by (repeat (first | (with_reducible assumption) | (with_reducible apply below_refl) | (with_reducible apply below_alloc1) | (with_reducible apply below_drewN1) | (with_reducible apply below_drew1)))⟩
    · have h2' : ¬ (1048576 : Int) < (ys.length : Int) := by omega
      go_enter Try.func7, Try.ntmps7
      go_wp2_with fail
      go_ret
      exact ⟨by simp [h1, h2], by (repeat (first | (with_reducible assumption) | (with_reducible apply below_refl) | (with_reducible apply below_alloc1) | (with_reducible apply below_drewN1) | (with_reducible apply below_drew1)))⟩
end Go.Proofs.Ytkaeohlakeliiaa
