/- Contracts of the laws' own helpers on slices: copies, comparisons, marks. -/
import Derived.Test.YtdldlfefbeflcaaRows
import Derived.Test.YtdldlfefbeflcaaOwn
import Derived.Test.YtdldlfefbeflcaaCom
namespace Go.Proofs.Ytdldlfefbeflcaa
open Go.RowKit

/-- One result that is a row of the call's own. -/
def RowOk (E : TypeId) (xs : List Value) (w : World) (e : Ending) (w' : World) : Prop := ∃ v, e = .returned v ∧ w'.ownsRow w.heap.size E 1 v xs.length xs ∧ Below w.heap.size w w'

theorem set_next {α : Type} (xs : List α) (f : α → Value) (z : Value) (k : Nat) (h : k < xs.length) :
    (((xs.take k).map f) ++ List.replicate (xs.length - k) z).set k (f xs[k]) = ((xs.take (k + 1)).map f) ++ List.replicate (xs.length - (k + 1)) z := by
  rw [List.set_append_right _ _ (by simp; omega)]
  rw [show (xs.length - k) = (xs.length - (k + 1)) + 1 by omega, List.replicate_succ]
  rw [show k - ((xs.take k).map f).length = 0 by simp; omega, List.set_cons_zero]
  rw [List.take_succ_eq_append_getElem h, List.map_append]
  simp
theorem take_set_drop (ms xs : List Value) (u : Value) (j : Nat) (hm : j < ms.length) (hx : j < xs.length) (hu : ms[j]? = some u) :
    (ms.take j ++ xs.drop j).set j u = ms.take (j + 1) ++ xs.drop (j + 1) := by
  rw [List.set_append_right _ _ (by simp; omega), show j - (ms.take j).length = 0 by simp; omega]
  rw [List.drop_eq_getElem_cons hx, List.set_cons_zero, List.take_succ_eq_append_getElem hm]
  rw [List.getElem?_eq_getElem hm] at hu
  cases hu
  rw [List.append_assoc]; rfl
theorem next_zero {α : Type} (xs : List α) (f : α → Value) (z : Value) (k : Nat) (h : k < xs.length) :
    (((xs.take k).map f) ++ List.replicate (xs.length - k) z)[k]? = some z := by
  have hk : ((xs.take k).map f).length = k := by simp; omega
  rw [List.getElem?_append_right (by omega), hk, Nat.sub_self, List.getElem?_replicate, if_pos (by omega)]

set_option maxHeartbeats 800000 in
theorem toFloat32S_any (v : Value) (xs : List (Nat)) (w : World) (hv : RowAt w v (xs.map (Value.float .f32))) (hn : xs.length ≤ 1048576) :
    Calls Try.prog 6 #[v] w (RowOk 23 (xs.map (Value.float .f32)) w) := by
  obtain ⟨i0, hi, hz0, hz1, hz2⟩ := info_parts (P := Try.prog) (e := 23) (z := Value.float .f32 0) (size := 1) (bytes := 4) (by kernel_rfl)
  obtain ⟨ao, cap, b, off, rfl, hao, hl, hm, hc⟩ := hv
  simp only [List.length_map] at hao hl ⊢
  unfold maxLen at hm
  have HC := hid hc; clear hc
  have HA := hid hao; clear hao
  go_enter Try.func6, Try.ntmps6
  go_wp2_with (at_make; refine wpList_make_full _ rfl _ _ 22 rfl w.heap.size 23 i0 (Value.float .f32 0) 1 Try.underlying22 hi hz0 hz1 _ _ _ _ xs.length rfl rfl rfl rfl (by rw [hz2]; omega) (by simp only [maxLen]; omega) (Nat.le_refl _) ?_; intro w1 hown hgrow)
  have hb1 : Below w.heap.size w w1 := wrote_below (u := .slice none 0 0) hgrow (by simp [Value.ownBlock]) (Nat.le_refl _)
  have HO := hid hown; clear hown hgrow
  have s0 : w.heap.size < w1.heap.size := by
    have := (HO.out.lt w.heap.size rfl).2; omega
  go_loopw [4] (fun i wr => ∃ k : Nat, k ≤ xs.length ∧ i = .int .i64 k ∧ Hid (wr.ownsRow w.heap.size 23 1 (.slice (some ⟨w.heap.size, 0, none⟩) xs.length xs.length) xs.length (((xs.take k).map (Value.float .f32)) ++ List.replicate (xs.length - k) (Value.float .f32 0))) ∧ Below w.heap.size w wr) (fun i _ => xs.length - (intOf i).toNat)
  case atStart => exact ⟨0, Nat.zero_le _, rfl, by have h := HO.out; simp only [Nat.mul_one] at h; rw [show (Value.float .f32 0).cells = #[Value.float .f32 0] from rfl, toList_madeCells_one] at h; simpa using hid h, hb1⟩
  case round =>
    obtain ⟨k, hk, rfl, ho, hb⟩ := hrel
    by_cases hlt : k < xs.length
    · obtain rfl := HA.out (by omega)
      have hcell : wr.cell? ⟨b, off + k, none⟩ = some (Value.float .f32 xs[k]) := by
        have h := HC.out k (Value.float .f32 xs[k]) (by simp [hlt])
        rw [hb.cell (p := ⟨b, off + k, none⟩) (World.block_lt_of_cell? w _ h)]; exact h
      have hdst : wr.cell? ⟨w.heap.size, k, none⟩ = some (Value.float .f32 0) := by
        rw [ho.out.cellAt k (by omega)]; exact next_zero xs (Value.float .f32) (Value.float .f32 0) k hlt
      have hfr : wr.frozen? ⟨w.heap.size, k, none⟩ = false := ho.out.frozenAt k
      have hst := ho.out.stored k (Value.float .f32 xs[k])
      have HS := hid (show (wr.setCell ⟨w.heap.size, k, none⟩ (Value.float .f32 xs[k])).ownsRow w.heap.size 23 1 (.slice (some ⟨w.heap.size, 0, none⟩) xs.length xs.length) xs.length (((xs.take (k + 1)).map (Value.float .f32)) ++ List.replicate (xs.length - (k + 1)) (Value.float .f32 0)) by
        have h := hst.1
        rw [set_next xs (Value.float .f32) (Value.float .f32 0) k hlt] at h
        exact h)
      clear hst
      go_wp2
      go_roundw
      case rel => exact ⟨k + 1, by omega, by go_num, HS, hb.setCell (Nat.le_refl _) _⟩
      case measure => simp [intOf]; omega
    · obtain rfl : k = xs.length := by omega
      go_wp2
      go_ret
      refine ⟨_, rfl, ?_, hb⟩
      have h := ho.out
      simp at h
      simpa using h
/-- The marks from k on. -/
def marksFloat32S (k : Int) (n : Nat) : List Value := (List.range n).map fun (i : Nat) => Value.float .f32 (floatOfInt .f32 (k + (i : Int)))
theorem marksFloat32S_get (k : Int) (n i : Nat) (h : i < n) : (marksFloat32S k n)[i]? = some (Value.float .f32 (floatOfInt .f32 (k + (i : Int)))) := by simp [marksFloat32S, h]
set_option maxHeartbeats 800000 in
theorem markFloat32S_any (v : Value) (lo : Nat) (xs : List Value) (k : Int) (w : World) (ho : w.ownsRow lo 23 1 v xs.length xs) (hn : xs.length ≤ 2097152) (hk : 0 ≤ k ∧ k ≤ 1000000000) :
    Calls Try.prog 9 #[v, .int .i64 k] w fun e w' => e = .returned (.int .i64 (k + xs.length)) ∧ w'.ownsRow lo 23 1 v (marksFloat32S k xs.length).length (marksFloat32S k xs.length) ∧ w.grownBy w' v.ownBlock := by
  have hml : (marksFloat32S k xs.length).length = xs.length := by simp [marksFloat32S]
  rw [hml]
  rcases ho.2 with ⟨rfl, hz⟩ | ⟨g, cap, cur, rfl, hlo, hg, hnc, hcm, hcs, htake⟩
  · have hx : xs = [] := List.eq_nil_of_length_eq_zero hz
    subst hx
    go_enter Try.func9, Try.ntmps9
    go_wp2_with fail
    go_loopw [5, 1] (fun i kk wr => i = .int .i64 0 ∧ kk = .int .i64 k ∧ Hid (wr = w)) (fun i _ _ => 0)
    case atStart => exact ⟨rfl, rfl, hid rfl⟩
    case round =>
      obtain ⟨rfl, rfl, hw⟩ := hrel
      have hw' := hw.out
      subst hw'
      go_wp2_with fail
      go_ret
      exact ⟨by simp, World.ownsRow_nil _ _ _ _, ⟨rfl, rfl, rfl, Nat.le_refl _, fun _ _ _ => rfl⟩⟩
  · clear hg hcs htake cur
    unfold maxLen at hcm
    have HO := hid ho; clear ho
    generalize hL : xs.length = L at *
    have HL := hid hL; clear hL
    go_enter Try.func9, Try.ntmps9
    go_wp2_with fail
    go_loopw [5, 1] (fun i kk wr => ∃ j : Nat, j ≤ L ∧ i = .int .i64 j ∧ kk = .int .i64 (k + j) ∧ Hid (wr.ownsRow lo 23 1 (.slice (some ⟨g, 0, none⟩) L cap) L ((marksFloat32S k L).take j ++ xs.drop j)) ∧ Hid (w.grownBy wr (some g))) (fun i _ _ => L - (intOf i).toNat)
    case atStart => exact ⟨0, Nat.zero_le _, rfl, by simp, hid (by simpa using HO.out), hid ⟨rfl, rfl, rfl, Nat.le_refl _, fun _ _ _ => rfl⟩⟩
    case round =>
      obtain ⟨j, hj, rfl, rfl, ho, hgr⟩ := hrel
      by_cases hlt : j < L
      · have hdst : ∃ u, wr.cell? ⟨g, j, none⟩ = some u := by
          rw [ho.out.cellAt j (by omega)]
          have : j < ((marksFloat32S k L).take j ++ xs.drop j).length := by rw [ho.out.1]; omega
          exact ⟨_, List.getElem?_eq_getElem this⟩
        obtain ⟨u, hu⟩ := hdst
        have hfr : wr.frozen? ⟨g, j, none⟩ = false := ho.out.frozenAt j
        have hst := ho.out.stored j (Value.float .f32 (floatOfInt .f32 (k + (j : Int))))
        have HS := hid (show (wr.setCell ⟨g, j, none⟩ (Value.float .f32 (floatOfInt .f32 (k + (j : Int))))).ownsRow lo 23 1 (.slice (some ⟨g, 0, none⟩) L cap) L ((marksFloat32S k L).take (j + 1) ++ xs.drop (j + 1)) by
          have h := hst.1
          rw [take_set_drop (marksFloat32S k L) xs (Value.float .f32 (floatOfInt .f32 (k + (j : Int)))) j (by simp [marksFloat32S]; omega) (by rw [HL.out]; omega) (marksFloat32S_get k L j hlt)] at h
          exact h)
        have HG := hid (show w.grownBy (wr.setCell ⟨g, j, none⟩ (Value.float .f32 (floatOfInt .f32 (k + (j : Int))))) (some g) by
          have h1 := hgr.out
          have h2 := hst.2
          exact ⟨h2.os.trans h1.os, h2.tape.trans h1.tape, h2.output.trans h1.output, Nat.le_trans h1.size h2.size, fun q hq hne => (h2.block q (Nat.lt_of_lt_of_le hq h1.size) hne).trans (h1.block q hq hne)⟩)
        clear hst
        go_wp2_with fail
        go_roundw
        case rel => exact ⟨j + 1, by omega, by go_num, by go_num, HS, HG⟩
        case measure => simp [intOf]; omega
      · obtain rfl : j = L := by omega
        go_wp2_with fail
        go_ret
        refine ⟨rfl, ?_, hgr.out⟩
        have h := ho.out
        rw [List.take_of_length_le (by simp [marksFloat32S]), List.drop_of_length_le (by rw [HL.out]; omega), List.append_nil] at h
        exact h
set_option maxHeartbeats 800000 in
theorem heldFloat32S_yes (v : Value) (n : Nat) (k : Int) (w : World) (ho : RowAt w v (marksFloat32S k n)) (hn : n ≤ 2097152) (hk : 0 ≤ k ∧ k ≤ 1000000000) :
    Calls Try.prog 10 #[v, .int .i64 k] w fun e w' => e = .returned (.int .i64 (k + n)) ∧ Below w.heap.size w w' := by
  obtain ⟨ao, cap, b, off, rfl, hao, hl, hm, hc⟩ := ho
  have hml : (marksFloat32S k n).length = n := by simp [marksFloat32S]
  rw [hml] at hao hl ⊢
  clear hml
  unfold maxLen at hm
  have HC := hid hc; clear hc
  have HA := hid hao; clear hao
  go_enter Try.func10, Try.ntmps10
  go_wp2_with fail
  go_loopw [5, 1] (fun i kk wr => ∃ j : Nat, j ≤ n ∧ i = .int .i64 j ∧ kk = .int .i64 (k + j) ∧ Below w.heap.size w wr) (fun i _ _ => n - (intOf i).toNat)
  case atStart => exact ⟨0, Nat.zero_le _, rfl, by simp, below_refl _⟩
  case round =>
    obtain ⟨j, hj, rfl, rfl, hw⟩ := hrel
    by_cases hlt : j < n
    · obtain rfl := HA.out (by omega)
      have hcell : wr.cell? ⟨b, off + j, none⟩ = some (Value.float .f32 (floatOfInt .f32 (k + (j : Int)))) := by
        have h := HC.out j (Value.float .f32 (floatOfInt .f32 (k + (j : Int)))) (marksFloat32S_get k n j hlt)
        rw [hw.cell (p := ⟨b, off + j, none⟩) (World.block_lt_of_cell? w _ h)]; exact h
      have hself := ford_self (ab_ofInt .f32 (k + (j : Int)))
      go_wp2_with fail
      go_roundw
      case rel => exact ⟨j + 1, by omega, by go_num, by go_num, by assumption⟩
      case measure => simp [intOf]; omega
    · obtain rfl : j = n := by omega
      go_wp2_with fail
      go_ret
      exact ⟨rfl, hw⟩
set_option maxHeartbeats 1600000 in
set_option maxRecDepth 100000 in
theorem eqFloat32S_yes (va vb : Value) (xs ys : List Nat) (w : World) (ha : RowAt w va (xs.map (Value.float .f32))) (hb : RowAt w vb (ys.map (Value.float .f32))) (he : xs.map (ab .f32) = ys.map (ab .f32)) :
    Calls Try.prog 8 #[va, vb] w fun e w' => e = .returned (.bool true) ∧ Below w.heap.size w w' := by
  obtain ⟨ao, cap, b, off, rfl, hao, hl, hm, hc⟩ := ha
  obtain ⟨ao', cap', b', off', rfl, hao', hl', hm', hc'⟩ := hb
  have hlen : ys.length = xs.length := by have := congrArg List.length he; simpa using this.symm
  have hget : ∀ k (h : k < xs.length) (h' : k < ys.length), ab .f32 xs[k] = ab .f32 ys[k] := by
    intro k h h'
    have := congrArg (·[k]?) he
    simpa [h, h'] using this
  simp only [List.length_map] at hao hl hao' hl' ⊢
  rw [hlen] at hao' hl' ⊢
  unfold maxLen at hm hm'
  have HC := hid hc; clear hc
  have HA := hid hao; clear hao
  have HC' := hid hc'; clear hc'
  have HA' := hid hao'; clear hao'
  have HG := hid hget; clear hget
  have HL := hid hlen; clear hlen he
  go_enter Try.func8, Try.ntmps8
  go_wp2_with fail
  go_loopw [5] (fun i wr => ∃ k : Nat, k ≤ xs.length ∧ i = .int .i64 k ∧ Below w.heap.size w wr) (fun i _ => xs.length - (intOf i).toNat)
  case atStart => exact ⟨0, Nat.zero_le _, rfl, below_refl _⟩
  case round =>
    obtain ⟨k, hk, rfl, hw⟩ := hrel
    by_cases hlt : k < xs.length
    · obtain rfl := HA.out (by omega)
      obtain rfl := HA'.out (by omega)
      have hlt' : k < ys.length := by rw [HL.out]; exact hlt
      obtain ⟨x, hx⟩ : ∃ x, x = xs[k] := ⟨_, rfl⟩
      obtain ⟨y, hy⟩ : ∃ y, y = ys[k] := ⟨_, rfl⟩
      have hxy : ab .f32 x = ab .f32 y := by rw [hx, hy]; exact HG.out k hlt hlt'
      have hcell : wr.cell? ⟨b, off + k, none⟩ = some (.float .f32 x) := by
        have h := HC.out k (.float .f32 xs[k]) (by simp [hlt])
        rw [hw.cell (p := ⟨b, off + k, none⟩) (World.block_lt_of_cell? w _ h), hx]; exact h
      have hcell' : wr.cell? ⟨b', off' + k, none⟩ = some (.float .f32 y) := by
        have h := HC'.out k (.float .f32 ys[k]) (by simp [hlt'])
        rw [hw.cell (p := ⟨b', off' + k, none⟩) (World.block_lt_of_cell? w _ h), hy]; exact h
      have lb : b < wr.heap.size := World.block_lt_of_cell? wr _ hcell
      have lb' : b' < wr.heap.size := World.block_lt_of_cell? wr _ hcell'
      have g0 : (0 : Int) ≤ (k : Int) := by omega
      have g1 : (k : Int) < (xs.length : Int) := by omega
      clear hx hy
      go_wp2_with (first
        | (go_region_with (first
            | (refine upon_widen rfl Try.underlying37 ?_; intro r n hr; go_simp)
            | (go_at_call 31; refine (sameFloat_yes _ _ (by simp only [*]) _).mono ?_; rintro e w' ⟨rfl, hb⟩; have hB : Below w.heap.size w w' := below_trans (by (repeat (first | (with_reducible assumption) | (with_reducible apply below_refl) | (with_reducible apply below_alloc1) | (with_reducible apply below_drewN1) | (with_reducible apply below_drew1)))) hb; have hC := (bcell hB).1; clear hb))))
      all_goals
        go_roundw
        case rel => exact ⟨k + 1, by omega, by go_num, by assumption⟩
        case measure => simp [intOf]; omega
    · go_wp2_with fail
      go_ret
      exact ⟨rfl, hw⟩
end Go.Proofs.Ytdldlfefbeflcaa
