/- LeftTimes: the reference's sort: an insertion sort on a copy. -/
import Derived.Test.YtdldlfefbeflcaaLeft2
namespace Go.Proofs.Ytdldlfefbeflcaa
open Go.RowKit

theorem ins_list (xs : List Nat) : (Sort.insOuter ltN 0 xs.length 0 xs.toArray).toList = srt xs := by
  have h0 : Sort.insOuter ltN 0 xs.length 0 xs.toArray = Sort.insertionSort ltN xs.toArray 0 xs.length := by
    rcases Nat.eq_zero_or_pos xs.length with h | h
    · rw [insOuter_exit (by omega)]
      unfold Sort.insertionSort
      rw [insOuter_exit (by omega)]
    · rw [insOuter_next h]; rfl
  rw [h0]
  obtain ⟨hp, hs⟩ := Sort.insertionSort_holds (lt := ltN) swoN xs.toArray 0 xs.length (Nat.zero_le _) (by simp)
  have := Sort.sorted_unique_holds (lt := ltN) swoN ltN_eq xs.toArray _ hp hs
  rw [this]
  unfold srt
  congr 1
  funext x y
  have : (decide (x ≤ y)) = !(decide (y < x)) := by
    by_cases h : y < x
    · simp [h, Nat.not_le.2 h]
    · simp [h, Nat.not_lt.1 h]
  rw [this]
  rfl
theorem SRow.out {E : TypeId} {w : World} {lo g cap n : Nat} {d : Array Nat} (h : SRow E w lo g cap n d) : w.ownsRow lo E 1 (.slice (some ⟨g, 0, none⟩) n cap) (d.toList.map (Value.float .f32)).length (d.toList.map (Value.float .f32)) := by
  have := h.1
  rwa [show (d.toList.map (Value.float .f32)).length = n by rw [List.length_map, Array.length_toList]; exact h.2.1]
set_option maxRecDepth 100000 in
set_option maxHeartbeats 1600000 in
theorem l05Sorted_any (v : Value) (xs : List Nat) (h1 : 1 ≤ xs.length) (h2 : xs.length ≤ 64) (hp : ∀ x ∈ xs, PosN x) (w : World) (hv : RowAt w v (xs.map (Value.float .f32))) :
    Calls Try.prog 25 #[v] w fun e w' => ∃ u, e = .returned u ∧ w'.ownsRow w.heap.size 23 1 u ((srt xs).map (Value.float .f32)).length ((srt xs).map (Value.float .f32)) ∧ Below w.heap.size w w' := by
  obtain ⟨i0, hi0, hz0, hz1, hz2⟩ := info_parts (P := Try.prog) (e := 23) (z := Value.float .f32 0) (size := 1) (bytes := 4) (by kernel_rfl)
  obtain ⟨ao, cap, b, off, rfl, hao, hl, hm, hc⟩ := hv
  simp only [List.length_map] at hl hao ⊢
  unfold maxLen at hm
  obtain rfl := hao (by omega)
  have HC := hid hc; have HP := hid hp
  clear hc hao hp
  have HW := hid (show ∀ (w' : World), Below w.heap.size w w' → ∀ j u, (xs.map (Value.float .f32))[j]? = some u → w'.cell? ((⟨b, off, none⟩ : Addr).add j) = some u from fun w' hb j u hj => by
    have h := HC.out j u hj
    have hlt := World.block_lt_of_cell? w _ h
    rw [Addr.add_lit, hb.cell (p := ⟨b, off + j, none⟩) hlt]
    exact h)
  have HONE := hid (show ∀ u ∈ xs.map (Value.float .f32), u.oneCell' = true from fun u hu => by
    obtain ⟨x, _, rfl⟩ := List.mem_map.1 hu
    rfl)
  go_enter Try.func25, Try.ntmps25
  go_wp2_with (first
    | (at_builtin; refine wpList_append_own_at _ rfl _ _ 22 rfl w.heap.size 23 i0 (Value.float .f32 0) 1 4 Try.underlying22 hi0 hz0 hz1 hz2 rfl (by decide) (.slice (some ⟨w.heap.size, 0, none⟩) 0 0) 0 [] rfl (World.ownsRow_made w #[] 0 (Nat.le_refl _) (by simp [maxLen]) rfl) ⟨b, off, none⟩ xs.length cap (xs.map (Value.float .f32)) rfl (by simp) (HW.out _ (by (repeat (first | (with_reducible assumption) | (with_reducible apply below_refl) | (with_reducible apply below_alloc1) | (with_reducible apply below_drewN1) | (with_reducible apply below_drew1))))) HONE.out (by simp only [maxLen]; omega) (by omega) (by simp) ?_; intro v1 w1 hown hgr hnil hat; have hb1 : Below w.heap.size w w1 := (below_alloc w _).grown hgr (by simp) (fun k hk => by simp [Value.ownBlock] at hk; omega); clear hgr hnil hat; rw [Nat.zero_add, List.nil_append] at hown; obtain ⟨g, cap1, rfl, hg0, hg1⟩ := hown.form (by omega)))
  have HS := hid (SRow.of_row hown HP.out)
  have hcap := HS.out.caps
  have q1 := hcap.1; have q2 := hcap.2
  unfold maxLen at q2
  clear hown hcap HP
  obtain ⟨n, hn⟩ : ∃ n, n = xs.length := ⟨_, rfl⟩
  have hlen := hid hn
  obtain ⟨d, hd⟩ : ∃ d, d = xs.toArray := ⟨_, rfl⟩
  have HR := hid (show (Sort.insOuter ltN 0 n 0 d).toList = srt xs by rw [hn, hd]; exact ins_list xs)
  rw [← hn, ← hd] at HS
  rw [← hn] at h1 h2 q1 ⊢
  clear hd hn
  obtain ⟨F, hF⟩ : ∃ F, Sort.insOuter ltN 0 n 0 d = F := ⟨_, rfl⟩
  rw [hF] at HR
  have HF := hid hF
  clear hF
  go_loopw [12] (fun i wr => ∃ (I : Nat) (d' : Array Nat), I ≤ n ∧ i = .int .i64 I ∧ Hid (Sort.insOuter ltN 0 n I d' = F) ∧ Hid (SRow 23 wr w.heap.size g cap1 n d') ∧ Below w.heap.size w wr) (fun i _ => n - (intOf i).toNat)
  case atStart => exact ⟨0, d, by omega, rfl, HF, HS, hb1⟩
  case round =>
    obtain ⟨I, d', hI, rfl, hF, hs, hw⟩ := hrel
    by_cases hlt : I < n
    · have hII : (I : Int) < (n : Int) := by omega
      go_wp2_with fail
      go_loopw [5] (fun j wr => ∃ (J : Nat) (d2 : Array Nat), J ≤ I ∧ j = .int .i64 J ∧ Hid (Sort.insInner ltN 0 J d2 = Sort.insInner ltN 0 I d') ∧ Hid (SRow 23 wr w.heap.size g cap1 n d2) ∧ Below w.heap.size w wr) (fun j _ => (intOf j).toNat)
      case atStart => exact ⟨I, d', Nat.le_refl _, rfl, hid rfl, hs, hw⟩
      case round =>
        obtain ⟨J, d2, hJI, rfl, hG, hs, hw⟩ := hrel
        by_cases hJ : 0 < J
        · obtain ⟨j, rfl⟩ : ∃ j, J = j + 1 := ⟨J - 1, by omega⟩
          have hjz : (0 : Int) ≤ (j : Int) := by omega
          have hja2 : (0 : Int) < (j : Int) + 1 := by omega
          have hjn : (j : Int) + 1 < (n : Int) := by omega
          have hjz1 : (0 : Int) ≤ (j : Int) + 1 := by omega
          have W2 : IntKind.i64.wrap ((j : Int) + 1 - 1) = (j : Int) := by rw [IntKind.wrap_i64]; omega
          have i1 : ((j : Int) + 1).toNat = j + 1 := by omega
          have hjn2 : (j : Int) < (n : Int) := by omega
          obtain ⟨x, y, c1, c2, f1, f2, p1, p2, ov, l1, l2, hsw⟩ := hs.out.pair (i := j + 1) (j := j) (by omega) (by omega)
          have hgl : g < wr.heap.size := hs.out.lt.2
          by_cases hxy : x < y
          · have hd : decide (x < y) = true := by simpa using hxy
            have HN := hid (insInner_next (a := 0) hJ (by rw [l1.out]; exact hd))
            have hc : (ford .f32 (ab .f32 x) (ab .f32 y) == some .lt) = true := by rw [less_pos p1 p2]; exact hd
            clear hd hxy
            go_wp2_with (first | go_quiet (fail))
            refine ⟨⟨j, _, by omega, rfl, hid (by rw [← HN.out]; exact hG.out), hid (hsw.out _ (below_drewN _ _)), ?_⟩, by simp [intOf]⟩
            exact ((hw.trans (Below.mono (below_drewN _ _) hw.size)).setCell hg0 _).setCell hg0 _
          · have hd : decide (x < y) = false := by simpa using hxy
            have HN := hid (insInner_exit (a := 0) (J := j + 1) (d := d2) (Or.inr (Or.inr (by rw [Nat.add_sub_cancel, l1.out]; exact hd))))
            have hc : (ford .f32 (ab .f32 x) (ab .f32 y) == some .lt) = false := by rw [less_pos p1 p2]; exact hd
            clear hd hxy
            go_wp2_with (first | go_quiet (fail))
            refine ⟨⟨I + 1, d2, by omega, by go_num, hid ?_, hid (hs.out.below (by (repeat (first | (with_reducible assumption) | (with_reducible apply below_refl) | (with_reducible apply below_alloc1) | (with_reducible apply below_drewN1) | (with_reducible apply below_drew1))))), hw.trans (Below.mono (show Below wr.heap.size wr _ by (repeat (first | (with_reducible assumption) | (with_reducible apply below_refl) | (with_reducible apply below_alloc1) | (with_reducible apply below_drewN1) | (with_reducible apply below_drew1)))) hw.size)⟩, by simp [intOf]; omega⟩
            rw [HN.out] at hG
            rw [hG.out, ← insOuter_next hlt]
            exact hF.out
        · obtain rfl : J = 0 := by omega
          have HN := hid (insInner_exit (a := 0) (J := 0) (d := d2) (Or.inl rfl))
          have hja : decide ((0 : Int) < ((0 : Nat) : Int)) = false := by simp
          go_wp2_with fail
          go_quiet (fail)
          go_wp2_with fail
          refine ⟨⟨I + 1, d2, by omega, by go_num, hid ?_, hid (hs.out.below (by (repeat (first | (with_reducible assumption) | (with_reducible apply below_refl) | (with_reducible apply below_alloc1) | (with_reducible apply below_drewN1) | (with_reducible apply below_drew1))))), hw.trans (Below.mono (show Below wr.heap.size wr _ by (repeat (first | (with_reducible assumption) | (with_reducible apply below_refl) | (with_reducible apply below_alloc1) | (with_reducible apply below_drewN1) | (with_reducible apply below_drew1)))) hw.size)⟩, by simp [intOf]; omega⟩
          rw [HN.out] at hG
          rw [hG.out, ← insOuter_next hlt]
          exact hF.out
    · have hII : ¬ (I : Int) < (n : Int) := by omega
      have HE := hid (insOuter_exit (a := 0) (d := d') hlt)
      go_wp2_with fail
      go_ret
      rw [HE.out] at hF
      have hF2 := hF.out
      subst hF2
      refine ⟨_, rfl, ?_, by (repeat (first | (with_reducible assumption) | (with_reducible apply below_refl) | (with_reducible apply below_alloc1) | (with_reducible apply below_drewN1) | (with_reducible apply below_drew1)))⟩
      have := hs.out.out
      rw [HR.out] at this
      rw [List.length_map] at this
      exact this
end Go.Proofs.Ytdldlfefbeflcaa
