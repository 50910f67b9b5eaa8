/- LeftTimes: the numbers that are sorted are from +0 on. No program in sight. -/
import Derived.Test.YtdldlfefbeflcaaSort3
import Derived.Test.YtdldlfefbeflcaaMove
import Derived.Test.YtdldlfefbeflcaaMag3
namespace Go.Proofs.Ytdldlfefbeflcaa
open Go.RowKit

/-! ## Left1 -/
theorem read_pos {b : Nat} (h : b < 2139095040) : ∃ m i, FloatKind.f32.format.read b = .number false m i ∧ (0 < b → m ≠ 0) := by
  have e1 : FloatKind.f32.format.signWeight = 2147483648 := by decide
  have e2 : FloatKind.f32.format.binade = 8388608 := by decide
  have e3 : FloatKind.f32.format.infRung = 2139095040 := by decide
  have hneg : (b / 2147483648 % 2 == 1) = false := by
    rw [show b / 2147483648 = 0 by omega]; rfl
  have hr : b % 2147483648 = b := by omega
  unfold Ieee.Format.read
  simp only [e1, e2, e3, hneg, hr]
  by_cases h1 : b < 8388608
  · rw [if_pos h1]
    exact ⟨_, _, rfl, fun h0 => by omega⟩
  · rw [if_neg h1, if_pos h]
    exact ⟨_, _, rfl, fun h0 => by omega⟩
theorem rung_le (mag : Nat) (place : Int) : rungOf FloatKind.f32.format mag place ≤ 2139095040 := by
  unfold rungOf
  split
  · exact Nat.zero_le _
  · exact Nat.le_trans (Nat.min_le_right _ _) (by decide)
theorem quo_pos {p d : Nat} (hp : PosN p) (hd0 : 0 < d) (hd : d < 2139095040) : ∃ q, fop .quo .f32 (some p) (some d) = some q ∧ PosN q := by
  obtain ⟨n, j, e2, hn⟩ := read_pos hd
  have hn := hn hd0
  have hq : fop .quo .f32 (some p) (some d) = ((FloatKind.f32.format.read p).quotient (FloatKind.f32.format.fractionBits + 2) (FloatKind.f32.format.read d)).map FloatKind.f32.format.write := rfl
  rw [hq, e2]
  rcases Nat.lt_or_ge p 2139095040 with c | c
  · obtain ⟨m, i, e1, -⟩ := read_pos c
    rw [e1]
    simp only [Ieee.Datum.quotient, if_neg hn, Option.map_some]
    refine ⟨_, rfl, ?_⟩
    obtain ⟨more, hmore⟩ : ∃ more, more = FloatKind.f32.format.fractionBits + 2 + n.log2 - m.log2 := ⟨_, rfl⟩
    rw [← hmore]
    have hw : FloatKind.f32.format.write (.number (false ^^ false) (2 * ((m <<< more) / n) + ((m <<< more) % n != 0).toNat) (i - j - (more : Int) - 1)) = FloatKind.f32.format.word false (rungOf FloatKind.f32.format (2 * ((m <<< more) / n) + ((m <<< more) % n != 0).toNat) (i - j - (more : Int) - 1)) := nearest_rung _ _ _ _
    rw [hw]
    show (if false = true then _ else _) ≤ _
    rw [if_neg (by decide)]
    exact rung_le _ _
  · obtain rfl : p = 2139095040 := by have : p ≤ 2139095040 := hp; omega
    rw [inf_read]
    refine ⟨_, rfl, ?_⟩
    decide
theorem read_negP (r : Nat) (h : r ≤ 2139095040) : FloatKind.f32.format.read (2147483648 + r) = .infinity true ∨ ∃ m i, FloatKind.f32.format.read (2147483648 + r) = .number true m i := by
  have e1 : FloatKind.f32.format.signWeight = 2147483648 := by decide
  have e2 : FloatKind.f32.format.binade = 8388608 := by decide
  have e3 : FloatKind.f32.format.infRung = 2139095040 := by decide
  have hneg : ((2147483648 + r) / 2147483648 % 2 == 1) = true := by
    rw [show (2147483648 + r) / 2147483648 = 1 by omega]; rfl
  have hr : (2147483648 + r) % 2147483648 = r := by omega
  unfold Ieee.Format.read
  simp only [e1, e2, e3, hneg, hr]
  by_cases h1 : r < 8388608
  · rw [if_pos h1]; exact Or.inr ⟨_, _, rfl⟩
  · rw [if_neg h1]
    by_cases h2 : r < 2139095040
    · rw [if_pos h2]; exact Or.inr ⟨_, _, rfl⟩
    · rw [if_neg h2, if_pos (by omega)]; exact Or.inl rfl
theorem zero_read : FloatKind.f32.format.read 0 = .number false 0 FloatKind.f32.format.leastPlace := by decide
theorem not_gt (r : Nat) (h : r ≤ 2139095040) : ford .f32 (some (2147483648 + r)) (some 0) ≠ some .gt := by
  show (FloatKind.f32.format.read (2147483648 + r)).order (FloatKind.f32.format.read 0) ≠ _
  rw [zero_read]
  rcases read_negP r h with e | ⟨m, i, e⟩
  · rw [e]; decide
  · rw [e]
    simp only [Ieee.Datum.order]
    intro hc
    have := Option.some.inj hc
    rw [Int.compare_eq_gt, signed_eq, signed_eq, if_pos rfl, if_neg (by decide), Nat.zero_mul] at this
    generalize m * 2 ^ (i - min i FloatKind.f32.format.leastPlace).toNat = z at this
    omega
theorem sub_word {k : FloatKind} {x y : Option Nat} {a b : Int} (hx : IsV k x a) (hy : IsV k y b) : ∃ s' mag place, fop .sub k x y = some (k.format.word s' (rungOf k.format mag place)) := by
  obtain ⟨p, s, m, i, rfl, e1, hi, ea⟩ := hx.read
  obtain ⟨q, t, n, j, rfl, e2, hj, eb⟩ := hy.read
  have hs : fop .sub k (some p) (some q) = ((k.format.read p).sum (k.format.read q).opposite).map k.format.write := rfl
  rw [hs, e1, e2]
  simp only [Ieee.Datum.sum, Ieee.Datum.opposite, Option.map_some]
  exact ⟨_, _, _, congrArg some (nearest_rung _ _ _ _)⟩
theorem w32_neg (r : Nat) : FloatKind.f32.format.word true r = 2147483648 + r := by
  have e1 : FloatKind.f32.format.signWeight = 2147483648 := by decide
  unfold Ieee.Format.word
  rw [if_pos rfl, e1]
theorem w32_pos (r : Nat) : FloatKind.f32.format.word false r = r := by
  unfold Ieee.Format.word
  rw [if_neg (by decide)]
theorem sub_gt {x y : Option Nat} {a b : Int} (hx : IsV .f32 x a) (hy : IsV .f32 y b) (hg : ford .f32 (fop .sub .f32 x y) (some 0) = some .gt) : ∃ p, fop .sub .f32 x y = some p ∧ PosN p := by
  obtain ⟨s', mag, place, hw⟩ := sub_word hx hy
  have hr := rung_le mag place
  generalize rungOf FloatKind.f32.format mag place = r at hw hr
  cases s' with
  | false => rw [w32_pos] at hw; exact ⟨_, hw, hr⟩
  | true =>
    rw [w32_neg] at hw
    rw [hw] at hg
    exact absurd hg (not_gt r hr)

/-! ## Left2 -/
def leftD (li x : Option Nat) : Option Nat := if ford .f32 (fop .sub .f32 li x) (some 0) == some .gt then fop .sub .f32 li x else some 0
def leftX (d li : Option Nat) (xs : List Nat) (j : Nat) : Option Nat := fop .quo .f32 (leftD li (ab .f32 (xs.getD j 0))) d
def leftL (d li : Option Nat) (xs : List Nat) (k : Nat) : List (Option Nat) := (List.range k).map (leftX d li xs)
theorem leftL_next (d li : Option Nat) (xs : List Nat) (k : Nat) : leftL d li xs (k + 1) = leftL d li xs k ++ [leftX d li xs k] := range_next _ _
theorem leftL_len (d li : Option Nat) (xs : List Nat) (k : Nat) : (leftL d li xs k).length = k := by simp [leftL]
def leftOk (xs : List Nat) (d li : Option Nat) : Bool := cloudB xs && moreB d && finite32 li
def leftAll (xs : List Nat) (d li : Option Nat) : Bool := leftOk xs d li && finL (leftL d li xs xs.length)
def srt (ys : List Nat) : List Nat := ys.mergeSort (fun x y => decide (x ≤ y))
def leftXs (xs : List Nat) (d li : Option Nat) : List Nat := if leftAll xs d li then srt (bitsOf (leftL d li xs xs.length)) else []
theorem left_no {xs : List Nat} {d li : Option Nat} (h : leftAll xs d li = false) : leftXs xs d li = [] := by simp [leftXs, h]
theorem left_yes {xs : List Nat} {d li : Option Nat} (h : leftAll xs d li = true) : leftXs xs d li = srt (bitsOf (leftL d li xs xs.length)) := by simp [leftXs, h]
theorem left_fail {xs : List Nat} {d li : Option Nat} (h : leftOk xs d li = false) : leftXs xs d li = [] ∧ leftAll xs d li = false := by
  have : leftAll xs d li = false := by simp [leftAll, h]
  exact ⟨left_no this, this⟩
theorem srt_perm (ys : List Nat) : (srt ys).Perm ys := List.mergeSort_perm _ _
theorem srt_len (ys : List Nat) : (srt ys).length = ys.length := (srt_perm ys).length_eq
theorem srt_all (ys : List Nat) (f : Nat → Bool) : (srt ys).all f = ys.all f := by
  rw [Bool.eq_iff_iff, List.all_eq_true, List.all_eq_true]
  exact ⟨fun h x hx => h x ((srt_perm ys).mem_iff.2 hx), fun h x hx => h x ((srt_perm ys).mem_iff.1 hx)⟩
theorem leftXs_len (xs : List Nat) (d li : Option Nat) : (leftXs xs d li).length ≤ 64 := by
  cases h : leftAll xs d li
  · rw [left_no h]; simp
  · rw [left_yes h, srt_len]
    simp only [leftAll, leftOk, Bool.and_eq_true] at h
    have := cloudB_true h.1.1.1
    simp [bitsOf, leftL_len]; omega
theorem more_bits {d : Nat} (hd : d < 4294967296) (h : moreB (ab .f32 d) = true) : ∃ e, ab .f32 d = some e ∧ 0 < e ∧ e < 2139095040 := by
  simp only [moreB, Bool.and_eq_true] at h
  obtain ⟨h1, h2⟩ := h
  obtain ⟨e, he⟩ := fin_some h1
  obtain ⟨v, b, hb, hr, -⟩ := isV_of_fin32 h1
  rw [he] at hb h2
  cases hb
  obtain rfl := (ab_some he).1
  have e1 : FloatKind.f32.format.signWeight = 2147483648 := by decide
  have e3 : FloatKind.f32.format.infRung = 2139095040 := by decide
  rw [e1, e3] at hr
  refine ⟨_, he, ?_, ?_⟩
  · rcases Nat.eq_zero_or_pos e with h0 | h0
    · subst h0
      exact absurd h2 (by decide)
    · exact h0
  · rcases Nat.lt_or_ge e 2147483648 with c | c
    · omega
    · exfalso
      have := not_gt (e - 2147483648) (by omega)
      rw [show 2147483648 + (e - 2147483648) = e by omega] at this
      exact this (by simpa using h2)
theorem left_pos {xs : List Nat} {d l : Nat} (hd : d < 4294967296) (h : leftOk xs (ab .f32 d) (ab .f32 l) = true) {j : Nat} (hj : j < xs.length) : ∃ q, leftX (ab .f32 d) (ab .f32 l) xs j = some q ∧ PosN q := by
  simp only [leftOk, Bool.and_eq_true] at h
  obtain ⟨⟨h1, h2⟩, h3⟩ := h
  obtain ⟨e, he, e0, e1⟩ := more_bits hd h2
  obtain ⟨-, -, hx⟩ := cloudB_true h1
  obtain ⟨a, ha⟩ := isV_of_fin32 h3
  obtain ⟨b, hb⟩ := isV_of_fin32 (hx j hj)
  unfold leftX leftD
  rw [he, getD_atM xs j hj]
  split
  · rename_i hg
    obtain ⟨p, hp, pp⟩ := sub_gt ha hb (by simpa using hg)
    rw [hp]
    exact quo_pos pp e0 e1
  · exact quo_pos (by decide) e0 e1
theorem left_len {xs : List Nat} {d li : Option Nat} (h : leftOk xs d li = true) : 1 ≤ xs.length ∧ xs.length ≤ 64 := by
  simp only [leftOk, Bool.and_eq_true] at h
  have := cloudB_true h.1.1
  exact ⟨this.1, this.2.1⟩
/-- The numbers that have been made, as bits. -/
theorem left_bits {xs ys : List Nat} {d l : Nat} (hd : d < 4294967296) (h : leftOk xs (ab .f32 d) (ab .f32 l) = true) (hy : ys.map (ab .f32) = leftL (ab .f32 d) (ab .f32 l) xs xs.length) : (∀ y ∈ ys, PosN y) ∧ ys = bitsOf (leftL (ab .f32 d) (ab .f32 l) xs xs.length) := by
  have hlen : ys.length = xs.length := by have := congrArg List.length hy; simpa [leftL_len] using this
  have hat : ∀ j (hj : j < ys.length), PosN ys[j] ∧ leftX (ab .f32 d) (ab .f32 l) xs j = some ys[j] := by
    intro j hj
    obtain ⟨q, hq, hp⟩ := left_pos hd h (j := j) (by omega)
    have e : (ys.map (ab .f32))[j]? = (leftL (ab .f32 d) (ab .f32 l) xs xs.length)[j]? := by rw [hy]
    rw [leftL, List.getElem?_map, List.getElem?_map, List.getElem?_eq_getElem hj, List.getElem?_range (by omega)] at e
    simp only [Option.map_some, Option.some.injEq] at e
    rw [hq] at e
    have := (ab_some e).1
    subst this
    exact ⟨hp, hq⟩
  constructor
  · intro y hm
    obtain ⟨j, hj, rfl⟩ := List.getElem_of_mem hm
    exact (hat j hj).1
  · apply List.ext_getElem
    · rw [hlen]; simp [bitsOf, leftL_len]
    · intro j h1 h2
      simp only [bitsOf, leftL, List.getElem_map, List.getElem_range, (hat j h1).2, Option.getD_some]
theorem srt_finL (ys : List Nat) : ((srt ys).all fun b => finB (ab .f32 b)) = finL (ys.map (ab .f32)) := by
  rw [srt_all, finL_map]
theorem order_all {a b : Ieee.Datum} (ha : a.isNaN = false) (hb : b.isNaN = false) : ∃ c, a.order b = some c := by
  cases a <;> cases b <;> simp_all [Ieee.Datum.order, Ieee.Datum.isNaN]
theorem left_cmp {li x : Option Nat} {a b : Int} (hx : IsV .f32 li a) (hy : IsV .f32 x b) : ∃ c, ford .f32 (fop .sub .f32 li x) (some 0) = some c := by
  obtain ⟨s', mag, place, hw⟩ := sub_word hx hy
  rw [hw]
  have hn : (FloatKind.f32.format.read (FloatKind.f32.format.word s' (rungOf FloatKind.f32.format mag place))).isNaN = false := read_word _ _ _ (by rw [show FloatKind.f32.format.infRung = 2139095040 by decide]; exact rung_le _ _)
  exact order_all hn (show (FloatKind.f32.format.read 0).isNaN = false by decide)
theorem leftX_cmp {xs : List Nat} {d li : Option Nat} {k y : Nat} {c : Ordering} (hy : ab .f32 (xs.getD k 0) = ab .f32 y) (h : ford .f32 (fop .sub .f32 li (ab .f32 y)) (some 0) = some c) : leftX d li xs k = fop .quo .f32 (if c = .gt then fop .sub .f32 li (ab .f32 y) else some 0) d := by
  rw [leftX, hy, leftD, h]
  cases c <;> rfl

/-! ## Left3 -/
theorem ins_list (xs : List Nat) : (Sort.insOuter ltN 0 xs.length 0 xs.toArray).toList = srt xs := by
  have h0 : Sort.insOuter ltN 0 xs.length 0 xs.toArray = Sort.insertionSort ltN xs.toArray 0 xs.length := by
    rcases Nat.eq_zero_or_pos xs.length with h | h
    · rw [insOuter_exit (by omega)]
      unfold Sort.insertionSort
      rw [insOuter_exit (by omega)]
    · rw [insOuter_next h]; rfl
  rw [h0]
  obtain ⟨hp, hs⟩ := Sort.insertionSort_holds (lt := ltN) swoN xs.toArray 0 xs.length (Nat.zero_le _) (by simp)
  have := Sort.sorted_unique_holds (lt := ltN) swoN ltN_eq xs.toArray _ hp hs
  rw [this]
  unfold srt
  congr 1
  funext x y
  have : (decide (x ≤ y)) = !(decide (y < x)) := by
    by_cases h : y < x
    · simp [h, Nat.not_le.2 h]
    · simp [h, Nat.not_lt.1 h]
  rw [this]
  rfl
theorem SRow.out {E : TypeId} {w : World} {lo g cap n : Nat} {d : Array Nat} (h : SRow E w lo g cap n d) : w.ownsRow lo E 1 (.slice (some ⟨g, 0, none⟩) n cap) (d.toList.map (Value.float .f32)).length (d.toList.map (Value.float .f32)) := by
  have := h.1
  rwa [show (d.toList.map (Value.float .f32)).length = n by rw [List.length_map, Array.length_toList]; exact h.2.1]
set_option maxRecDepth 100000 in
set_option maxHeartbeats 1600000 in
theorem l05Sorted_any (v : Value) (xs : List Nat) (h1 : 1 ≤ xs.length) (h2 : xs.length ≤ 64) (hp : ∀ x ∈ xs, PosN x) (w : World) (hv : RowAt w v (xs.map (Value.float .f32))) :
    Calls Try.prog 25 #[v] w fun e w' => ∃ u, e = .returned u ∧ w'.ownsRow w.heap.size 23 1 u ((srt xs).map (Value.float .f32)).length ((srt xs).map (Value.float .f32)) ∧ Below w.heap.size w w' := by
  obtain ⟨i0, hi0, hz0, hz1, hz2⟩ := info_parts (P := Try.prog) (e := 23) (z := Value.float .f32 0) (size := 1) (bytes := 4) (by kernel_rfl)
  obtain ⟨ao, cap, b, off, rfl, hao, hl, hm, hc⟩ := hv
  simp only [List.length_map] at hl hao ⊢
  unfold maxLen at hm
  obtain rfl := hao (by omega)
  have HC := hid hc; have HP := hid hp
  clear hc hao hp
  have HW := hid (show ∀ (w' : World), Below w.heap.size w w' → ∀ j u, (xs.map (Value.float .f32))[j]? = some u → w'.cell? ((⟨b, off, none⟩ : Addr).add j) = some u from fun w' hb j u hj => by
    have h := HC.out j u hj
    have hlt := World.block_lt_of_cell? w _ h
    rw [Addr.add_lit, hb.cell (p := ⟨b, off + j, none⟩) hlt]
    exact h)
  have HONE := hid (show ∀ u ∈ xs.map (Value.float .f32), u.oneCell' = true from fun u hu => by
    obtain ⟨x, _, rfl⟩ := List.mem_map.1 hu
    rfl)
  go_enter Try.func25, Try.ntmps25
  go_wp2_with (first
    | (at_builtin; refine wpList_append_own_at _ rfl _ _ 22 rfl w.heap.size 23 i0 (Value.float .f32 0) 1 4 Try.underlying22 hi0 hz0 hz1 hz2 rfl (by decide) (.slice (some ⟨w.heap.size, 0, none⟩) 0 0) 0 [] rfl (World.ownsRow_made w #[] 0 (Nat.le_refl _) (by simp [maxLen]) rfl) ⟨b, off, none⟩ xs.length cap (xs.map (Value.float .f32)) rfl (by simp) (HW.out _ (by (repeat (first | (with_reducible assumption) | (with_reducible apply below_refl) | (with_reducible apply below_alloc1) | (with_reducible apply below_drewN1) | (with_reducible apply below_drew1))))) HONE.out (by simp only [maxLen]; omega) (by omega) (by simp) ?_; intro v1 w1 hown hgr hnil hat; have hb1 : Below w.heap.size w w1 := (below_alloc w _).grown hgr (by simp) (fun k hk => by simp [Value.ownBlock] at hk; omega); clear hgr hnil hat; rw [Nat.zero_add, List.nil_append] at hown; obtain ⟨g, cap1, rfl, hg0, hg1⟩ := hown.form (by omega)))
  have HS := hid (SRow.of_row hown HP.out)
  have hcap := HS.out.caps
  have q1 := hcap.1; have q2 := hcap.2
  unfold maxLen at q2
  clear hown hcap HP
  obtain ⟨n, hn⟩ : ∃ n, n = xs.length := ⟨_, rfl⟩
  have hlen := hid hn
  obtain ⟨d, hd⟩ : ∃ d, d = xs.toArray := ⟨_, rfl⟩
  have HR := hid (show (Sort.insOuter ltN 0 n 0 d).toList = srt xs by rw [hn, hd]; exact ins_list xs)
  rw [← hn, ← hd] at HS
  rw [← hn] at h1 h2 q1 ⊢
  clear hd hn
  obtain ⟨F, hF⟩ : ∃ F, Sort.insOuter ltN 0 n 0 d = F := ⟨_, rfl⟩
  rw [hF] at HR
  have HF := hid hF
  clear hF
  go_loopw [12] (fun i wr => ∃ (I : Nat) (d' : Array Nat), I ≤ n ∧ i = .int .i64 I ∧ Hid (Sort.insOuter ltN 0 n I d' = F) ∧ Hid (SRow 23 wr w.heap.size g cap1 n d') ∧ Below w.heap.size w wr) (fun i _ => n - (intOf i).toNat)
  case atStart => exact ⟨0, d, by omega, rfl, HF, HS, hb1⟩
  case round =>
    obtain ⟨I, d', hI, rfl, hF, hs, hw⟩ := hrel
    by_cases hlt : I < n
    · have hII : (I : Int) < (n : Int) := by omega
      go_wp2_with fail
      go_loopw [5] (fun j wr => ∃ (J : Nat) (d2 : Array Nat), J ≤ I ∧ j = .int .i64 J ∧ Hid (Sort.insInner ltN 0 J d2 = Sort.insInner ltN 0 I d') ∧ Hid (SRow 23 wr w.heap.size g cap1 n d2) ∧ Below w.heap.size w wr) (fun j _ => (intOf j).toNat)
      case atStart => exact ⟨I, d', Nat.le_refl _, rfl, hid rfl, hs, hw⟩
      case round =>
        obtain ⟨J, d2, hJI, rfl, hG, hs, hw⟩ := hrel
        by_cases hJ : 0 < J
        · obtain ⟨j, rfl⟩ : ∃ j, J = j + 1 := ⟨J - 1, by omega⟩
          have hjz : (0 : Int) ≤ (j : Int) := by omega
          have hja2 : (0 : Int) < (j : Int) + 1 := by omega
          have hjn : (j : Int) + 1 < (n : Int) := by omega
          have hjz1 : (0 : Int) ≤ (j : Int) + 1 := by omega
          have W2 : IntKind.i64.wrap ((j : Int) + 1 - 1) = (j : Int) := by rw [IntKind.wrap_i64]; omega
          have i1 : ((j : Int) + 1).toNat = j + 1 := by omega
          have hjn2 : (j : Int) < (n : Int) := by omega
          obtain ⟨x, y, c1, c2, f1, f2, p1, p2, ov, l1, l2, hsw⟩ := hs.out.pair (i := j + 1) (j := j) (by omega) (by omega)
          have hgl : g < wr.heap.size := hs.out.lt.2
          by_cases hxy : x < y
          · have hd : decide (x < y) = true := by simpa using hxy
            have HN := hid (insInner_next (a := 0) hJ (by rw [l1.out]; exact hd))
            have hc : (ford .f32 (ab .f32 x) (ab .f32 y) == some .lt) = true := by rw [less_pos p1 p2]; exact hd
            clear hd hxy
            go_wp2_with (first | go_quiet (fail))
            refine ⟨⟨j, _, by omega, rfl, hid (by rw [← HN.out]; exact hG.out), hid (hsw.out _ (below_drewN _ _)), ?_⟩, by simp [intOf]⟩
            exact ((hw.trans (Below.mono (below_drewN _ _) hw.size)).setCell hg0 _).setCell hg0 _
          · have hd : decide (x < y) = false := by simpa using hxy
            have HN := hid (insInner_exit (a := 0) (J := j + 1) (d := d2) (Or.inr (Or.inr (by rw [Nat.add_sub_cancel, l1.out]; exact hd))))
            have hc : (ford .f32 (ab .f32 x) (ab .f32 y) == some .lt) = false := by rw [less_pos p1 p2]; exact hd
            clear hd hxy
            go_wp2_with (first | go_quiet (fail))
            refine ⟨⟨I + 1, d2, by omega, by go_num, hid ?_, hid (hs.out.below (by (repeat (first | (with_reducible assumption) | (with_reducible apply below_refl) | (with_reducible apply below_alloc1) | (with_reducible apply below_drewN1) | (with_reducible apply below_drew1))))), hw.trans (Below.mono (show Below wr.heap.size wr _ by (repeat (first | (with_reducible assumption) | (with_reducible apply below_refl) | (with_reducible apply below_alloc1) | (with_reducible apply below_drewN1) | (with_reducible apply below_drew1)))) hw.size)⟩, by simp [intOf]; omega⟩
            rw [HN.out] at hG
            rw [hG.out, ← insOuter_next hlt]
            exact hF.out
        · obtain rfl : J = 0 := by omega
          have HN := hid (insInner_exit (a := 0) (J := 0) (d := d2) (Or.inl rfl))
          have hja : decide ((0 : Int) < ((0 : Nat) : Int)) = false := by simp
          go_wp2_with fail
          go_quiet (fail)
          go_wp2_with fail
          refine ⟨⟨I + 1, d2, by omega, by go_num, hid ?_, hid (hs.out.below (by (repeat (first | (with_reducible assumption) | (with_reducible apply below_refl) | (with_reducible apply below_alloc1) | (with_reducible apply below_drewN1) | (with_reducible apply below_drew1))))), hw.trans (Below.mono (show Below wr.heap.size wr _ by (repeat (first | (with_reducible assumption) | (with_reducible apply below_refl) | (with_reducible apply below_alloc1) | (with_reducible apply below_drewN1) | (with_reducible apply below_drew1)))) hw.size)⟩, by simp [intOf]; omega⟩
          rw [HN.out] at hG
          rw [hG.out, ← insOuter_next hlt]
          exact hF.out
    · have hII : ¬ (I : Int) < (n : Int) := by omega
      have HE := hid (insOuter_exit (a := 0) (d := d') hlt)
      go_wp2_with fail
      go_ret
      rw [HE.out] at hF
      have hF2 := hF.out
      subst hF2
      refine ⟨_, rfl, ?_, by (repeat (first | (with_reducible assumption) | (with_reducible apply below_refl) | (with_reducible apply below_alloc1) | (with_reducible apply below_drewN1) | (with_reducible apply below_drew1)))⟩
      have := hs.out.out
      rw [HR.out] at this
      rw [List.length_map] at this
      exact this
end Go.Proofs.Ytdldlfefbeflcaa
