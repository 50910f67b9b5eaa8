/- LeftTimes: what it answers. No program in sight. -/
import Derived.Test.YtdldlfefbeflcaaLeft1
import Derived.Test.YtdldlfefbeflcaaMag3
namespace Go.Proofs.Ytdldlfefbeflcaa
open Go.RowKit

def leftD (li x : Option Nat) : Option Nat := if ford .f32 (fop .sub .f32 li x) (some 0) == some .gt then fop .sub .f32 li x else some 0
def leftX (d li : Option Nat) (xs : List Nat) (j : Nat) : Option Nat := fop .quo .f32 (leftD li (ab .f32 (xs.getD j 0))) d
def leftL (d li : Option Nat) (xs : List Nat) (k : Nat) : List (Option Nat) := (List.range k).map (leftX d li xs)
theorem leftL_next (d li : Option Nat) (xs : List Nat) (k : Nat) : leftL d li xs (k + 1) = leftL d li xs k ++ [leftX d li xs k] := range_next _ _
theorem leftL_len (d li : Option Nat) (xs : List Nat) (k : Nat) : (leftL d li xs k).length = k := by simp [leftL]
def leftOk (xs : List Nat) (d li : Option Nat) : Bool := cloudB xs && moreB d && finite32 li
def leftAll (xs : List Nat) (d li : Option Nat) : Bool := leftOk xs d li && finL (leftL d li xs xs.length)
def srt (ys : List Nat) : List Nat := ys.mergeSort (fun x y => decide (x ≤ y))
def leftXs (xs : List Nat) (d li : Option Nat) : List Nat := if leftAll xs d li then srt (bitsOf (leftL d li xs xs.length)) else []
theorem left_no {xs : List Nat} {d li : Option Nat} (h : leftAll xs d li = false) : leftXs xs d li = [] := by simp [leftXs, h]
theorem left_yes {xs : List Nat} {d li : Option Nat} (h : leftAll xs d li = true) : leftXs xs d li = srt (bitsOf (leftL d li xs xs.length)) := by simp [leftXs, h]
theorem left_fail {xs : List Nat} {d li : Option Nat} (h : leftOk xs d li = false) : leftXs xs d li = [] ∧ leftAll xs d li = false := by
  have : leftAll xs d li = false := by simp [leftAll, h]
  exact ⟨left_no this, this⟩
theorem srt_perm (ys : List Nat) : (srt ys).Perm ys := List.mergeSort_perm _ _
theorem srt_len (ys : List Nat) : (srt ys).length = ys.length := (srt_perm ys).length_eq
theorem srt_all (ys : List Nat) (f : Nat → Bool) : (srt ys).all f = ys.all f := by
  rw [Bool.eq_iff_iff, List.all_eq_true, List.all_eq_true]
  exact ⟨fun h x hx => h x ((srt_perm ys).mem_iff.2 hx), fun h x hx => h x ((srt_perm ys).mem_iff.1 hx)⟩
theorem leftXs_len (xs : List Nat) (d li : Option Nat) : (leftXs xs d li).length ≤ 64 := by
  cases h : leftAll xs d li
  · rw [left_no h]; simp
  · rw [left_yes h, srt_len]
    simp only [leftAll, leftOk, Bool.and_eq_true] at h
    have := cloudB_true h.1.1.1
    simp [bitsOf, leftL_len]; omega
theorem more_bits {d : Nat} (hd : d < 4294967296) (h : moreB (ab .f32 d) = true) : ∃ e, ab .f32 d = some e ∧ 0 < e ∧ e < 2139095040 := by
  simp only [moreB, Bool.and_eq_true] at h
  obtain ⟨h1, h2⟩ := h
  obtain ⟨e, he⟩ := fin_some h1
  obtain ⟨v, b, hb, hr, -⟩ := isV_of_fin32 h1
  rw [he] at hb h2
  cases hb
  obtain rfl := (ab_some he).1
  have e1 : FloatKind.f32.format.signWeight = 2147483648 := by decide
  have e3 : FloatKind.f32.format.infRung = 2139095040 := by decide
  rw [e1, e3] at hr
  refine ⟨_, he, ?_, ?_⟩
  · rcases Nat.eq_zero_or_pos e with h0 | h0
    · subst h0
      exact absurd h2 (by decide)
    · exact h0
  · rcases Nat.lt_or_ge e 2147483648 with c | c
    · omega
    · exfalso
      have := not_gt (e - 2147483648) (by omega)
      rw [show 2147483648 + (e - 2147483648) = e by omega] at this
      exact this (by simpa using h2)
theorem left_pos {xs : List Nat} {d l : Nat} (hd : d < 4294967296) (h : leftOk xs (ab .f32 d) (ab .f32 l) = true) {j : Nat} (hj : j < xs.length) : ∃ q, leftX (ab .f32 d) (ab .f32 l) xs j = some q ∧ PosN q := by
  simp only [leftOk, Bool.and_eq_true] at h
  obtain ⟨⟨h1, h2⟩, h3⟩ := h
  obtain ⟨e, he, e0, e1⟩ := more_bits hd h2
  obtain ⟨-, -, hx⟩ := cloudB_true h1
  obtain ⟨a, ha⟩ := isV_of_fin32 h3
  obtain ⟨b, hb⟩ := isV_of_fin32 (hx j hj)
  unfold leftX leftD
  rw [he, getD_atM xs j hj]
  split
  · rename_i hg
    obtain ⟨p, hp, pp⟩ := sub_gt ha hb (by simpa using hg)
    rw [hp]
    exact quo_pos pp e0 e1
  · exact quo_pos (by decide) e0 e1
theorem left_len {xs : List Nat} {d li : Option Nat} (h : leftOk xs d li = true) : 1 ≤ xs.length ∧ xs.length ≤ 64 := by
  simp only [leftOk, Bool.and_eq_true] at h
  have := cloudB_true h.1.1
  exact ⟨this.1, this.2.1⟩
/-- The numbers that have been made, as bits. -/
theorem left_bits {xs ys : List Nat} {d l : Nat} (hd : d < 4294967296) (h : leftOk xs (ab .f32 d) (ab .f32 l) = true) (hy : ys.map (ab .f32) = leftL (ab .f32 d) (ab .f32 l) xs xs.length) : (∀ y ∈ ys, PosN y) ∧ ys = bitsOf (leftL (ab .f32 d) (ab .f32 l) xs xs.length) := by
  have hlen : ys.length = xs.length := by have := congrArg List.length hy; simpa [leftL_len] using this
  have hat : ∀ j (hj : j < ys.length), PosN ys[j] ∧ leftX (ab .f32 d) (ab .f32 l) xs j = some ys[j] := by
    intro j hj
    obtain ⟨q, hq, hp⟩ := left_pos hd h (j := j) (by omega)
    have e : (ys.map (ab .f32))[j]? = (leftL (ab .f32 d) (ab .f32 l) xs xs.length)[j]? := by rw [hy]
    rw [leftL, List.getElem?_map, List.getElem?_map, List.getElem?_eq_getElem hj, List.getElem?_range (by omega)] at e
    simp only [Option.map_some, Option.some.injEq] at e
    rw [hq] at e
    have := (ab_some e).1
    subst this
    exact ⟨hp, hq⟩
  constructor
  · intro y hm
    obtain ⟨j, hj, rfl⟩ := List.getElem_of_mem hm
    exact (hat j hj).1
  · apply List.ext_getElem
    · rw [hlen]; simp [bitsOf, leftL_len]
    · intro j h1 h2
      simp only [bitsOf, leftL, List.getElem_map, List.getElem_range, (hat j h1).2, Option.getD_some]
theorem srt_finL (ys : List Nat) : ((srt ys).all fun b => finB (ab .f32 b)) = finL (ys.map (ab .f32)) := by
  rw [srt_all, finL_map]
theorem order_all {a b : Ieee.Datum} (ha : a.isNaN = false) (hb : b.isNaN = false) : ∃ c, a.order b = some c := by
  cases a <;> cases b <;> simp_all [Ieee.Datum.order, Ieee.Datum.isNaN]
theorem left_cmp {li x : Option Nat} {a b : Int} (hx : IsV .f32 li a) (hy : IsV .f32 x b) : ∃ c, ford .f32 (fop .sub .f32 li x) (some 0) = some c := by
  obtain ⟨s', mag, place, hw⟩ := sub_word hx hy
  rw [hw]
  have hn : (FloatKind.f32.format.read (FloatKind.f32.format.word s' (rungOf FloatKind.f32.format mag place))).isNaN = false := read_word _ _ _ (by rw [show FloatKind.f32.format.infRung = 2139095040 by decide]; exact rung_le _ _)
  exact order_all hn (show (FloatKind.f32.format.read 0).isNaN = false by decide)
theorem leftX_cmp {xs : List Nat} {d li : Option Nat} {k y : Nat} {c : Ordering} (hy : ab .f32 (xs.getD k 0) = ab .f32 y) (h : ford .f32 (fop .sub .f32 li (ab .f32 y)) (some 0) = some c) : leftX d li xs k = fop .quo .f32 (if c = .gt then fop .sub .f32 li (ab .f32 y) else some 0) d := by
  rw [leftX, hy, leftD, h]
  cases c <;> rfl
end Go.Proofs.Ytdldlfefbeflcaa
