/- Contracts: GrowthSums. -/
import Derived.Test.YtkaeohlakeliiaaPath
import Derived.Test.YtkaeohlakeliiaaFres
namespace Go.Proofs.Ytkaeohlakeliiaa
open Go.RowKit

theorem atG {xs : List Nat} {k : Nat} (h : k < xs.length) : ab .f32 (xs.getD k 0) = ab .f32 xs[k] := by rw [getD_at xs k h]
def growX (xs : List Nat) (j : Nat) : Option Nat := fop .quo .f32 (some (floatOfInt .f32 ((j : Int) + 1))) (ab .f32 (xs.getD j 0))
def growL (xs : List Nat) (k : Nat) : List (Option Nat) := (List.range k).map (growX xs)
theorem growL_next (xs : List Nat) (k : Nat) : growL xs (k + 1) = growL xs k ++ [growX xs k] := range_next _ _
theorem growL_len (xs : List Nat) (k : Nat) : (growL xs k).length = k := by simp [growL]
def fallAt (xs : List Nat) (k : Nat) : Bool := ford .f32 (ab .f32 (xs.getD (k + 1) 0)) (ab .f32 (xs.getD k 0)) == some .lt
def sortB (xs : List Nat) : Bool := (List.range (xs.length - 1)).all fun k => !fallAt xs k
theorem sortB_yes {xs : List Nat} (h : ∀ j, j + 1 < xs.length → fallAt xs j = false) : sortB xs = true := by
  unfold sortB
  rw [List.all_eq_true]
  intro j hj
  simp [h j (by have := List.mem_range.1 hj; omega)]
theorem sortB_no {xs : List Nat} {k : Nat} (hk : k + 1 < xs.length) (h : fallAt xs k = true) : sortB xs = false := by
  unfold sortB
  rw [List.all_eq_false]
  exact ⟨k, List.mem_range.2 (by omega), by simp [h]⟩
theorem sortB_at {xs : List Nat} (h : sortB xs = true) {k : Nat} (hk : k + 1 < xs.length) : fallAt xs k = false := by
  unfold sortB at h
  rw [List.all_eq_true] at h
  simpa using h k (List.mem_range.2 (by omega))
def leB (x y : Option Nat) : Bool := ford .f32 x y == some .lt || ford .f32 x y == some .eq
def growOk (xs : List Nat) (to : Option Nat) : Bool :=
  decide (1 ≤ xs.length) && decide (xs.length ≤ 48) && (xs.all fun b => moreB (ab .f32 b)) && sortB xs && finite32 to && leB (ab .f32 (xs.getD (xs.length - 1) 0)) to
def growAll (xs : List Nat) (to : Option Nat) : Bool := growOk xs to && finL (growL xs xs.length)
def growXs (xs : List Nat) (to : Option Nat) : List Nat := if growAll xs to then bitsOf (growL xs xs.length) else []
theorem grow_no {xs : List Nat} {to : Option Nat} (h : growAll xs to = false) : growXs xs to = [] := by simp [growXs, h]
theorem grow_yes {xs : List Nat} {to : Option Nat} (h : growAll xs to = true) : growXs xs to = bitsOf (growL xs xs.length) := by simp [growXs, h]
theorem grow_fail {xs : List Nat} {to : Option Nat} (h : growOk xs to = false) : growXs xs to = [] ∧ growAll xs to = false := by
  have : growAll xs to = false := by simp [growAll, h]
  exact ⟨grow_no this, this⟩
theorem growOk_len {xs : List Nat} {to : Option Nat} (h : growOk xs to = true) : 1 ≤ xs.length ∧ xs.length ≤ 48 := by
  simp only [growOk, Bool.and_eq_true, decide_eq_true_eq] at h
  exact ⟨h.1.1.1.1.1, h.1.1.1.1.2⟩
theorem growXs_len (xs : List Nat) (to : Option Nat) : (growXs xs to).length ≤ 48 := by
  cases h : growAll xs to
  · rw [grow_no h]; simp
  · rw [grow_yes h]
    simp only [growAll, Bool.and_eq_true] at h
    have := (growOk_len h.1).2
    simp [bitsOf, growL_len]; omega

/-- Sorted and no greater than a bound at the end: nowhere greater; the reference's way. -/
def upTo (xs : List Nat) (to : Option Nat) (k : Nat) : Bool :=
  moreB (ab .f32 (xs.getD k 0)) && !(ford .f32 (ab .f32 (xs.getD k 0)) to == some .gt) && (k == 0 || !fallAt xs (k - 1))
theorem grow_same {xs : List Nat} {to : Option Nat} {b : Nat} (hb : ab .f32 b = to) (h1 : 1 ≤ xs.length) (h2 : xs.length ≤ 48) (hf : finite32 to = true) : growOk xs to = (List.range xs.length).all (upTo xs to) := by
  rw [← hb] at hf ⊢
  obtain ⟨t, ht⟩ := isV_of_fin32 hf
  rw [Bool.eq_iff_iff, List.all_eq_true]
  constructor
  · intro h k hk
    have hk := List.mem_range.1 hk
    simp only [growOk, Bool.and_eq_true, decide_eq_true_eq, List.all_eq_true] at h
    obtain ⟨⟨⟨⟨_, hm⟩, hs⟩, _⟩, hl⟩ := h
    have hv : ∀ j, j < xs.length → ∃ v, IsV .f32 (ab .f32 (xs.getD j 0)) v ∧ 0 < v := fun j hj => by
      rw [getD_at xs j hj]; exact more_isV (hm _ (List.getElem_mem hj))
    obtain ⟨l, hl1, _⟩ := hv (xs.length - 1) (by omega)
    have hlt := le_of_ford hl1 ht hl
    have hle : ∀ d j v, j + d + 1 = xs.length → IsV .f32 (ab .f32 (xs.getD j 0)) v → v ≤ l := by
      intro d
      induction d with
      | zero =>
        intro j v hj hjv
        obtain rfl : j = xs.length - 1 := by omega
        exact Int.le_of_eq (hjv.val hl1)
      | succ d ih =>
        intro j v hj hjv
        obtain ⟨u, hu, _⟩ := hv (j + 1) (by omega)
        have h1 := ih (j + 1) u (by omega) hu
        have h2 := sortB_at hs (k := j) (by omega)
        unfold fallAt at h2
        rw [ford_val hu hjv] at h2
        rcases Int.lt_or_le u v with hc | hc
        · rw [Int.compare_eq_lt.2 hc] at h2; simp at h2
        · omega
    obtain ⟨v, hkv, _⟩ := hv k hk
    have := hle (xs.length - 1 - k) k v (by omega) hkv
    simp only [upTo, Bool.and_eq_true]
    refine ⟨⟨?_, ?_⟩, ?_⟩
    · rw [getD_at xs k hk]; exact hm _ (List.getElem_mem hk)
    · rw [ford_val hkv ht]
      rcases Int.lt_trichotomy v t with hc | hc | hc
      · rw [Int.compare_eq_lt.2 hc]; rfl
      · rw [Int.compare_eq_eq.2 hc]; rfl
      · omega
    · cases k with
      | zero => rfl
      | succ k =>
        rw [show k + 1 - 1 = k by omega, sortB_at hs hk]
        simp
  · intro h
    have hu : ∀ k, k < xs.length → upTo xs (ab .f32 b) k = true := fun k hk => h k (List.mem_range.2 hk)
    have hm : (xs.all fun b => moreB (ab .f32 b)) = true := by
      rw [List.all_eq_true]
      intro x hx
      obtain ⟨j, hj, rfl⟩ := List.getElem_of_mem hx
      have := hu j hj
      simp only [upTo, Bool.and_eq_true] at this
      rw [getD_at xs j hj] at this
      exact this.1.1
    have hs : sortB xs = true := sortB_yes (fun j hj => by
      have := hu (j + 1) hj
      simp only [upTo, Bool.and_eq_true] at this
      have h3 := this.2
      simpa using h3)
    have hl : leB (ab .f32 (xs.getD (xs.length - 1) 0)) (ab .f32 b) = true := by
      have h3 := hu (xs.length - 1) (by omega)
      simp only [upTo, Bool.and_eq_true] at h3
      obtain ⟨v, hv, _⟩ := more_isV h3.1.1
      have h4 := h3.1.2
      unfold leB
      rw [ford_val hv ht] at h4 ⊢
      rcases Int.lt_trichotomy v t with hc | hc | hc
      · rw [Int.compare_eq_lt.2 hc]; rfl
      · rw [Int.compare_eq_eq.2 hc]; rfl
      · rw [Int.compare_eq_gt.2 hc] at h4; simp at h4
    simp only [growOk, Bool.and_eq_true, decide_eq_true_eq]
    exact ⟨⟨⟨⟨⟨h1, h2⟩, hm⟩, hs⟩, hf⟩, hl⟩

set_option maxHeartbeats 400000 in
theorem ifAll_yes (v : Value) (xs : List Nat) (h : (xs.all fun b => finB (ab .f32 b)) = true) (w : World) (hv : RowAt w v (xs.map (Value.float .f32))) :
    Calls Try.prog 59 #[v] w fun e w' => e = .returned (.tuple #[v, .bool true]) ∧ Below w.heap.size w w' := by
  have HV := hid hv; have HH := hid h; clear hv h
  go_enter Try.func59, Try.ntmps59
  go_wp2_with (go_at_call 58; (with_reducible refine (areFinite_any _ xs _ (HV.out.below (by (repeat (first | (with_reducible assumption) | (with_reducible apply below_refl) | (with_reducible apply below_alloc1) | (with_reducible apply below_drewN1) | (with_reducible apply below_drew1)))))).mono ?_); rw [HH.out]; rintro e w' ⟨rfl, hb⟩; have hB : Below w.heap.size w w' := below_trans (by (repeat (first | (with_reducible assumption) | (with_reducible apply below_refl) | (with_reducible apply below_alloc1) | (with_reducible apply below_drewN1) | (with_reducible apply below_drew1)))) hb; have hC := (bcell hB).1; clear hb)
  go_ret2
  exact ⟨rfl, by assumption⟩
set_option maxHeartbeats 400000 in
theorem ifAll_no (v : Value) (xs : List Nat) (h : (xs.all fun b => finB (ab .f32 b)) = false) (w : World) (hv : RowAt w v (xs.map (Value.float .f32))) :
    Calls Try.prog 59 #[v] w fun e w' => e = .returned (.tuple #[.slice none 0 0, .bool false]) ∧ Below w.heap.size w w' := by
  have HV := hid hv; have HH := hid h; clear hv h
  go_enter Try.func59, Try.ntmps59
  go_wp2_with (go_at_call 58; (with_reducible refine (areFinite_any _ xs _ (HV.out.below (by (repeat (first | (with_reducible assumption) | (with_reducible apply below_refl) | (with_reducible apply below_alloc1) | (with_reducible apply below_drewN1) | (with_reducible apply below_drew1)))))).mono ?_); rw [HH.out]; rintro e w' ⟨rfl, hb⟩; have hB : Below w.heap.size w w' := below_trans (by (repeat (first | (with_reducible assumption) | (with_reducible apply below_refl) | (with_reducible apply below_alloc1) | (with_reducible apply below_drewN1) | (with_reducible apply below_drew1)))) hb; have hC := (bcell hB).1; clear hb)
  go_ret2
  exact ⟨rfl, by assumption⟩
end Go.Proofs.Ytkaeohlakeliiaa
