/- Contracts: the best of some times. -/
import Derived.Test.YtkgbbagklkffpaaCost2
namespace Go.Proofs.Ytkgbbagklkffpaa
open Go.RowKit
set_option linter.unusedVariables false

def bst (T : Nat → Option Nat) (M : Nat → Option Nat × Bool) : Nat → Option Nat × Option Nat
  | 0 => (some 0, some 0)
  | j + 1 => if j = 0 ∨ (ford .f32 (M (j + 1)).1 (bst T M j).2 == some .lt) = true then (T (j + 1), (M (j + 1)).1) else bst T M j
theorem bst_one (T : Nat → Option Nat) (M : Nat → Option Nat × Bool) : bst T M 1 = (T 1, (M 1).1) := by
  show (if _ then _ else _) = _
  rw [if_pos (Or.inl rfl)]
theorem bst_less {T : Nat → Option Nat} {M : Nat → Option Nat × Bool} {j : Nat} (h : (ford .f32 (M (j + 1)).1 (bst T M j).2 == some .lt) = true) : bst T M (j + 1) = (T (j + 1), (M (j + 1)).1) := by
  show (if _ then _ else _) = _
  rw [if_pos (Or.inr h)]
theorem bst_keep {T : Nat → Option Nat} {M : Nat → Option Nat × Bool} {j : Nat} (hj : j ≠ 0) (h : (ford .f32 (M (j + 1)).1 (bst T M j).2 == some .lt) = false) : bst T M (j + 1) = bst T M j := by
  show (if _ then _ else _) = _
  rw [if_neg (by rw [h]; simp [hj])]
def okAll (M : Nat → Option Nat × Bool) (n : Nat) : Bool := (List.range n).all fun i => (M (i + 1)).2
theorem okAll_yes {M : Nat → Option Nat × Bool} {n : Nat} (h : ∀ i, i < n → (M (i + 1)).2 = true) : okAll M n = true := List.all_eq_true.2 fun i hi => h i (List.mem_range.1 hi)
theorem okAll_no {M : Nat → Option Nat × Bool} {n i : Nat} (hi : i < n) (h : (M (i + 1)).2 = false) : okAll M n = false := by
  unfold okAll
  rw [List.all_eq_false]
  exact ⟨i, List.mem_range.2 hi, by simp [h]⟩
def BestRes (T : Nat → Option Nat) (M : Nat → Option Nat × Bool) (n : Nat) (w : World) (e : Ending) (w' : World) : Prop :=
  ∃ a c, e = .returned (.tuple #[.float .f32 a, .float .f32 c, .bool (okAll M n)]) ∧ (okAll M n = true → ab .f32 a = (bst T M n).1 ∧ ab .f32 c = (bst T M n).2) ∧ (okAll M n = false → a = 0 ∧ c = 0) ∧ Below w.heap.size w w'
theorem ret3_eq {a b c : Value} : (Ending.returned (.tuple #[a, b, c])) = .returned (.tuple #[a, b, c]) := rfl
set_option maxRecDepth 100000 in
set_option maxHeartbeats 3200000 in
theorem best_any (F : FuncId) (caps : Array Value) (to n : Nat) (M : Nat → Option Nat × Bool) (n2 : n ≤ 256) (w : World)
    (hF : ∀ j t, 1 ≤ j → j ≤ n → ab .f32 t = tO (ab .f32 to) n j → ∀ w1, Below w.heap.size w w1 → Calls Try.prog F (#[.int .i64 j, .float .f32 t] ++ caps) w1 (NumOk (M j) w1)) (hE : ∀ args w, (callFunc F args).run Try.prog w = .ok (.enter F args) w) :
    Calls Try.prog 27 #[.float .f32 to, .int .i64 n, .func (.func F) #[] caps] w (BestRes (tO (ab .f32 to) n) M n w) := by
  have HF := hid hF; clear hF
  go_enter Try.func27, Try.ntmps27
  go_wp2_with (refine upon_float rfl ?_; intro r nn hr; go_simp)
  have HH := hid (show ab .f32 r = fop .quo .f32 (ab .f32 to) (k32 (n : Int)) by rw [hr, ab_ofInt]; rfl)
  generalize r = H at HH ⊢
  clear hr
  go_loopw [10, 11, 12] (fun bv lv jv wr => ∃ (j B L : Nat), 1 ≤ j ∧ j ≤ n + 1 ∧ jv = .int .i64 j ∧ bv = .float .f32 B ∧ lv = .float .f32 L ∧ Hid (ab .f32 B = (bst (tO (ab .f32 to) n) M (j - 1)).1 ∧ ab .f32 L = (bst (tO (ab .f32 to) n) M (j - 1)).2) ∧ Hid (∀ i, i + 1 < j → (M (i + 1)).2 = true) ∧ Below w.heap.size w wr) (fun _ _ jv _ => n + 1 - (intOf jv).toNat)
  case atStart => exact ⟨1, 0, 0, by omega, by omega, rfl, rfl, rfl, hid ⟨ab_z32, ab_z32⟩, hid (fun i hi => by omega), by (repeat (first | (with_reducible assumption) | (with_reducible apply below_refl) | (with_reducible apply below_alloc1) | (with_reducible apply below_drewN1) | (with_reducible apply below_drew1)))⟩
  case round =>
    obtain ⟨j, B, L, hj1, hj2, rfl, rfl, rfl, hBL, hok, hw⟩ := hrel
    have W4 : IntKind.i64.wrap ((j : Int) + 1) = ((j + 1 : Nat) : Int) := by rw [IntKind.wrap_i64]; omega
    by_cases hlt : j < n + 1
    · have hjI : (j : Int) ≤ (n : Int) := by omega
      have hjn : j ≤ n := by omega
      obtain ⟨j', hj'⟩ : ∃ j', j = j' + 1 := ⟨j - 1, by omega⟩
      have HJ := hid hj'
      clear hj'
      cases hb2 : (M j).2
      · have HNO := hid (okAll_no (M := M) (n := n) (i := j') (by have := HJ.out; omega) (by rw [← HJ.out]; exact hb2))
        go_wp2_with (first
          | ((fail_if_success (have := HX1)); refine upon_float rfl ?_; intro x1 m1 hx1; go_simp; have HX1 := hid (show ab .f32 x1 = tO (ab .f32 to) n j by rw [hx1, HH.out, ab_ofInt]; rfl); clear hx1)
          | ((refine (HF.out j x1 hj1 hjn HX1.out _ (by (repeat (first | (with_reducible assumption) | (with_reducible apply below_refl) | (with_reducible apply below_alloc1) | (with_reducible apply below_drewN1) | (with_reducible apply below_drew1))))).mono ?_); rintro e w' ⟨r, rfl, hr, hb⟩; have hBA := below_trans (show Below w.heap.size w _ by (repeat (first | (with_reducible assumption) | (with_reducible apply below_refl) | (with_reducible apply below_alloc1) | (with_reducible apply below_drewN1) | (with_reducible apply below_drew1)))) hb; clear hb hr))
        go_ret3
        rw [← HNO.out]
        exact ⟨0, 0, rfl, fun h => (by rw [HNO.out] at h; cases h), fun _ => ⟨rfl, rfl⟩, by (repeat (first | (with_reducible assumption) | (with_reducible apply below_refl) | (with_reducible apply below_alloc1) | (with_reducible apply below_drewN1) | (with_reducible apply below_drew1)))⟩
      · have HOK := hid (show ∀ i, i + 1 < j + 1 → (M (i + 1)).2 = true from fun i hi => by
          rcases Nat.lt_or_ge (i + 1) j with h | h
          · exact hok.out i h
          · have : i + 1 = j := by omega
            rw [this]; exact hb2)
        by_cases h1 : j = 1
        · subst h1
          go_wp2_with (first
            | ((fail_if_success (have := HX1)); refine upon_float rfl ?_; intro x1 m1 hx1; go_simp; have HX1 := hid (show ab .f32 x1 = tO (ab .f32 to) n 1 by rw [hx1, HH.out, ab_ofInt]; rfl); clear hx1)
            | ((refine (HF.out 1 x1 hj1 hjn HX1.out _ (by (repeat (first | (with_reducible assumption) | (with_reducible apply below_refl) | (with_reducible apply below_alloc1) | (with_reducible apply below_drewN1) | (with_reducible apply below_drew1))))).mono ?_); rintro e w' ⟨r, rfl, hr, hb⟩; have HR := hid hr; have hBA := below_trans (show Below w.heap.size w _ by (repeat (first | (with_reducible assumption) | (with_reducible apply below_refl) | (with_reducible apply below_alloc1) | (with_reducible apply below_drewN1) | (with_reducible apply below_drew1)))) hb; clear hb hr))
          exact ⟨⟨2, x1, r, by omega, by omega, by go_num, rfl, rfl, hid (by rw [bst_one]; exact ⟨HX1.out, HR.out⟩), HOK, by (repeat (first | (with_reducible assumption) | (with_reducible apply below_refl) | (with_reducible apply below_alloc1) | (with_reducible apply below_drewN1) | (with_reducible apply below_drew1)))⟩, by simp [intOf]; omega⟩
        · have hne : ((j : Int) == 1) = false := by simp; omega
          cases hg : (ford .f32 (M j).1 (ab .f32 L) == some .lt)
          · have HG := hid hg
            clear hg
            go_wp2_with (first
              | ((fail_if_success (have := HX1)); refine upon_float rfl ?_; intro x1 m1 hx1; go_simp; have HX1 := hid (show ab .f32 x1 = tO (ab .f32 to) n j by rw [hx1, HH.out, ab_ofInt]; rfl); clear hx1)
              | ((refine (HF.out j x1 hj1 hjn HX1.out _ (by (repeat (first | (with_reducible assumption) | (with_reducible apply below_refl) | (with_reducible apply below_alloc1) | (with_reducible apply below_drewN1) | (with_reducible apply below_drew1))))).mono ?_); rintro e w' ⟨r, rfl, hr, hb⟩; have HR := hid hr; have hgg : (ford .f32 (ab .f32 r) (ab .f32 L) == some .lt) = false := (by rw [hr]; exact HG.out); have hBA := below_trans (show Below w.heap.size w _ by (repeat (first | (with_reducible assumption) | (with_reducible apply below_refl) | (with_reducible apply below_alloc1) | (with_reducible apply below_drewN1) | (with_reducible apply below_drew1)))) hb; clear hb hr))
            refine ⟨⟨j + 1, B, L, by omega, by omega, by go_num, rfl, rfl, hid ?_, HOK, by (repeat (first | (with_reducible assumption) | (with_reducible apply below_refl) | (with_reducible apply below_alloc1) | (with_reducible apply below_drewN1) | (with_reducible apply below_drew1)))⟩, by simp [intOf]; omega⟩
            obtain rfl := HJ.out
            rw [Nat.add_sub_cancel] at hBL ⊢
            have hG := HG.out
            rw [hBL.out.2] at hG
            rw [bst_keep (by omega) hG]
            exact hBL.out
          · have HG := hid hg
            clear hg
            go_wp2_with (first
              | ((fail_if_success (have := HX1)); refine upon_float rfl ?_; intro x1 m1 hx1; go_simp; have HX1 := hid (show ab .f32 x1 = tO (ab .f32 to) n j by rw [hx1, HH.out, ab_ofInt]; rfl); clear hx1)
              | ((refine (HF.out j x1 hj1 hjn HX1.out _ (by (repeat (first | (with_reducible assumption) | (with_reducible apply below_refl) | (with_reducible apply below_alloc1) | (with_reducible apply below_drewN1) | (with_reducible apply below_drew1))))).mono ?_); rintro e w' ⟨r, rfl, hr, hb⟩; have HR := hid hr; have hgg : (ford .f32 (ab .f32 r) (ab .f32 L) == some .lt) = true := (by rw [hr]; exact HG.out); have hBA := below_trans (show Below w.heap.size w _ by (repeat (first | (with_reducible assumption) | (with_reducible apply below_refl) | (with_reducible apply below_alloc1) | (with_reducible apply below_drewN1) | (with_reducible apply below_drew1)))) hb; clear hb hr))
            refine ⟨⟨j + 1, x1, r, by omega, by omega, by go_num, rfl, rfl, hid ?_, HOK, by (repeat (first | (with_reducible assumption) | (with_reducible apply below_refl) | (with_reducible apply below_alloc1) | (with_reducible apply below_drewN1) | (with_reducible apply below_drew1)))⟩, by simp [intOf]; omega⟩
            obtain rfl := HJ.out
            rw [Nat.add_sub_cancel] at hBL ⊢
            have hG := HG.out
            rw [hBL.out.2] at hG
            rw [bst_less hG]
            exact ⟨HX1.out, HR.out⟩
    · obtain rfl : j = n + 1 := by omega
      have hjI : ¬ (((n + 1 : Nat) : Int)) ≤ (n : Int) := by omega
      have hjI2 : ¬ (n : Int) + 1 ≤ (n : Int) := by omega
      have HYES := hid (okAll_yes (M := M) (n := n) (fun i hi => hok.out i (by omega)))
      go_wp2_with fail
      go_ret3
      rw [← HYES.out]
      rw [Nat.add_sub_cancel] at hBL
      exact ⟨B, L, rfl, fun _ => hBL.out, fun h => (by rw [HYES.out] at h; cases h), hw⟩
/-! ### The closures -/
def Cells1 (w : World) (b : Nat) (v : Value) : Prop := w.cell? ⟨b, 0, none⟩ = some v
structure LawAt (w : World) (b : Nat) (k : Int) (p s : Nat) : Prop where
  c0 : w.cell? ⟨b, 0, none⟩ = some (.int .i64 k)
  c1 : w.cell? ⟨b, 1, none⟩ = some (.float .f32 p)
  c2 : w.cell? ⟨b, 2, none⟩ = some (.float .f32 s)
set_option maxRecDepth 100000 in
set_option maxHeartbeats 800000 in
theorem bestAge1_any {k : Int} {p s t n pl fl : Nat} {α β : Rat} (h : Mn k (ab .f32 p) (ab .f32 s) (ab .f32 t) n) (hp : RV .f32 (ab .f32 pl) α) (a0 : 0 ≤ α) (hf : RV .f32 (ab .f32 fl) β) (b0 : 0 ≤ β) (j : Nat) (w : World) (b1 b2 b3 b4 : Nat) (hw : LawAt w b1 k p s) (h2 : w.cell? ⟨b2, 0, none⟩ = some (.float .f32 pl)) (h3 : w.cell? ⟨b3, 0, none⟩ = some (.float .f32 fl)) (h4 : w.cell? ⟨b4, 0, none⟩ = some (.int .i64 n)) :
    Calls Try.prog 28 #[.int .i64 j, .float .f32 t, .pointer (some ⟨b1, 0, none⟩), .pointer (some ⟨b2, 0, none⟩), .pointer (some ⟨b3, 0, none⟩), .pointer (some ⟨b4, 0, none⟩)] w (NumOk (ageM k (ab .f32 p) (ab .f32 s) (ab .f32 t) (ab .f32 pl) (ab .f32 fl) n) w) := by
  have HA := hid (fun w => ageCost_any h hp a0 hf b0 w)
  obtain ⟨c0, c1, c2⟩ := hw
  obtain ⟨M, hM⟩ : ∃ M, M = ageM k (ab .f32 p) (ab .f32 s) (ab .f32 t) (ab .f32 pl) (ab .f32 fl) n := ⟨_, rfl⟩
  rw [← hM] at HA ⊢
  clear h hp hf hM
  go_enter Try.func28, Try.ntmps28
  go_wp2_with (first
    | (go_at_call 12; (refine (HA.out _).mono ?_); rintro e w' ⟨q2, rfl, hq2, hb⟩; have hB3 := below_trans (show Below w.heap.size w _ by (repeat (first | (with_reducible assumption) | (with_reducible apply below_refl) | (with_reducible apply below_alloc1) | (with_reducible apply below_drewN1) | (with_reducible apply below_drew1)))) hb; clear hb))
  go_ret2
  exact ⟨_, rfl, hq2, by (repeat (first | (with_reducible assumption) | (with_reducible apply below_refl) | (with_reducible apply below_alloc1) | (with_reducible apply below_drewN1) | (with_reducible apply below_drew1)))⟩
set_option maxRecDepth 100000 in
set_option maxHeartbeats 800000 in
theorem bestGroup1_any {k : Int} {p s t j pl fl : Nat} {α β : Rat} (h : Gr k (ab .f32 p) (ab .f32 s) (ab .f32 t) j) (hp : RV .f32 (ab .f32 pl) α) (a0 : 0 ≤ α) (hf : RV .f32 (ab .f32 fl) β) (b0 : 0 ≤ β) (w : World) (b1 b2 b3 : Nat) (hw : LawAt w b1 k p s) (h2 : w.cell? ⟨b2, 0, none⟩ = some (.float .f32 pl)) (h3 : w.cell? ⟨b3, 0, none⟩ = some (.float .f32 fl)) :
    Calls Try.prog 29 #[.int .i64 j, .float .f32 t, .pointer (some ⟨b1, 0, none⟩), .pointer (some ⟨b2, 0, none⟩), .pointer (some ⟨b3, 0, none⟩)] w (NumOk (grpM k (ab .f32 p) (ab .f32 s) (ab .f32 t) (ab .f32 pl) (ab .f32 fl) j) w) := by
  have HA := hid (fun w => groupCost_any h hp a0 hf b0 w)
  obtain ⟨c0, c1, c2⟩ := hw
  obtain ⟨M, hM⟩ : ∃ M, M = grpM k (ab .f32 p) (ab .f32 s) (ab .f32 t) (ab .f32 pl) (ab .f32 fl) j := ⟨_, rfl⟩
  rw [← hM] at HA ⊢
  clear h hp hf hM
  go_enter Try.func29, Try.ntmps29
  go_wp2_with (first
    | (go_at_call 13; (refine (HA.out _).mono ?_); rintro e w' ⟨q2, rfl, hq2, hb⟩; have hB3 := below_trans (show Below w.heap.size w _ by (repeat (first | (with_reducible assumption) | (with_reducible apply below_refl) | (with_reducible apply below_alloc1) | (with_reducible apply below_drewN1) | (with_reducible apply below_drew1)))) hb; clear hb))
  go_ret2
  exact ⟨_, rfl, hq2, by (repeat (first | (with_reducible assumption) | (with_reducible apply below_refl) | (with_reducible apply below_alloc1) | (with_reducible apply below_drewN1) | (with_reducible apply below_drew1)))⟩
set_option maxRecDepth 100000 in
set_option maxHeartbeats 800000 in
theorem bestGap1_any {k : Int} {p s t c lk wt : Nat} {α β : Rat} (h : Lk k (ab .f32 p) (ab .f32 s) (ab .f32 t) c) (hp : RV .f32 (ab .f32 lk) α) (a0 : 0 ≤ α) (hf : RV .f32 (ab .f32 wt) β) (b0 : 0 ≤ β) (j : Nat) (w : World) (b1 b2 b3 b4 : Nat) (hw : LawAt w b1 k p s) (h2 : w.cell? ⟨b2, 0, none⟩ = some (.float .f32 lk)) (h3 : w.cell? ⟨b3, 0, none⟩ = some (.float .f32 wt)) (h4 : w.cell? ⟨b4, 0, none⟩ = some (.int .i64 c)) :
    Calls Try.prog 30 #[.int .i64 j, .float .f32 t, .pointer (some ⟨b1, 0, none⟩), .pointer (some ⟨b2, 0, none⟩), .pointer (some ⟨b3, 0, none⟩), .pointer (some ⟨b4, 0, none⟩)] w (NumOk (inM k (ab .f32 p) (ab .f32 s) (ab .f32 t) (ab .f32 lk) (ab .f32 wt) c) w) := by
  have HA := hid (fun w => inspect_any h hp a0 hf b0 w)
  obtain ⟨c0, c1, c2⟩ := hw
  obtain ⟨M, hM⟩ : ∃ M, M = inM k (ab .f32 p) (ab .f32 s) (ab .f32 t) (ab .f32 lk) (ab .f32 wt) c := ⟨_, rfl⟩
  rw [← hM] at HA ⊢
  clear h hp hf hM
  go_enter Try.func30, Try.ntmps30
  go_wp2_with (first
    | (go_at_call 14; (refine (HA.out _).mono ?_); rintro e w' ⟨q2, rfl, hq2, hb⟩; have hB3 := below_trans (show Below w.heap.size w _ by (repeat (first | (with_reducible assumption) | (with_reducible apply below_refl) | (with_reducible apply below_alloc1) | (with_reducible apply below_drewN1) | (with_reducible apply below_drew1)))) hb; clear hb))
  go_ret2
  exact ⟨_, rfl, hq2, by (repeat (first | (with_reducible assumption) | (with_reducible apply below_refl) | (with_reducible apply below_alloc1) | (with_reducible apply below_drewN1) | (with_reducible apply below_drew1)))⟩
end Go.Proofs.Ytkgbbagklkffpaa
