/- Contracts: OutgoingOf, WorstOutgoing; all their numbers are finite. -/
import Derived.Test.YtkonlchholfpoaaChance
import Derived.Test.YtkonlchholfpoaaMag3
namespace Go.Proofs.Ytkonlchholfpoaa
open Go.RowKit

/-- A number from 0 to 2 ^ e units. -/
def Pw (e : Nat) (x : Option Nat) : Prop := ∃ v, IsV .f32 x v ∧ 0 ≤ v ∧ v ≤ ((2 ^ e : Nat) : Int)
/-- A number from 0 to 1. -/
def Sh (x : Option Nat) : Prop := ∃ v, IsV .f32 x v ∧ 0 ≤ v ∧ v ≤ (unit .f32 : Int)
theorem rep_two (e : Nat) (h : e ≤ 253) : Rep FloatKind.f32.format ((2 ^ e : Nat) : Int) := by
  have := rep_nat32 1 e (by decide) h
  simpa using this
theorem rep_unit : Rep FloatKind.f32.format (unit .f32 : Int) := isV_one32.rep
theorem unit_pos (k : FloatKind) : (0 : Int) < (unit k : Int) := by
  have : 0 < unit k := Nat.two_pow_pos _
  omega
theorem Pw.mul {e : Nat} {x y : Option Nat} (he : e ≤ 253) (hx : Pw e x) (hy : Sh y) : Pw e (fop .mul .f32 x y) := by
  obtain ⟨v, hv, v0, v1⟩ := hx
  obtain ⟨u, hu, u0, u1⟩ := hy
  exact mul_within hv hu (rep_zero _) (rep_two e he) (by rw [Int.zero_mul]; exact Int.mul_nonneg v0 u0) (Int.mul_le_mul v1 u1 u0 (by omega))
theorem Sh.mul {x y : Option Nat} (hx : Sh x) (hy : Sh y) : Sh (fop .mul .f32 x y) := by
  obtain ⟨v, hv, v0, v1⟩ := hx
  obtain ⟨u, hu, u0, u1⟩ := hy
  exact mul_within hv hu (rep_zero _) rep_unit (by rw [Int.zero_mul]; exact Int.mul_nonneg v0 u0) (Int.mul_le_mul v1 u1 u0 (by have := unit_pos .f32; omega))
theorem Pw.add {e : Nat} {x y : Option Nat} (he : e + 1 ≤ 253) (hx : Pw e x) (hy : Pw e y) : Pw (e + 1) (fop .add .f32 x y) := by
  obtain ⟨v, hv, v0, v1⟩ := hx
  obtain ⟨u, hu, u0, u1⟩ := hy
  have h2 : (2 ^ (e + 1) : Nat) = 2 * 2 ^ e := by rw [Nat.pow_succ, Nat.mul_comm]
  exact add_within hv hu (rep_zero _) (rep_two (e + 1) he) (by omega) (by rw [h2]; omega)
theorem Pw.mono {e f : Nat} {x : Option Nat} (h : e ≤ f) (hx : Pw e x) : Pw f x := by
  obtain ⟨v, hv, v0, v1⟩ := hx
  have : 2 ^ e ≤ 2 ^ f := Nat.pow_le_pow_right (by decide) h
  exact ⟨v, hv, v0, by omega⟩
theorem Pw.fin {e : Nat} {x : Option Nat} (h : Pw e x) : finite32 x = true := by
  obtain ⟨v, hv, _⟩ := h
  exact fin32_of_isV hv
theorem Sh.comp {x : Option Nat} (h : Sh x) : Sh (fop .sub .f32 (some 1065353216) x) := by
  obtain ⟨v, hv, v0, v1⟩ := h
  exact sub_within isV_one32 hv (rep_zero _) rep_unit (by omega) (by omega)
theorem Sh.of {b : Nat} (h : shareB (ab .f32 b) = true) : Sh (ab .f32 b) := share_isV h
theorem Sh.share {x : Option Nat} (h : Sh x) : shareB x = true := by
  obtain ⟨v, hv, v0, v1⟩ := h
  unfold shareB
  rw [ford_val hv (isV_zero .f32), ford_val hv isV_one32]
  rw [Bool.and_eq_true]
  constructor
  · rcases Int.lt_or_eq_of_le v0 with c | c
    · rw [Int.compare_eq_gt.2 c]; rfl
    · rw [← c]; simp [compareOfSelf]
  · rcases Int.lt_or_eq_of_le v1 with c | c
    · rw [Int.compare_eq_lt.2 c]; rfl
    · rw [c]; simp [compareOfSelf]
/-- A part of a whole. -/
theorem Sh.part (a n : Int) (h0 : 0 ≤ a) (h1 : a ≤ n) (h2 : 0 < n) (h3 : n < 16777216) : Sh (fop .quo .f32 (some (floatOfInt .f32 a)) (some (floatOfInt .f32 n))) := by
  have hu := unit_pos .f32
  exact div_within (isV_ofInt32 a (by omega)) (isV_ofInt32 n (by omega)) (Int.mul_pos h2 hu) (rep_zero _) rep_unit
    (by rw [Int.zero_mul]; exact Int.mul_nonneg (Int.mul_nonneg h0 (by omega)) (by omega))
    (by rw [Int.mul_comm (unit .f32 : Int) (n * _)]; exact Int.mul_le_mul_of_nonneg_right (Int.mul_le_mul_of_nonneg_right h1 (by omega)) (by omega))
theorem pw_int (n e : Nat) (h : n ≤ 2 ^ e) (he : e + 149 ≤ 253) : Pw (e + 149) (some (floatOfInt .f32 (n : Int))) := by
  have hu : unit .f32 = 2 ^ 149 := by decide
  exact ofInt_within .f32 (n : Int) 0 _ (rep_zero _) (rep_two (e + 149) he) (Int.mul_nonneg (by omega) (by omega)) (by
    rw [hu, ← Int.natCast_mul, Nat.pow_add]
    exact Int.ofNat_le.2 (Nat.mul_le_mul_right _ h))
theorem pw_pow {e : Nat} (he : e ≤ 253) {x f : Option Nat} (hx : Pw e x) (hf : Sh f) (n : Nat) : Pw e (powM x f n) := by
  induction n with
  | zero => exact hx
  | succ n ih => exact ih.mul he hf
theorem pw_term (a : Int) (ha : a ≤ 40) (s : Option Nat) (hs : Sh s) (k : Nat) : Pw 189 (termM a s k) := by
  unfold termM
  refine pw_pow (by decide) (pw_pow (by decide) ?_ hs _) hs.comp _
  exact pw_int _ 40 (by have := binI_le40 a.toNat k (by omega); exact Nat.le_trans this (by decide)) (by decide)
theorem pw_sum (a : Int) (ha : a ≤ 40) (s : Option Nat) (hs : Sh s) (k : Nat) (hk : k ≤ 41) : Pw (189 + k) (chSum a s k) := by
  induction k with
  | zero => exact ⟨0, isV_zero _, Int.le_refl _, Int.natCast_nonneg _⟩
  | succ k ih => exact Pw.add (e := 189 + k) (by omega) (ih (by omega)) (Pw.mono (e := 189) (f := 189 + k) (by omega) (pw_term a ha s hs k))

/-- What goes out. -/
def outX (lot a b : Int) (s : Option Nat) : Option Nat :=
  fop .mul .f32 (fop .mul .f32 s (chSum a s (b + 1).toNat)) (fop .sub .f32 (some 1065353216) (fop .quo .f32 (some (floatOfInt .f32 a)) (some (floatOfInt .f32 lot))))
theorem fop_comm_mul (x y : Option Nat) : fop .mul .f32 x y = fop .mul .f32 y x := by
  cases x <;> cases y <;> try rfl
  rename_i a b
  show ((FloatKind.f32.format.read a).product (FloatKind.f32.format.read b)).map _ = ((FloatKind.f32.format.read b).product (FloatKind.f32.format.read a)).map _
  congr 1
  cases FloatKind.f32.format.read a <;> cases FloatKind.f32.format.read b <;> simp only [Ieee.Datum.product, Bool.xor_comm, Nat.mul_comm, Int.add_comm]
theorem outX_fin {lot a b : Int} {s : Option Nat} (h : isLotB lot a b = true) (hs : Sh s) : finite32 (outX lot a b s) = true := by
  have q := isLotB_true h
  unfold outX
  rw [fop_comm_mul s]
  exact (((pw_sum a (by omega) s hs _ (by omega)).mul (by omega) hs).mul (by omega) (Sh.part a lot (by omega) (by omega) (by omega) (by omega)).comp).fin
theorem chSum_fin {a b : Int} {s : Option Nat} (h : vldP a b = true) (hs : Sh s) : finite32 (chSum a s (b + 1).toNat) = true := by
  have q := vldP_true h
  exact (pw_sum a (by omega) s hs _ (by omega)).fin

def outM (lot a b : Int) (s : Option Nat) : Option Nat × Bool := if isLotB lot a b && shareB s then (outX lot a b s, true) else (some 0, false)
theorem outM_no {lot a b : Int} {s : Option Nat} (h : (isLotB lot a b && shareB s) = false) : outM lot a b s = (some 0, false) := by simp only [outM, h]; rfl
theorem outM_yes {lot a b : Int} {s : Option Nat} (h : (isLotB lot a b && shareB s) = true) : outM lot a b s = (outX lot a b s, true) := by simp only [outM, h]; rfl

set_option maxRecDepth 100000 in
set_option maxHeartbeats 2000000 in
theorem implOut_any (lot a b : Int) (s : Nat) (w : World) :
    Calls Try.prog 23 #[.int .i64 lot, .agg #[.int .i64 a, .int .i64 b], .float .f32 s] w (NumOk (outM lot a b (ab .f32 s)) w) := by
  cases h0 : (vldP a b && shareB (ab .f32 s))
  · have HC := hid (chanceM_no h0)
    have HM := hid (outM_no (lot := lot) (a := a) (b := b) (s := ab .f32 s) (by
      rw [Bool.and_eq_false_iff] at h0 ⊢
      rcases h0 with h | h
      · left; simp [isLotB, h]
      · right; exact h))
    clear h0
    go_enter Try.func23, Try.ntmps23
    go_wp2_with fail
    obtain ⟨w1, hw1⟩ : ∃ w1 : World, w1 = (w.alloc (Obj.cells #[.int .i64 a, .int .i64 b] 27)) := ⟨_, rfl⟩
    have c0 : w1.cell? ⟨w.heap.size, 0, none⟩ = some (.int .i64 a) := by subst hw1; go_simp
    have c1 : w1.cell? ⟨w.heap.size, 1, none⟩ = some (.int .i64 b) := by subst hw1; go_simp
    rw [← hw1]
    have hb1 : Below w.heap.size w w1 := by subst hw1; exact below_alloc _ _
    have s0 : w.heap.size < w1.heap.size := by subst hw1; simp
    clear hw1
    go_wp2_with (first | (go_at_call 57; refine (implChance_any _ _ _ _).mono ?_; rw [HC.out]; rintro e w' ⟨r, rfl, hr, hb⟩; have hB : Below w1.heap.size w1 w' := below_trans (by (repeat (first | (with_reducible assumption) | (with_reducible apply below_refl) | (with_reducible apply below_alloc1) | (with_reducible apply below_drewN1) | (with_reducible apply below_drew1)))) hb; have hC := (bcell hB).1; clear hb) | (go_at_call 47; refine (isLot_any _ _ _ _).mono ?_; rintro e w' ⟨rfl, hb⟩; have hB : Below w1.heap.size w1 w' := below_trans (by (repeat (first | (with_reducible assumption) | (with_reducible apply below_refl) | (with_reducible apply below_alloc1) | (with_reducible apply below_drewN1) | (with_reducible apply below_drew1)))) hb; have hC := (bcell hB).1; clear hb))
    go_ret2
    exact numOk_no HM.out (below_trans hb1 (by assumption))
  · rw [Bool.and_eq_true] at h0
    obtain ⟨h1, h2⟩ := h0
    have hsh := Sh.of h2
    have hc : chanceM a b (ab .f32 s) = (chSum a (ab .f32 s) (b + 1).toNat, true) := by
      rw [chanceM_yes (by simp [h1, h2]), ifFin_yes (chSum_fin h1 hsh)]
    have HC := hid hc; clear hc
    cases h3 : isLotB lot a b
    · have HM := hid (outM_no (lot := lot) (a := a) (b := b) (s := ab .f32 s) (by simp [h3]))
      clear h1 h2
      go_enter Try.func23, Try.ntmps23
      go_wp2_with fail
      obtain ⟨w1, hw1⟩ : ∃ w1 : World, w1 = (w.alloc (Obj.cells #[.int .i64 a, .int .i64 b] 27)) := ⟨_, rfl⟩
      have c0 : w1.cell? ⟨w.heap.size, 0, none⟩ = some (.int .i64 a) := by subst hw1; go_simp
      have c1 : w1.cell? ⟨w.heap.size, 1, none⟩ = some (.int .i64 b) := by subst hw1; go_simp
      rw [← hw1]
      have hb1 : Below w.heap.size w w1 := by subst hw1; exact below_alloc _ _
      have s0 : w.heap.size < w1.heap.size := by subst hw1; simp
      clear hw1
      go_wp2_with (first | (go_at_call 57; refine (implChance_any _ _ _ _).mono ?_; rw [HC.out]; rintro e w' ⟨r, rfl, hr, hb⟩; have hB : Below w1.heap.size w1 w' := below_trans (by (repeat (first | (with_reducible assumption) | (with_reducible apply below_refl) | (with_reducible apply below_alloc1) | (with_reducible apply below_drewN1) | (with_reducible apply below_drew1)))) hb; have hC := (bcell hB).1; clear hb) | (go_at_call 47; refine (isLot_any _ _ _ _).mono ?_; rw [h3]; rintro e w' ⟨rfl, hb⟩; have hB : Below w1.heap.size w1 w' := below_trans (by (repeat (first | (with_reducible assumption) | (with_reducible apply below_refl) | (with_reducible apply below_alloc1) | (with_reducible apply below_drewN1) | (with_reducible apply below_drew1)))) hb; have hC := (bcell hB).1; clear hb))
      go_ret2
      exact numOk_no HM.out (below_trans hb1 (by assumption))
    · have HM := hid ((outM_yes (lot := lot) (a := a) (b := b) (s := ab .f32 s) (by simp [h2, h3])).trans (by rw [← ifFin_yes (outX_fin h3 hsh)]))
      have HS := hid hsh
      clear h1 h2 hsh
      go_enter Try.func23, Try.ntmps23
      go_wp2_with fail
      obtain ⟨w1, hw1⟩ : ∃ w1 : World, w1 = (w.alloc (Obj.cells #[.int .i64 a, .int .i64 b] 27)) := ⟨_, rfl⟩
      have c0 : w1.cell? ⟨w.heap.size, 0, none⟩ = some (.int .i64 a) := by subst hw1; go_simp
      have c1 : w1.cell? ⟨w.heap.size, 1, none⟩ = some (.int .i64 b) := by subst hw1; go_simp
      rw [← hw1]
      have hb1 : Below w.heap.size w w1 := by subst hw1; exact below_alloc _ _
      have s0 : w.heap.size < w1.heap.size := by subst hw1; simp
      clear hw1
      go_wp2_with (first
        | (go_at_call 57; refine (implChance_any _ _ _ _).mono ?_; rw [HC.out]; rintro e w' ⟨r, rfl, hr, hb⟩; have hB : Below w1.heap.size w1 w' := below_trans (by (repeat (first | (with_reducible assumption) | (with_reducible apply below_refl) | (with_reducible apply below_alloc1) | (with_reducible apply below_drewN1) | (with_reducible apply below_drew1)))) hb; have hC := (bcell hB).1; clear hb)
        | (go_at_call 47; refine (isLot_any _ _ _ _).mono ?_; rw [h3]; rintro e w' ⟨rfl, hb⟩; have hB : Below w1.heap.size w1 w' := below_trans (by (repeat (first | (with_reducible assumption) | (with_reducible apply below_refl) | (with_reducible apply below_alloc1) | (with_reducible apply below_drewN1) | (with_reducible apply below_drew1)))) hb; have hC := (bcell hB).1; clear hb)
        | (refine upon_float rfl ?_; intro r n hr; go_simp)
        | (go_at_call 58; refine (ifFinite_num _ _).mono ?_; rintro e w' ⟨r, rfl, hr, hb⟩; have hB : Below w1.heap.size w1 w' := below_trans (by (repeat (first | (with_reducible assumption) | (with_reducible apply below_refl) | (with_reducible apply below_alloc1) | (with_reducible apply below_drewN1) | (with_reducible apply below_drew1)))) hb; have hC := (bcell hB).1; clear hb))
      go_ret2
      exact ⟨_, by rw [HM.out]; rfl, by rw [HM.out]; simp only [*, outX, ab_one32, ab_ofInt], below_trans hb1 (by assumption)⟩
set_option maxRecDepth 100000 in
set_option maxHeartbeats 2000000 in
theorem l06Outgoing_any (p o : Nat) (lot a b : Int) (s : Nat) (w : World) (e1 : w.cell? ⟨p, o, none⟩ = some (.int .i64 a)) (e2 : w.cell? ⟨p, o + 1, none⟩ = some (.int .i64 b)) (hv : vldP a b = true) :
    Calls Try.prog 56 #[.int .i64 lot, .pointer (some ⟨p, o, none⟩), .float .f32 s] w (FltOk (outX lot a b (ab .f32 s)) w) := by
  have hlt : p < w.heap.size := World.block_lt_of_cell? w _ e1
  go_enter Try.func56, Try.ntmps56
  go_wp2_with (first
    | (go_region_with (first
      | (go_at_call 81; refine (l06Chance_any _ _ a b _ _ (by go_simp) (by go_simp) hv).mono ?_; rintro e w' ⟨r, rfl, hr, hb⟩; have hB : Below w.heap.size w w' := below_trans (by (repeat (first | (with_reducible assumption) | (with_reducible apply below_refl) | (with_reducible apply below_alloc1) | (with_reducible apply below_drewN1) | (with_reducible apply below_drew1)))) hb; have hC := (bcell hB).1; clear hb)
      | (refine upon_float rfl ?_; intro r n hr; go_simp))))
  all_goals
    go_ret
    exact ⟨_, rfl, by simp only [*, outX, ab_one32, ab_ofInt], by (repeat (first | (with_reducible assumption) | (with_reducible apply below_refl) | (with_reducible apply below_alloc1) | (with_reducible apply below_drewN1) | (with_reducible apply below_drew1)))⟩
set_option maxRecDepth 100000 in
set_option maxHeartbeats 2000000 in
theorem specOut_any (lot a b : Int) (s : Nat) (w : World) :
    Calls Try.prog 22 #[.int .i64 lot, .agg #[.int .i64 a, .int .i64 b], .float .f32 s] w (NumOk (outM lot a b (ab .f32 s)) w) := by
  cases h1 : isLotB lot a b
  · have HM := hid (outM_no (lot := lot) (a := a) (b := b) (s := ab .f32 s) (by simp [h1]))
    go_enter Try.func22, Try.ntmps22
    go_wp2_with fail
    obtain ⟨w1, hw1⟩ : ∃ w1 : World, w1 = (w.alloc (Obj.cells #[.int .i64 a, .int .i64 b] 27)) := ⟨_, rfl⟩
    have c0 : w1.cell? ⟨w.heap.size, 0, none⟩ = some (.int .i64 a) := by subst hw1; go_simp
    have c1 : w1.cell? ⟨w.heap.size, 1, none⟩ = some (.int .i64 b) := by subst hw1; go_simp
    rw [← hw1]
    have hb1 : Below w.heap.size w w1 := by subst hw1; exact below_alloc _ _
    have s0 : w.heap.size < w1.heap.size := by subst hw1; simp
    clear hw1
    go_wp2_with (first | (go_at_call 44; refine (l06Lot_zero _ _ lot a b _ (by go_simp) (by go_simp)).mono ?_; rw [h1]; rintro e w' ⟨rfl, hb⟩; have hB : Below w1.heap.size w1 w' := below_trans (by (repeat (first | (with_reducible assumption) | (with_reducible apply below_refl) | (with_reducible apply below_alloc1) | (with_reducible apply below_drewN1) | (with_reducible apply below_drew1)))) hb; have hC := (bcell hB).1; clear hb))
    go_ret2
    exact numOk_no HM.out (below_trans hb1 (by assumption))
  · cases h2 : shareB (ab .f32 s)
    · have HM := hid (outM_no (lot := lot) (a := a) (b := b) (s := ab .f32 s) (by simp [h2]))
      go_enter Try.func22, Try.ntmps22
      go_wp2_with fail
      obtain ⟨w1, hw1⟩ : ∃ w1 : World, w1 = (w.alloc (Obj.cells #[.int .i64 a, .int .i64 b] 27)) := ⟨_, rfl⟩
      have c0 : w1.cell? ⟨w.heap.size, 0, none⟩ = some (.int .i64 a) := by subst hw1; go_simp
      have c1 : w1.cell? ⟨w.heap.size, 1, none⟩ = some (.int .i64 b) := by subst hw1; go_simp
      rw [← hw1]
      have hb1 : Below w.heap.size w w1 := by subst hw1; exact below_alloc _ _
      have s0 : w.heap.size < w1.heap.size := by subst hw1; simp
      clear hw1
      go_wp2_with (first | (go_at_call 44; refine (l06Lot_zero _ _ lot a b _ (by go_simp) (by go_simp)).mono ?_; rw [h1]; rintro e w' ⟨rfl, hb⟩; have hB : Below w1.heap.size w1 w' := below_trans (by (repeat (first | (with_reducible assumption) | (with_reducible apply below_refl) | (with_reducible apply below_alloc1) | (with_reducible apply below_drewN1) | (with_reducible apply below_drew1)))) hb; have hC := (bcell hB).1; clear hb) | (go_at_call 54; refine (l02Share_any _ _).mono ?_; rw [h2]; rintro e w' ⟨rfl, hb⟩; have hB : Below w1.heap.size w1 w' := below_trans (by (repeat (first | (with_reducible assumption) | (with_reducible apply below_refl) | (with_reducible apply below_alloc1) | (with_reducible apply below_drewN1) | (with_reducible apply below_drew1)))) hb; have hC := (bcell hB).1; clear hb))
      go_ret2
      exact numOk_no HM.out (below_trans hb1 (by assumption))
    · have HM := hid ((outM_yes (lot := lot) (a := a) (b := b) (s := ab .f32 s) (by simp [h1, h2])).trans (by rw [← ifFin_yes (outX_fin h1 (Sh.of h2))]))
      have hv : vldP a b = true := by
        have := h1
        simp only [isLotB, Bool.and_eq_true] at this
        exact this.1.2
      have HV := hid hv
      have H1 := hid h1; have H2 := hid h2
      clear hv h1 h2
      go_enter Try.func22, Try.ntmps22
      go_wp2_with fail
      obtain ⟨w1, hw1⟩ : ∃ w1 : World, w1 = (w.alloc (Obj.cells #[.int .i64 a, .int .i64 b] 27)) := ⟨_, rfl⟩
      have c0 : w1.cell? ⟨w.heap.size, 0, none⟩ = some (.int .i64 a) := by subst hw1; go_simp
      have c1 : w1.cell? ⟨w.heap.size, 1, none⟩ = some (.int .i64 b) := by subst hw1; go_simp
      rw [← hw1]
      have hb1 : Below w.heap.size w w1 := by subst hw1; exact below_alloc _ _
      have s0 : w.heap.size < w1.heap.size := by subst hw1; simp
      clear hw1
      go_wp2_with (first
        | (go_at_call 44; refine (l06Lot_zero _ _ lot a b _ (by go_simp) (by go_simp)).mono ?_; rw [H1.out]; rintro e w' ⟨rfl, hb⟩; have hB : Below w1.heap.size w1 w' := below_trans (by (repeat (first | (with_reducible assumption) | (with_reducible apply below_refl) | (with_reducible apply below_alloc1) | (with_reducible apply below_drewN1) | (with_reducible apply below_drew1)))) hb; have hC := (bcell hB).1; clear hb)
        | (go_at_call 54; refine (l02Share_any _ _).mono ?_; rw [H2.out]; rintro e w' ⟨rfl, hb⟩; have hB : Below w1.heap.size w1 w' := below_trans (by (repeat (first | (with_reducible assumption) | (with_reducible apply below_refl) | (with_reducible apply below_alloc1) | (with_reducible apply below_drewN1) | (with_reducible apply below_drew1)))) hb; have hC := (bcell hB).1; clear hb)
        | (go_at_call 56; refine (l06Outgoing_any _ _ lot a b _ _ (by go_simp) (by go_simp) HV.out).mono ?_; rintro e w' ⟨r, rfl, hr, hb⟩; have hB : Below w1.heap.size w1 w' := below_trans (by (repeat (first | (with_reducible assumption) | (with_reducible apply below_refl) | (with_reducible apply below_alloc1) | (with_reducible apply below_drewN1) | (with_reducible apply below_drew1)))) hb; have hC := (bcell hB).1; clear hb)
        | (go_at_call 55; refine (l02Number_num _ _).mono ?_; rintro e w' ⟨r, rfl, hr, hb⟩; have hB : Below w1.heap.size w1 w' := below_trans (by (repeat (first | (with_reducible assumption) | (with_reducible apply below_refl) | (with_reducible apply below_alloc1) | (with_reducible apply below_drewN1) | (with_reducible apply below_drew1)))) hb; have hC := (bcell hB).1; clear hb))
      go_ret2
      exact ⟨_, by rw [HM.out]; rfl, by rw [HM.out]; simp only [*], below_trans hb1 (by assumption)⟩

/-! ### the worst -/
def shareK (n : Int) (k : Nat) : Option Nat := fop .quo .f32 (some (floatOfInt .f32 (k : Int))) (some (floatOfInt .f32 n))
/-- The best share and what goes out there, of the first k. -/
def worstAt (lot a b n : Int) : Nat → Option Nat × Option Nat
  | 0 => (some 0, some 0)
  | k + 1 => if k = 0 ∨ ford .f32 (outX lot a b (shareK n k)) (worstAt lot a b n k).2 = some .gt then (shareK n k, outX lot a b (shareK n k)) else worstAt lot a b n k
theorem worst_yes {lot a b n : Int} {k : Nat} (h : k = 0 ∨ ford .f32 (outX lot a b (shareK n k)) (worstAt lot a b n k).2 = some .gt) : worstAt lot a b n (k + 1) = (shareK n k, outX lot a b (shareK n k)) := by rw [worstAt, if_pos h]
theorem worst_no {lot a b n : Int} {k : Nat} (h : ¬ (k = 0 ∨ ford .f32 (outX lot a b (shareK n k)) (worstAt lot a b n k).2 = some .gt)) : worstAt lot a b n (k + 1) = worstAt lot a b n k := by rw [worstAt, if_neg h]
theorem shareK_sh (n : Int) (k : Nat) (h : (k : Int) ≤ n) (h1 : 1 ≤ n) (h2 : n ≤ 256) : Sh (shareK n k) := Sh.part _ _ (by omega) h (by omega) (by omega)
def worstOk (lot a b n : Int) : Bool := isLotB lot a b && inB n 1 256
def worstM (lot a b n : Int) : Option Nat × Option Nat × Bool := if worstOk lot a b n then ((worstAt lot a b n (n + 1).toNat).1, (worstAt lot a b n (n + 1).toNat).2, true) else (some 0, some 0, false)
theorem worstM_no {lot a b n : Int} (h : worstOk lot a b n = false) : worstM lot a b n = (some 0, some 0, false) := by simp only [worstM, h]; rfl
theorem worstM_yes {lot a b n : Int} (h : worstOk lot a b n = true) : worstM lot a b n = ((worstAt lot a b n (n + 1).toNat).1, (worstAt lot a b n (n + 1).toNat).2, true) := by simp only [worstM, h]; rfl
/-- Two numbers and a sign. -/
def Num2Ok (M : Option Nat × Option Nat × Bool) (w : World) (e : Ending) (w' : World) : Prop := ∃ r q, e = .returned (.tuple #[.float .f32 r, .float .f32 q, .bool M.2.2]) ∧ ab .f32 r = M.1 ∧ ab .f32 q = M.2.1 ∧ Below w.heap.size w w'
theorem num2Ok_no {w w' : World} {M : Option Nat × Option Nat × Bool} (h : M = (some 0, some 0, false)) (hb : Below w.heap.size w w') : Num2Ok M w (.returned (.tuple #[.float .f32 0, .float .f32 0, .bool false])) w' := ⟨0, 0, by rw [h], by rw [h]; exact ab_z32, by rw [h]; exact ab_z32, hb⟩
end Go.Proofs.Ytkonlchholfpoaa
