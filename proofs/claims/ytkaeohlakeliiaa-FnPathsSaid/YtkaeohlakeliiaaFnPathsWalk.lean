/- The walk of laws.FnPaths. -/
import Derived.Test.YtkaeohlakeliiaaLn7
namespace Go.Proofs.Ytkaeohlakeliiaa
open Go.RowKit

theorem line_all (B S : Nat) (qs : List Nat) {n : Nat} (h : qs.length = n) : (List.range n).map (fun j => lineB B S (qs.getD j 0)) = qs.map (lineB B S) := by
  subst h
  apply List.ext_getElem
  · simp
  · intro i h1 h2
    simp only [List.length_map] at h2
    simp [h2]
theorem base_bits (B : Nat) (hB : B < 33) : fop .quo .f32 (some (floatOfInt .f32 ((B : Int) - 16))) (some cfour) = some (fz B) := (fz_some B hB).1
theorem slope_bits (S : Nat) (hS : S < 80) : fop .quo .f32 (some (floatOfInt .f32 (S : Int))) (some cfour) = some (fq S) := (fq_some S hS).1
theorem lim_far {xs ys : List Nat} {n : Nat} {X Y : Nat → Int} {b s : Rat} (h : Lin xs ys n X Y b s) {l : Rat} {L : Option Nat} (_ : RV .f32 L l) (h1 : (Y 0 : Rat) / 16 < l) (h2 : l ≤ (Y (n - 1) : Rat) / 16) : -1 ≤ l - b ∧ l - b ≤ 23 := by
  have hn := h.t.lo
  have e1 := h.eq 0 (by omega)
  have e2 := h.eq (n - 1) (by omega)
  have x1 := (h.t.at 0 (by omega)).2
  have x2 := (h.t.at (n - 1) (by omega)).2
  have s0 := h.s0
  have s2 := h.s2
  have p1 := Rat.mul_nonneg (show 0 ≤ s by grind) x1.1
  have p2 := abs_mul_le (a := s) (b := (X (n - 1) : Rat) / 16) (α := 2) (β := 11) (by grind) (by grind) (by grind) (by grind)
  constructor <;> grind
/-- The limit of the law. -/
theorem law_lim {qs : List Nat} {q n B S : Nat} {b s : Rat} (h : Lin (qs.map fq) (qs.map (lineB B S)) n (fun k => 4 * ((qs.getD k 0 : Nat) : Int)) (fun k => lineI B S (qs.getD k 0)) b s) (hR : Ris qs q) (hq : qs.length = n) (hn : 2 ≤ n) (hB8 : 8 ≤ B) (hB24 : B ≤ 24) (hS1 : 1 ≤ S) (hS8 : S ≤ 8) (k0 : qs.getD 0 0 ≤ 44) (kn : qs.getD (n - 1) 0 ≤ 44) :
    ∃ d e l z, fop .sub .f32 (ab .f32 (lineB B S (qs.getD (n - 1) 0))) (ab .f32 (lineB B S (qs.getD 0 0))) = some d ∧ ab .f32 d = some d ∧ fop .quo .f32 (ab .f32 d) (ab .f32 1073741824) = some e ∧ ab .f32 e = some e ∧ fop .add .f32 (ab .f32 (lineB B S (qs.getD 0 0))) (ab .f32 e) = some l ∧ ab .f32 l = some l ∧ RV .f32 (ab .f32 l) z ∧ ((lineI B S (qs.getD 0 0) : Int) : Rat) / 16 < z ∧ z ≤ ((lineI B S (qs.getD (n - 1) 0) : Int) : Rat) / 16 := by
  have r0 := lineX_rv hB8 hB24 hS8 k0
  have rn := lineX_rv hB8 hB24 hS8 kn
  obtain ⟨a0, b0⟩ := lineB_at hB8 hB24 hS8 k0
  obtain ⟨an, bn⟩ := lineB_at hB8 hB24 hS8 kn
  rw [a0] at r0; rw [an] at rn
  have m0 := six_rat (line_bd hB8 hB24 hS8 k0)
  have mn := six_rat (line_bd hB8 hB24 hS8 kn)
  rw [show ((384 : Nat) : Rat) = 384 from rfl] at m0 mn
  have hlt := hR.up 0 (n - 1) (by omega) (by omega)
  have hst : lineI B S (qs.getD 0 0) + 1 ≤ lineI B S (qs.getD (n - 1) 0) := by
    have h1 : S * qs.getD 0 0 + 1 ≤ S * qs.getD (n - 1) 0 := by
      have := Nat.mul_le_mul_left S (show qs.getD 0 0 + 1 ≤ qs.getD (n - 1) 0 by omega)
      rw [Nat.mul_succ] at this
      omega
    unfold lineI
    rw [← Int.natCast_mul, ← Int.natCast_mul]
    omega
  have hst2 := intr_le hst
  rw [Rat.intCast_add, show ((1 : Int) : Rat) = 1 from rfl] at hst2
  obtain ⟨d, e, l, z, c1, c2, c3, c4, c5, c6, c7, c8, c9⟩ := lim_bits r0 rn (by grind) (by grind) (by grind) (by grind) (by grind)
  refine ⟨d, e, l, z, by rw [bn, b0]; exact c1, c2, by rw [c2, show ab .f32 1073741824 = some ktwo by decide]; exact c3, c4, by rw [b0, c4]; exact c5, c6, by rw [c6]; exact c7, c8, c9⟩
set_option maxRecDepth 100000 in
set_option maxHeartbeats 4000000 in
theorem walk_FnPaths (vc : Value) (cs : List Int) (vm : Value) (ms : List Int) (w : World) (hc : RowAt w vc (cs.map (Value.int .u8))) (hcb : ∀ b ∈ cs, 0 ≤ b ∧ b ≤ 255) (hm : RowAt w vm (ms.map (Value.int .u8))) (hmb : ∀ b ∈ ms, 0 ≤ b ∧ b ≤ 255) :
    Calls Try.prog 4 #[vc, vm] w fun e w' => e = .returned (.bool true) ∧ Below w.heap.size w w' := by
  obtain ⟨i0, hi0, hz0, hz1, hz2⟩ := info_parts (P := Try.prog) (e := 27) (z := Value.float .f32 0) (size := 1) (bytes := 4) (by kernel_rfl)
  have HC := hid hc; have HM := hid hm; have HCB := hid hcb; have HMB := hid hmb
  clear hc hm hcb hmb
  cases hl : (decide (1048576 < cs.length) || decide (1048576 < ms.length))
  rotate_left
  · have HL := hid hl; clear hl
    go_enter Try.func4, Try.ntmps4
    go_wp2_with (go_at_call 7; (with_reducible refine (b10Long_any _ _ cs ms _ (HC.out.below (by (repeat (first | (with_reducible assumption) | (with_reducible apply below_refl) | (with_reducible apply below_alloc1) | (with_reducible apply below_drewN1) | (with_reducible apply below_drew1))))) (HM.out.below (by (repeat (first | (with_reducible assumption) | (with_reducible apply below_refl) | (with_reducible apply below_alloc1) | (with_reducible apply below_drewN1) | (with_reducible apply below_drew1))))) true HL.out).mono ?_); rintro e w' ⟨rfl, hb⟩; have hB : Below w.heap.size w w' := below_trans (by (repeat (first | (with_reducible assumption) | (with_reducible apply below_refl) | (with_reducible apply below_alloc1) | (with_reducible apply below_drewN1) | (with_reducible apply below_drew1)))) hb; have hC := (bcell hB).1; clear hb)
    go_ret
    exact ⟨rfl, by assumption⟩
  have HL := hid hl; clear hl
  obtain ⟨n, hA⟩ : ∃ n : Nat, byteAt ms 0 10 = (n : Int) - 2 := ⟨(byteAt ms 0 10 + 2).toNat, by have := byteAt_bd ms 0 10 (by decide); omega⟩
  have bA := byteAt_bd ms 0 10 (by decide)
  obtain ⟨B, hB⟩ : ∃ B : Nat, byteAt ms 1 17 = (B : Int) - 8 := ⟨(byteAt ms 1 17 + 8).toNat, by have := byteAt_bd ms 1 17 (by decide); omega⟩
  have bB := byteAt_bd ms 1 17 (by decide)
  obtain ⟨S, hS⟩ : ∃ S : Nat, byteAt ms 2 8 = (S : Int) - 1 := ⟨(byteAt ms 2 8 + 1).toNat, by have := byteAt_bd ms 2 8 (by decide); omega⟩
  have bS := byteAt_bd ms 2 8 (by decide)
  obtain ⟨K, hK⟩ : ∃ K : Nat, byteAt ms 3 8 = (K : Int) - 1 := ⟨(byteAt ms 3 8 + 1).toNat, by have := byteAt_bd ms 3 8 (by decide); omega⟩
  have bK := byteAt_bd ms 3 8 (by decide)
  obtain ⟨D, hD⟩ : ∃ D : Nat, byteAt ms 4 3 = (D : Int) := ⟨(byteAt ms 4 3).toNat, by have := byteAt_bd ms 4 3 (by decide); omega⟩
  have bD := byteAt_bd ms 4 3 (by decide)
  obtain ⟨T, hT⟩ : ∃ T : Nat, byteAt ms 5 33 = (T : Int) := ⟨(byteAt ms 5 33).toNat, by have := byteAt_bd ms 5 33 (by decide); omega⟩
  have bT := byteAt_bd ms 5 33 (by decide)
  rw [hA] at bA; rw [hB] at bB; rw [hS] at bS; rw [hK] at bK; rw [hD] at bD; rw [hT] at bT
  have HA := hid hA; have HB := hid hB; have HS := hid hS; have HK := hid hK; have HD := hid hD; have HT := hid hT
  clear hA hB hS hK hD hT
  have hn2 : 2 ≤ n := by omega
  have hn1 : 1 ≤ n := by omega
  have hn11 : n ≤ 11 := by omega
  have hB8 : 8 ≤ B := by omega
  have hB24 : B ≤ 24 := by omega
  have hS1 : 1 ≤ S := by omega
  have hS8 : S ≤ 8 := by omega
  have HBZ := hid (base_bits B (by omega))
  have HSZ := hid (slope_bits S (by omega))
  have HC4 := hid (show ab .f32 1082130432 = some cfour by decide)
  have HBA := hid (fz_some B (by omega)).2.1
  have HSA := hid (fq_some S (by omega)).2.1
  have W1 : IntKind.i64.wrap (2 + ((n : Int) - 2)) = (n : Int) := by rw [IntKind.wrap_i64]; omega
  have W2 : IntKind.i64.wrap ((B : Int) - 8 - 8) = (B : Int) - 16 := by rw [IntKind.wrap_i64]; omega
  have W3 : IntKind.i64.wrap (1 + ((S : Int) - 1)) = (S : Int) := by rw [IntKind.wrap_i64]; omega
  have W4 : IntKind.i64.wrap (1 + ((K : Int) - 1)) = (K : Int) := by rw [IntKind.wrap_i64]; omega
  have W5 : IntKind.i64.wrap ((n : Int) - 1) = ((n - 1 : Nat) : Int) := by rw [IntKind.wrap_i64]; omega
  go_enter Try.func4, Try.ntmps4
  go_wp2_with (first
    | (go_at_call 7; (with_reducible refine (b10Long_any _ _ cs ms _ (HC.out.below (by (repeat (first | (with_reducible assumption) | (with_reducible apply below_refl) | (with_reducible apply below_alloc1) | (with_reducible apply below_drewN1) | (with_reducible apply below_drew1))))) (HM.out.below (by (repeat (first | (with_reducible assumption) | (with_reducible apply below_refl) | (with_reducible apply below_alloc1) | (with_reducible apply below_drewN1) | (with_reducible apply below_drew1))))) false HL.out).mono ?_); rintro e w' ⟨rfl, hb⟩; have hB : Below w.heap.size w w' := below_trans (by (repeat (first | (with_reducible assumption) | (with_reducible apply below_refl) | (with_reducible apply below_alloc1) | (with_reducible apply below_drewN1) | (with_reducible apply below_drew1)))) hb; have hC := (bcell hB).1; clear hb)
    | (go_at_call 8; (with_reducible refine (b10At_any _ ms 0 10 _ (HM.out.below (by (repeat (first | (with_reducible assumption) | (with_reducible apply below_refl) | (with_reducible apply below_alloc1) | (with_reducible apply below_drewN1) | (with_reducible apply below_drew1))))) HMB.out (by omega) (by omega)).mono ?_); rw [HA.out]; rintro e w' ⟨rfl, hb⟩; have hB : Below w.heap.size w w' := below_trans (by (repeat (first | (with_reducible assumption) | (with_reducible apply below_refl) | (with_reducible apply below_alloc1) | (with_reducible apply below_drewN1) | (with_reducible apply below_drew1)))) hb; have hC := (bcell hB).1; clear hb)
    | (go_at_call 9; (refine (rising_any _ cs n hn11 _ (HC.out.below (by (repeat (first | (with_reducible assumption) | (with_reducible apply below_refl) | (with_reducible apply below_alloc1) | (with_reducible apply below_drewN1) | (with_reducible apply below_drew1))))) HCB.out).mono ?_); rintro e w' ⟨qs, q, vS, rfl, hql, hRI, ho, hb⟩; have hB : Below w.heap.size w w' := below_trans (by (repeat (first | (with_reducible assumption) | (with_reducible apply below_refl) | (with_reducible apply below_alloc1) | (with_reducible apply below_drewN1) | (with_reducible apply below_drew1)))) hb; have HQL := hid hql; have HRI := hid hRI; have oS := hid (OwnAt.mk' ho); clear hb ho hql hRI; obtain ⟨gS, cS, rfl, gS0, gS1⟩ := own_form oS.out (show (qs.map fq).length = n by rw [List.length_map]; exact HQL.out) hn1; have hgS := own_lt oS.out)
    | (go_at_call 8; (with_reducible refine (b10At_any _ ms 1 17 _ (HM.out.below (by (repeat (first | (with_reducible assumption) | (with_reducible apply below_refl) | (with_reducible apply below_alloc1) | (with_reducible apply below_drewN1) | (with_reducible apply below_drew1))))) HMB.out (by omega) (by omega)).mono ?_); rw [HB.out]; rintro e w' ⟨rfl, hb⟩; (try replace oS := hid (OwnAt.step oS.out (below_trans (by (repeat (first | (with_reducible assumption) | (with_reducible apply below_refl) | (with_reducible apply below_alloc1) | (with_reducible apply below_drewN1) | (with_reducible apply below_drew1)))) hb))); (try replace oX := hid (OwnAt.step oX.out (below_trans (by (repeat (first | (with_reducible assumption) | (with_reducible apply below_refl) | (with_reducible apply below_alloc1) | (with_reducible apply below_drewN1) | (with_reducible apply below_drew1)))) hb))); (try replace oG := hid (OwnAt.step oG.out (below_trans (by (repeat (first | (with_reducible assumption) | (with_reducible apply below_refl) | (with_reducible apply below_alloc1) | (with_reducible apply below_drewN1) | (with_reducible apply below_drew1)))) hb))); (try replace oH := hid (OwnAt.step oH.out (below_trans (by (repeat (first | (with_reducible assumption) | (with_reducible apply below_refl) | (with_reducible apply below_alloc1) | (with_reducible apply below_drewN1) | (with_reducible apply below_drew1)))) hb))); (try replace oY := hid (OwnAt.step oY.out (below_trans (by (repeat (first | (with_reducible assumption) | (with_reducible apply below_refl) | (with_reducible apply below_alloc1) | (with_reducible apply below_drewN1) | (with_reducible apply below_drew1)))) hb))); (try replace oZ := hid (OwnAt.step oZ.out (below_trans (by (repeat (first | (with_reducible assumption) | (with_reducible apply below_refl) | (with_reducible apply below_alloc1) | (with_reducible apply below_drewN1) | (with_reducible apply below_drew1)))) hb))); (try replace oK := hid (OwnAt.step oK.out (below_trans (by (repeat (first | (with_reducible assumption) | (with_reducible apply below_refl) | (with_reducible apply below_alloc1) | (with_reducible apply below_drewN1) | (with_reducible apply below_drew1)))) hb))); (try replace oM := hid (OwnAt.step oM.out (below_trans (by (repeat (first | (with_reducible assumption) | (with_reducible apply below_refl) | (with_reducible apply below_alloc1) | (with_reducible apply below_drewN1) | (with_reducible apply below_drew1)))) hb))); (try replace oT := hid (OwnAt.step oT.out (below_trans (by (repeat (first | (with_reducible assumption) | (with_reducible apply below_refl) | (with_reducible apply below_alloc1) | (with_reducible apply below_drewN1) | (with_reducible apply below_drew1)))) hb))); (try replace oU := hid (OwnAt.step oU.out (below_trans (by (repeat (first | (with_reducible assumption) | (with_reducible apply below_refl) | (with_reducible apply below_alloc1) | (with_reducible apply below_drewN1) | (with_reducible apply below_drew1)))) hb))); (try replace oV := hid (OwnAt.step oV.out (below_trans (by (repeat (first | (with_reducible assumption) | (with_reducible apply below_refl) | (with_reducible apply below_alloc1) | (with_reducible apply below_drewN1) | (with_reducible apply below_drew1)))) hb))); have hB : Below w.heap.size w _ := below_trans (by (repeat (first | (with_reducible assumption) | (with_reducible apply below_refl) | (with_reducible apply below_alloc1) | (with_reducible apply below_drewN1) | (with_reducible apply below_drew1)))) hb; have hC := (bcell hB).1; clear hb)
    | (go_at_call 8; (with_reducible refine (b10At_any _ ms 2 8 _ (HM.out.below (by (repeat (first | (with_reducible assumption) | (with_reducible apply below_refl) | (with_reducible apply below_alloc1) | (with_reducible apply below_drewN1) | (with_reducible apply below_drew1))))) HMB.out (by omega) (by omega)).mono ?_); rw [HS.out]; rintro e w' ⟨rfl, hb⟩; (try replace oS := hid (OwnAt.step oS.out (below_trans (by (repeat (first | (with_reducible assumption) | (with_reducible apply below_refl) | (with_reducible apply below_alloc1) | (with_reducible apply below_drewN1) | (with_reducible apply below_drew1)))) hb))); (try replace oX := hid (OwnAt.step oX.out (below_trans (by (repeat (first | (with_reducible assumption) | (with_reducible apply below_refl) | (with_reducible apply below_alloc1) | (with_reducible apply below_drewN1) | (with_reducible apply below_drew1)))) hb))); (try replace oG := hid (OwnAt.step oG.out (below_trans (by (repeat (first | (with_reducible assumption) | (with_reducible apply below_refl) | (with_reducible apply below_alloc1) | (with_reducible apply below_drewN1) | (with_reducible apply below_drew1)))) hb))); (try replace oH := hid (OwnAt.step oH.out (below_trans (by (repeat (first | (with_reducible assumption) | (with_reducible apply below_refl) | (with_reducible apply below_alloc1) | (with_reducible apply below_drewN1) | (with_reducible apply below_drew1)))) hb))); (try replace oY := hid (OwnAt.step oY.out (below_trans (by (repeat (first | (with_reducible assumption) | (with_reducible apply below_refl) | (with_reducible apply below_alloc1) | (with_reducible apply below_drewN1) | (with_reducible apply below_drew1)))) hb))); (try replace oZ := hid (OwnAt.step oZ.out (below_trans (by (repeat (first | (with_reducible assumption) | (with_reducible apply below_refl) | (with_reducible apply below_alloc1) | (with_reducible apply below_drewN1) | (with_reducible apply below_drew1)))) hb))); (try replace oK := hid (OwnAt.step oK.out (below_trans (by (repeat (first | (with_reducible assumption) | (with_reducible apply below_refl) | (with_reducible apply below_alloc1) | (with_reducible apply below_drewN1) | (with_reducible apply below_drew1)))) hb))); (try replace oM := hid (OwnAt.step oM.out (below_trans (by (repeat (first | (with_reducible assumption) | (with_reducible apply below_refl) | (with_reducible apply below_alloc1) | (with_reducible apply below_drewN1) | (with_reducible apply below_drew1)))) hb))); (try replace oT := hid (OwnAt.step oT.out (below_trans (by (repeat (first | (with_reducible assumption) | (with_reducible apply below_refl) | (with_reducible apply below_alloc1) | (with_reducible apply below_drewN1) | (with_reducible apply below_drew1)))) hb))); (try replace oU := hid (OwnAt.step oU.out (below_trans (by (repeat (first | (with_reducible assumption) | (with_reducible apply below_refl) | (with_reducible apply below_alloc1) | (with_reducible apply below_drewN1) | (with_reducible apply below_drew1)))) hb))); (try replace oV := hid (OwnAt.step oV.out (below_trans (by (repeat (first | (with_reducible assumption) | (with_reducible apply below_refl) | (with_reducible apply below_alloc1) | (with_reducible apply below_drewN1) | (with_reducible apply below_drew1)))) hb))); have hB : Below w.heap.size w _ := below_trans (by (repeat (first | (with_reducible assumption) | (with_reducible apply below_refl) | (with_reducible apply below_alloc1) | (with_reducible apply below_drewN1) | (with_reducible apply below_drew1)))) hb; have hC := (bcell hB).1; clear hb)
    | (refine upon_float rfl ?_; intro r nn hr; (first | (rw [ab_ofInt, HC4.out, HBZ.out] at hr; obtain rfl := (ab_some hr).1) | (rw [ab_ofInt, HC4.out, HSZ.out] at hr; obtain rfl := (ab_some hr).1)); clear hr; go_simp))
  clear hgS
  have hb1 : Below w.heap.size w w' := by (repeat (first | (with_reducible assumption) | (with_reducible apply below_refl) | (with_reducible apply below_alloc1) | (with_reducible apply below_drewN1) | (with_reducible apply below_drew1)))
  have hsz : w'.heap.size ≤ (w'.drewN nn).heap.size := Nat.le_refl _
  have hgS := own_lt oS.out
  have hq44 : q ≤ 44 := by have := HRI.out.most; rw [HQL.out] at this; omega
  have hLS : (qs.map fq).length = n := by rw [List.length_map]; exact HQL.out
  go_loopw [9, 72] (fun v y wr => ∃ k : Nat, k ≤ n ∧ y = .int .i64 k ∧ Hid (wr.ownsRow w'.heap.size 27 1 v (((List.range k).map fun j => lineB B S (qs.getD j 0)).map (Value.float .f32)).length (((List.range k).map fun j => lineB B S (qs.getD j 0)).map (Value.float .f32))) ∧ Below w'.heap.size w' wr) (fun _ y _ => n - (intOf y).toNat)
  case atStart => exact ⟨0, by omega, rfl, hid (World.ownsRow_made _ #[] 0 hsz (by simp [maxLen]) rfl), by (repeat (first | (with_reducible assumption) | (with_reducible apply below_refl) | (with_reducible apply below_alloc1) | (with_reducible apply below_drewN1) | (with_reducible apply below_drew1)))⟩
  case round =>
    obtain ⟨k, hk, rfl, ho, hv1⟩ := hrel
    have hw := below_trans hb1 hv1
    by_cases hlt : k < n
    · have hcell := own_cell oS.out hLS hv1 hlt
      rw [map_getD fq qs (by rw [HQL.out]; omega)] at hcell
      have hx := (HRI.out.rg k (by rw [HQL.out]; omega)).2
      have HX1 := hid (fq_some (qs.getD k 0) (by omega)).2.1
      have HX2 := hid (lineB_at hB8 hB24 hS8 (show qs.getD k 0 ≤ 44 by omega)).1
      have HX3 := hid (range_next (fun j => lineB B S (qs.getD j 0)) k)
      generalize qs.getD k 0 = x at hcell HX1 HX2 HX3
      have hgr : gS < wr.heap.size := Nat.lt_of_lt_of_le hgS hv1.size
      have hltI : (k : Int) < (n : Int) := by omega
      have hk0 : (0 : Int) ≤ (k : Int) := by omega
      go_wp2_with (first
        | (refine upon_float rfl ?_; intro r mm hr; (first | (rw [HSA.out, HX1.out] at hr; have hm := hr; clear hr) | (rw [hm, HBA.out] at hr; rw [show fop .add .f32 (some (fz B)) (fop .mul .f32 (some (fq S)) (some (fq x))) = some (lineB B S x) from HX2.out] at hr; obtain rfl := (ab_some hr).1; clear hr hm)); go_simp)
        | (at_builtin; refine wpList_push rfl _ _ 25 rfl Try.underlying25 hi0 hz0 hz1 hz2 rfl w'.heap.size _ _ rfl rfl (ownsRow_below ho.out (by (repeat (first | (with_reducible assumption) | (with_reducible apply below_refl) | (with_reducible apply below_alloc1) | (with_reducible apply below_drewN1) | (with_reducible apply below_drew1))))) rfl (by rw [List.length_map, List.length_map, List.length_range]; omega) (by decide) (Nat.le_trans hv1.size (Below.size (show Below wr.heap.size wr _ by (repeat (first | (with_reducible assumption) | (with_reducible apply below_refl) | (with_reducible apply below_alloc1) | (with_reducible apply below_drewN1) | (with_reducible apply below_drew1)))))) ?_; intro v1 w2 hown hb2))
      go_roundw
      case rel =>
        refine ⟨k + 1, by omega, by go_num, hid ?_, (below_trans hv1 (by (repeat (first | (with_reducible assumption) | (with_reducible apply below_refl) | (with_reducible apply below_alloc1) | (with_reducible apply below_drewN1) | (with_reducible apply below_drew1))))).trans hb2⟩
        rw [HX3.out, fl_vals]
        exact hown
      case measure => simp [intOf]; omega
    · obtain rfl : n = k := by omega
      have ho2 := ho.out
      rw [line_all B S qs HQL.out] at ho2
      have oX := hid (show OwnAt wr w'.heap.size wr.heap.size 27 _ ((qs.map (lineB B S)).map (Value.float .f32)) from ⟨Own.mk' ho2, Nat.le_refl _⟩)
      replace oS := hid (OwnAt.step oS.out hv1)
      have hLX : (qs.map (lineB B S)).length = n := by rw [List.length_map]; exact HQL.out
      have HLIN := hid (line_lin HRI.out HQL.out hn2 hn11 hB8 hB24 hS1 hS8)
      obtain ⟨rS, rB, rQ, hM, hS, S1, S2, hBB, B1, B2, hQ, Q0, Q1⟩ := HLIN.out.told
      obtain ⟨s0, es, es2⟩ := hS.some
      obtain ⟨b0, eb, eb2⟩ := hBB.some
      obtain ⟨q0, eq, eq2⟩ := hQ.some
      rw [es, eb, eq] at hM
      rw [es] at hS; rw [eb] at hBB; rw [eq] at hQ
      have HM1 := hid hM
      have HPS := hid (paths_two hM K (by omega) (by omega))
      clear ho ho2 hb1 hsz hgS hk hlt es eb eq hM
      go_wp2_with (first
        | (go_at_call 20; (refine (implLine_any _ _ (qs.map fq) (qs.map (lineB B S)) _ (OwnAt.row oS.out (by (repeat (first | (with_reducible assumption) | (with_reducible apply below_refl) | (with_reducible apply below_alloc1) | (with_reducible apply below_drewN1) | (with_reducible apply below_drew1))))) (OwnAt.row oX.out (by (repeat (first | (with_reducible assumption) | (with_reducible apply below_refl) | (with_reducible apply below_alloc1) | (with_reducible apply below_drewN1) | (with_reducible apply below_drew1)))))).mono ?_); rintro e w' hN; obtain ⟨rfl, hb⟩ := num3_det hN HM1.out; replace oS := hid (OwnAt.step oS.out (below_trans (by (repeat (first | (with_reducible assumption) | (with_reducible apply below_refl) | (with_reducible apply below_alloc1) | (with_reducible apply below_drewN1) | (with_reducible apply below_drew1)))) hb)); replace oX := hid (OwnAt.step oX.out (below_trans (by (repeat (first | (with_reducible assumption) | (with_reducible apply below_refl) | (with_reducible apply below_alloc1) | (with_reducible apply below_drewN1) | (with_reducible apply below_drew1)))) hb)); have hB : Below w.heap.size w w' := below_trans (by (repeat (first | (with_reducible assumption) | (with_reducible apply below_refl) | (with_reducible apply below_alloc1) | (with_reducible apply below_drewN1) | (with_reducible apply below_drew1)))) hb; clear hb hN)
        | (go_at_call 8; (with_reducible refine (b10At_any _ ms 3 8 _ (HM.out.below (by (repeat (first | (with_reducible assumption) | (with_reducible apply below_refl) | (with_reducible apply below_alloc1) | (with_reducible apply below_drewN1) | (with_reducible apply below_drew1))))) HMB.out (by omega) (by omega)).mono ?_); rw [HK.out]; rintro e w' ⟨rfl, hb⟩; replace oS := hid (OwnAt.step oS.out (below_trans (by (repeat (first | (with_reducible assumption) | (with_reducible apply below_refl) | (with_reducible apply below_alloc1) | (with_reducible apply below_drewN1) | (with_reducible apply below_drew1)))) hb)); replace oX := hid (OwnAt.step oX.out (below_trans (by (repeat (first | (with_reducible assumption) | (with_reducible apply below_refl) | (with_reducible apply below_alloc1) | (with_reducible apply below_drewN1) | (with_reducible apply below_drew1)))) hb)); have hB : Below w.heap.size w w' := below_trans (by (repeat (first | (with_reducible assumption) | (with_reducible apply below_refl) | (with_reducible apply below_alloc1) | (with_reducible apply below_drewN1) | (with_reducible apply below_drew1)))) hb; have HRW := hid (show RowAt w' (.slice (some ⟨_, 0, none⟩) 2 2) [.slice (some ⟨gS, 0, none⟩) n cS, .slice (some ⟨gS, 0, none⟩) n cS] from (rowAt_alloc _ _ [.slice (some ⟨gS, 0, none⟩) n cS, .slice (some ⟨gS, 0, none⟩) n cS] (by simp [maxLen])).below hb); clear hb)
        | (go_at_call 21; (fail_if_success have := oY); (with_reducible refine (implPaths_any _ _ [qs.map fq, qs.map fq] (qs.map (lineB B S)) (K : Int) _ (rows_two (HRW.out.below (by (repeat (first | (with_reducible assumption) | (with_reducible apply below_refl) | (with_reducible apply below_alloc1) | (with_reducible apply below_drewN1) | (with_reducible apply below_drew1))))) (OwnAt.row oS.out (by (repeat (first | (with_reducible assumption) | (with_reducible apply below_refl) | (with_reducible apply below_alloc1) | (with_reducible apply below_drewN1) | (with_reducible apply below_drew1)))))) (OwnAt.row oX.out (by (repeat (first | (with_reducible assumption) | (with_reducible apply below_refl) | (with_reducible apply below_alloc1) | (with_reducible apply below_drewN1) | (with_reducible apply below_drew1)))))).mono ?_); rw [HPS.out.1, HPS.out.2]; rintro e w' ⟨vY, rfl, ho, hb⟩; (try have dSY := row_apart oS.out (by (repeat (first | (with_reducible assumption) | (with_reducible apply below_refl) | (with_reducible apply below_alloc1) | (with_reducible apply below_drewN1) | (with_reducible apply below_drew1)))) hb); (try have dXY := row_apart oX.out (by (repeat (first | (with_reducible assumption) | (with_reducible apply below_refl) | (with_reducible apply below_alloc1) | (with_reducible apply below_drewN1) | (with_reducible apply below_drew1)))) hb); (try have dGY := row_apart oG.out (by (repeat (first | (with_reducible assumption) | (with_reducible apply below_refl) | (with_reducible apply below_alloc1) | (with_reducible apply below_drewN1) | (with_reducible apply below_drew1)))) hb); (try have dHY := row_apart oH.out (by (repeat (first | (with_reducible assumption) | (with_reducible apply below_refl) | (with_reducible apply below_alloc1) | (with_reducible apply below_drewN1) | (with_reducible apply below_drew1)))) hb); (try have dZY := row_apart oZ.out (by (repeat (first | (with_reducible assumption) | (with_reducible apply below_refl) | (with_reducible apply below_alloc1) | (with_reducible apply below_drewN1) | (with_reducible apply below_drew1)))) hb); (try have dKY := row_apart oK.out (by (repeat (first | (with_reducible assumption) | (with_reducible apply below_refl) | (with_reducible apply below_alloc1) | (with_reducible apply below_drewN1) | (with_reducible apply below_drew1)))) hb); (try have dMY := row_apart oM.out (by (repeat (first | (with_reducible assumption) | (with_reducible apply below_refl) | (with_reducible apply below_alloc1) | (with_reducible apply below_drewN1) | (with_reducible apply below_drew1)))) hb); (try have dTY := row_apart oT.out (by (repeat (first | (with_reducible assumption) | (with_reducible apply below_refl) | (with_reducible apply below_alloc1) | (with_reducible apply below_drewN1) | (with_reducible apply below_drew1)))) hb); (try have dUY := row_apart oU.out (by (repeat (first | (with_reducible assumption) | (with_reducible apply below_refl) | (with_reducible apply below_alloc1) | (with_reducible apply below_drewN1) | (with_reducible apply below_drew1)))) hb); (try have dVY := row_apart oV.out (by (repeat (first | (with_reducible assumption) | (with_reducible apply below_refl) | (with_reducible apply below_alloc1) | (with_reducible apply below_drewN1) | (with_reducible apply below_drew1)))) hb); have bY := new_lo (a := w) (by (repeat (first | (with_reducible assumption) | (with_reducible apply below_refl) | (with_reducible apply below_alloc1) | (with_reducible apply below_drewN1) | (with_reducible apply below_drew1)))) hb; (try replace oS := hid (OwnAt.step oS.out (below_trans (by (repeat (first | (with_reducible assumption) | (with_reducible apply below_refl) | (with_reducible apply below_alloc1) | (with_reducible apply below_drewN1) | (with_reducible apply below_drew1)))) hb))); (try replace oX := hid (OwnAt.step oX.out (below_trans (by (repeat (first | (with_reducible assumption) | (with_reducible apply below_refl) | (with_reducible apply below_alloc1) | (with_reducible apply below_drewN1) | (with_reducible apply below_drew1)))) hb))); (try replace oG := hid (OwnAt.step oG.out (below_trans (by (repeat (first | (with_reducible assumption) | (with_reducible apply below_refl) | (with_reducible apply below_alloc1) | (with_reducible apply below_drewN1) | (with_reducible apply below_drew1)))) hb))); (try replace oH := hid (OwnAt.step oH.out (below_trans (by (repeat (first | (with_reducible assumption) | (with_reducible apply below_refl) | (with_reducible apply below_alloc1) | (with_reducible apply below_drewN1) | (with_reducible apply below_drew1)))) hb))); (try replace oY := hid (OwnAt.step oY.out (below_trans (by (repeat (first | (with_reducible assumption) | (with_reducible apply below_refl) | (with_reducible apply below_alloc1) | (with_reducible apply below_drewN1) | (with_reducible apply below_drew1)))) hb))); (try replace oZ := hid (OwnAt.step oZ.out (below_trans (by (repeat (first | (with_reducible assumption) | (with_reducible apply below_refl) | (with_reducible apply below_alloc1) | (with_reducible apply below_drewN1) | (with_reducible apply below_drew1)))) hb))); (try replace oK := hid (OwnAt.step oK.out (below_trans (by (repeat (first | (with_reducible assumption) | (with_reducible apply below_refl) | (with_reducible apply below_alloc1) | (with_reducible apply below_drewN1) | (with_reducible apply below_drew1)))) hb))); (try replace oM := hid (OwnAt.step oM.out (below_trans (by (repeat (first | (with_reducible assumption) | (with_reducible apply below_refl) | (with_reducible apply below_alloc1) | (with_reducible apply below_drewN1) | (with_reducible apply below_drew1)))) hb))); (try replace oT := hid (OwnAt.step oT.out (below_trans (by (repeat (first | (with_reducible assumption) | (with_reducible apply below_refl) | (with_reducible apply below_alloc1) | (with_reducible apply below_drewN1) | (with_reducible apply below_drew1)))) hb))); (try replace oU := hid (OwnAt.step oU.out (below_trans (by (repeat (first | (with_reducible assumption) | (with_reducible apply below_refl) | (with_reducible apply below_alloc1) | (with_reducible apply below_drewN1) | (with_reducible apply below_drew1)))) hb))); (try replace oV := hid (OwnAt.step oV.out (below_trans (by (repeat (first | (with_reducible assumption) | (with_reducible apply below_refl) | (with_reducible apply below_alloc1) | (with_reducible apply below_drewN1) | (with_reducible apply below_drew1)))) hb))); have hB : Below w.heap.size w _ := below_trans (by (repeat (first | (with_reducible assumption) | (with_reducible apply below_refl) | (with_reducible apply below_alloc1) | (with_reducible apply below_drewN1) | (with_reducible apply below_drew1)))) hb; have hC := (bcell hB).1; have oY := hid (OwnAt.mk' ho); clear hb ho))
      obtain ⟨gX, cX, rfl, gX0, gX1⟩ := own_form oX.out hLX hn1
      obtain ⟨gY, cY, rfl, gY0, gY1⟩ := own_form oY.out (show [s0, s0].length = 2 from rfl) (by omega)
      have hgX := own_lt oX.out
      have hgY := own_lt oY.out
      have hc0 := own_cell oX.out hLX (below_refl _) (show 0 < n by omega)
      have hcn := own_cell oX.out hLX (below_refl _) (show n - 1 < n by omega)
      rw [map_getD _ qs (by rw [HQL.out]; omega)] at hc0 hcn
      have k0 : qs.getD 0 0 ≤ 44 := by have := (HRI.out.rg 0 (by rw [HQL.out]; omega)).2; omega
      have kn : qs.getD (n - 1) 0 ≤ 44 := by have := (HRI.out.rg (n - 1) (by rw [HQL.out]; omega)).2; omega
      obtain ⟨ld, le, lm, lz, l1, l2, l3, l4, l5, l6, hlz, z1, z2⟩ := law_lim HLIN.out HRI.out HQL.out hn2 hB8 hB24 hS1 hS8 k0 kn
      have HZ := hid hlz; have HZ1 := hid z1; have HZ2 := hid z2
      have cl1 : ∀ T w, (binOp .sub T (.float .f32 (lineB B S (qs.getD (n - 1) 0))) (.float .f32 (lineB B S (qs.getD 0 0)))).run Try.prog w = .ok (.float .f32 ld) w := fun T w => det_op .sub l1 T w
      have cl2 : ∀ T w, (binOp .quo T (.float .f32 ld) (.float .f32 1073741824)).run Try.prog w = .ok (.float .f32 le) w := fun T w => det_op .quo l3 T w
      have cl3 : ∀ T w, (binOp .add T (.float .f32 (lineB B S (qs.getD 0 0))) (.float .f32 le)).run Try.prog w = .ok (.float .f32 lm) w := fun T w => det_op .add l5 T w
      have hnI0 : (0 : Int) < (n : Int) := by omega
      have hnN : 0 < n := by omega
      have hjn : ((n - 1 : Nat) : Int) < (n : Int) := by omega
      have hj0 : (0 : Int) ≤ ((n - 1 : Nat) : Int) := by omega
      clear hlz z1 z2 l1 l2 l3 l4 l5
      generalize lineB B S (qs.getD 0 0) = y0 at hc0 cl1 cl3
      generalize lineB B S (qs.getD (n - 1) 0) = yn at hcn cl1
      have HZ0 := hid (lim_far HLIN.out HZ.out HZ1.out HZ2.out)
      obtain ⟨cq, cr, hCM, hcr, c1, c2, c3, c4⟩ := HLIN.out.cross HZ.out HZ1.out HZ2.out
      obtain ⟨c0, ec, ec2⟩ := hcr.some
      subst ec
      have HCM := hid hCM
      have rb := rv_base B (by omega)
      have rs := rv_fq S (by omega)
      obtain ⟨tq, tr, hTM, htr, t1, t2, t3, t4⟩ := Lin.ttl rb rs HZ.out HLIN.out.s0 HLIN.out.s2 HZ0.out.1 HZ0.out.2
      obtain ⟨t0, et, et2⟩ := htr.some
      subst et
      have HTM := hid hTM
      obtain ⟨L1, L2⟩ := cond_left hQ Q0 Q1
      obtain ⟨p1, cp1, ep1⟩ := det_conv (P := Try.prog) (src := 27) (dst := 34) rfl Try.underlying34 (x := b0) (r := rB) (by rw [eb2]; exact hBB)
      obtain ⟨p2, cp2, ep2⟩ := det_conv (P := Try.prog) (src := 27) (dst := 34) rfl Try.underlying34 rb
      obtain ⟨p3, cp3, ep3⟩ := det_conv (P := Try.prog) (src := 27) (dst := 34) rfl Try.underlying34 (x := s0) (r := rS) (by rw [es2]; exact hS)
      obtain ⟨p4, cp4, ep4⟩ := det_conv (P := Try.prog) (src := 27) (dst := 34) rfl Try.underlying34 rs
      obtain ⟨p5, cp5, ep5⟩ := det_conv (P := Try.prog) (src := 27) (dst := 34) rfl Try.underlying34 (x := c0) (r := cr) (by rw [ec2]; exact hcr)
      obtain ⟨p6, cp6, ep6⟩ := det_conv (P := Try.prog) (src := 27) (dst := 34) rfl Try.underlying34 (x := t0) (r := tr) (by rw [et2]; exact htr)
      obtain ⟨G1, eG1, F1⟩ := cond_base (ep1 ▸ rv_wid (x := ab .f32 b0) (by rw [eb2]; exact hBB)) (ep2 ▸ rv_wid rb) B1 B2
      obtain ⟨G2, eG2, F2⟩ := cond_slope (ep3 ▸ rv_wid (x := ab .f32 s0) (by rw [es2]; exact hS)) (ep4 ▸ rv_wid rs) S1 S2
      obtain ⟨G3, eG3, F3⟩ := cond_cross (ep5 ▸ rv_wid (x := ab .f32 c0) (by rw [ec2]; exact hcr)) (ep6 ▸ rv_wid (x := ab .f32 t0) (by rw [et2]; exact htr)) HLIN.out.s0 c1 c2 t1 t2
      have HG1 := hid (b10Gap_q p1 p2 G1 eG1)
      have HG2 := hid (b10Gap_q p3 p4 G2 eG2)
      have HG3 := hid (b10Gap_q p5 p6 G3 eG3)
      have HSM := hid (specSame_w s0 es2)
      rw [← eq2] at L1 L2
      rw [show some 981668463 = ab .f32 981668463 from by decide] at L2
      have HEQ := hid eq2; have HES := hid es2; have HEB := hid eb2
      clear ep1 ep2 ep3 ep4 ep5 ep6 eG1 eG2 eG3 c1 c2 c3 c4 t1 t2 t3 t4 hCM hTM hcr htr S1 S2 B1 B2 Q0 Q1 hS hBB hQ rb rs eq2 es2 eb2 ec2 et2
      go_wp2_with (first
        | go_quiet (fail)
        | (go_at_call 22; (refine (implCross_any _ _ (qs.map fq) (qs.map (lineB B S)) lm _ (OwnAt.row oS.out (by (repeat (first | (with_reducible assumption) | (with_reducible apply below_refl) | (with_reducible apply below_alloc1) | (with_reducible apply below_drewN1) | (with_reducible apply below_drew1))))) (OwnAt.row oX.out (by (repeat (first | (with_reducible assumption) | (with_reducible apply below_refl) | (with_reducible apply below_alloc1) | (with_reducible apply below_drewN1) | (with_reducible apply below_drew1)))))).mono ?_); rintro e w' hN; obtain ⟨rfl, hb⟩ := num_det hN HCM.out; replace oS := hid (OwnAt.step oS.out (below_trans (by (repeat (first | (with_reducible assumption) | (with_reducible apply below_refl) | (with_reducible apply below_alloc1) | (with_reducible apply below_drewN1) | (with_reducible apply below_drew1)))) hb)); replace oY := hid (OwnAt.step oY.out (below_trans (by (repeat (first | (with_reducible assumption) | (with_reducible apply below_refl) | (with_reducible apply below_alloc1) | (with_reducible apply below_drewN1) | (with_reducible apply below_drew1)))) hb)); have hB : Below w.heap.size w w' := below_trans (by (repeat (first | (with_reducible assumption) | (with_reducible apply below_refl) | (with_reducible apply below_alloc1) | (with_reducible apply below_drewN1) | (with_reducible apply below_drew1)))) hb; clear hb hN))
      go_wp2_with (first
        | (go_at_call 13; (with_reducible refine (HG1.out _).mono ?_); rintro e w' ⟨rfl, m, rfl⟩)
        | (go_at_call 13; (with_reducible refine (HG2.out _).mono ?_); rintro e w' ⟨rfl, m, rfl⟩)
        | (go_at_call 13; (with_reducible refine (HG3.out _).mono ?_); rintro e w' ⟨rfl, m, rfl⟩)
        | (go_at_call 19; (with_reducible refine (HSM.out _).mono ?_); rintro e w' ⟨rfl, m, rfl⟩)
        | (go_at_call 23; (refine (implTtl_any (fz B) (fq S) lm _).mono ?_); rintro e w' hN; obtain ⟨rfl, hb⟩ := num_det hN HTM.out; replace oS := hid (OwnAt.step oS.out (below_trans (by (repeat (first | (with_reducible assumption) | (with_reducible apply below_refl) | (with_reducible apply below_alloc1) | (with_reducible apply below_drewN1) | (with_reducible apply below_drew1)))) hb)); replace oY := hid (OwnAt.step oY.out (below_trans (by (repeat (first | (with_reducible assumption) | (with_reducible apply below_refl) | (with_reducible apply below_alloc1) | (with_reducible apply below_drewN1) | (with_reducible apply below_drew1)))) hb)); have hB : Below w.heap.size w w' := below_trans (by (repeat (first | (with_reducible assumption) | (with_reducible apply below_refl) | (with_reducible apply below_alloc1) | (with_reducible apply below_drewN1) | (with_reducible apply below_drew1)))) hb; have hcY0 := own_cell oY.out (show [s0, s0].length = 2 from rfl) (below_refl _) (show 0 < 2 by omega); have hcY1 := own_cell oY.out (show [s0, s0].length = 2 from rfl) (below_refl _) (show 1 < 2 by omega); rw [show [s0, s0].getD 0 0 = s0 from rfl] at hcY0; rw [show [s0, s0].getD 1 0 = s0 from rfl] at hcY1; have hgY := own_lt oY.out; clear hb hN))
      have hBb : Below w.heap.size w w' := by assumption
      replace oS := hid (OwnAt.step oS.out (show Below w'.heap.size w' _ by (repeat (first | (with_reducible assumption) | (with_reducible apply below_refl) | (with_reducible apply below_alloc1) | (with_reducible apply below_drewN1) | (with_reducible apply below_drew1)))))
      clear hcY0 hcY1 hgY oX oY HG1 HG2 HG3 HSM F1 F2 F3 L1 L2 cl1 cl2 cl3 cp1 cp2 cp3 cp4 cp5 cp6 HCM HTM hc0 hcn gX0 gX1 gY0 gY1 hgX HM1 HPS HRW
      go_wp2_with (go_at_call 24; (refine (list_any _ ms n hn11 _ (HM.out.below (by (repeat (first | (with_reducible assumption) | (with_reducible apply below_refl) | (with_reducible apply below_alloc1) | (with_reducible apply below_drewN1) | (with_reducible apply below_drew1))))) HMB.out).mono ?_); rintro e w' ⟨zs, vV, rfl, hz1, hz2, ho, hb⟩; replace oS := hid (OwnAt.step oS.out (below_trans (by (repeat (first | (with_reducible assumption) | (with_reducible apply below_refl) | (with_reducible apply below_alloc1) | (with_reducible apply below_drewN1) | (with_reducible apply below_drew1)))) hb)); have hB : Below w.heap.size w w' := below_trans (by (repeat (first | (with_reducible assumption) | (with_reducible apply below_refl) | (with_reducible apply below_alloc1) | (with_reducible apply below_drewN1) | (with_reducible apply below_drew1)))) hb; have oV := hid (OwnAt.mk' ho); have HSML := hid (lst_sml HRI.out HQL.out hn2 hn11 hz1 hz2); clear hb ho hz2)
      obtain ⟨vb, vs, vq, hVM, vb2, vs2, vq2⟩ := HSML.out.bits
      obtain ⟨vc1, vt, hVC, vc2, hvt⟩ := HSML.out.crossB
      have HVM := hid hVM; have HVC := hid hVC
      have HS1v := hid (specSame_w vb vb2); have HS2v := hid (specSame_w vs vs2); have HS3v := hid (specSame_w vq vq2)
      have HVT := hid hvt
      clear hVM hVC vb2 vs2 vq2 vc2 hvt
      go_wp2_with (first
        | (go_at_call 20; (refine (implLine_any _ _ (qs.map fq) (zs.map fz) _ (OwnAt.row oS.out (by (repeat (first | (with_reducible assumption) | (with_reducible apply below_refl) | (with_reducible apply below_alloc1) | (with_reducible apply below_drewN1) | (with_reducible apply below_drew1))))) (OwnAt.row oV.out (by (repeat (first | (with_reducible assumption) | (with_reducible apply below_refl) | (with_reducible apply below_alloc1) | (with_reducible apply below_drewN1) | (with_reducible apply below_drew1)))))).mono ?_); rintro e w' hN; obtain ⟨rfl, hb⟩ := num3_det hN HVM.out; replace oS := hid (OwnAt.step oS.out (below_trans (by (repeat (first | (with_reducible assumption) | (with_reducible apply below_refl) | (with_reducible apply below_alloc1) | (with_reducible apply below_drewN1) | (with_reducible apply below_drew1)))) hb)); replace oV := hid (OwnAt.step oV.out (below_trans (by (repeat (first | (with_reducible assumption) | (with_reducible apply below_refl) | (with_reducible apply below_alloc1) | (with_reducible apply below_drewN1) | (with_reducible apply below_drew1)))) hb)); have hB : Below w.heap.size w w' := below_trans (by (repeat (first | (with_reducible assumption) | (with_reducible apply below_refl) | (with_reducible apply below_alloc1) | (with_reducible apply below_drewN1) | (with_reducible apply below_drew1)))) hb; clear hb hN)
        | (go_at_call 25; (refine (specLine_any _ _ (qs.map fq) (zs.map fz) _ (OwnAt.row oS.out (by (repeat (first | (with_reducible assumption) | (with_reducible apply below_refl) | (with_reducible apply below_alloc1) | (with_reducible apply below_drewN1) | (with_reducible apply below_drew1))))) (OwnAt.row oV.out (by (repeat (first | (with_reducible assumption) | (with_reducible apply below_refl) | (with_reducible apply below_alloc1) | (with_reducible apply below_drewN1) | (with_reducible apply below_drew1)))))).mono ?_); rintro e w' hN; obtain ⟨rfl, hb⟩ := num3_det hN HVM.out; replace oS := hid (OwnAt.step oS.out (below_trans (by (repeat (first | (with_reducible assumption) | (with_reducible apply below_refl) | (with_reducible apply below_alloc1) | (with_reducible apply below_drewN1) | (with_reducible apply below_drew1)))) hb)); replace oV := hid (OwnAt.step oV.out (below_trans (by (repeat (first | (with_reducible assumption) | (with_reducible apply below_refl) | (with_reducible apply below_alloc1) | (with_reducible apply below_drewN1) | (with_reducible apply below_drew1)))) hb)); have hB : Below w.heap.size w w' := below_trans (by (repeat (first | (with_reducible assumption) | (with_reducible apply below_refl) | (with_reducible apply below_alloc1) | (with_reducible apply below_drewN1) | (with_reducible apply below_drew1)))) hb; clear hb hN)
        | (go_at_call 19; (with_reducible refine (HS1v.out _).mono ?_); rintro e w' ⟨rfl, m, rfl⟩)
        | (go_at_call 19; (with_reducible refine (HS2v.out _).mono ?_); rintro e w' ⟨rfl, m, rfl⟩)
        | (go_at_call 19; (with_reducible refine (HS3v.out _).mono ?_); rintro e w' ⟨rfl, m, rfl⟩)
        | (go_at_call 26; (refine (specCross_any _ _ (qs.map fq) (zs.map fz) 1073741824 _ (OwnAt.row oS.out (by (repeat (first | (with_reducible assumption) | (with_reducible apply below_refl) | (with_reducible apply below_alloc1) | (with_reducible apply below_drewN1) | (with_reducible apply below_drew1))))) (OwnAt.row oV.out (by (repeat (first | (with_reducible assumption) | (with_reducible apply below_refl) | (with_reducible apply below_alloc1) | (with_reducible apply below_drewN1) | (with_reducible apply below_drew1)))))).mono ?_); rintro e w' hN; obtain ⟨rfl, hb⟩ := num_det hN HVC.out; replace oS := hid (OwnAt.step oS.out (below_trans (by (repeat (first | (with_reducible assumption) | (with_reducible apply below_refl) | (with_reducible apply below_alloc1) | (with_reducible apply below_drewN1) | (with_reducible apply below_drew1)))) hb)); replace oV := hid (OwnAt.step oV.out (below_trans (by (repeat (first | (with_reducible assumption) | (with_reducible apply below_refl) | (with_reducible apply below_alloc1) | (with_reducible apply below_drewN1) | (with_reducible apply below_drew1)))) hb)); have hB : Below w.heap.size w w' := below_trans (by (repeat (first | (with_reducible assumption) | (with_reducible apply below_refl) | (with_reducible apply below_alloc1) | (with_reducible apply below_drewN1) | (with_reducible apply below_drew1)))) hb; clear hb hN))
      have hBc : Below w.heap.size w w' := by assumption
      have k0' : qs.getD 0 0 ≤ 44 := k0
      have HT0 := hid (map_getD fq qs (show 0 < qs.length by rw [HQL.out]; omega))
      have HTN := hid (map_getD fq qs (show n - 1 < qs.length by rw [HQL.out]; omega))
      clear HVM HS1v HS2v HS3v
      have HQF := hid HQL.out
      obtain ⟨add1, sb1, sb2, sb3, sg1, sg2, sg3⟩ := sf_told D S (by omega) (by omega) (by omega)
      obtain ⟨a1, ra1, ea1, fa1, va1⟩ := sf_bits sb1
      obtain ⟨a2, ra2, ea2, fa2, va2⟩ := sf_bits sb2
      obtain ⟨a3, ra3, ea3, fa3, va3⟩ := sf_bits sb3
      have aS := (fq_some S (by omega)).2.1
      have aS4 := (fq_some (S + 4) (by omega)).2.1
      have HSF1 := hid (show ∀ w, Calls Try.prog 27 #[.int .i64 D, .float .f32 1069547520, .float .f32 1073741824, .float .f32 (fq S), .float .f32 (fq S)] w (NumOk (some a1, true) w) from fun w => by
        have h := implStressF D (by omega) 1069547520 1073741824 (fq S) (fq S) (by rw [ab_q15, ab_c2, aS]; exact sb1) w
        rw [ab_q15, ab_c2, aS, ea1] at h; exact h)
      have HSF2 := hid (show ∀ w, Calls Try.prog 27 #[.int .i64 D, .float .f32 1056964608, .float .f32 1065353216, .float .f32 1065353216, .float .f32 (fq (S + 4))] w (NumOk (some a2, true) w) from fun w => by
        have h := implStressF D (by omega) 1056964608 1065353216 1065353216 (fq (S + 4)) (by rw [ab_ch, ab_c1, aS4]; exact sb2) w
        rw [ab_ch, ab_c1, aS4, ea2] at h; exact h)
      have HSF3 := hid (show ∀ w, Calls Try.prog 27 #[.int .i64 D, .float .f32 1056964608, .float .f32 1065353216, .float .f32 (fq (S + 4)), .float .f32 1065353216] w (NumOk (some a3, true) w) from fun w => by
        have h := implStressF D (by omega) 1056964608 1065353216 (fq (S + 4)) 1065353216 (by rw [ab_ch, ab_c1, aS4]; exact sb3) w
        rw [ab_ch, ab_c1, aS4, ea3] at h; exact h)
      have cad : ∀ T w, (binOp .add T (.float .f32 1065353216) (.float .f32 (fq S))).run Try.prog w = .ok (.float .f32 (fq (S + 4))) w := fun T w => det_op .add (by rw [ab_c1, aS]; exact add1) T w
      obtain ⟨ag, rag, eag, fag, vag, gag, ezero⟩ := age_told T (by omega)
      have aT := (fq_some T (by omega)).2.1
      obtain ⟨f1, f2, rf1, rf2, eft, ff1, ff2, vf1, vf2, gf1, gf2⟩ := fit_told
      have HTZ := hid (slope_bits T (by omega))
      obtain ⟨p1, cp1, ep1⟩ := det_conv (P := Try.prog) (src := 27) (dst := 34) rfl Try.underlying34 va1
      obtain ⟨p2, cp2, ep2⟩ := det_conv (P := Try.prog) (src := 27) (dst := 34) rfl Try.underlying34 va2
      obtain ⟨p3, cp3, ep3⟩ := det_conv (P := Try.prog) (src := 27) (dst := 34) rfl Try.underlying34 va3
      obtain ⟨p4, cp4, ep4⟩ := det_conv (P := Try.prog) (src := 27) (dst := 34) rfl Try.underlying34 vag
      obtain ⟨p5, cp5, ep5⟩ := det_conv (P := Try.prog) (src := 27) (dst := 34) rfl Try.underlying34 (rv_fq T (by omega))
      obtain ⟨p6, cp6, ep6⟩ := det_conv (P := Try.prog) (src := 27) (dst := 34) rfl Try.underlying34 vf1
      obtain ⟨p7, cp7, ep7⟩ := det_conv (P := Try.prog) (src := 27) (dst := 34) rfl Try.underlying34 vf2
      rw [fa1] at ep1; rw [fa2] at ep2; rw [fa3] at ep3; rw [fag] at ep4; rw [ff1] at ep6; rw [ff2] at ep7
      rw [ea1, ← ep1, ← ab_q2, ← ab_c64] at sg1
      rw [ea2, ea3, ← ep2, ← ep3, ← ab_one64', ← ab_c64] at sg2
      rw [ea2, ← fa2, show kone = 1065353216 from rfl] at sg3
      have z00 : (ford .f32 (some 0) (some 0) == some .eq) = true := by decide
      rw [← ep4, ← ep5, ← ab_c64] at gag
      rw [← ep6, ← ab_z64, ← ab_c64] at gf1
      rw [← ep7, ← ab_z64, ← ab_c64] at gf2
      obtain ⟨-, G1, -, h1, k1⟩ := gap_left sg1
      obtain ⟨M1, G2, h0, h2, k2⟩ := gap_left sg2
      have kM := ab_readable .mul .f64 _ _ h0
      have cmu : ∀ T w, (binOp .mul T (.float .f64 p2) (.float .f64 p3)).run Try.prog w = .ok (.float .f64 M1) w := fun T w => det_op .mul h0 T w
      rw [h0, ← kM] at h2 sg2
      obtain ⟨-, G3, -, h3, k3⟩ := gap_left gag
      obtain ⟨-, G4, -, h4, k4⟩ := gap_left gf1
      obtain ⟨-, G5, -, h5, k5⟩ := gap_left gf2
      rw [h1, ← k1] at sg1; rw [h2, ← k2] at sg2; rw [h3, ← k3] at gag; rw [h4, ← k4] at gf1; rw [h5, ← k5] at gf2
      have HG1 := hid (b10Gap_q p1 4611686018427387904 G1 h1)
      have HG2 := hid (b10Gap_q M1 4607182418800017408 G2 h2)
      have HG3 := hid (b10Gap_q p4 p5 G3 h3)
      have HG4 := hid (b10Gap_q p6 0 G4 h4)
      have HG5 := hid (b10Gap_q p7 0 G5 h5)
      have HAG := hid eag; have HAZ := hid ezero; have HFT := hid eft
      clear add1 sb1 sb2 sb3 ea1 ea2 ea3 fa1 fa2 fa3 va1 va2 va3 aS aS4 eag fag vag ezero aT eft ff1 ff2 vf1 vf2 ep1 ep2 ep3 ep4 ep5 ep6 ep7 h1 h2 h3 h4 h5 h0 k1 k2 k3 k4 k5 kM
      cases vt
      · go_wp2_with (go_at_call 22; (refine (implCross_any _ _ (qs.map fq) (zs.map fz) 1073741824 _ (OwnAt.row oS.out (by (repeat (first | (with_reducible assumption) | (with_reducible apply below_refl) | (with_reducible apply below_alloc1) | (with_reducible apply below_drewN1) | (with_reducible apply below_drew1))))) (OwnAt.row oV.out (by (repeat (first | (with_reducible assumption) | (with_reducible apply below_refl) | (with_reducible apply below_alloc1) | (with_reducible apply below_drewN1) | (with_reducible apply below_drew1)))))).mono ?_); rintro e w' hN; obtain ⟨rfl, hb⟩ := num_det hN HVC.out; have hB : Below w.heap.size w w' := below_trans (by (repeat (first | (with_reducible assumption) | (with_reducible apply below_refl) | (with_reducible apply below_alloc1) | (with_reducible apply below_drewN1) | (with_reducible apply below_drew1)))) hb; clear hb hN oS oV)
        go_wp2_with (first | (go_at_call 8; (with_reducible refine (b10At_any _ ms 4 3 _ (HM.out.below (by (repeat (first | (with_reducible assumption) | (with_reducible apply below_refl) | (with_reducible apply below_alloc1) | (with_reducible apply below_drewN1) | (with_reducible apply below_drew1))))) HMB.out (by omega) (by omega)).mono ?_); rw [HD.out]; rintro e w' ⟨rfl, hb⟩; have hB : Below w.heap.size w w' := below_trans (by (repeat (first | (with_reducible assumption) | (with_reducible apply below_refl) | (with_reducible apply below_alloc1) | (with_reducible apply below_drewN1) | (with_reducible apply below_drew1)))) hb; have hC := (bcell hB).1; clear hb) | (go_at_call 8; (with_reducible refine (b10At_any _ ms 5 33 _ (HM.out.below (by (repeat (first | (with_reducible assumption) | (with_reducible apply below_refl) | (with_reducible apply below_alloc1) | (with_reducible apply below_drewN1) | (with_reducible apply below_drew1))))) HMB.out (by omega) (by omega)).mono ?_); rw [HT.out]; rintro e w' ⟨rfl, hb⟩; have hB : Below w.heap.size w w' := below_trans (by (repeat (first | (with_reducible assumption) | (with_reducible apply below_refl) | (with_reducible apply below_alloc1) | (with_reducible apply below_drewN1) | (with_reducible apply below_drew1)))) hb; have hC := (bcell hB).1; clear hb) | (go_at_call 27; (with_reducible refine (HSF1.out _).mono ?_); rintro e w' hN; obtain ⟨rfl, hb⟩ := num_det hN rfl; have hB : Below w.heap.size w w' := below_trans (by (repeat (first | (with_reducible assumption) | (with_reducible apply below_refl) | (with_reducible apply below_alloc1) | (with_reducible apply below_drewN1) | (with_reducible apply below_drew1)))) hb; clear hb hN) | (go_at_call 27; (with_reducible refine (HSF2.out _).mono ?_); rintro e w' hN; obtain ⟨rfl, hb⟩ := num_det hN rfl; have hB : Below w.heap.size w w' := below_trans (by (repeat (first | (with_reducible assumption) | (with_reducible apply below_refl) | (with_reducible apply below_alloc1) | (with_reducible apply below_drewN1) | (with_reducible apply below_drew1)))) hb; clear hb hN) | (go_at_call 27; (with_reducible refine (HSF3.out _).mono ?_); rintro e w' hN; obtain ⟨rfl, hb⟩ := num_det hN rfl; have hB : Below w.heap.size w w' := below_trans (by (repeat (first | (with_reducible assumption) | (with_reducible apply below_refl) | (with_reducible apply below_alloc1) | (with_reducible apply below_drewN1) | (with_reducible apply below_drew1)))) hb; clear hb hN) | (refine upon_float rfl ?_; intro r nn hr; rw [ab_ofInt, HC4.out, HTZ.out] at hr; obtain rfl := (ab_some hr).1; clear hr; go_simp) | (go_at_call 28; (refine (age3_at _ _ HAG.out ?z0w _ _ ?z0b ?z0W).mono ?z0k); (case z0W => rfl); (case z0b => rfl); rintro e w' ⟨rfl, hb⟩; have hB : Below w.heap.size w w' := below_trans (by (repeat (first | (with_reducible assumption) | (with_reducible apply below_refl) | (with_reducible apply below_alloc1) | (with_reducible apply below_drewN1) | (with_reducible apply below_drew1)))) hb; clear hb) | (go_at_call 28; (refine (age1_at _ _ HAZ.out ?z1w _ _ ?z1b ?z1W).mono ?z1k); (case z1W => rfl); (case z1b => rfl); rintro e w' ⟨rfl, hb⟩; have hB : Below w.heap.size w w' := below_trans (by (repeat (first | (with_reducible assumption) | (with_reducible apply below_refl) | (with_reducible apply below_alloc1) | (with_reducible apply below_drewN1) | (with_reducible apply below_drew1)))) hb; clear hb) | (go_at_call 29; (refine (fit3_at _ _ HFT.out ?z2w _ _ ?z2b ?z2W).mono ?z2k); (case z2W => rfl); (case z2b => rfl); rintro e w' ⟨rfl, hb⟩; have hB : Below w.heap.size w w' := below_trans (by (repeat (first | (with_reducible assumption) | (with_reducible apply below_refl) | (with_reducible apply below_alloc1) | (with_reducible apply below_drewN1) | (with_reducible apply below_drew1)))) hb; clear hb) | (go_at_call 13; (with_reducible refine (HG1.out _).mono ?_); rintro e w' ⟨rfl, m, rfl⟩) | (go_at_call 13; (with_reducible refine (HG2.out _).mono ?_); rintro e w' ⟨rfl, m, rfl⟩) | (go_at_call 13; (with_reducible refine (HG3.out _).mono ?_); rintro e w' ⟨rfl, m, rfl⟩) | (go_at_call 13; (with_reducible refine (HG4.out _).mono ?_); rintro e w' ⟨rfl, m, rfl⟩) | (go_at_call 13; (with_reducible refine (HG5.out _).mono ?_); rintro e w' ⟨rfl, m, rfl⟩))
        go_ret
        exact ⟨rfl, by (repeat (first | (with_reducible assumption) | (with_reducible apply below_refl) | (with_reducible apply below_alloc1) | (with_reducible apply below_drewN1) | (with_reducible apply below_drew1)))⟩
      · obtain ⟨cc, hcc, cc1, cc2⟩ := HVT.out rfl
        obtain ⟨q', cq', eq'⟩ := det_conv (P := Try.prog) (src := 27) (dst := 34) rfl Try.underlying34 hcc
        obtain ⟨z', cz', ez'⟩ := det_conv (P := Try.prog) (src := 27) (dst := 34) rfl Try.underlying34 (rv_fq16 (qs.getD (n - 1) 0) (by omega))
        obtain ⟨F1, M, eM, F2⟩ := cond_at16 k0 kn hcc ez' eq' cc1 cc2
        have cm : ∀ T w, (binOp .add T (.float .f64 z') (.float .f64 4562254508917369340)).run Try.prog w = .ok (.float .f64 M) w := fun T w => det_op .add eM T w
        clear hcc cc1 cc2 eq' ez' eM
        generalize fq (qs.getD 0 0) = u0 at HT0 F1
        generalize fq (qs.getD (n - 1) 0) = un at HTN cz'
        go_wp2_with (go_at_call 22; (refine (implCross_any _ _ (qs.map fq) (zs.map fz) 1073741824 _ (OwnAt.row oS.out (by (repeat (first | (with_reducible assumption) | (with_reducible apply below_refl) | (with_reducible apply below_alloc1) | (with_reducible apply below_drewN1) | (with_reducible apply below_drew1))))) (OwnAt.row oV.out (by (repeat (first | (with_reducible assumption) | (with_reducible apply below_refl) | (with_reducible apply below_alloc1) | (with_reducible apply below_drewN1) | (with_reducible apply below_drew1)))))).mono ?_); rintro e w' hN; obtain ⟨rfl, hb⟩ := num_det hN HVC.out; replace oS := hid (OwnAt.step oS.out (below_trans (by (repeat (first | (with_reducible assumption) | (with_reducible apply below_refl) | (with_reducible apply below_alloc1) | (with_reducible apply below_drewN1) | (with_reducible apply below_drew1)))) hb)); have hB : Below w.heap.size w w' := below_trans (by (repeat (first | (with_reducible assumption) | (with_reducible apply below_refl) | (with_reducible apply below_alloc1) | (with_reducible apply below_drewN1) | (with_reducible apply below_drew1)))) hb; have hc0 := own_cell oS.out hLS (below_refl _) (show 0 < n by omega); have hcn := own_cell oS.out hLS (below_refl _) (show n - 1 < n by omega); rw [HT0.out] at hc0; rw [HTN.out] at hcn; have hgS := own_lt oS.out; clear hb hN oV)
        go_wp2_with (first | (go_at_call 8; (with_reducible refine (b10At_any _ ms 4 3 _ (HM.out.below (by (repeat (first | (with_reducible assumption) | (with_reducible apply below_refl) | (with_reducible apply below_alloc1) | (with_reducible apply below_drewN1) | (with_reducible apply below_drew1))))) HMB.out (by omega) (by omega)).mono ?_); rw [HD.out]; rintro e w' ⟨rfl, hb⟩; have hB : Below w.heap.size w w' := below_trans (by (repeat (first | (with_reducible assumption) | (with_reducible apply below_refl) | (with_reducible apply below_alloc1) | (with_reducible apply below_drewN1) | (with_reducible apply below_drew1)))) hb; have hC := (bcell hB).1; clear hb) | (go_at_call 8; (with_reducible refine (b10At_any _ ms 5 33 _ (HM.out.below (by (repeat (first | (with_reducible assumption) | (with_reducible apply below_refl) | (with_reducible apply below_alloc1) | (with_reducible apply below_drewN1) | (with_reducible apply below_drew1))))) HMB.out (by omega) (by omega)).mono ?_); rw [HT.out]; rintro e w' ⟨rfl, hb⟩; have hB : Below w.heap.size w w' := below_trans (by (repeat (first | (with_reducible assumption) | (with_reducible apply below_refl) | (with_reducible apply below_alloc1) | (with_reducible apply below_drewN1) | (with_reducible apply below_drew1)))) hb; have hC := (bcell hB).1; clear hb) | (go_at_call 27; (with_reducible refine (HSF1.out _).mono ?_); rintro e w' hN; obtain ⟨rfl, hb⟩ := num_det hN rfl; have hB : Below w.heap.size w w' := below_trans (by (repeat (first | (with_reducible assumption) | (with_reducible apply below_refl) | (with_reducible apply below_alloc1) | (with_reducible apply below_drewN1) | (with_reducible apply below_drew1)))) hb; clear hb hN) | (go_at_call 27; (with_reducible refine (HSF2.out _).mono ?_); rintro e w' hN; obtain ⟨rfl, hb⟩ := num_det hN rfl; have hB : Below w.heap.size w w' := below_trans (by (repeat (first | (with_reducible assumption) | (with_reducible apply below_refl) | (with_reducible apply below_alloc1) | (with_reducible apply below_drewN1) | (with_reducible apply below_drew1)))) hb; clear hb hN) | (go_at_call 27; (with_reducible refine (HSF3.out _).mono ?_); rintro e w' hN; obtain ⟨rfl, hb⟩ := num_det hN rfl; have hB : Below w.heap.size w w' := below_trans (by (repeat (first | (with_reducible assumption) | (with_reducible apply below_refl) | (with_reducible apply below_alloc1) | (with_reducible apply below_drewN1) | (with_reducible apply below_drew1)))) hb; clear hb hN) | (refine upon_float rfl ?_; intro r nn hr; rw [ab_ofInt, HC4.out, HTZ.out] at hr; obtain rfl := (ab_some hr).1; clear hr; go_simp) | (go_at_call 28; (refine (age3_at _ _ HAG.out ?y0w _ _ ?y0b ?y0W).mono ?y0k); (case y0W => rfl); (case y0b => rfl); rintro e w' ⟨rfl, hb⟩; have hB : Below w.heap.size w w' := below_trans (by (repeat (first | (with_reducible assumption) | (with_reducible apply below_refl) | (with_reducible apply below_alloc1) | (with_reducible apply below_drewN1) | (with_reducible apply below_drew1)))) hb; clear hb) | (go_at_call 28; (refine (age1_at _ _ HAZ.out ?y1w _ _ ?y1b ?y1W).mono ?y1k); (case y1W => rfl); (case y1b => rfl); rintro e w' ⟨rfl, hb⟩; have hB : Below w.heap.size w w' := below_trans (by (repeat (first | (with_reducible assumption) | (with_reducible apply below_refl) | (with_reducible apply below_alloc1) | (with_reducible apply below_drewN1) | (with_reducible apply below_drew1)))) hb; clear hb) | (go_at_call 29; (refine (fit3_at _ _ HFT.out ?y2w _ _ ?y2b ?y2W).mono ?y2k); (case y2W => rfl); (case y2b => rfl); rintro e w' ⟨rfl, hb⟩; have hB : Below w.heap.size w w' := below_trans (by (repeat (first | (with_reducible assumption) | (with_reducible apply below_refl) | (with_reducible apply below_alloc1) | (with_reducible apply below_drewN1) | (with_reducible apply below_drew1)))) hb; clear hb) | (go_at_call 13; (with_reducible refine (HG1.out _).mono ?_); rintro e w' ⟨rfl, m, rfl⟩) | (go_at_call 13; (with_reducible refine (HG2.out _).mono ?_); rintro e w' ⟨rfl, m, rfl⟩) | (go_at_call 13; (with_reducible refine (HG3.out _).mono ?_); rintro e w' ⟨rfl, m, rfl⟩) | (go_at_call 13; (with_reducible refine (HG4.out _).mono ?_); rintro e w' ⟨rfl, m, rfl⟩) | (go_at_call 13; (with_reducible refine (HG5.out _).mono ?_); rintro e w' ⟨rfl, m, rfl⟩))
        go_ret
        exact ⟨rfl, by (repeat (first | (with_reducible assumption) | (with_reducible apply below_refl) | (with_reducible apply below_alloc1) | (with_reducible apply below_drewN1) | (with_reducible apply below_drew1)))⟩
end Go.Proofs.Ytkaeohlakeliiaa
