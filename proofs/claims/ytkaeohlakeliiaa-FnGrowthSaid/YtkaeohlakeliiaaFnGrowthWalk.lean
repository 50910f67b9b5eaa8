/- The walk of laws.FnGrowth. -/
import Derived.Test.YtkaeohlakeliiaaGf6
namespace Go.Proofs.Ytkaeohlakeliiaa
open Go.RowKit

theorem ab_readable (op : BinOp) (k : FloatKind) (x y : Option Nat) {b : Nat} (h : fop op k x y = some b) : ab k b = some b := by
  cases x with
  | none => rw [fop_none_left] at h; cases h
  | some a =>
    cases y with
    | none => rw [fop_none_right] at h; cases h
    | some c => exact (floatBits_nan (op := op) (x := a) (y := c) h).1
theorem map_get (f : Nat → Nat) (qs : List Nat) {k : Nat} (hk : k < qs.length) : (qs.map f).getD k 0 = f (qs.getD k 0) := by simp [hk]
theorem mulQ_one (qs : List Nat) : mulQ 1 qs = qs.map fq := by simp [mulQ]
theorem dbl_all (qs : List Nat) {n : Nat} (h : qs.length = n) : (List.range n).map (fun j => fq (2 * qs.getD j 0)) = mulQ 2 qs := by
  subst h
  apply List.ext_getElem
  · simp [mulQ]
  · intro i h1 h2
    simp only [mulQ_len] at h2
    simp [mulQ, h2]
theorem fit1_at {qs : List Nat} {q : Nat} (h : Ris qs q) (hn : qs.length ≤ 8) (h1 : 1 ≤ qs.length) (v : Value) (w : World) (hv : RowAt w v ((qs.map fq).map (Value.float .f32))) :
    Calls Try.prog 10 #[v, .float .f32 (fq (q + 4))] w (FitRes (scX 1 q qs) (shX q qs) w) := by
  have h2 := implGFit 1 (Or.inl rfl) qs q h hn h1 v w (by rw [mulQ_one]; exact hv)
  rw [Nat.one_mul] at h2
  exact h2
theorem fit2_at {qs : List Nat} {q : Nat} (h : Ris qs q) (hn : qs.length ≤ 8) (h1 : 1 ≤ qs.length) (v : Value) (w : World) (hv : RowAt w v ((mulQ 2 qs).map (Value.float .f32))) :
    Calls Try.prog 10 #[v, .float .f32 (fq (2 * (q + 4)))] w (FitRes (scX 2 q qs) (shX q qs) w) := implGFit 2 (Or.inr rfl) qs q h hn h1 v w hv
/-- The sums of growth at the law's times. -/
theorem sums_law {qs : List Nat} {q : Nat} (h : Ris qs q) (hn : qs.length ≤ 8) (h1 : 1 ≤ qs.length) : growAll (qs.map fq) (ab .f32 (fq (q + 4))) = true ∧ (growXs (qs.map fq) (ab .f32 (fq (q + 4)))).length = qs.length ∧
    ∀ k, k < qs.length → ∃ r, RV .f32 (ab .f32 ((growXs (qs.map fq) (ab .f32 (fq (q + 4)))).getD k 0)) r ∧ r * ((qs.getD k 0 : Nat) / 4) ≤ ((k + 1 : Nat) : Rat) + 1 / 10000 ∧ ((k + 1 : Nat) : Rat) ≤ r * ((qs.getD k 0 : Nat) / 4) + 1 / 10000 ∧ 0 ≤ r ∧ r ≤ 33 := by
  have hlen : (qs.map fq).length = qs.length := List.length_map _
  have hrv : ∀ k, k < qs.length → ∃ r, RV .f32 (growX (qs.map fq) k) r ∧ r * ((qs.getD k 0 : Nat) / 4) ≤ ((k + 1 : Nat) : Rat) + 1 / 10000 ∧ ((k + 1 : Nat) : Rat) ≤ r * ((qs.getD k 0 : Nat) / 4) + 1 / 10000 ∧ 0 ≤ r ∧ r ≤ 33 := by
    intro k hk
    obtain ⟨a1, a2, a3⟩ := rise_lt h hn hk
    have ht := rv_fq (qs.getD k 0) (by omega)
    have hN := rv_ofInt32 ((k : Int) + 1) (by omega)
    have eN : (((k : Int) + 1 : Int) : Rat) = ((k + 1 : Nat) : Rat) := by rw [← Rat.intCast_natCast, Int.natCast_add]; rfl
    rw [eN] at hN
    unfold growX
    rw [map_get fq qs hk]
    have b1 := Rat.natCast_le_natCast.2 (show 1 ≤ qs.getD k 0 by omega)
    have b2 := Rat.natCast_le_natCast.2 (show qs.getD k 0 ≤ 36 by omega)
    have b3 := Rat.natCast_le_natCast.2 (show k + 1 ≤ 8 by omega)
    have b4 := Rat.natCast_le_natCast.2 (show 0 ≤ k + 1 by omega)
    rw [show ((1 : Nat) : Rat) = 1 from rfl] at b1
    rw [show ((36 : Nat) : Rat) = 36 from rfl] at b2
    rw [show ((8 : Nat) : Rat) = 8 from rfl] at b3
    rw [show ((0 : Nat) : Rat) = 0 from rfl] at b4
    generalize ((qs.getD k 0 : Nat) : Rat) = t at *
    generalize ((k + 1 : Nat) : Rat) = m at *
    have hd := Rat.div_mul_cancel (a := m) (b := t / 4) (by grind)
    have htp : 0 < t / 4 := by grind
    have d0 : 0 ≤ m / (t / 4) := Rat.le_of_mul_le_mul_right (c := t / 4) (by rw [hd]; grind) htp
    have d1 : m / (t / 4) ≤ 32 := Rat.le_of_mul_le_mul_right (c := t / 4) (by rw [hd]; grind) htp
    obtain ⟨r, hr, -, r0, r1, r2⟩ := near32 (wn_div hN ht htp) 32 (by grind) (by grind) d1
    have r0 := r0 d0
    rw [tiny_eq] at *
    have e1 := Rat.mul_le_mul_of_nonneg_right r1 (Rat.le_of_lt htp)
    have e2 := Rat.mul_le_mul_of_nonneg_right r2 (Rat.le_of_lt htp)
    refine ⟨r, hr, ?_, ?_, r0, by grind⟩
    · generalize m / (t / 4) = x at *
      grind
    · generalize m / (t / 4) = x at *
      grind
  obtain ⟨f1, f2, f3⟩ := list_rv (L := growL (qs.map fq) qs.length) (n := qs.length) rfl (fun k hk => by obtain ⟨r, hr, _⟩ := hrv k hk; exact ⟨r, hr⟩)
  have hok := grow_ok 1 (Or.inl rfl) h hn h1
  rw [mulQ_one, Nat.one_mul] at hok
  have hall : growAll (qs.map fq) (ab .f32 (fq (q + 4))) = true := by unfold growAll; rw [hok, hlen, f1]; rfl
  rw [grow_yes hall, hlen]
  refine ⟨hall, f2, fun k hk => ?_⟩
  rw [(f3 k hk).1]
  exact hrv k hk
theorem gsums_at {qs : List Nat} {q : Nat} (h : growAll (qs.map fq) (ab .f32 (fq (q + 4))) = true) (v : Value) (w : World) (hv : RowAt w v ((qs.map fq).map (Value.float .f32))) :
    Calls Try.prog 11 #[v, .float .f32 (fq (q + 4))] w (FRowOk 27 (growXs (qs.map fq) (ab .f32 (fq (q + 4)))) true w) := by
  have h1 := implGrow_any v (qs.map fq) (fq (q + 4)) w hv
  rw [h] at h1
  exact h1
set_option maxRecDepth 100000 in
set_option maxHeartbeats 4000000 in
theorem walk_FnGrowth (vc : Value) (cs : List Int) (vm : Value) (ms : List Int) (w : World) (hc : RowAt w vc (cs.map (Value.int .u8))) (hcb : ∀ b ∈ cs, 0 ≤ b ∧ b ≤ 255) (hm : RowAt w vm (ms.map (Value.int .u8))) (hmb : ∀ b ∈ ms, 0 ≤ b ∧ b ≤ 255) :
    Calls Try.prog 3 #[vc, vm] w fun e w' => e = .returned (.bool true) ∧ Below w.heap.size w w' := by
  obtain ⟨i0, hi0, hz0, hz1, hz2⟩ := info_parts (P := Try.prog) (e := 27) (z := Value.float .f32 0) (size := 1) (bytes := 4) (by kernel_rfl)
  have HC := hid hc; have HM := hid hm; have HCB := hid hcb; have HMB := hid hmb
  clear hc hm hcb hmb
  cases hl : (decide (1048576 < cs.length) || decide (1048576 < ms.length))
  rotate_left
  · have HL := hid hl; clear hl
    go_enter Try.func3, Try.ntmps3
    go_wp2_with (go_at_call 7; (with_reducible refine (b10Long_any _ _ cs ms _ (HC.out.below (by (repeat (first | (with_reducible assumption) | (with_reducible apply below_refl) | (with_reducible apply below_alloc1) | (with_reducible apply below_drewN1) | (with_reducible apply below_drew1))))) (HM.out.below (by (repeat (first | (with_reducible assumption) | (with_reducible apply below_refl) | (with_reducible apply below_alloc1) | (with_reducible apply below_drewN1) | (with_reducible apply below_drew1))))) true HL.out).mono ?_); rintro e w' ⟨rfl, hb⟩; have hB : Below w.heap.size w w' := below_trans (by (repeat (first | (with_reducible assumption) | (with_reducible apply below_refl) | (with_reducible apply below_alloc1) | (with_reducible apply below_drewN1) | (with_reducible apply below_drew1)))) hb; have hC := (bcell hB).1; clear hb)
    go_ret
    exact ⟨rfl, by assumption⟩
  have HL := hid hl; clear hl
  obtain ⟨A, hA⟩ : ∃ A, byteAt ms 0 8 = A := ⟨_, rfl⟩
  have bA := byteAt_bd ms 0 8 (by decide)
  rw [hA] at bA
  obtain ⟨B, hB⟩ : ∃ B, byteAt ms 1 256 = B := ⟨_, rfl⟩
  have bB := byteAt_bd ms 1 256 (by decide)
  rw [hB] at bB
  obtain ⟨C, hC⟩ : ∃ C, byteAt ms 2 256 = C := ⟨_, rfl⟩
  have bC := byteAt_bd ms 2 256 (by decide)
  rw [hC] at bC
  have HA := hid hA; have HB := hid hB; have HCC := hid hC
  clear hA hB hC
  obtain ⟨n, hn⟩ : ∃ n, (1 + A).toNat = n := ⟨_, rfl⟩
  have hnI : (1 + A) = (n : Int) := by omega
  have hn1 : 1 ≤ n := by omega
  have hn8 : n ≤ 8 := by omega
  have hn11 : n ≤ 11 := by omega
  have W1 : IntKind.i64.wrap (n : Int) = (n : Int) := by rw [IntKind.wrap_i64]; omega
  have W2 : IntKind.i64.wrap (1000 * B) = 1000 * B := by rw [IntKind.wrap_i64]; omega
  have W3 : IntKind.i64.wrap (1000 * B + C) = 1000 * B + C := by rw [IntKind.wrap_i64]; omega
  have W4 : IntKind.i64.wrap ((n : Int) - 1) = ((n - 1 : Nat) : Int) := by rw [IntKind.wrap_i64]; omega
  have i1 : ((n : Int) - 1).toNat = n - 1 := by omega
  have hjn : ((n - 1 : Nat) : Int) < (n : Int) := by omega
  have hj0 : (0 : Int) ≤ ((n - 1 : Nat) : Int) := by omega
  go_enter Try.func3, Try.ntmps3
  go_wp2_with (first
    | (go_at_call 7; (with_reducible refine (b10Long_any _ _ cs ms _ (HC.out.below (by (repeat (first | (with_reducible assumption) | (with_reducible apply below_refl) | (with_reducible apply below_alloc1) | (with_reducible apply below_drewN1) | (with_reducible apply below_drew1))))) (HM.out.below (by (repeat (first | (with_reducible assumption) | (with_reducible apply below_refl) | (with_reducible apply below_alloc1) | (with_reducible apply below_drewN1) | (with_reducible apply below_drew1))))) false HL.out).mono ?_); rintro e w' ⟨rfl, hb⟩; have hB : Below w.heap.size w w' := below_trans (by (repeat (first | (with_reducible assumption) | (with_reducible apply below_refl) | (with_reducible apply below_alloc1) | (with_reducible apply below_drewN1) | (with_reducible apply below_drew1)))) hb; have hC := (bcell hB).1; clear hb)
    | (go_at_call 8; (with_reducible refine (b10At_any _ ms 0 8 _ (HM.out.below (by (repeat (first | (with_reducible assumption) | (with_reducible apply below_refl) | (with_reducible apply below_alloc1) | (with_reducible apply below_drewN1) | (with_reducible apply below_drew1))))) HMB.out (by omega) (by omega)).mono ?_); rw [HA.out]; rintro e w' ⟨rfl, hb⟩; have hB : Below w.heap.size w w' := below_trans (by (repeat (first | (with_reducible assumption) | (with_reducible apply below_refl) | (with_reducible apply below_alloc1) | (with_reducible apply below_drewN1) | (with_reducible apply below_drew1)))) hb; have hC := (bcell hB).1; clear hb)
    | (go_at_call 9; (refine (rising_any _ cs n hn11 _ (HC.out.below (by (repeat (first | (with_reducible assumption) | (with_reducible apply below_refl) | (with_reducible apply below_alloc1) | (with_reducible apply below_drewN1) | (with_reducible apply below_drew1))))) HCB.out).mono ?_); rintro e w' ⟨qs, q, vS, rfl, hql, hRI, ho, hb⟩; have hB : Below w.heap.size w w' := below_trans (by (repeat (first | (with_reducible assumption) | (with_reducible apply below_refl) | (with_reducible apply below_alloc1) | (with_reducible apply below_drewN1) | (with_reducible apply below_drew1)))) hb; have HQL := hid hql; have HRI := hid hRI; have oS := hid (OwnAt.mk' ho); clear hb ho hql hRI; obtain ⟨gS, cS, rfl, gS0, gS1⟩ := own_form oS.out (show (qs.map fq).length = n by rw [List.length_map]; exact HQL.out) hn1; have hcL := own_cell oS.out (show (qs.map fq).length = n by rw [List.length_map]; exact HQL.out) (below_refl _) (show n - 1 < n by omega); have hgS := own_lt oS.out; rw [map_get fq qs (by rw [HQL.out]; omega), show qs.getD (n - 1) 0 = q from (by rw [← HQL.out]; exact HRI.out.last (by rw [HQL.out]; omega))] at hcL; have HFQ := hid (fq_some q (by have := HRI.out.most; rw [HQL.out] at this; omega)).2.1; have HTO := hid (fq_to q (by have := HRI.out.most; rw [HQL.out] at this; omega)))
    | (refine upon_float rfl ?_; intro r nn hr; (obtain rfl : fq (q + 4) = r := (by rw [HFQ.out, ab_one32, HTO.out] at hr; exact (ab_some hr).1)); clear hr; go_simp))
  clear hcL
  have hb1 : Below w.heap.size w w' := by (repeat (first | (with_reducible assumption) | (with_reducible apply below_refl) | (with_reducible apply below_alloc1) | (with_reducible apply below_drewN1) | (with_reducible apply below_drew1)))
  have hsz : w'.heap.size ≤ (w'.drewN nn).heap.size := Nat.le_refl _
  have hq36 : q ≤ 32 := by have := HRI.out.most; rw [HQL.out] at this; omega
  go_loopw [8, 55] (fun v y wr => ∃ k : Nat, k ≤ n ∧ y = .int .i64 k ∧ Hid (wr.ownsRow w'.heap.size 27 1 v (((List.range k).map fun j => fq (2 * qs.getD j 0)).map (Value.float .f32)).length (((List.range k).map fun j => fq (2 * qs.getD j 0)).map (Value.float .f32))) ∧ Below w'.heap.size w' wr) (fun _ y _ => n - (intOf y).toNat)
  case atStart => exact ⟨0, by omega, rfl, hid (World.ownsRow_made _ #[] 0 hsz (by simp [maxLen]) rfl), by (repeat (first | (with_reducible assumption) | (with_reducible apply below_refl) | (with_reducible apply below_alloc1) | (with_reducible apply below_drewN1) | (with_reducible apply below_drew1)))⟩
  case round =>
    obtain ⟨k, hk, rfl, ho, hv1⟩ := hrel
    have hw := below_trans hb1 hv1
    by_cases hlt : k < n
    · have hcell := own_cell oS.out (show (qs.map fq).length = n by rw [List.length_map]; exact HQL.out) hv1 hlt
      rw [map_get fq qs (by rw [HQL.out]; omega)] at hcell
      have hx := (HRI.out.rg k (by rw [HQL.out]; omega)).2
      have HX1 := hid (fq_some (qs.getD k 0) (by omega)).2.1
      have HX2 := hid (fq_dbl (qs.getD k 0) (by omega))
      have HX3 := hid (range_next (fun j => fq (2 * qs.getD j 0)) k)
      generalize qs.getD k 0 = x at hcell HX1 HX2 HX3
      have hgr : gS < wr.heap.size := Nat.lt_of_lt_of_le hgS hv1.size
      have hltI : (k : Int) < (n : Int) := by omega
      have hk0 : (0 : Int) ≤ (k : Int) := by omega
      go_wp2_with (first
        | (refine upon_float rfl ?_; intro r mm hr; (obtain rfl : fq (2 * x) = r := (by rw [HX1.out, ab_ktwo, HX2.out] at hr; exact (ab_some hr).1)); clear hr; go_simp)
        | (at_builtin; refine wpList_push rfl _ _ 25 rfl Try.underlying25 hi0 hz0 hz1 hz2 rfl w'.heap.size _ _ rfl rfl (ownsRow_below ho.out (by (repeat (first | (with_reducible assumption) | (with_reducible apply below_refl) | (with_reducible apply below_alloc1) | (with_reducible apply below_drewN1) | (with_reducible apply below_drew1))))) rfl (by rw [List.length_map, List.length_map, List.length_range]; omega) (by decide) (Nat.le_trans hv1.size (Below.size (show Below wr.heap.size wr _ by (repeat (first | (with_reducible assumption) | (with_reducible apply below_refl) | (with_reducible apply below_alloc1) | (with_reducible apply below_drewN1) | (with_reducible apply below_drew1)))))) ?_; intro v1 w2 hown hb2))
      go_roundw
      case rel =>
        refine ⟨k + 1, by omega, by go_num, hid ?_, (below_trans hv1 (by (repeat (first | (with_reducible assumption) | (with_reducible apply below_refl) | (with_reducible apply below_alloc1) | (with_reducible apply below_drewN1) | (with_reducible apply below_drew1))))).trans hb2⟩
        rw [HX3.out, fl_vals]
        exact hown
      case measure => simp [intOf]; omega
    · obtain rfl : n = k := by omega
      have ho2 := ho.out
      rw [dbl_all qs HQL.out] at ho2
      have oD := hid (show OwnAt wr w'.heap.size wr.heap.size 27 _ ((mulQ 2 qs).map (Value.float .f32)) from ⟨Own.mk' ho2, Nat.le_refl _⟩)
      replace oS := hid (OwnAt.step oS.out hv1)
      have hql8 : qs.length ≤ 8 := by rw [HQL.out]; exact hn8
      have hql1 : 1 ≤ qs.length := by rw [HQL.out]; exact hn1
      have HF1 := hid (fit1_at HRI.out hql8 hql1)
      have HF2 := hid (fit2_at HRI.out hql8 hql1)
      have HSU := hid (sums_law HRI.out hql8 hql1)
      have HGS := hid (gsums_at HSU.out.1)
      have HFT := hid (fq_some (q + 4) (by omega)).2.1
      have HD2 := hid (fq_dbl (q + 4) (by omega))
      have HFO := hid (fit_ok HRI.out hql8 hql1)
      obtain ⟨s1, s2, g, hs1, hs2, hg, g1, g2, a1, a2, b1, b2, b0⟩ := fit_law HFO.out hq36
      have HS1 := hid hs1; have HS2 := hid hs2; have HSG := hid hg
      have HNUM := hid (And.intro g1 (And.intro g2 (And.intro a1 (And.intro a2 (And.intro b1 (And.intro b2 b0))))))
      have HQS := hid (show g / s1 ≤ 100000000000 from by
        have hd := Rat.div_mul_cancel (a := g) (b := s1) (by grind)
        exact Rat.le_of_mul_le_mul_right (c := s1) (by rw [hd]; grind) (by grind))
      clear ho ho2 hb1 hsz hgS hk hlt hql8 hql1 hs1 hs2 hg g1 g2 a1 a2 b1 b2 b0
      go_wp2_with (first
        | (go_at_call 10; (fail_if_success have := hsc1); (with_reducible refine (HF1.out _ _ (OwnAt.row oS.out (by (repeat (first | (with_reducible assumption) | (with_reducible apply below_refl) | (with_reducible apply below_alloc1) | (with_reducible apply below_drewN1) | (with_reducible apply below_drew1)))))).mono ?_); rintro e w' ⟨sc1, sh1, rfl, hsc1, hsh1, hb⟩; replace oS := hid (OwnAt.step oS.out (below_trans (by (repeat (first | (with_reducible assumption) | (with_reducible apply below_refl) | (with_reducible apply below_alloc1) | (with_reducible apply below_drewN1) | (with_reducible apply below_drew1)))) hb)); replace oD := hid (OwnAt.step oD.out (below_trans (by (repeat (first | (with_reducible assumption) | (with_reducible apply below_refl) | (with_reducible apply below_alloc1) | (with_reducible apply below_drewN1) | (with_reducible apply below_drew1)))) hb)); have hB : Below w.heap.size w w' := below_trans (by (repeat (first | (with_reducible assumption) | (with_reducible apply below_refl) | (with_reducible apply below_alloc1) | (with_reducible apply below_drewN1) | (with_reducible apply below_drew1)))) hb; have HSC1 := hid hsc1; have HSH1 := hid hsh1; clear hb hsh1)
        | (refine upon_float rfl ?_; intro r mm hr; (obtain rfl : fq (2 * (q + 4)) = r := (by rw [HFT.out, ab_ktwo, HD2.out] at hr; exact (ab_some hr).1)); clear hr; go_simp)
        | (go_at_call 10; (refine (HF2.out _ _ (OwnAt.row oD.out (by (repeat (first | (with_reducible assumption) | (with_reducible apply below_refl) | (with_reducible apply below_alloc1) | (with_reducible apply below_drewN1) | (with_reducible apply below_drew1)))))).mono ?_); rintro e w' ⟨sc2, sh2, rfl, hsc2, hsh2, hb⟩; replace oS := hid (OwnAt.step oS.out (below_trans (by (repeat (first | (with_reducible assumption) | (with_reducible apply below_refl) | (with_reducible apply below_alloc1) | (with_reducible apply below_drewN1) | (with_reducible apply below_drew1)))) hb)); have hB : Below w.heap.size w w' := below_trans (by (repeat (first | (with_reducible assumption) | (with_reducible apply below_refl) | (with_reducible apply below_alloc1) | (with_reducible apply below_drewN1) | (with_reducible apply below_drew1)))) hb; have HSC2 := hid hsc2; have HSH2 := hid hsh2; clear hb hsh2 hsc2)
        | ((go_at_call 11; (fail_if_success have := oG); (with_reducible refine (HGS.out _ _ (OwnAt.row oS.out (by (repeat (first | (with_reducible assumption) | (with_reducible apply below_refl) | (with_reducible apply below_alloc1) | (with_reducible apply below_drewN1) | (with_reducible apply below_drew1)))))).mono ?_); rintro e w' ⟨vG, rfl, ho, hb⟩; (try have dSG := row_apart oS.out (by (repeat (first | (with_reducible assumption) | (with_reducible apply below_refl) | (with_reducible apply below_alloc1) | (with_reducible apply below_drewN1) | (with_reducible apply below_drew1)))) hb); (try have dXG := row_apart oX.out (by (repeat (first | (with_reducible assumption) | (with_reducible apply below_refl) | (with_reducible apply below_alloc1) | (with_reducible apply below_drewN1) | (with_reducible apply below_drew1)))) hb); (try have dHG := row_apart oH.out (by (repeat (first | (with_reducible assumption) | (with_reducible apply below_refl) | (with_reducible apply below_alloc1) | (with_reducible apply below_drewN1) | (with_reducible apply below_drew1)))) hb); (try have dYG := row_apart oY.out (by (repeat (first | (with_reducible assumption) | (with_reducible apply below_refl) | (with_reducible apply below_alloc1) | (with_reducible apply below_drewN1) | (with_reducible apply below_drew1)))) hb); (try have dZG := row_apart oZ.out (by (repeat (first | (with_reducible assumption) | (with_reducible apply below_refl) | (with_reducible apply below_alloc1) | (with_reducible apply below_drewN1) | (with_reducible apply below_drew1)))) hb); (try have dKG := row_apart oK.out (by (repeat (first | (with_reducible assumption) | (with_reducible apply below_refl) | (with_reducible apply below_alloc1) | (with_reducible apply below_drewN1) | (with_reducible apply below_drew1)))) hb); (try have dMG := row_apart oM.out (by (repeat (first | (with_reducible assumption) | (with_reducible apply below_refl) | (with_reducible apply below_alloc1) | (with_reducible apply below_drewN1) | (with_reducible apply below_drew1)))) hb); (try have dTG := row_apart oT.out (by (repeat (first | (with_reducible assumption) | (with_reducible apply below_refl) | (with_reducible apply below_alloc1) | (with_reducible apply below_drewN1) | (with_reducible apply below_drew1)))) hb); (try have dUG := row_apart oU.out (by (repeat (first | (with_reducible assumption) | (with_reducible apply below_refl) | (with_reducible apply below_alloc1) | (with_reducible apply below_drewN1) | (with_reducible apply below_drew1)))) hb); (try have dVG := row_apart oV.out (by (repeat (first | (with_reducible assumption) | (with_reducible apply below_refl) | (with_reducible apply below_alloc1) | (with_reducible apply below_drewN1) | (with_reducible apply below_drew1)))) hb); have bG := new_lo (a := w) (by (repeat (first | (with_reducible assumption) | (with_reducible apply below_refl) | (with_reducible apply below_alloc1) | (with_reducible apply below_drewN1) | (with_reducible apply below_drew1)))) hb; (try replace oS := hid (OwnAt.step oS.out (below_trans (by (repeat (first | (with_reducible assumption) | (with_reducible apply below_refl) | (with_reducible apply below_alloc1) | (with_reducible apply below_drewN1) | (with_reducible apply below_drew1)))) hb))); (try replace oX := hid (OwnAt.step oX.out (below_trans (by (repeat (first | (with_reducible assumption) | (with_reducible apply below_refl) | (with_reducible apply below_alloc1) | (with_reducible apply below_drewN1) | (with_reducible apply below_drew1)))) hb))); (try replace oG := hid (OwnAt.step oG.out (below_trans (by (repeat (first | (with_reducible assumption) | (with_reducible apply below_refl) | (with_reducible apply below_alloc1) | (with_reducible apply below_drewN1) | (with_reducible apply below_drew1)))) hb))); (try replace oH := hid (OwnAt.step oH.out (below_trans (by (repeat (first | (with_reducible assumption) | (with_reducible apply below_refl) | (with_reducible apply below_alloc1) | (with_reducible apply below_drewN1) | (with_reducible apply below_drew1)))) hb))); (try replace oY := hid (OwnAt.step oY.out (below_trans (by (repeat (first | (with_reducible assumption) | (with_reducible apply below_refl) | (with_reducible apply below_alloc1) | (with_reducible apply below_drewN1) | (with_reducible apply below_drew1)))) hb))); (try replace oZ := hid (OwnAt.step oZ.out (below_trans (by (repeat (first | (with_reducible assumption) | (with_reducible apply below_refl) | (with_reducible apply below_alloc1) | (with_reducible apply below_drewN1) | (with_reducible apply below_drew1)))) hb))); (try replace oK := hid (OwnAt.step oK.out (below_trans (by (repeat (first | (with_reducible assumption) | (with_reducible apply below_refl) | (with_reducible apply below_alloc1) | (with_reducible apply below_drewN1) | (with_reducible apply below_drew1)))) hb))); (try replace oM := hid (OwnAt.step oM.out (below_trans (by (repeat (first | (with_reducible assumption) | (with_reducible apply below_refl) | (with_reducible apply below_alloc1) | (with_reducible apply below_drewN1) | (with_reducible apply below_drew1)))) hb))); (try replace oT := hid (OwnAt.step oT.out (below_trans (by (repeat (first | (with_reducible assumption) | (with_reducible apply below_refl) | (with_reducible apply below_alloc1) | (with_reducible apply below_drewN1) | (with_reducible apply below_drew1)))) hb))); (try replace oU := hid (OwnAt.step oU.out (below_trans (by (repeat (first | (with_reducible assumption) | (with_reducible apply below_refl) | (with_reducible apply below_alloc1) | (with_reducible apply below_drewN1) | (with_reducible apply below_drew1)))) hb))); (try replace oV := hid (OwnAt.step oV.out (below_trans (by (repeat (first | (with_reducible assumption) | (with_reducible apply below_refl) | (with_reducible apply below_alloc1) | (with_reducible apply below_drewN1) | (with_reducible apply below_drew1)))) hb))); have hB : Below w.heap.size w _ := below_trans (by (repeat (first | (with_reducible assumption) | (with_reducible apply below_refl) | (with_reducible apply below_alloc1) | (with_reducible apply below_drewN1) | (with_reducible apply below_drew1)))) hb; have hC := (bcell hB).1; have oG := hid (OwnAt.mk' ho); clear hb ho); obtain ⟨gG, cG, rfl, gG0, gG1⟩ := own_form oG.out (HSU.out.2.1.trans HQL.out) hn1)
        | (go_at_call 12
           have hv1 : RV .f32 (ab .f32 sc1) s1 := HSC1.out ▸ HS1.out
           have hv2 : RV .f32 (ab .f32 sc2) s2 := HSC2.out ▸ HS2.out
           have hv3 : RV .f32 (ab .f32 sh1) g := HSH1.out ▸ HSG.out
           have hv4 : RV .f32 (ab .f32 sh2) g := HSH2.out ▸ HSG.out
           obtain ⟨g1, g2, a1, a2, b1, b2, b0⟩ := HNUM.out
           (refine (implRate sc1 sh1 s1 g hv1 hv3 (by grind) (by grind) (by grind) HQS.out _).mono ?_)
           rintro e w' ⟨rt, R, rfl, hR, r1, r2, hb⟩
           replace oS := hid (OwnAt.step oS.out (below_trans (by (repeat (first | (with_reducible assumption) | (with_reducible apply below_refl) | (with_reducible apply below_alloc1) | (with_reducible apply below_drewN1) | (with_reducible apply below_drew1)))) hb))
           replace oG := hid (OwnAt.step oG.out (below_trans (by (repeat (first | (with_reducible assumption) | (with_reducible apply below_refl) | (with_reducible apply below_alloc1) | (with_reducible apply below_drewN1) | (with_reducible apply below_drew1)))) hb))
           have hB : Below w.heap.size w w' := below_trans (by (repeat (first | (with_reducible assumption) | (with_reducible apply below_refl) | (with_reducible apply below_alloc1) | (with_reducible apply below_drewN1) | (with_reducible apply below_drew1)))) hb
           obtain ⟨p, cp, ep⟩ := det_conv (P := Try.prog) (src := 27) (dst := 34) rfl Try.underlying34 hv3
           obtain ⟨p2, cp2, ep2⟩ := det_conv (P := Try.prog) (src := 27) (dst := 34) rfl Try.underlying34 hv4
           obtain ⟨sx, csx, es⟩ := det_conv (P := Try.prog) (src := 27) (dst := 34) rfl Try.underlying34 hv1
           obtain ⟨tx, ctx, et⟩ := det_conv (P := Try.prog) (src := 27) (dst := 34) rfl Try.underlying34 hv2
           obtain ⟨ux, cux, eu⟩ := det_conv (P := Try.prog) (src := 27) (dst := 34) rfl Try.underlying34 hR
           obtain ⟨rs1, rs2⟩ := rate_scale r1 r2 (by grind) g2 (by grind) a2
           obtain ⟨A1, A2, B1, B2, B3, D1, G1, G2, G3, eA1, eA2, eG1, eB1, eG2, eB2, eB3, eD1, eG3, f1, f2, f3⟩ := cond_law (ep ▸ rv_wid hv3) (ep2 ▸ rv_wid hv4) (es ▸ rv_wid hv1) (et ▸ rv_wid hv2) (eu ▸ rv_wid hR) g1 g2 a1 a2 b1 b2 b0 rs1 rs2
           have ca1 : ∀ T w, (binOp .add T (.float .f64 4607182418800017408) (.float .f64 p)).run Try.prog w = .ok (.float .f64 A1) w := fun T w => det_op .add eA1 T w
           have ca2 : ∀ T w, (binOp .mul T (.float .f64 4562254508917369340) (.float .f64 A1)).run Try.prog w = .ok (.float .f64 A2) w := fun T w => det_op .mul eA2 T w
           have cb1 : ∀ T w, (binOp .mul T (.float .f64 4611686018427387904) (.float .f64 sx)).run Try.prog w = .ok (.float .f64 B1) w := fun T w => det_op .mul eB1 T w
           have cb2 : ∀ T w, (binOp .add T (.float .f64 4607182418800017408) (.float .f64 sx)).run Try.prog w = .ok (.float .f64 B2) w := fun T w => det_op .add eB2 T w
           have cb3 : ∀ T w, (binOp .mul T (.float .f64 4576918229304087675) (.float .f64 B2)).run Try.prog w = .ok (.float .f64 B3) w := fun T w => det_op .mul eB3 T w
           have cd1 : ∀ T w, (binOp .mul T (.float .f64 ux) (.float .f64 sx)).run Try.prog w = .ok (.float .f64 D1) w := fun T w => det_op .mul eD1 T w
           have HG1 := hid (b10Gap_q p p2 G1 eG1)
           have HG2 := hid (b10Gap_q tx B1 G2 eG2)
           have HG3 := hid (b10Gap_q D1 p G3 eG3)
           clear hb hv1 hv2 hv3 hv4 g1 g2 a1 a2 b1 b2 b0 hR r1 r2 ep ep2 es et eu rs1 rs2 eA1 eA2 eG1 eB1 eG2 eB2 eB3 eD1 eG3 hsc1)
        | (go_quiet ((first
            | (go_at_call 13; exact Calls.quiet_of (HG1.out _))
            | (go_at_call 13; exact Calls.quiet_of (HG2.out _))
            | (go_at_call 13; exact Calls.quiet_of (HG3.out _)))))
        | (go_at_call 13; (with_reducible refine (HG1.out _).mono ?_); rintro e w' ⟨rfl, m, rfl⟩)
        | (go_at_call 13; (with_reducible refine (HG2.out _).mono ?_); rintro e w' ⟨rfl, m, rfl⟩)
        | (go_at_call 13; (with_reducible refine (HG3.out _).mono ?_); rintro e w' ⟨rfl, m, rfl⟩))
      have hbL : Below w.heap.size w w' := by assumption
      have hgS := own_lt oS.out
      have hgG := own_lt oG.out
      have HLS := hid (show (qs.map fq).length = n by rw [List.length_map]; exact HQL.out)
      have HLG := hid (HSU.out.2.1.trans HQL.out)
      have HSV := hid HSU.out.2.2
      obtain ⟨gs, hgs⟩ : ∃ gs, growXs (qs.map fq) (ab .f32 (fq (q + 4))) = gs := ⟨_, rfl⟩
      rw [hgs] at oG HLG HSV
      rw [HQL.out] at HSV
      clear hgs HSU HGS HF1 HF2 HG1 HG2 HG3
      go_loopw [157] (fun i wr => ∃ k : Nat, k ≤ n ∧ i = .int .i64 k ∧ Below w'.heap.size w' wr) (fun i _ => n - (intOf i).toNat)
      case atStart => exact ⟨0, by omega, rfl, by (repeat (first | (with_reducible assumption) | (with_reducible apply below_refl) | (with_reducible apply below_alloc1) | (with_reducible apply below_drewN1) | (with_reducible apply below_drew1)))⟩
      case round =>
        obtain ⟨k, hk, rfl, hv2⟩ := hrel
        by_cases hlt : k < n
        · have hcG := own_cell oG.out HLG.out hv2 hlt
          have hcS := own_cell oS.out HLS.out hv2 hlt
          rw [map_get fq qs (by rw [HQL.out]; exact hlt)] at hcS
          obtain ⟨r, hr, d1, d2, r0, r1⟩ := HSV.out k hlt
          have hq37 := (HRI.out.rg k (by rw [HQL.out]; exact hlt)).2
          have ht := rv_fq (qs.getD k 0) (by omega)
          have t1 := nat_le_rat (show qs.getD k 0 ≤ 32 by omega)
          have t0 := nat_le_rat (Nat.zero_le (qs.getD k 0))
          rw [show ((32 : Nat) : Rat) = 32 from rfl] at t1
          rw [show ((0 : Nat) : Rat) = 0 from rfl] at t0
          have hgr := Nat.lt_of_lt_of_le hgS hv2.size
          have hgrG := Nat.lt_of_lt_of_le hgG hv2.size
          generalize gs.getD k 0 = x at hcG hr
          generalize ((qs.getD k 0 : Nat) : Rat) = tq at d1 d2 ht t0 t1
          generalize fq (qs.getD k 0) = y at hcS ht
          obtain ⟨x1, cx1, ex1⟩ := det_conv (P := Try.prog) (src := 27) (dst := 34) rfl Try.underlying34 hr
          obtain ⟨x2, cx2, ex2⟩ := det_conv (P := Try.prog) (src := 27) (dst := 34) rfl Try.underlying34 ht
          obtain ⟨M, G, eM, eG, f1⟩ := sum_cmp (ex1 ▸ rv_wid hr) (ex2 ▸ rv_wid ht) (show k < 12 by omega) r0 r1 (by grind) (by grind) d1 d2
          have cm : ∀ T w, (binOp .mul T (.float .f64 x1) (.float .f64 x2)).run Try.prog w = .ok (.float .f64 M) w := fun T w => det_op .mul eM T w
          have HGQ := hid (b10Gap_q M _ G eG)
          have W9 : IntKind.i64.wrap ((k : Int) + 1) = (k : Int) + 1 := by rw [IntKind.wrap_i64]; omega
          have hltI : (k : Int) < (n : Int) := by omega
          have hk0 : (0 : Int) ≤ (k : Int) := by omega
          clear hr d1 d2 r0 r1 ht t0 t1 ex1 ex2 eM eG hq37
          go_wp2_with (first | go_quiet ((go_at_call 13; exact Calls.quiet_of (HGQ.out _))))
          exact ⟨⟨k + 1, by omega, by go_num, below_trans hv2 (by (repeat (first | (with_reducible assumption) | (with_reducible apply below_refl) | (with_reducible apply below_alloc1) | (with_reducible apply below_drewN1) | (with_reducible apply below_drew1))))⟩, by simp [intOf]; omega⟩
        · obtain rfl : n = k := by omega
          have hbM := below_trans hbL hv2
          have hse : 0 ≤ 1000 * B + C ∧ 1000 * B + C ≤ 4294967295 := by omega
          obtain ⟨se, hse2⟩ : ∃ se, 1000 * B + C = se := ⟨_, rfl⟩
          rw [hse2] at hse W3
          have h1w := walk_all (wd := kone) (d := 1) (by rw [show ab .f32 kone = some 1065353216 from by decide]; exact rv_one32) (fun k hk => by obtain ⟨r, hr, _⟩ := walk_rv (wd := ab .f32 kone) (d := 1) (by rw [show ab .f32 kone = some 1065353216 from by decide]; exact rv_one32) (by grind) (by grind) se hse (k + 1) (by omega); exact ⟨r, hr⟩) hse
          have h0w := walk_all (wd := 0) (d := 0) (by rw [ab_z32]; exact rv_z _) (fun k hk => by obtain ⟨r, hr, _⟩ := still_rv se hse (k + 1) (by omega); exact ⟨r, hr⟩) hse
          obtain ⟨wx, hwx⟩ : ∃ wx, walkXs (ab .f32 khalf) (ab .f32 kone) se 12 = wx := ⟨_, rfl⟩
          obtain ⟨wz, hwz⟩ : ∃ wz, walkXs (ab .f32 khalf) (ab .f32 0) se 12 = wz := ⟨_, rfl⟩
          have HWI := hid (show ∀ w' : World, Calls Try.prog 14 #[.float .f32 1056964608, .float .f32 1065353216, .int .i64 se, .int .i64 12] w' (FRowNumOk 27 wx (walkS (ab .f32 khalf) (ab .f32 kone) se 12) true w') from fun w' => by
            have h := implDrift_any khalf kone se 12 w'
            rw [h1w.1, hwx] at h; exact h)
          have HWS := hid (show ∀ w' : World, Calls Try.prog 15 #[.float .f32 1056964608, .float .f32 1065353216, .int .i64 se, .int .i64 12] w' (FRowNumOk 27 wx (walkS (ab .f32 khalf) (ab .f32 kone) se 12) true w') from fun w' => by
            have h := specDrift_any khalf kone se 12 w'
            rw [h1w.1, hwx] at h; exact h)
          have HWZ := hid (show ∀ w' : World, Calls Try.prog 14 #[.float .f32 1056964608, .float .f32 0, .int .i64 se, .int .i64 12] w' (FRowNumOk 27 wz (walkS (ab .f32 khalf) (ab .f32 0) se 12) true w') from fun w' => by
            have h := implDrift_any khalf 0 se 12 w'
            rw [h0w.1, hwz] at h; exact h)
          rw [hwx] at h1w
          rw [hwz] at h0w
          have HB1 := hid h1w.2.2.2
          have HL1 := hid h1w.2.1
          have HLZ := hid h0w.2.1
          have HZV := hid h0w.2.2.1
          have HSE := hid hse
          clear h1w h0w hwx hwz oS oG hgS hgG hbL
          go_wp2_with (first
            | (go_at_call 8; (with_reducible refine (b10At_any _ ms 1 256 _ (HM.out.below (by (repeat (first | (with_reducible assumption) | (with_reducible apply below_refl) | (with_reducible apply below_alloc1) | (with_reducible apply below_drewN1) | (with_reducible apply below_drew1))))) HMB.out (by omega) (by omega)).mono ?_); rw [HB.out]; rintro e w' ⟨rfl, hb⟩; have hB : Below w.heap.size w w' := below_trans (by (repeat (first | (with_reducible assumption) | (with_reducible apply below_refl) | (with_reducible apply below_alloc1) | (with_reducible apply below_drewN1) | (with_reducible apply below_drew1)))) hb; have hC := (bcell hB).1; clear hb)
            | (go_at_call 8; (with_reducible refine (b10At_any _ ms 2 256 _ (HM.out.below (by (repeat (first | (with_reducible assumption) | (with_reducible apply below_refl) | (with_reducible apply below_alloc1) | (with_reducible apply below_drewN1) | (with_reducible apply below_drew1))))) HMB.out (by omega) (by omega)).mono ?_); rw [HCC.out]; rintro e w' ⟨rfl, hb⟩; (try replace oS := hid (OwnAt.step oS.out (below_trans (by (repeat (first | (with_reducible assumption) | (with_reducible apply below_refl) | (with_reducible apply below_alloc1) | (with_reducible apply below_drewN1) | (with_reducible apply below_drew1)))) hb))); (try replace oX := hid (OwnAt.step oX.out (below_trans (by (repeat (first | (with_reducible assumption) | (with_reducible apply below_refl) | (with_reducible apply below_alloc1) | (with_reducible apply below_drewN1) | (with_reducible apply below_drew1)))) hb))); (try replace oG := hid (OwnAt.step oG.out (below_trans (by (repeat (first | (with_reducible assumption) | (with_reducible apply below_refl) | (with_reducible apply below_alloc1) | (with_reducible apply below_drewN1) | (with_reducible apply below_drew1)))) hb))); (try replace oH := hid (OwnAt.step oH.out (below_trans (by (repeat (first | (with_reducible assumption) | (with_reducible apply below_refl) | (with_reducible apply below_alloc1) | (with_reducible apply below_drewN1) | (with_reducible apply below_drew1)))) hb))); (try replace oY := hid (OwnAt.step oY.out (below_trans (by (repeat (first | (with_reducible assumption) | (with_reducible apply below_refl) | (with_reducible apply below_alloc1) | (with_reducible apply below_drewN1) | (with_reducible apply below_drew1)))) hb))); (try replace oZ := hid (OwnAt.step oZ.out (below_trans (by (repeat (first | (with_reducible assumption) | (with_reducible apply below_refl) | (with_reducible apply below_alloc1) | (with_reducible apply below_drewN1) | (with_reducible apply below_drew1)))) hb))); (try replace oK := hid (OwnAt.step oK.out (below_trans (by (repeat (first | (with_reducible assumption) | (with_reducible apply below_refl) | (with_reducible apply below_alloc1) | (with_reducible apply below_drewN1) | (with_reducible apply below_drew1)))) hb))); (try replace oM := hid (OwnAt.step oM.out (below_trans (by (repeat (first | (with_reducible assumption) | (with_reducible apply below_refl) | (with_reducible apply below_alloc1) | (with_reducible apply below_drewN1) | (with_reducible apply below_drew1)))) hb))); (try replace oT := hid (OwnAt.step oT.out (below_trans (by (repeat (first | (with_reducible assumption) | (with_reducible apply below_refl) | (with_reducible apply below_alloc1) | (with_reducible apply below_drewN1) | (with_reducible apply below_drew1)))) hb))); (try replace oU := hid (OwnAt.step oU.out (below_trans (by (repeat (first | (with_reducible assumption) | (with_reducible apply below_refl) | (with_reducible apply below_alloc1) | (with_reducible apply below_drewN1) | (with_reducible apply below_drew1)))) hb))); (try replace oV := hid (OwnAt.step oV.out (below_trans (by (repeat (first | (with_reducible assumption) | (with_reducible apply below_refl) | (with_reducible apply below_alloc1) | (with_reducible apply below_drewN1) | (with_reducible apply below_drew1)))) hb))); have hB : Below w.heap.size w _ := below_trans (by (repeat (first | (with_reducible assumption) | (with_reducible apply below_refl) | (with_reducible apply below_alloc1) | (with_reducible apply below_drewN1) | (with_reducible apply below_drew1)))) hb; have hC := (bcell hB).1; clear hb)
            | (go_at_call 14; (fail_if_success have := oX); (with_reducible refine (HWI.out _).mono ?_); rintro e w' ⟨vX, rfl, ho, hb⟩; (try have dSX := row_apart oS.out (by (repeat (first | (with_reducible assumption) | (with_reducible apply below_refl) | (with_reducible apply below_alloc1) | (with_reducible apply below_drewN1) | (with_reducible apply below_drew1)))) hb); (try have dGX := row_apart oG.out (by (repeat (first | (with_reducible assumption) | (with_reducible apply below_refl) | (with_reducible apply below_alloc1) | (with_reducible apply below_drewN1) | (with_reducible apply below_drew1)))) hb); (try have dHX := row_apart oH.out (by (repeat (first | (with_reducible assumption) | (with_reducible apply below_refl) | (with_reducible apply below_alloc1) | (with_reducible apply below_drewN1) | (with_reducible apply below_drew1)))) hb); (try have dYX := row_apart oY.out (by (repeat (first | (with_reducible assumption) | (with_reducible apply below_refl) | (with_reducible apply below_alloc1) | (with_reducible apply below_drewN1) | (with_reducible apply below_drew1)))) hb); (try have dZX := row_apart oZ.out (by (repeat (first | (with_reducible assumption) | (with_reducible apply below_refl) | (with_reducible apply below_alloc1) | (with_reducible apply below_drewN1) | (with_reducible apply below_drew1)))) hb); (try have dKX := row_apart oK.out (by (repeat (first | (with_reducible assumption) | (with_reducible apply below_refl) | (with_reducible apply below_alloc1) | (with_reducible apply below_drewN1) | (with_reducible apply below_drew1)))) hb); (try have dMX := row_apart oM.out (by (repeat (first | (with_reducible assumption) | (with_reducible apply below_refl) | (with_reducible apply below_alloc1) | (with_reducible apply below_drewN1) | (with_reducible apply below_drew1)))) hb); (try have dTX := row_apart oT.out (by (repeat (first | (with_reducible assumption) | (with_reducible apply below_refl) | (with_reducible apply below_alloc1) | (with_reducible apply below_drewN1) | (with_reducible apply below_drew1)))) hb); (try have dUX := row_apart oU.out (by (repeat (first | (with_reducible assumption) | (with_reducible apply below_refl) | (with_reducible apply below_alloc1) | (with_reducible apply below_drewN1) | (with_reducible apply below_drew1)))) hb); (try have dVX := row_apart oV.out (by (repeat (first | (with_reducible assumption) | (with_reducible apply below_refl) | (with_reducible apply below_alloc1) | (with_reducible apply below_drewN1) | (with_reducible apply below_drew1)))) hb); have bX := new_lo (a := w) (by (repeat (first | (with_reducible assumption) | (with_reducible apply below_refl) | (with_reducible apply below_alloc1) | (with_reducible apply below_drewN1) | (with_reducible apply below_drew1)))) hb; (try replace oS := hid (OwnAt.step oS.out (below_trans (by (repeat (first | (with_reducible assumption) | (with_reducible apply below_refl) | (with_reducible apply below_alloc1) | (with_reducible apply below_drewN1) | (with_reducible apply below_drew1)))) hb))); (try replace oX := hid (OwnAt.step oX.out (below_trans (by (repeat (first | (with_reducible assumption) | (with_reducible apply below_refl) | (with_reducible apply below_alloc1) | (with_reducible apply below_drewN1) | (with_reducible apply below_drew1)))) hb))); (try replace oG := hid (OwnAt.step oG.out (below_trans (by (repeat (first | (with_reducible assumption) | (with_reducible apply below_refl) | (with_reducible apply below_alloc1) | (with_reducible apply below_drewN1) | (with_reducible apply below_drew1)))) hb))); (try replace oH := hid (OwnAt.step oH.out (below_trans (by (repeat (first | (with_reducible assumption) | (with_reducible apply below_refl) | (with_reducible apply below_alloc1) | (with_reducible apply below_drewN1) | (with_reducible apply below_drew1)))) hb))); (try replace oY := hid (OwnAt.step oY.out (below_trans (by (repeat (first | (with_reducible assumption) | (with_reducible apply below_refl) | (with_reducible apply below_alloc1) | (with_reducible apply below_drewN1) | (with_reducible apply below_drew1)))) hb))); (try replace oZ := hid (OwnAt.step oZ.out (below_trans (by (repeat (first | (with_reducible assumption) | (with_reducible apply below_refl) | (with_reducible apply below_alloc1) | (with_reducible apply below_drewN1) | (with_reducible apply below_drew1)))) hb))); (try replace oK := hid (OwnAt.step oK.out (below_trans (by (repeat (first | (with_reducible assumption) | (with_reducible apply below_refl) | (with_reducible apply below_alloc1) | (with_reducible apply below_drewN1) | (with_reducible apply below_drew1)))) hb))); (try replace oM := hid (OwnAt.step oM.out (below_trans (by (repeat (first | (with_reducible assumption) | (with_reducible apply below_refl) | (with_reducible apply below_alloc1) | (with_reducible apply below_drewN1) | (with_reducible apply below_drew1)))) hb))); (try replace oT := hid (OwnAt.step oT.out (below_trans (by (repeat (first | (with_reducible assumption) | (with_reducible apply below_refl) | (with_reducible apply below_alloc1) | (with_reducible apply below_drewN1) | (with_reducible apply below_drew1)))) hb))); (try replace oU := hid (OwnAt.step oU.out (below_trans (by (repeat (first | (with_reducible assumption) | (with_reducible apply below_refl) | (with_reducible apply below_alloc1) | (with_reducible apply below_drewN1) | (with_reducible apply below_drew1)))) hb))); (try replace oV := hid (OwnAt.step oV.out (below_trans (by (repeat (first | (with_reducible assumption) | (with_reducible apply below_refl) | (with_reducible apply below_alloc1) | (with_reducible apply below_drewN1) | (with_reducible apply below_drew1)))) hb))); have hB : Below w.heap.size w _ := below_trans (by (repeat (first | (with_reducible assumption) | (with_reducible apply below_refl) | (with_reducible apply below_alloc1) | (with_reducible apply below_drewN1) | (with_reducible apply below_drew1)))) hb; have hC := (bcell hB).1; have oX := hid (OwnAt.mk' ho); clear hb ho)
            | (go_at_call 15; (fail_if_success have := oY); (with_reducible refine (HWS.out _).mono ?_); rintro e w' ⟨vY, rfl, ho, hb⟩; (try have dSY := row_apart oS.out (by (repeat (first | (with_reducible assumption) | (with_reducible apply below_refl) | (with_reducible apply below_alloc1) | (with_reducible apply below_drewN1) | (with_reducible apply below_drew1)))) hb); (try have dXY := row_apart oX.out (by (repeat (first | (with_reducible assumption) | (with_reducible apply below_refl) | (with_reducible apply below_alloc1) | (with_reducible apply below_drewN1) | (with_reducible apply below_drew1)))) hb); (try have dGY := row_apart oG.out (by (repeat (first | (with_reducible assumption) | (with_reducible apply below_refl) | (with_reducible apply below_alloc1) | (with_reducible apply below_drewN1) | (with_reducible apply below_drew1)))) hb); (try have dHY := row_apart oH.out (by (repeat (first | (with_reducible assumption) | (with_reducible apply below_refl) | (with_reducible apply below_alloc1) | (with_reducible apply below_drewN1) | (with_reducible apply below_drew1)))) hb); (try have dZY := row_apart oZ.out (by (repeat (first | (with_reducible assumption) | (with_reducible apply below_refl) | (with_reducible apply below_alloc1) | (with_reducible apply below_drewN1) | (with_reducible apply below_drew1)))) hb); (try have dKY := row_apart oK.out (by (repeat (first | (with_reducible assumption) | (with_reducible apply below_refl) | (with_reducible apply below_alloc1) | (with_reducible apply below_drewN1) | (with_reducible apply below_drew1)))) hb); (try have dMY := row_apart oM.out (by (repeat (first | (with_reducible assumption) | (with_reducible apply below_refl) | (with_reducible apply below_alloc1) | (with_reducible apply below_drewN1) | (with_reducible apply below_drew1)))) hb); (try have dTY := row_apart oT.out (by (repeat (first | (with_reducible assumption) | (with_reducible apply below_refl) | (with_reducible apply below_alloc1) | (with_reducible apply below_drewN1) | (with_reducible apply below_drew1)))) hb); (try have dUY := row_apart oU.out (by (repeat (first | (with_reducible assumption) | (with_reducible apply below_refl) | (with_reducible apply below_alloc1) | (with_reducible apply below_drewN1) | (with_reducible apply below_drew1)))) hb); (try have dVY := row_apart oV.out (by (repeat (first | (with_reducible assumption) | (with_reducible apply below_refl) | (with_reducible apply below_alloc1) | (with_reducible apply below_drewN1) | (with_reducible apply below_drew1)))) hb); have bY := new_lo (a := w) (by (repeat (first | (with_reducible assumption) | (with_reducible apply below_refl) | (with_reducible apply below_alloc1) | (with_reducible apply below_drewN1) | (with_reducible apply below_drew1)))) hb; (try replace oS := hid (OwnAt.step oS.out (below_trans (by (repeat (first | (with_reducible assumption) | (with_reducible apply below_refl) | (with_reducible apply below_alloc1) | (with_reducible apply below_drewN1) | (with_reducible apply below_drew1)))) hb))); (try replace oX := hid (OwnAt.step oX.out (below_trans (by (repeat (first | (with_reducible assumption) | (with_reducible apply below_refl) | (with_reducible apply below_alloc1) | (with_reducible apply below_drewN1) | (with_reducible apply below_drew1)))) hb))); (try replace oG := hid (OwnAt.step oG.out (below_trans (by (repeat (first | (with_reducible assumption) | (with_reducible apply below_refl) | (with_reducible apply below_alloc1) | (with_reducible apply below_drewN1) | (with_reducible apply below_drew1)))) hb))); (try replace oH := hid (OwnAt.step oH.out (below_trans (by (repeat (first | (with_reducible assumption) | (with_reducible apply below_refl) | (with_reducible apply below_alloc1) | (with_reducible apply below_drewN1) | (with_reducible apply below_drew1)))) hb))); (try replace oY := hid (OwnAt.step oY.out (below_trans (by (repeat (first | (with_reducible assumption) | (with_reducible apply below_refl) | (with_reducible apply below_alloc1) | (with_reducible apply below_drewN1) | (with_reducible apply below_drew1)))) hb))); (try replace oZ := hid (OwnAt.step oZ.out (below_trans (by (repeat (first | (with_reducible assumption) | (with_reducible apply below_refl) | (with_reducible apply below_alloc1) | (with_reducible apply below_drewN1) | (with_reducible apply below_drew1)))) hb))); (try replace oK := hid (OwnAt.step oK.out (below_trans (by (repeat (first | (with_reducible assumption) | (with_reducible apply below_refl) | (with_reducible apply below_alloc1) | (with_reducible apply below_drewN1) | (with_reducible apply below_drew1)))) hb))); (try replace oM := hid (OwnAt.step oM.out (below_trans (by (repeat (first | (with_reducible assumption) | (with_reducible apply below_refl) | (with_reducible apply below_alloc1) | (with_reducible apply below_drewN1) | (with_reducible apply below_drew1)))) hb))); (try replace oT := hid (OwnAt.step oT.out (below_trans (by (repeat (first | (with_reducible assumption) | (with_reducible apply below_refl) | (with_reducible apply below_alloc1) | (with_reducible apply below_drewN1) | (with_reducible apply below_drew1)))) hb))); (try replace oU := hid (OwnAt.step oU.out (below_trans (by (repeat (first | (with_reducible assumption) | (with_reducible apply below_refl) | (with_reducible apply below_alloc1) | (with_reducible apply below_drewN1) | (with_reducible apply below_drew1)))) hb))); (try replace oV := hid (OwnAt.step oV.out (below_trans (by (repeat (first | (with_reducible assumption) | (with_reducible apply below_refl) | (with_reducible apply below_alloc1) | (with_reducible apply below_drewN1) | (with_reducible apply below_drew1)))) hb))); have hB : Below w.heap.size w _ := below_trans (by (repeat (first | (with_reducible assumption) | (with_reducible apply below_refl) | (with_reducible apply below_alloc1) | (with_reducible apply below_drewN1) | (with_reducible apply below_drew1)))) hb; have hC := (bcell hB).1; have oY := hid (OwnAt.mk' ho); clear hb ho)
            | ((go_at_call 14; (fail_if_success have := oZ); (with_reducible refine (HWZ.out _).mono ?_); rintro e w' ⟨vZ, rfl, ho, hb⟩; (try have dSZ := row_apart oS.out (by (repeat (first | (with_reducible assumption) | (with_reducible apply below_refl) | (with_reducible apply below_alloc1) | (with_reducible apply below_drewN1) | (with_reducible apply below_drew1)))) hb); (try have dXZ := row_apart oX.out (by (repeat (first | (with_reducible assumption) | (with_reducible apply below_refl) | (with_reducible apply below_alloc1) | (with_reducible apply below_drewN1) | (with_reducible apply below_drew1)))) hb); (try have dGZ := row_apart oG.out (by (repeat (first | (with_reducible assumption) | (with_reducible apply below_refl) | (with_reducible apply below_alloc1) | (with_reducible apply below_drewN1) | (with_reducible apply below_drew1)))) hb); (try have dHZ := row_apart oH.out (by (repeat (first | (with_reducible assumption) | (with_reducible apply below_refl) | (with_reducible apply below_alloc1) | (with_reducible apply below_drewN1) | (with_reducible apply below_drew1)))) hb); (try have dYZ := row_apart oY.out (by (repeat (first | (with_reducible assumption) | (with_reducible apply below_refl) | (with_reducible apply below_alloc1) | (with_reducible apply below_drewN1) | (with_reducible apply below_drew1)))) hb); (try have dKZ := row_apart oK.out (by (repeat (first | (with_reducible assumption) | (with_reducible apply below_refl) | (with_reducible apply below_alloc1) | (with_reducible apply below_drewN1) | (with_reducible apply below_drew1)))) hb); (try have dMZ := row_apart oM.out (by (repeat (first | (with_reducible assumption) | (with_reducible apply below_refl) | (with_reducible apply below_alloc1) | (with_reducible apply below_drewN1) | (with_reducible apply below_drew1)))) hb); (try have dTZ := row_apart oT.out (by (repeat (first | (with_reducible assumption) | (with_reducible apply below_refl) | (with_reducible apply below_alloc1) | (with_reducible apply below_drewN1) | (with_reducible apply below_drew1)))) hb); (try have dUZ := row_apart oU.out (by (repeat (first | (with_reducible assumption) | (with_reducible apply below_refl) | (with_reducible apply below_alloc1) | (with_reducible apply below_drewN1) | (with_reducible apply below_drew1)))) hb); (try have dVZ := row_apart oV.out (by (repeat (first | (with_reducible assumption) | (with_reducible apply below_refl) | (with_reducible apply below_alloc1) | (with_reducible apply below_drewN1) | (with_reducible apply below_drew1)))) hb); have bZ := new_lo (a := w) (by (repeat (first | (with_reducible assumption) | (with_reducible apply below_refl) | (with_reducible apply below_alloc1) | (with_reducible apply below_drewN1) | (with_reducible apply below_drew1)))) hb; (try replace oS := hid (OwnAt.step oS.out (below_trans (by (repeat (first | (with_reducible assumption) | (with_reducible apply below_refl) | (with_reducible apply below_alloc1) | (with_reducible apply below_drewN1) | (with_reducible apply below_drew1)))) hb))); (try replace oX := hid (OwnAt.step oX.out (below_trans (by (repeat (first | (with_reducible assumption) | (with_reducible apply below_refl) | (with_reducible apply below_alloc1) | (with_reducible apply below_drewN1) | (with_reducible apply below_drew1)))) hb))); (try replace oG := hid (OwnAt.step oG.out (below_trans (by (repeat (first | (with_reducible assumption) | (with_reducible apply below_refl) | (with_reducible apply below_alloc1) | (with_reducible apply below_drewN1) | (with_reducible apply below_drew1)))) hb))); (try replace oH := hid (OwnAt.step oH.out (below_trans (by (repeat (first | (with_reducible assumption) | (with_reducible apply below_refl) | (with_reducible apply below_alloc1) | (with_reducible apply below_drewN1) | (with_reducible apply below_drew1)))) hb))); (try replace oY := hid (OwnAt.step oY.out (below_trans (by (repeat (first | (with_reducible assumption) | (with_reducible apply below_refl) | (with_reducible apply below_alloc1) | (with_reducible apply below_drewN1) | (with_reducible apply below_drew1)))) hb))); (try replace oZ := hid (OwnAt.step oZ.out (below_trans (by (repeat (first | (with_reducible assumption) | (with_reducible apply below_refl) | (with_reducible apply below_alloc1) | (with_reducible apply below_drewN1) | (with_reducible apply below_drew1)))) hb))); (try replace oK := hid (OwnAt.step oK.out (below_trans (by (repeat (first | (with_reducible assumption) | (with_reducible apply below_refl) | (with_reducible apply below_alloc1) | (with_reducible apply below_drewN1) | (with_reducible apply below_drew1)))) hb))); (try replace oM := hid (OwnAt.step oM.out (below_trans (by (repeat (first | (with_reducible assumption) | (with_reducible apply below_refl) | (with_reducible apply below_alloc1) | (with_reducible apply below_drewN1) | (with_reducible apply below_drew1)))) hb))); (try replace oT := hid (OwnAt.step oT.out (below_trans (by (repeat (first | (with_reducible assumption) | (with_reducible apply below_refl) | (with_reducible apply below_alloc1) | (with_reducible apply below_drewN1) | (with_reducible apply below_drew1)))) hb))); (try replace oU := hid (OwnAt.step oU.out (below_trans (by (repeat (first | (with_reducible assumption) | (with_reducible apply below_refl) | (with_reducible apply below_alloc1) | (with_reducible apply below_drewN1) | (with_reducible apply below_drew1)))) hb))); (try replace oV := hid (OwnAt.step oV.out (below_trans (by (repeat (first | (with_reducible assumption) | (with_reducible apply below_refl) | (with_reducible apply below_alloc1) | (with_reducible apply below_drewN1) | (with_reducible apply below_drew1)))) hb))); have hB : Below w.heap.size w _ := below_trans (by (repeat (first | (with_reducible assumption) | (with_reducible apply below_refl) | (with_reducible apply below_alloc1) | (with_reducible apply below_drewN1) | (with_reducible apply below_drew1)))) hb; have hC := (bcell hB).1; have oZ := hid (OwnAt.mk' ho); clear hb ho); obtain ⟨gZ, cZ, rfl, gZ0, gZ1⟩ := own_form oZ.out HLZ.out (by omega))
            | (go_at_call 16; (with_reducible refine (b10List_same _ _ wx HB1.out (by rw [HL1.out]; omega) _ (OwnAt.row oX.out (by (repeat (first | (with_reducible assumption) | (with_reducible apply below_refl) | (with_reducible apply below_alloc1) | (with_reducible apply below_drewN1) | (with_reducible apply below_drew1))))) (OwnAt.row oY.out (by (repeat (first | (with_reducible assumption) | (with_reducible apply below_refl) | (with_reducible apply below_alloc1) | (with_reducible apply below_drewN1) | (with_reducible apply below_drew1)))))).mono ?_); rintro e w' ⟨rfl, hb⟩; (try replace oS := hid (OwnAt.step oS.out (below_trans (by (repeat (first | (with_reducible assumption) | (with_reducible apply below_refl) | (with_reducible apply below_alloc1) | (with_reducible apply below_drewN1) | (with_reducible apply below_drew1)))) hb))); (try replace oX := hid (OwnAt.step oX.out (below_trans (by (repeat (first | (with_reducible assumption) | (with_reducible apply below_refl) | (with_reducible apply below_alloc1) | (with_reducible apply below_drewN1) | (with_reducible apply below_drew1)))) hb))); (try replace oG := hid (OwnAt.step oG.out (below_trans (by (repeat (first | (with_reducible assumption) | (with_reducible apply below_refl) | (with_reducible apply below_alloc1) | (with_reducible apply below_drewN1) | (with_reducible apply below_drew1)))) hb))); (try replace oH := hid (OwnAt.step oH.out (below_trans (by (repeat (first | (with_reducible assumption) | (with_reducible apply below_refl) | (with_reducible apply below_alloc1) | (with_reducible apply below_drewN1) | (with_reducible apply below_drew1)))) hb))); (try replace oY := hid (OwnAt.step oY.out (below_trans (by (repeat (first | (with_reducible assumption) | (with_reducible apply below_refl) | (with_reducible apply below_alloc1) | (with_reducible apply below_drewN1) | (with_reducible apply below_drew1)))) hb))); (try replace oZ := hid (OwnAt.step oZ.out (below_trans (by (repeat (first | (with_reducible assumption) | (with_reducible apply below_refl) | (with_reducible apply below_alloc1) | (with_reducible apply below_drewN1) | (with_reducible apply below_drew1)))) hb))); (try replace oK := hid (OwnAt.step oK.out (below_trans (by (repeat (first | (with_reducible assumption) | (with_reducible apply below_refl) | (with_reducible apply below_alloc1) | (with_reducible apply below_drewN1) | (with_reducible apply below_drew1)))) hb))); (try replace oM := hid (OwnAt.step oM.out (below_trans (by (repeat (first | (with_reducible assumption) | (with_reducible apply below_refl) | (with_reducible apply below_alloc1) | (with_reducible apply below_drewN1) | (with_reducible apply below_drew1)))) hb))); (try replace oT := hid (OwnAt.step oT.out (below_trans (by (repeat (first | (with_reducible assumption) | (with_reducible apply below_refl) | (with_reducible apply below_alloc1) | (with_reducible apply below_drewN1) | (with_reducible apply below_drew1)))) hb))); (try replace oU := hid (OwnAt.step oU.out (below_trans (by (repeat (first | (with_reducible assumption) | (with_reducible apply below_refl) | (with_reducible apply below_alloc1) | (with_reducible apply below_drewN1) | (with_reducible apply below_drew1)))) hb))); (try replace oV := hid (OwnAt.step oV.out (below_trans (by (repeat (first | (with_reducible assumption) | (with_reducible apply below_refl) | (with_reducible apply below_alloc1) | (with_reducible apply below_drewN1) | (with_reducible apply below_drew1)))) hb))); have hB : Below w.heap.size w _ := below_trans (by (repeat (first | (with_reducible assumption) | (with_reducible apply below_refl) | (with_reducible apply below_alloc1) | (with_reducible apply below_drewN1) | (with_reducible apply below_drew1)))) hb; have hC := (bcell hB).1; clear hb))
          have hbe : Below w.heap.size w w' := by assumption
          have hgZ := own_lt oZ.out
          go_loopw [31, 229] (fun f i w2 => ∃ (k F : Nat), k ≤ 12 ∧ i = .int .i64 k ∧ f = .float .f64 F ∧ Hid (ab .f64 F = bfX k) ∧ Below w'.heap.size w' w2) (fun _ i _ => 12 - (intOf i).toNat)
          case atStart => exact ⟨0, 0, by omega, rfl, rfl, hid ab_z64, by (repeat (first | (with_reducible assumption) | (with_reducible apply below_refl) | (with_reducible apply below_alloc1) | (with_reducible apply below_drewN1) | (with_reducible apply below_drew1)))⟩
          case round =>
            obtain ⟨k, F, hk, rfl, rfl, HF, hv3⟩ := hrel
            by_cases hlt : k < 12
            · have hcZ := own_cell oZ.out HLZ.out hv3 hlt
              have hgr := Nat.lt_of_lt_of_le hgZ hv3.size
              obtain ⟨r, hr, b1, b2⟩ := still_rv se HSE.out (k + 1) (by omega)
              rw [← HZV.out k hlt] at hr
              generalize wz.getD k 0 = z at hcZ hr
              obtain ⟨z', cz, ez⟩ := det_conv (P := Try.prog) (src := 27) (dst := 34) rfl Try.underlying34 hr
              obtain ⟨M, G, eM, eG, f1⟩ := still_cmp (ez ▸ rv_wid hr) hlt b1 b2
              have cm : ∀ T w, (binOp .mul T (.float .f64 4602678819172646912) (.float .f64 (floatOfInt .f64 ((k : Int) + 1)))).run Try.prog w = .ok (.float .f64 M) w := fun T w => det_op .mul eM T w
              have HGQ := hid (b10Gap_q z' M G eG)
              obtain ⟨b, R, hfb, hb4, hrb, hbb⟩ := fp_at k hlt
              obtain ⟨b', cb, eb⟩ := det_conv (P := Try.prog) (src := 27) (dst := 34) rfl Try.underlying34 hrb
              obtain ⟨b2', hsub⟩ := Option.isSome_iff_exists.1 (fp_sub k hlt)
              have hc01 : ab .f64 4576918229304087675 = some c01 := by decide
              have hsub2 : fop .sub .f64 (ab .f64 F) (ab .f64 4576918229304087675) = some b2' := by rw [HF.out, hc01]; exact hsub
              have cs2 : ∀ T w, (binOp .sub T (.float .f64 F) (.float .f64 4576918229304087675)).run Try.prog w = .ok (.float .f64 b2') w := fun T w => det_op .sub hsub2 T w
              have g1 : (ford .f64 (ab .f64 b') (ab .f64 b2') == some .lt) = false := by
                have h := fp_rise k hlt
                rw [hsub, ← ab_readable _ _ _ _ hsub, hfb, ← hbb, ← eb] at h
                exact h
              have g2 : (ford .f32 (ab .f32 b) (some 0) == some .lt) = false := by
                have h := fp_lo k hlt
                rw [hfb, ← hbb] at h
                exact h
              have g3 : (ford .f32 (ab .f32 b) (some 1065353216) == some .gt) = false := by
                have h := fp_hi k hlt
                rw [hfb, ← hbb] at h
                exact h
              have HFI := hid (show ∀ w : World, Calls Try.prog 17 #[.float .f32 1082130432, .float .f32 1056964608, .float .f32 1056964608, .float .f32 (floatOfInt .f32 ((k : Int) + 1))] w (NumOk (fpV k, true) w) from implFirst k hlt)
              have HFS := hid (show ∀ w : World, Calls Try.prog 18 #[.float .f32 1082130432, .float .f32 1056964608, .float .f32 1056964608, .float .f32 (floatOfInt .f32 ((k : Int) + 1))] w (NumOk (fpV k, true) w) from specFirst k hlt)
              have HFB := hid hfb
              have HBN := hid (show ab .f64 b' = bfX (k + 1) by unfold bfX; rw [if_neg (by omega), show k + 1 - 1 = k by omega, hfb, ← hbb]; exact eb)
              have HSM := hid (specSame_q b hb4)
              have W9 : IntKind.i64.wrap ((k : Int) + 1) = (k : Int) + 1 := by rw [IntKind.wrap_i64]; omega
              have hltI : (k : Int) < 12 := by omega
              have hk0 : (0 : Int) ≤ (k : Int) := by omega
              clear hr b1 b2 ez eM eG hfb hrb hbb eb hsub hsub2 hb4 hc01
              go_wp2_with (first
                | (go_quiet ((first
                    | (go_at_call 13; exact Calls.quiet_of (HGQ.out _))
                    | (go_at_call 19; exact Calls.quiet_of (HSM.out _)))))
                | (go_at_call 13; (with_reducible refine (HGQ.out _).mono ?_); rintro e w' ⟨rfl, m, rfl⟩)
                | (go_at_call 19; (with_reducible refine (HSM.out _).mono ?_); rintro e w' ⟨rfl, m, rfl⟩)
                | (go_at_call 17; (with_reducible refine (HFI.out _).mono ?_); rintro e w4 ⟨x, rfl, hx, hb⟩; (obtain rfl : b = x := (by have hx2 := hx.trans HFB.out; exact (ab_some hx2).1)); have hB4 : Below wr.heap.size wr w4 := below_trans (by (repeat (first | (with_reducible assumption) | (with_reducible apply below_refl) | (with_reducible apply below_alloc1) | (with_reducible apply below_drewN1) | (with_reducible apply below_drew1)))) hb; clear hb hx)
                | (go_at_call 18; (with_reducible refine (HFS.out _).mono ?_); rintro e w4 ⟨x, rfl, hx, hb⟩; (obtain rfl : b = x := (by have hx2 := hx.trans HFB.out; exact (ab_some hx2).1)); have hB4 : Below wr.heap.size wr w4 := below_trans (by (repeat (first | (with_reducible assumption) | (with_reducible apply below_refl) | (with_reducible apply below_alloc1) | (with_reducible apply below_drewN1) | (with_reducible apply below_drew1)))) hb; clear hb hx))
              exact ⟨⟨k + 1, b', by omega, by go_num, rfl, hid HBN.out, below_trans hv3 (by (repeat (first | (with_reducible assumption) | (with_reducible apply below_refl) | (with_reducible apply below_alloc1) | (with_reducible apply below_drewN1) | (with_reducible apply below_drew1))))⟩, by simp [intOf]; omega⟩
            · go_wp2_with fail
              go_ret
              exact ⟨rfl, below_trans hbe hv3⟩
end Go.Proofs.Ytkaeohlakeliiaa
