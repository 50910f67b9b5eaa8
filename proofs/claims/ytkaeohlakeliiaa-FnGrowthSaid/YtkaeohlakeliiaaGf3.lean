/- Contracts: GrowthFit at rising quarters. -/
import Derived.Test.YtkaeohlakeliiaaGf2
import Derived.Test.YtkaeohlakeliiaaGrow2
import Derived.Test.YtkaeohlakeliiaaFp2
namespace Go.Proofs.Ytkaeohlakeliiaa
open Go.RowKit

def mulQ (c : Nat) (qs : List Nat) : List Nat := qs.map fun q => fq (c * q)
theorem mulQ_len (c : Nat) (qs : List Nat) : (mulQ c qs).length = qs.length := by simp [mulQ]
theorem mulQ_get (c : Nat) (qs : List Nat) {k : Nat} (hk : k < qs.length) : (mulQ c qs).getD k 0 = fq (c * qs.getD k 0) := by simp [mulQ, hk]
theorem ratio (c : Nat) (hc : c = 1 ∨ c = 2) {qs : List Nat} {q : Nat} (h : Ris qs q) (hn : qs.length ≤ 8) {k : Nat} (hk : k < qs.length) : fop .quo .f32 (ab .f32 (fq (c * (q + 4)))) (ab .f32 (fq (c * qs.getD k 0))) = ratX (q + 4) (qs.getD k 0) := by
  obtain ⟨a1, a2, a3⟩ := rise_lt h hn hk
  have e1 := (fq_some (c * (q + 4)) (by rcases hc with rfl | rfl <;> omega)).2.1
  have e2 := (fq_some (c * qs.getD k 0) (by rcases hc with rfl | rfl <;> omega)).2.1
  rw [e1, e2]
  rcases hc with rfl | rfl
  · rw [Nat.one_mul, Nat.one_mul]; rfl
  · exact rat_two (q + 4) a1 _ a2 a3
theorem rv_c (c : Nat) (hc : c = 1 ∨ c = 2) (z : Nat) (hz : z < 37) : RV .f32 (ab .f32 (fq (c * z))) ((c * z : Nat) / 4) := rv_fq (c * z) (by rcases hc with rfl | rfl <;> omega)
/-- The code's conditions. -/
theorem grow_ok (c : Nat) (hc : c = 1 ∨ c = 2) {qs : List Nat} {q : Nat} (h : Ris qs q) (hn : qs.length ≤ 8) (h1 : 1 ≤ qs.length) : growOk (mulQ c qs) (ab .f32 (fq (c * (q + 4)))) = true := by
  have hc1 : 1 ≤ c := by omega
  have hlt : ∀ k, k < qs.length → q + 4 < 37 ∧ qs.getD k 0 < q + 4 ∧ 0 < qs.getD k 0 := fun k hk => rise_lt h hn hk
  have hto := rv_c c hc (q + 4) (hlt 0 h1).1
  have hcast : ∀ a b : Nat, a < b → ((c * a : Nat) : Rat) / 4 < ((c * b : Nat) : Rat) / 4 := fun a b hab => by
    have := Rat.natCast_lt_natCast.2 (Nat.mul_lt_mul_of_pos_left hab hc1)
    grind
  unfold growOk
  simp only [Bool.and_eq_true, decide_eq_true_eq, List.all_eq_true, mulQ_len]
  refine ⟨⟨⟨⟨⟨h1, by omega⟩, ?_⟩, ?_⟩, ?_⟩, ?_⟩
  · intro x hx
    obtain ⟨k, hk, rfl⟩ := List.getElem_of_mem hx
    rw [mulQ_len] at hk
    obtain ⟨a1, a2, a3⟩ := hlt k hk
    have e := mulQ_get c qs hk
    rw [getD_at _ k (by rw [mulQ_len]; exact hk)] at e
    rw [e]
    have hr := rv_c c hc (qs.getD k 0) (by omega)
    have := hcast 0 (qs.getD k 0) a3
    unfold moreB
    rw [show finite32 (ab .f32 (fq (c * qs.getD k 0))) = true from hr.fin, rv_gt hr (rv_z .f32) (by simp only [Nat.mul_zero] at this; rw [show ((0 : Nat) : Rat) = 0 from rfl] at this; grind)]; rfl
  · refine sortB_yes fun j hj => ?_
    rw [mulQ_len] at hj
    unfold fallAt
    rw [mulQ_get c qs hj, mulQ_get c qs (by omega)]
    have h2 := h.up j (j + 1) (by omega) hj
    rw [rv_gt (rv_c c hc _ (by have := hlt (j + 1) hj; omega)) (rv_c c hc _ (by have := hlt j (by omega); omega)) (hcast _ _ h2)]
    rfl
  · exact hto.fin
  · rw [mulQ_get c qs (by omega), h.last h1]
    unfold leB
    rw [rv_lt (rv_c c hc q (by have := (hlt 0 h1).1; omega)) hto (hcast q (q + 4) (by omega))]
    rfl
theorem scale_rv {c q : Nat} {qs : List Nat} (hc : c = 1 ∨ c = 2) (h : FitOk q qs) (hq : q + 4 < 37) : ∃ s, RV .f32 (scX c q qs) s := by
  obtain ⟨e, he, e1, e2⟩ := h.e
  have hz : c * (q + 4) < 80 := by rcases hc with rfl | rfl <;> omega
  have ht := rv_fq (c * (q + 4)) hz
  rw [(fq_some (c * (q + 4)) hz).2.1] at ht
  have hz2 := Rat.natCast_le_natCast.2 (show c * (q + 4) ≤ 80 by omega)
  rw [show ((80 : Nat) : Rat) = 80 from rfl] at hz2
  have hz0 := Rat.natCast_le_natCast.2 (Nat.zero_le (c * (q + 4)))
  rw [show ((0 : Nat) : Rat) = 0 from rfl] at hz0
  generalize ((c * (q + 4) : Nat) : Rat) = z at *
  have hep : 0 < e := by grind
  have hd := Rat.div_mul_cancel (a := z / 4) (b := e) (by grind)
  have d0 : 0 ≤ z / 4 / e := Rat.le_of_mul_le_mul_right (c := e) (by rw [hd]; grind) hep
  have d1 : z / 4 / e ≤ 26 := Rat.le_of_mul_le_mul_right (c := e) (by rw [hd]; grind) hep
  obtain ⟨s, hs, _⟩ := near32 (wn_div ht he hep) 26 (by grind) (by grind) d1
  exact ⟨s, hs⟩
theorem fin2 {a b : Nat} {A B : Option Nat} (h1 : ab .f32 a = A) (h2 : ab .f32 b = B) (h : finite32 A = true ∧ finite32 B = true) : ([a, b].all fun x => finB (ab .f32 x)) = true := by
  simp only [List.all_cons, List.all_nil, Bool.and_true, finB, h1, h2, h.1, h.2]
/-- Three results: two numbers and a sign. -/
def FitRes (a b : Option Nat) (w : World) (e : Ending) (w' : World) : Prop := ∃ r s, e = .returned (.tuple #[.float .f32 r, .float .f32 s, .bool true]) ∧ ab .f32 r = a ∧ ab .f32 s = b ∧ Below w.heap.size w w'
set_option maxRecDepth 100000 in
set_option maxHeartbeats 2000000 in
theorem implGFit (c : Nat) (hc : c = 1 ∨ c = 2) (qs : List Nat) (q : Nat) (h : Ris qs q) (hn : qs.length ≤ 8) (h1 : 1 ≤ qs.length) (v : Value) (w : World) (hv : RowAt w v ((mulQ c qs).map (Value.float .f32))) :
    Calls Try.prog 10 #[v, .float .f32 (fq (c * (q + 4)))] w (FitRes (scX c q qs) (shX q qs) w) := by
  have HV := hid hv
  have HOK := hid (fit_ok h hn h1)
  have G1 := hid (grow_ok c hc h hn h1)
  have HRAT := hid (fun k hk => ratio c hc h hn (k := k) hk)
  have HGT := hid (show ∀ k, k < qs.length → ∃ r, RV .f32 (ratX (q + 4) (qs.getD k 0)) r ∧ 0 < r from fun k hk => by
    obtain ⟨a1, a2, a3⟩ := rise_lt h hn hk
    obtain ⟨r, hr, r1, r2⟩ := btw_of (rat_table (q + 4) a1 _ a2 a3)
    rw [show ((50 : Nat) : Rat) = 50 from rfl] at r1
    exact ⟨r, hr, by grind⟩)
  have HQ4 := hid (rise_lt h hn h1).1
  have HTO := hid (fq_some (c * (q + 4)) (by have := (rise_lt h hn h1).1; rcases hc with rfl | rfl <;> omega)).2.1
  obtain ⟨xs, hxs⟩ : ∃ xs, mulQ c qs = xs := ⟨_, rfl⟩
  have HG := hid (fun k hk => mulQ_get c qs (k := k) hk)
  have HL := hid (mulQ_len c qs)
  rw [hxs] at HV G1 HG HL hv
  obtain ⟨ao, cap, b, off, rfl, hao, hl, hm, hcl⟩ := hv
  simp only [List.length_map] at hl HV hao ⊢
  unfold maxLen at hm
  have HC := hid hcl; clear hcl
  obtain rfl := hao (by rw [HL.out]; exact h1)
  clear hao hxs h
  obtain ⟨to, hto⟩ : ∃ to, fq (c * (q + 4)) = to := ⟨_, rfl⟩
  rw [hto] at G1 HRAT HTO ⊢
  have HTE := hid hto
  clear hto
  obtain ⟨n, hln⟩ : ∃ n, qs.length = n := ⟨_, rfl⟩
  have hxn : xs.length = n := by rw [HL.out, hln]
  have HLN := hid hln
  rw [hxn] at HV hl
  rw [hln] at HRAT HGT HG hn h1
  rw [hxn]
  have HXN := hid hxn
  clear hln hxn HL
  go_enter Try.func10, Try.ntmps10
  go_wp2_with (first | (go_at_call 54; (with_reducible refine (isGrowth_any _ xs _ _ (HV.out.below (by (repeat (first | (with_reducible assumption) | (with_reducible apply below_refl) | (with_reducible apply below_alloc1) | (with_reducible apply below_drewN1) | (with_reducible apply below_drew1)))))).mono ?_); rw [G1.out]; rintro e w' ⟨rfl, hb⟩; have hB : Below w.heap.size w w' := below_trans (by (repeat (first | (with_reducible assumption) | (with_reducible apply below_refl) | (with_reducible apply below_alloc1) | (with_reducible apply below_drewN1) | (with_reducible apply below_drew1)))) hb; have hC := (bcell hB).1; clear hb))
  go_loopw [7, 19] (fun s i wr => ∃ (k F : Nat), k ≤ n ∧ i = .int .i64 k ∧ s = .float .f32 F ∧ Hid (ab .f32 F = sL (q + 4) qs k) ∧ Below w.heap.size w wr) (fun _ i _ => n - (intOf i).toNat)
  case atStart => exact ⟨0, 0, by omega, rfl, rfl, hid ab_z32, by (repeat (first | (with_reducible assumption) | (with_reducible apply below_refl) | (with_reducible apply below_alloc1) | (with_reducible apply below_drewN1) | (with_reducible apply below_drew1)))⟩
  case round =>
    obtain ⟨k, F, hk, rfl, rfl, hF, hw⟩ := hrel
    by_cases hlt : k < n
    · have hlx : k < xs.length := by rw [HXN.out]; exact hlt
      have hcell := rowc HC.out hw k hlx
      have hgd := HG.out k hlt
      rw [getD_at xs k hlx] at hgd
      have hrat := HRAT.out k hlt
      obtain ⟨R0, hR0, hR1⟩ := HGT.out k hlt
      rw [← hgd] at hrat
      have HL0 := hid (show lgT (q + 4) (qs.getD k 0) = lg32 (ratX (q + 4) (qs.getD k 0)) from rfl)
      generalize ratX (q + 4) (qs.getD k 0) = R at hrat hR0 HL0
      have HRG := hid (rv_gt hR0 (rv_z .f32) hR1)
      have HRF := hid (show finite32 R = true from hR0.fin)
      generalize xs[k] = x at hcell hrat
      have HQ := hid hrat
      clear hgd hrat hR0 hR1 hlx
      have hltI : (k : Int) < (n : Int) := by omega
      have hk0 : (0 : Int) ≤ (k : Int) := by omega
      go_wp2_with (first
        | (go_at_call 55; have hR : ab .f32 r = R := hr.trans HQ.out; (refine (implLog_any r (by rw [hR]; exact HRG.out) _).mono ?_); rintro e w' ⟨l, rfl, hlg, hb⟩; have hB := below_trans (show Below w.heap.size w _ by (repeat (first | (with_reducible assumption) | (with_reducible apply below_refl) | (with_reducible apply below_alloc1) | (with_reducible apply below_drewN1) | (with_reducible apply below_drew1)))) hb; have hl2 := (hlg.1 (by rw [hR]; exact HRF.out)).1; rw [hR] at hl2; clear hb hlg hR)
        | (refine upon_float rfl ?_; intro r nn hr; go_simp))
      go_roundw
      case rel => exact ⟨k + 1, r, by omega, by go_num, rfl, hid (by rw [sL_next, HL0.out, ← hF.out, ← hl2]; exact hr), by (repeat (first | (with_reducible assumption) | (with_reducible apply below_refl) | (with_reducible apply below_alloc1) | (with_reducible apply below_drewN1) | (with_reducible apply below_drew1)))⟩
      case measure => simp [intOf]; omega
    · obtain rfl : n = k := by omega
      have hS := hF.out
      obtain ⟨s, hs, s1⟩ := HOK.out.sum
      obtain ⟨hh, hsh, sh1, sh2⟩ := HOK.out.shape
      obtain ⟨ee, hee, ee1, ee2⟩ := HOK.out.e
      have HEX := hid HOK.out.exp
      have e1 : sL (q + 4) qs qs.length = ab .f32 F := by rw [HLN.out]; exact hS.symm
      have HM := hid (show ([F].all fun x => moreB (ab .f32 x)) = true by
        rw [e1] at hs
        simp only [List.all_cons, List.all_nil, Bool.and_true]
        unfold moreB
        rw [show finite32 (ab .f32 F) = true from hs.fin, rv_gt hs (rv_z .f32) (by grind)]; rfl)
      have HSH := hid (show shX q qs = fop .quo .f32 (some (floatOfInt .f32 (n : Int))) (ab .f32 F) by unfold shX; rw [e1, HLN.out])
      have HY := hid (show yX q qs = fop .quo .f32 (lgN n) (shX q qs) by unfold yX; rw [HLN.out])
      have HNG := hid (show ford .f32 (ab .f32 (floatOfInt .f32 (n : Int))) (some 0) = some .gt by
        rw [ab_ofInt]
        have hN := rv_ofInt32 (n : Int) (by omega)
        rw [Rat.intCast_natCast] at hN
        have := Rat.natCast_le_natCast.2 h1
        rw [show ((1 : Nat) : Rat) = 1 from rfl] at this
        exact rv_gt hN (rv_z .f32) (by grind))
      have HNF := hid (show finite32 (ab .f32 (floatOfInt .f32 (n : Int))) = true by
        rw [ab_ofInt]; exact (rv_ofInt32 (n : Int) (by omega)).fin)
      have HSC := hid (show scX c q qs = fop .quo .f32 (ab .f32 to) (eX q qs) by unfold scX; rw [HTE.out, HTO.out])
      have HFIN := hid (show finite32 (scX c q qs) = true ∧ finite32 (shX q qs) = true from ⟨(by obtain ⟨z, hz⟩ := scale_rv hc HOK.out HQ4.out; exact hz.fin), hsh.fin⟩)
      clear hS hs s1 hsh sh1 sh2 hee ee1 ee2 e1
      go_wp2_with (first
        | (go_at_call 56; refine (areMore_any _ [F] _ (rowAt_alloc _ _ [.float .f32 F] (by simp [maxLen]))).mono ?_; rw [HM.out]; rintro e w' ⟨rfl, hb⟩; have hB : Below w.heap.size w w' := below_trans (by (repeat (first | (with_reducible assumption) | (with_reducible apply below_refl) | (with_reducible apply below_alloc1) | (with_reducible apply below_drewN1) | (with_reducible apply below_drew1)))) hb; have hC := (bcell hB).1; clear hb)
        | (go_at_call 55; (refine (implLog_any _ HNG.out _).mono ?_); rintro e w' ⟨l, rfl, hlg, hb⟩; have hB := below_trans (show Below w.heap.size w _ by (repeat (first | (with_reducible assumption) | (with_reducible apply below_refl) | (with_reducible apply below_alloc1) | (with_reducible apply below_drewN1) | (with_reducible apply below_drew1)))) hb; have hl2 := hid (show ab .f32 l = lgN n by rw [(hlg.1 HNF.out).1, ab_ofInt]; rfl); have HH := hid (show ab .f32 r = shX q qs by rw [HSH.out, hr, ab_ofInt]); clear hb hlg)
        | (go_at_call 57; (refine (implExp_ok (a := yX q qs) (by rw [hr, hl2.out, HH.out, HY.out]) HEX.out _).mono ?_); rintro e w' ⟨ev, rfl, hev, hb⟩; have hB := below_trans (show Below w.heap.size w _ by (repeat (first | (with_reducible assumption) | (with_reducible apply below_refl) | (with_reducible apply below_alloc1) | (with_reducible apply below_drewN1) | (with_reducible apply below_drew1)))) hb; clear hb)
        | (go_at_call 58; have hS2 := hid (show ab .f32 r = scX c q qs by rw [hr, hev, HSC.out]; rfl); (refine (areFinite_any _ [_, _] _ (rowAt_alloc _ _ [.float .f32 _, .float .f32 _] (by simp [maxLen]))).mono ?_); rw [fin2 hS2.out HH.out HFIN.out]; rintro e w' ⟨rfl, hb⟩; have hB := below_trans (show Below w.heap.size w _ by (repeat (first | (with_reducible assumption) | (with_reducible apply below_refl) | (with_reducible apply below_alloc1) | (with_reducible apply below_drewN1) | (with_reducible apply below_drew1)))) hb; clear hb)
        | (refine upon_float rfl ?_; intro r nn hr; go_simp))
      go_ret3
      exact ⟨_, _, rfl, hS2.out, HH.out, by assumption⟩
end Go.Proofs.Ytkaeohlakeliiaa
