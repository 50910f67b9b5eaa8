/- The walk of laws.FnChains. -/
import Derived.Test.YtkaeohlakeliiaaChN
import Derived.Test.YtkaeohlakeliiaaCrew
import Derived.Test.YtkaeohlakeliiaaCrC
import Derived.Test.YtkaeohlakeliiaaDr
namespace Go.Proofs.Ytkaeohlakeliiaa
open Go.RowKit
set_option linter.unusedVariables false

theorem chainSteps_20 (ao : Option Addr) (cap : Nat) (rs : List Nat) (u : Value) (xs : List Nat) (n : Nat) (hn1 : 1 ≤ n) (hn8 : n ≤ 8) (hx : xs.length = n) (hC : chainB rs n = true) (hlow : (xs.all fun b => notLessB (ab .f32 b)) = true) (hmore : ([1031798784].all fun b => moreB (ab .f32 b)) = true)
    (hfin : ∀ k, k < n → finite32 (stepsS rs n (ab .f32 1031798784) (atX xs) 20 k) = true) (w : World) (hv : RowAt w (.slice ao rs.length cap) (rs.map (Value.float .f32))) (hu : RowAt w u (xs.map (Value.float .f32))) :
    Calls Try.prog 37 #[.agg #[.int .i64 n, .slice ao rs.length cap], u, .float .f32 1031798784, .int .i64 20] w (StepsOk rs n 1031798784 xs 20 w) :=
  chainSteps_any ao cap rs u xs n 1031798784 20 hn1 hn8 (by omega) (by omega) hx hC hlow hmore hfin w hv hu
theorem fq_of {F r : Nat} (hF : F < 8) (hr : ab .f32 r = fop .quo .f32 (ab .f32 (floatOfInt .f32 (1 + (F : Int)))) (ab .f32 1082130432)) : fq (F + 1) = r := by
  rw [ab_ofInt, show ab .f32 1082130432 = some cfour from by decide, show (1 : Int) + (F : Int) = ((F + 1 : Nat) : Int) by omega] at hr
  have h2 := (fq_some (F + 1) (by omega)).1
  exact (ab_some (hr.trans h2)).1
theorem fq_more {q : Nat} (h1 : 1 ≤ q) (h8 : q ≤ 8) : moreB (ab .f32 (fq q)) = true := by
  have h := rv_fq q (by omega)
  unfold moreB
  rw [show finite32 (ab .f32 (fq q)) = true from h.fin, rv_gt h rv_zero32 (by have := natr_le h1; rw [show ((1 : Nat) : Rat) = 1 from rfl] at this; grind)]
  rfl
theorem crew_bits8 {m c f r F R p0 p1 j z : Nat} (ok : CrewOk m c (ab .f32 f) (ab .f32 r)) (hf : f = fq (F + 1)) (hr : r = fq (R + 1)) (F8 : F < 8) (R8 : R < 8) (hj : j < m) (m8 : m ≤ 8) (hp0 : ab .f32 p0 = cwP m c (ab .f32 f) (ab .f32 r) j) (hp1 : ab .f32 p1 = cwP m c (ab .f32 f) (ab .f32 r) (j + 1)) (hz : z = min (j + 1) c) :
    ∃ A1 A2 B1 B2 cc, fop .mul .f32 (ab .f32 p0) (ab .f32 (floatOfInt .f32 ((m - j : Nat) : Int))) = some A1 ∧ fop .mul .f32 (ab .f32 A1) (ab .f32 f) = some A2 ∧ fop .mul .f32 (ab .f32 p1) (ab .f32 (floatOfInt .f32 (z : Int))) = some B1 ∧ fop .mul .f32 (ab .f32 B1) (ab .f32 r) = some B2 ∧ gap8 (ab .f32 A2) (ab .f32 B2) = some cc ∧ (ford .f64 (ab .f64 cc) (ab .f64 4562254508917369340) == some .gt) = false := by
  have hrf : RV .f32 (ab .f32 f) (((F + 1 : Nat) : Rat) / 4) := by rw [hf]; exact rv_fq (F + 1) (by omega)
  have hrr : RV .f32 (ab .f32 r) (((R + 1 : Nat) : Rat) / 4) := by rw [hr]; exact rv_fq (R + 1) (by omega)
  have nf0 := natr_0 (F + 1)
  have nf8 := natr_le (show F + 1 ≤ 8 by omega)
  have nr0 := natr_0 (R + 1)
  have nr8 := natr_le (show R + 1 ≤ 8 by omega)
  rw [show ((8 : Nat) : Rat) = 8 from rfl] at nf8 nr8
  exact crew_bits ok hj m8 hp0 hp1 hz hrf (by grind) (by grind) hrr (by grind) (by grind)
/-- What the law is told of crews. -/
structure CrewT (m c f r : Nat) : Prop where
  bal : ∀ w, Calls Try.prog 38 #[.int .i64 m, .int .i64 c, .float .f32 f, .float .f32 r] w (CrewRow m c (ab .f32 f) (ab .f32 r) w)
  mean : ∀ w, Calls Try.prog 39 #[.int .i64 m, .int .i64 c, .float .f32 f, .float .f32 r] w fun e w' => ∃ z, e = .returned (.tuple #[.float .f32 z, .bool true]) ∧ ab .f32 z = meanO (cwP m c (ab .f32 f) (ab .f32 r)) (m + 1) ∧ Below w.heap.size w w'
  ok : CrewOk m c (ab .f32 f) (ab .f32 r)
theorem crewT_of {m c F R : Nat} (m1 : 1 ≤ m) (m8 : m ≤ 8) (c1 : 1 ≤ c) (cm : c ≤ m) (hF : F < 8) (hR : R < 8) : CrewT m c (fq (F + 1)) (fq (R + 1)) := by
  have ef : ab .f32 (fq (F + 1)) = some (fq (F + 1)) := (fq_some (F + 1) (by omega)).2.1
  have er : ab .f32 (fq (R + 1)) = some (fq (R + 1)) := (fq_some (R + 1) (by omega)).2.1
  have ok : CrewOk m c (ab .f32 (fq (F + 1))) (ab .f32 (fq (R + 1))) := by rw [ef, er]; exact crew_told m1 m8 c1 cm hF hR
  have l : ([fq (F + 1)].all fun b => notLessB (ab .f32 b)) = true := by simp [fq_fin (show F + 1 ≤ 8 by omega)]
  have r : ([fq (R + 1)].all fun b => moreB (ab .f32 b)) = true := by simp [fq_more (show 1 ≤ R + 1 by omega) (show R + 1 ≤ 8 by omega)]
  exact ⟨crewBalance_any m c _ _ m1 m8 c1 cm l r ok.fin, meanDown_any m c _ _ m1 m8 c1 cm l r ok.fin ok.finM, ok⟩
set_option maxRecDepth 100000 in
set_option maxHeartbeats 8000000 in
theorem walk_FnChains (vc : Value) (cs : List Int) (vm : Value) (ms : List Int) (w : World) (hc : RowAt w vc (cs.map (Value.int .u8))) (hcb : ∀ b ∈ cs, 0 ≤ b ∧ b ≤ 255) (hm : RowAt w vm (ms.map (Value.int .u8))) (hmb : ∀ b ∈ ms, 0 ≤ b ∧ b ≤ 255) :
    Calls Try.prog 5 #[vc, vm] w fun e w' => e = .returned (.bool true) ∧ Below w.heap.size w w' := by
  obtain ⟨i0, hi0, hz0, hz1, hz2⟩ := info_parts (P := Try.prog) (e := 27) (z := Value.float .f32 0) (size := 1) (bytes := 4) (by kernel_rfl)
  obtain ⟨j0, hj0, hy0, hy1, hy2⟩ := info_parts (P := Try.prog) (e := 4) (z := Value.bool false) (size := 1) (bytes := 1) (by kernel_rfl)
  have HC := hid hc; have HM := hid hm; have HCB := hid hcb; have HMB := hid hmb
  clear hc hm hcb hmb
  cases hl : (decide (48 < cs.length) || decide (48 < ms.length))
  rotate_left
  · have HL := hid hl; clear hl
    go_enter Try.func5, Try.ntmps5
    go_wp2_with (go_at_call 30; (with_reducible refine (r8Long_any _ _ cs ms _ (HC.out.below (by (repeat (first | (with_reducible assumption) | (with_reducible apply below_refl) | (with_reducible apply below_alloc1) | (with_reducible apply below_drewN1) | (with_reducible apply below_drew1))))) (HM.out.below (by (repeat (first | (with_reducible assumption) | (with_reducible apply below_refl) | (with_reducible apply below_alloc1) | (with_reducible apply below_drewN1) | (with_reducible apply below_drew1))))) true HL.out).mono ?_); rintro e w' ⟨rfl, hb⟩; have hB : Below w.heap.size w w' := below_trans (by (repeat (first | (with_reducible assumption) | (with_reducible apply below_refl) | (with_reducible apply below_alloc1) | (with_reducible apply below_drewN1) | (with_reducible apply below_drew1)))) hb; have hC := (bcell hB).1; clear hb)
    go_ret
    exact ⟨rfl, by assumption⟩
  have HL := hid hl; clear hl
  obtain ⟨n, hA⟩ : ∃ n : Nat, at8 ms 40 5 = (n : Int) - 1 := ⟨(at8 ms 40 5 + 1).toNat, by have := at8_bd ms 40 5 (by decide); omega⟩
  have bA := at8_bd ms 40 5 (by decide)
  obtain ⟨m, hM⟩ : ∃ m : Nat, at8 ms 41 8 = (m : Int) - 1 := ⟨(at8 ms 41 8 + 1).toNat, by have := at8_bd ms 41 8 (by decide); omega⟩
  have bM := at8_bd ms 41 8 (by decide)
  have n1 : 1 ≤ n := by omega
  have n5 : n ≤ 5 := by omega
  have m1 : 1 ≤ m := by omega
  have m8 : m ≤ 8 := by omega
  obtain ⟨c, hCr⟩ : ∃ c : Nat, at8 ms 42 m = (c : Int) - 1 := ⟨(at8 ms 42 m + 1).toNat, by have := at8_bd ms 42 m (by omega); omega⟩
  have bC := at8_bd ms 42 m (by omega)
  have c1 : 1 ≤ c := by omega
  have cm : c ≤ m := by omega
  obtain ⟨F, hF⟩ : ∃ F : Nat, at8 ms 43 8 = (F : Int) := ⟨(at8 ms 43 8).toNat, by have := at8_bd ms 43 8 (by decide); omega⟩
  have bF := at8_bd ms 43 8 (by decide)
  obtain ⟨R, hR⟩ : ∃ R : Nat, at8 ms 44 8 = (R : Int) := ⟨(at8 ms 44 8).toNat, by have := at8_bd ms 44 8 (by decide); omega⟩
  have bR := at8_bd ms 44 8 (by decide)
  have F8 : F < 8 := by omega
  have R8 : R < 8 := by omega
  obtain ⟨f, hf⟩ : ∃ f, f = fq (F + 1) := ⟨_, rfl⟩
  obtain ⟨r, hr⟩ : ∃ r, r = fq (R + 1) := ⟨_, rfl⟩
  have HT1' := hid (show CrewT m c f r by rw [hf, hr]; exact crewT_of m1 m8 c1 cm F8 R8)
  have HT2' := hid (show CrewT m m f r by rw [hf, hr]; exact crewT_of m1 m8 m1 (Nat.le_refl m) F8 R8)
  have HFF := hid hf; have HRF := hid hr
  clear hf hr
  have WM1 : IntKind.i64.wrap ((m : Int) + 1) = (m : Int) + 1 := by rw [IntKind.wrap_i64]; omega
  have HA := hid hA; have HMM := hid hM; have HCR := hid hCr; have HF := hid hF; have HR := hid hR
  have WA : IntKind.i64.wrap (1 + ((n : Int) - 1)) = (n : Int) := by rw [IntKind.wrap_i64]; omega
  have WM : IntKind.i64.wrap (1 + ((m : Int) - 1)) = (m : Int) := by rw [IntKind.wrap_i64]; omega
  have WC : IntKind.i64.wrap (1 + ((c : Int) - 1)) = (c : Int) := by rw [IntKind.wrap_i64]; omega
  have WF : IntKind.i64.wrap (1 + (F : Int)) = 1 + (F : Int) := by rw [IntKind.wrap_i64]; omega
  have WR : IntKind.i64.wrap (1 + (R : Int)) = 1 + (R : Int) := by rw [IntKind.wrap_i64]; omega
  have WN : IntKind.i64.wrap (n : Int) = (n : Int) := by rw [IntKind.wrap_i64]; omega
  clear hA bA hM bM hCr bC hF bF hR bR
  go_enter Try.func5, Try.ntmps5
  go_wp2_with (first
    | (go_at_call 30; (with_reducible refine (r8Long_any _ _ cs ms _ (HC.out.below (by (repeat (first | (with_reducible assumption) | (with_reducible apply below_refl) | (with_reducible apply below_alloc1) | (with_reducible apply below_drewN1) | (with_reducible apply below_drew1))))) (HM.out.below (by (repeat (first | (with_reducible assumption) | (with_reducible apply below_refl) | (with_reducible apply below_alloc1) | (with_reducible apply below_drewN1) | (with_reducible apply below_drew1))))) false HL.out).mono ?_); rintro e w' ⟨rfl, hb⟩; have hB : Below w.heap.size w w' := below_trans (by (repeat (first | (with_reducible assumption) | (with_reducible apply below_refl) | (with_reducible apply below_alloc1) | (with_reducible apply below_drewN1) | (with_reducible apply below_drew1)))) hb; have hC := (bcell hB).1; clear hb)
    | (go_at_call 31; (with_reducible refine (r8At_any _ ms 40 5 _ (HM.out.below (by (repeat (first | (with_reducible assumption) | (with_reducible apply below_refl) | (with_reducible apply below_alloc1) | (with_reducible apply below_drewN1) | (with_reducible apply below_drew1))))) HMB.out (by omega) (by omega)).mono ?_); rw [HA.out]; rintro e w' ⟨rfl, hb⟩; have hB : Below w.heap.size w w' := below_trans (by (repeat (first | (with_reducible assumption) | (with_reducible apply below_refl) | (with_reducible apply below_alloc1) | (with_reducible apply below_drewN1) | (with_reducible apply below_drew1)))) hb; have hC := (bcell hB).1; clear hb)
    | (go_at_call 32; (with_reducible refine (r8Chain_any _ cs n n1 n5 _ (HC.out.below (by (repeat (first | (with_reducible assumption) | (with_reducible apply below_refl) | (with_reducible apply below_alloc1) | (with_reducible apply below_drewN1) | (with_reducible apply below_drew1))))) HCB.out).mono ?_); rintro e wa ⟨v, qs, rfl, hq, ho, hb⟩; obtain ⟨X, T, t1, t2, t3, t4⟩ := chain_told n1 hq n5; obtain ⟨rs, hrs⟩ : ∃ rs, rs = qs.map fq := ⟨_, rfl⟩; rw [← hrs] at ho t1 t2 t3; obtain ⟨xs, hxs⟩ : ∃ xs, xs = balXs (balOf rs n) := ⟨_, rfl⟩; rw [← hxs] at t2 t3; have HSH := hid (show Shr n qs xs X T from ⟨n1, n5, hq, t2, t3, t4⟩); have hrl : rs.length = n * n := (by rw [hrs, List.length_map, hq.len]); obtain ⟨g0, cp0, hrv, -, -, hg0, hg1⟩ := slice_of_own ho (by rw [List.length_map, hrl]; exact Nat.le_trans n1 (Nat.le_mul_of_pos_left n n1)); rw [List.length_map] at hrv; subst hrv; have HRS := hid hrs; have HXS := hid hxs; have HXL := hid t2; have HBT := hid t1; have HRL := hid hrl; have HCO := hid (chain_ok n1 hq n5); have HROW := hid (Own.mk' ho).row; have HRO := hid ho; have HB1 := hid (show Below w.heap.size w wa from below_trans (by (repeat (first | (with_reducible assumption) | (with_reducible apply below_refl) | (with_reducible apply below_alloc1) | (with_reducible apply below_drewN1) | (with_reducible apply below_drew1)))) hb); rw [← hrs] at HCO; clear hb hrs hxs t1 t2 t3 t4 hq ho hrl)
    | (go_at_call 33; (refine (implBalance_v n _ rs _ (HROW.out.below (by (repeat (first | (with_reducible assumption) | (with_reducible apply below_refl) | (with_reducible apply below_alloc1) | (with_reducible apply below_drewN1) | (with_reducible apply below_drew1)))))).mono ?_); rw [HBT.out, ← HXS.out]; rintro e wb ⟨y, rfl, ho, hb⟩; have hcc := (bcell hb).1; have hzb := hb.size; have HB2 := hid (show Below wa.heap.size wa wb from below_trans (by (repeat (first | (with_reducible assumption) | (with_reducible apply below_refl) | (with_reducible apply below_alloc1) | (with_reducible apply below_drewN1) | (with_reducible apply below_drew1)))) hb); have k0 : wb.cell? ⟨wa.heap.size, 0, none⟩ = some (.int .i64 n) := (by rw [hcc _ _ (by simp)]; simp); have k1 : wb.cell? ⟨wa.heap.size, 1, none⟩ = some (.slice (some ⟨g0, 0, none⟩) rs.length cp0) := (by rw [hcc _ _ (by simp)]; simp); obtain ⟨g2, cp2, hyv, -, -, hg2, hg3⟩ := slice_of_own ho (by rw [List.length_map, HXL.out]; exact n1); rw [List.length_map, HXL.out] at hyv; subst hyv; have HO := hid ho; clear ho hb hcc)
    | (go_at_call 34; refine (validChain_any _ _ _ rs _ (HROW.out.below (below_trans HB2.out (by (repeat (first | (with_reducible assumption) | (with_reducible apply below_refl) | (with_reducible apply below_alloc1) | (with_reducible apply below_drewN1) | (with_reducible apply below_drew1))))))).mono ?_; rw [HCO.out]; rintro e wc ⟨rfl, hb⟩; have HB3 := hid (show Below wb.heap.size wb wc from below_trans (by (repeat (first | (with_reducible assumption) | (with_reducible apply below_refl) | (with_reducible apply below_alloc1) | (with_reducible apply below_drewN1) | (with_reducible apply below_drew1)))) hb); have K0 := hid (show wc.cell? ⟨wa.heap.size, 0, none⟩ = some (.int .i64 n) by rw [HB3.out.cell (p := ⟨wa.heap.size, 0, none⟩) (show wa.heap.size < wb.heap.size from World.block_lt_of_cell? wb _ k0)]; exact k0); have K1 := hid (show wc.cell? ⟨wa.heap.size, 1, none⟩ = some (.slice (some ⟨g0, 0, none⟩) rs.length cp0) by rw [HB3.out.cell (p := ⟨wa.heap.size, 1, none⟩) (show wa.heap.size < wb.heap.size from World.block_lt_of_cell? wb _ k0)]; exact k1); clear k0 k1 hb))
  have HX := hid (ownsRow_below HO.out HB3.out)
  have HQ := hid (ownsRow_below (ownsRow_below HRO.out HB2.out) HB3.out)
  have HBW := hid (below_trans HB1.out (below_trans HB2.out HB3.out))
  have hza : wa.heap.size < wc.heap.size := World.block_lt_of_cell? wc _ K0.out
  have HCX := hid (show ∀ (wr : World), Below wc.heap.size wc wr → ∀ i, i < n → ∃ p, wr.cell? ⟨g2, i, none⟩ = some (.float .f32 p) ∧ ab .f32 p = atX xs i from fun wr hw i hi => by
    have ho := ownsRow_below HX.out hw
    rw [List.length_map, HXL.out] at ho
    have hix : i < xs.length := by rw [HXL.out]; exact hi
    exact ⟨xs[i], by rw [ho.cellAt i (by omega)]; simp [hix], (atX_get hix).symm⟩)
  have HCRS := hid (show ∀ (wr : World), Below wc.heap.size wc wr → ∀ i, i < n * n → ∃ p, wr.cell? ⟨g0, i, none⟩ = some (.float .f32 p) ∧ ab .f32 p = atX rs i from fun wr hw i hi => by
    have ho := ownsRow_below HQ.out hw
    rw [List.length_map, HRL.out] at ho
    have hix : i < rs.length := by rw [HRL.out]; exact hi
    exact ⟨rs[i], by rw [ho.cellAt i (by omega)]; simp [hix], (atX_get hix).symm⟩)
  have HKW := hid (show ∀ (wr : World), Below wc.heap.size wc wr → wr.cell? ⟨wa.heap.size, 0, none⟩ = some (.int .i64 n) ∧ wr.cell? ⟨wa.heap.size, 1, none⟩ = some (.slice (some ⟨g0, 0, none⟩) rs.length cp0) from fun wr hw =>
    ⟨by rw [hw.cell (p := ⟨wa.heap.size, 0, none⟩) hza]; exact K0.out, by rw [hw.cell (p := ⟨wa.heap.size, 1, none⟩) hza]; exact K1.out⟩)
  have HIX := hid (show ∀ i k, i < n → k < n → i * n + k < n * n from fun i k hi hk => by
    have : (i + 1) * n ≤ n * n := Nat.mul_le_mul_right n hi
    rw [Nat.add_mul, Nat.one_mul] at this
    omega)
  have HNN := hid (show n * n ≤ 25 from Nat.le_trans (Nat.mul_le_mul n5 n5) (by decide))
  go_loopw [9, 10, 11, 12, 13] (fun sv uv vv zv kv wr => ∃ (k F : Nat) (us vs : List Bool) (zs : List Nat), k ≤ n ∧ kv = .int .i64 k ∧ sv = .float .f64 F ∧ Hid (ab .f64 F = sumS xs k) ∧ Hid (us.length = k ∧ vs = us.map fun b => !b) ∧ Hid (zs.map (ab .f32) = (List.range k).map (startX xs)) ∧ Hid (Tri wr wc.heap.size uv vv zv us vs zs) ∧ Below wc.heap.size wc wr) (fun _ _ _ _ kv _ => n - (intOf kv).toNat)
  case atStart => exact ⟨0, 0, [], [], [], Nat.zero_le _, rfl, rfl, hid ab_z64, hid ⟨rfl, rfl⟩, hid rfl, hid (tri_made wc), by (repeat (first | (with_reducible assumption) | (with_reducible apply below_refl) | (with_reducible apply below_alloc1) | (with_reducible apply below_drewN1) | (with_reducible apply below_drew1)))⟩
  case round =>
    obtain ⟨k, F1, us, vs, zs, hk, rfl, rfl, hF1, hus, hzs, hT, hw⟩ := hrel
    obtain ⟨wd, hwd⟩ : ∃ wd, wd = wr := ⟨_, rfl⟩
    subst hwd
    by_cases hlt : k < n
    · have hkI : (k : Int) < (n : Int) := by omega
      have hk0 : (0 : Int) ≤ (k : Int) := by omega
      obtain ⟨p, hcell, hp⟩ := HCX.out wd hw k hlt
      have HP := hid hp
      clear hp
      go_wp2_with (first
        | ((fail_if_success (have := hr1)); (first | (refine upon_widen (by kernel_rfl) Try.underlying34 ?_; intro r1 n1' hr1; go_simp) | (refine upon_float rfl ?_; intro r1 n1' hr1; go_simp)))
        | ((fail_if_success (have := hr2)); (first | (refine upon_widen (by kernel_rfl) Try.underlying34 ?_; intro r2 n2' hr2; go_simp) | (refine upon_float rfl ?_; intro r2 n2' hr2; go_simp))))
      have HF2 := hid (show ab .f64 r2 = sumS xs (k + 1) by rw [hr2, hr1, hF1.out, HP.out, sumS_next])
      clear hr1 hr2
      go_loopw [14, 15, 16] (fun nv ov iv wr => ∃ (i A B : Nat), i ≤ n ∧ iv = .int .i64 i ∧ nv = .float .f64 A ∧ ov = .float .f64 B ∧ Hid (ab .f64 A = inS rs xs n k i) ∧ Hid (ab .f64 B = outS rs xs n k i) ∧ Below wd.heap.size wd wr) (fun _ _ iv _ => n - (intOf iv).toNat)
      case atStart => exact ⟨0, 0, 0, Nat.zero_le _, rfl, rfl, rfl, hid ab_z64, hid ab_z64, by (repeat (first | (with_reducible assumption) | (with_reducible apply below_refl) | (with_reducible apply below_alloc1) | (with_reducible apply below_drewN1) | (with_reducible apply below_drew1)))⟩
      case round =>
        obtain ⟨i, A, B, hi, rfl, rfl, rfl, hA, hB, hwi⟩ := hrel
        have hwt := below_trans hw hwi
        by_cases hlt2 : i < n
        · have hiI : (i : Int) < (n : Int) := by omega
          have hi0 : (0 : Int) ≤ (i : Int) := by omega
          obtain ⟨x, hcx, hx⟩ := HCX.out wr hwt i hlt2
          obtain ⟨y, hcy, hy⟩ := HCX.out wr hwt k hlt
          obtain ⟨a, hca, ha⟩ := HCRS.out wr hwt (i * n + k) (HIX.out i k hlt2 hlt)
          obtain ⟨b, hcb, hb⟩ := HCRS.out wr hwt (k * n + i) (HIX.out k i hlt hlt2)
          obtain ⟨k0, k1⟩ := HKW.out wr hwt
          have b1 := HIX.out i k hlt2 hlt
          have b2 := HIX.out k i hlt hlt2
          have b3 : rs.length ≤ 25 := by rw [HRL.out]; exact HNN.out
          rw [← HRL.out] at b1 b2
          have c1' : (i : Int) * (n : Int) = ((i * n : Nat) : Int) := (Int.natCast_mul _ _).symm
          have c2' : (k : Int) * (n : Int) = ((k * n : Nat) : Int) := (Int.natCast_mul _ _).symm
          have HZ := hid hx
          obtain ⟨M1, e1, e1'⟩ : ∃ M, fop .mul .f64 (wid (ab .f32 x)) (wid (ab .f32 a)) = some M ∧ ab .f64 M = some M := by
            rw [hx, ha, HRS.out]; exact HSH.out.mul_some hlt2 hlt2 hlt
          obtain ⟨M2, e2, e2'⟩ : ∃ M, fop .mul .f64 (wid (ab .f32 y)) (wid (ab .f32 b)) = some M ∧ ab .f64 M = some M := by
            rw [hy, hb, HRS.out]; exact HSH.out.mul_some hlt hlt hlt2
          obtain ⟨S1', e3, e3'⟩ : ∃ M, inS rs xs n k (i + 1) = some M ∧ ab .f64 M = some M := by
            rw [HRS.out]; exact HSH.out.in_some hlt (i + 1) (by omega)
          obtain ⟨S2', e4, e4'⟩ : ∃ M, outS rs xs n k (i + 1) = some M ∧ ab .f64 M = some M := by
            rw [HRS.out]; exact HSH.out.out_some hlt (i + 1) (by omega)
          have e5 : fop .add .f64 (ab .f64 A) (ab .f64 M1) = some S1' := by rw [← e3, inS_next, hA.out, e1', ← e1, hx, ha]
          have e6 : fop .add .f64 (ab .f64 B) (ab .f64 M2) = some S2' := by rw [← e4, outS_next, hB.out, e2', ← e2, hy, hb]
          obtain ⟨x', cx, ex⟩ := det_conv (P := Try.prog) (src := 27) (dst := 34) rfl Try.underlying34 (x := x) (by rw [hx]; exact HSH.out.rv i hlt2)
          obtain ⟨y', cy, ey⟩ := det_conv (P := Try.prog) (src := 27) (dst := 34) rfl Try.underlying34 (x := y) (by rw [hy]; exact HSH.out.rv k hlt)
          obtain ⟨a', cva, ea⟩ := det_conv (P := Try.prog) (src := 27) (dst := 34) rfl Try.underlying34 (x := a) (by rw [ha, HRS.out]; exact HSH.out.rq hlt2 hlt)
          obtain ⟨b', cvb, eb⟩ := det_conv (P := Try.prog) (src := 27) (dst := 34) rfl Try.underlying34 (x := b) (by rw [hb, HRS.out]; exact HSH.out.rq hlt hlt2)
          have o1 : ∀ T w, (binOp .mul T (.float .f64 x') (.float .f64 a')).run Try.prog w = .ok (.float .f64 M1) w := fun T w => det_op .mul (by rw [ex, ea]; exact e1) T w
          have o2 : ∀ T w, (binOp .add T (.float .f64 A) (.float .f64 M1)).run Try.prog w = .ok (.float .f64 S1') w := fun T w => det_op .add e5 T w
          have o3 : ∀ T w, (binOp .mul T (.float .f64 y') (.float .f64 b')).run Try.prog w = .ok (.float .f64 M2) w := fun T w => det_op .mul (by rw [ey, eb]; exact e2) T w
          have o4 : ∀ T w, (binOp .add T (.float .f64 B) (.float .f64 M2)).run Try.prog w = .ok (.float .f64 S2') w := fun T w => det_op .add e6 T w
          have HE3 := hid (show ab .f64 S1' = inS rs xs n k (i + 1) from e3'.trans e3.symm)
          have HE4 := hid (show ab .f64 S2' = outS rs xs n k (i + 1) from e4'.trans e4.symm)
          clear e1 e1' e2 e2' e3 e3' e4 e4' e5 e6 ex ey ea eb
          clear hx hy ha hb
          generalize hI1 : i * n = p1 at *
          generalize hI2 : k * n = p2 at *
          obtain ⟨j1, hj1⟩ : ∃ j1, j1 = p1 + k := ⟨_, rfl⟩
          obtain ⟨j2, hj2⟩ : ∃ j2, j2 = p2 + i := ⟨_, rfl⟩
          rw [← hj1] at hca b1
          rw [← hj2] at hcb b2
          have W1 : IntKind.i64.wrap ((i : Int) * (n : Int)) = (p1 : Int) := by rw [c1', IntKind.wrap_i64]; omega
          have W2 : IntKind.i64.wrap ((k : Int) * (n : Int)) = (p2 : Int) := by rw [c2', IntKind.wrap_i64]; omega
          have W3 : IntKind.i64.wrap ((p1 : Int) + (k : Int)) = (j1 : Int) := by rw [IntKind.wrap_i64]; omega
          have W4 : IntKind.i64.wrap ((p2 : Int) + (i : Int)) = (j2 : Int) := by rw [IntKind.wrap_i64]; omega
          have d1 : (0 : Int) ≤ (j1 : Int) := by omega
          have d2 : (0 : Int) ≤ (j2 : Int) := by omega
          have d3 : (j1 : Int) < (rs.length : Int) := by omega
          have d4 : (j2 : Int) < (rs.length : Int) := by omega
          have HJ1 := hid hj1; have HJ2 := hid hj2
          clear hj1 hj2 hI1 hI2 c1' c2'
          go_wp2_with (first | go_quiet (fail))
          go_roundw
          case rel => exact ⟨i + 1, S1', S2', by omega, by go_num, rfl, rfl, HE3, HE4, below_trans hwi (by (repeat (first | (with_reducible assumption) | (with_reducible apply below_refl) | (with_reducible apply below_alloc1) | (with_reducible apply below_drewN1) | (with_reducible apply below_drew1))))⟩
          case measure => simp [intOf]; omega
        · obtain rfl : i = n := by omega
          have hiI : ¬ (i : Int) < (i : Int) := by omega
          obtain ⟨y, hcy, hy⟩ := HCX.out wr hwt k hlt
          obtain ⟨f1, f2, f3⟩ := HSH.out.gap_ok hlt
          rw [← HRS.out, ← hA.out] at f1
          rw [← HRS.out, ← hB.out] at f2
          rw [← HRS.out, ← hA.out, ← hB.out] at f3
          have hlo := (show (ford .f64 (wid (ab .f32 y)) (ab .f64 13785626545772145148) == some .lt) = false by
            rw [hy, show ab .f64 13785626545772145148 = some cnmil from by decide]; exact HSH.out.low_ok hlt)
          have HF1 := hid f1; have HF2' := hid f2
          have HGP := hid (show (ford .f64 (gap8 (nar (ab .f64 A)) (nar (ab .f64 B))) (ab .f64 4562254508917369340) == some .gt) = false by
            rw [show ab .f64 4562254508917369340 = some cmil from by decide]; exact f3)
          have HY := hid hy
          clear f1 f2 f3 hy
          obtain ⟨d, hd⟩ : ∃ d, at8 ms k 2 = d := ⟨_, rfl⟩
          have HD := hid hd
          clear hd
          obtain ⟨b, hb1⟩ : ∃ b, (d == (1 : Int)) = b := ⟨_, rfl⟩
          have hb2 : decide (d = (1 : Int)) = b := by rw [← hb1]; rfl
          have HZL := hid (show zs.length = k by have := congrArg List.length hzs.out; simpa using this)
          have hkr : (0 : Int) ≤ (k : Int) ∧ (k : Int) ≤ 1000000 := by omega
          have HKR := hid hkr
          clear hkr
          go_wp2_with (first
            | ((fail_if_success (have := hr1)); refine upon_widen (by kernel_rfl) Try.underlying34 ?_; intro r1 n1' hr1; go_simp)
            | ((fail_if_success (have := hr2)); refine upon_narrow (by kernel_rfl) Try.underlying27 HF1.out ?_; intro r3 n3' hr2; go_simp)
            | ((fail_if_success (have := hr3)); refine upon_narrow (by kernel_rfl) Try.underlying27 HF2'.out ?_; intro r4 n4' hr3; go_simp)
            | (go_at_call 35; refine (r8Gap_any _ _ _).mono ?_; rintro e w5 ⟨γ, rfl, hγ, hb5⟩; have hgp : (ford .f64 (ab .f64 γ) (ab .f64 4562254508917369340) == some .gt) = false := (by rw [hγ, hr2, hr3]; exact HGP.out); have hB5 : Below wr.heap.size wr w5 := below_trans (by (repeat (first | (with_reducible assumption) | (with_reducible apply below_refl) | (with_reducible apply below_alloc1) | (with_reducible apply below_drewN1) | (with_reducible apply below_drew1)))) hb5; clear hb5 hγ)
            | (go_at_call 31; (with_reducible refine (r8At_any _ ms k 2 _ (HM.out.below (below_trans HBW.out (below_trans hwt (by (repeat (first | (with_reducible assumption) | (with_reducible apply below_refl) | (with_reducible apply below_alloc1) | (with_reducible apply below_drewN1) | (with_reducible apply below_drew1))))))) HMB.out HKR.out (by omega)).mono ?_); rw [HD.out]; rintro e w6 ⟨rfl, hb6⟩; have hB6 : Below wr.heap.size wr w6 := below_trans (by (repeat (first | (with_reducible assumption) | (with_reducible apply below_refl) | (with_reducible apply below_alloc1) | (with_reducible apply below_drewN1) | (with_reducible apply below_drew1)))) hb6; clear hb6)
            | ((fail_if_success (have := HT1)); at_builtin; refine wpList_pushR rfl _ _ 53 rfl Try.underlying53 hj0 hy0 hy1 hy2 rfl wc.heap.size _ _ rfl rfl (hT.out.keep (below_trans hwi (show Below wr.heap.size wr _ by (repeat (first | (with_reducible assumption) | (with_reducible apply below_refl) | (with_reducible apply below_alloc1) | (with_reducible apply below_drewN1) | (with_reducible apply below_drew1)))))).ru rfl (by rw [List.length_map, hus.out.1]; omega) (by decide) (Nat.le_trans hwt.size (Below.size (show Below wr.heap.size wr _ by (repeat (first | (with_reducible assumption) | (with_reducible apply below_refl) | (with_reducible apply below_alloc1) | (with_reducible apply below_drewN1) | (with_reducible apply below_drew1)))))) ?_; intro u1 wu hown hgr hblk hbu; have HT1 := hid ((hT.out.keep (below_trans hwi (show Below wr.heap.size wr _ by (repeat (first | (with_reducible assumption) | (with_reducible apply below_refl) | (with_reducible apply below_alloc1) | (with_reducible apply below_drewN1) | (with_reducible apply below_drew1)))))).pushU (b := b) hown hgr hblk); have HBU := hid ((below_trans hwt (show Below wr.heap.size wr _ by (repeat (first | (with_reducible assumption) | (with_reducible apply below_refl) | (with_reducible apply below_alloc1) | (with_reducible apply below_drewN1) | (with_reducible apply below_drew1))))).trans hbu); clear hown hgr hblk hbu)
            | ((fail_if_success (have := HT2)); at_builtin; refine wpList_pushR rfl _ _ 53 rfl Try.underlying53 hj0 hy0 hy1 hy2 rfl wc.heap.size _ _ rfl rfl (HT1.out.keep (show Below wu.heap.size wu _ by (repeat (first | (with_reducible assumption) | (with_reducible apply below_refl) | (with_reducible apply below_alloc1) | (with_reducible apply below_drewN1) | (with_reducible apply below_drew1))))).rv rfl (by rw [hus.out.2, List.length_map, List.length_map, hus.out.1]; omega) (by decide) (Nat.le_trans HBU.out.size (Below.size (show Below wu.heap.size wu _ by (repeat (first | (with_reducible assumption) | (with_reducible apply below_refl) | (with_reducible apply below_alloc1) | (with_reducible apply below_drewN1) | (with_reducible apply below_drew1)))))) ?_; intro v1 wv hown hgr hblk hbu; have HT2 := hid ((HT1.out.keep (show Below wu.heap.size wu _ by (repeat (first | (with_reducible assumption) | (with_reducible apply below_refl) | (with_reducible apply below_alloc1) | (with_reducible apply below_drewN1) | (with_reducible apply below_drew1))))).pushV (b := !b) hown hgr hblk); have HBV := hid ((below_trans HBU.out (show Below wu.heap.size wu _ by (repeat (first | (with_reducible assumption) | (with_reducible apply below_refl) | (with_reducible apply below_alloc1) | (with_reducible apply below_drewN1) | (with_reducible apply below_drew1))))).trans hbu); obtain ⟨y2, hcy2, hy2'⟩ := HCX.out wv HBV.out k hlt; have HY2 := hid hy2'; clear hown hgr hblk hbu hy2')
            | ((fail_if_success (have := hr5)); refine upon_max ?_; intro r5 n5' hr5; go_simp)
            | (at_builtin; refine wpList_pushR rfl _ _ 25 rfl Try.underlying25 hi0 hz0 hz1 hz2 rfl wc.heap.size _ _ rfl rfl (HT2.out.keep (show Below wv.heap.size wv _ by (repeat (first | (with_reducible assumption) | (with_reducible apply below_refl) | (with_reducible apply below_alloc1) | (with_reducible apply below_drewN1) | (with_reducible apply below_drew1))))).rz rfl (by rw [List.length_map, HZL.out]; omega) (by decide) (Nat.le_trans HBV.out.size (Below.size (show Below wv.heap.size wv _ by (repeat (first | (with_reducible assumption) | (with_reducible apply below_refl) | (with_reducible apply below_alloc1) | (with_reducible apply below_drewN1) | (with_reducible apply below_drew1)))))) ?_; intro z1 wz hown hgr hblk hbu; have HT3 := hid ((HT2.out.keep (show Below wv.heap.size wv _ by (repeat (first | (with_reducible assumption) | (with_reducible apply below_refl) | (with_reducible apply below_alloc1) | (with_reducible apply below_drewN1) | (with_reducible apply below_drew1))))).pushZ hown hgr hblk); have HBZ := hid ((below_trans HBV.out (show Below wv.heap.size wv _ by (repeat (first | (with_reducible assumption) | (with_reducible apply below_refl) | (with_reducible apply below_alloc1) | (with_reducible apply below_drewN1) | (with_reducible apply below_drew1))))).trans hbu); clear hown hgr hblk hbu))
          go_roundw
          case rel =>
            refine ⟨k + 1, r2, us ++ [b], vs ++ [!b], zs ++ [r5], by omega, by go_num, rfl, HF2, hid ⟨by rw [List.length_append, hus.out.1]; rfl, by rw [hus.out.2, List.map_append]; rfl⟩, hid ?_, HT3, HBZ.out⟩
            rw [range_next, List.map_append, hzs.out]
            show _ ++ [ab .f32 r5] = _
            rw [hr5, HY2.out, ab_z32]
            rfl
          case measure => (first | (simp [intOf]; omega) | simp [intOf])
    · obtain rfl : n = k := by omega
      have hkI : ¬ (n : Int) < (n : Int) := by omega
      obtain ⟨k0, k1⟩ := HKW.out wd hw
      obtain ⟨hul, hvs⟩ := hus.out
      have hvl : vs.length = n := by rw [hvs, List.length_map, hul]
      have hvg : ∀ j, j < n → vs.getD j false = !us.getD j false := fun j hj => by
        have h9 : j < us.length := by rw [hul]; exact hj
        rw [hvs]; simp [h9]
      obtain ⟨g1, g2', g3⟩ := HSH.out.up_ok hvg
      obtain ⟨g4, g5⟩ := HSH.out.sum_ok
      have HUM := hid (show upM rs n us = (upS xs us n, true) by
        unfold upM
        rw [← HXS.out, HBT.out, HXL.out, hul, if_pos ⟨rfl, rfl⟩]
        exact ifFin_yes g1)
      have HVM := hid (show upM rs n vs = (upS xs vs n, true) by
        unfold upM
        rw [← HXS.out, HBT.out, HXL.out, hvl, if_pos ⟨rfl, rfl⟩]
        exact ifFin_yes g2')
      have HG3 := hid (show (ford .f64 (gap8 (fop .add .f32 (upS xs us n) (upS xs vs n)) (ab .f32 1065353216)) (ab .f64 4562254508917369340) == some .gt) = false by
        rw [show ab .f64 4562254508917369340 = some cmil from by decide, ab_one32]; exact g3)
      have HFS := hid (show Fits (ab .f64 F1) by rw [hF1.out]; exact g4)
      have HG5 := hid (show (ford .f64 (gap8 (nar (ab .f64 F1)) (ab .f32 1065353216)) (ab .f64 4562254508917369340) == some .gt) = false by
        rw [show ab .f64 4562254508917369340 = some cmil from by decide, ab_one32, hF1.out]; exact g5)
      obtain ⟨st1, st2⟩ := HSH.out.still_ok (ys := []) hzs.out
      have HZL := hid (show zs.length = n by have := congrArg List.length hzs.out; simpa using this)
      have HSTF := hid (show ∀ j, j < n → finite32 (stepsS rs n (ab .f32 1031798784) (atX zs) 20 j) = true by
        rw [HRS.out, show ab .f32 1031798784 = some 1031798784 from by decide]; exact st1)
      have HLOW := hid (HSH.out.start_ok hzs.out)
      have HMORE := hid (show ([1031798784].all fun b => moreB (ab .f32 b)) = true by decide +kernel)
      have HRU := hid (Own.mk' hT.out.ru).row
      have HRV := hid (Own.mk' hT.out.rv).row
      have HRZ := hid (Own.mk' hT.out.rz).row
      have HRR := hid (show RowAt wd (.slice (some ⟨g0, 0, none⟩) rs.length cp0) (rs.map (Value.float .f32)) from (Own.mk' (ownsRow_below HQ.out hw)).row)
      clear hul hvs hvl hvg g1 g2' g3 g4 g5 st1 st2
      go_wp2_with (first
        | ((fail_if_success (have := HB7)); go_at_call 36; (refine (implUp_any n _ rs _ us _ (HRR.out.below (by (repeat (first | (with_reducible assumption) | (with_reducible apply below_refl) | (with_reducible apply below_alloc1) | (with_reducible apply below_drewN1) | (with_reducible apply below_drew1))))) (HRU.out.below (by (repeat (first | (with_reducible assumption) | (with_reducible apply below_refl) | (with_reducible apply below_alloc1) | (with_reducible apply below_drewN1) | (with_reducible apply below_drew1)))))).mono ?_); rw [HUM.out]; rintro e w7 ⟨a, rfl, ha, hb7⟩; have HAv := hid ha; have HB7 := hid (show Below wd.heap.size wd w7 from below_trans (by (repeat (first | (with_reducible assumption) | (with_reducible apply below_refl) | (with_reducible apply below_alloc1) | (with_reducible apply below_drewN1) | (with_reducible apply below_drew1)))) hb7); obtain ⟨k0, k1⟩ := HKW.out w7 (below_trans hw HB7.out); clear ha hb7)
        | ((fail_if_success (have := HB8)); go_at_call 36; (refine (implUp_any n _ rs _ vs _ (HRR.out.below (below_trans HB7.out (by (repeat (first | (with_reducible assumption) | (with_reducible apply below_refl) | (with_reducible apply below_alloc1) | (with_reducible apply below_drewN1) | (with_reducible apply below_drew1)))))) (HRV.out.below (below_trans HB7.out (by (repeat (first | (with_reducible assumption) | (with_reducible apply below_refl) | (with_reducible apply below_alloc1) | (with_reducible apply below_drewN1) | (with_reducible apply below_drew1))))))).mono ?_); rw [HVM.out]; rintro e w8 ⟨b, rfl, hbv, hb8⟩; have HBv := hid hbv; have HB8 := hid (show Below wd.heap.size wd w8 from below_trans HB7.out (below_trans (by (repeat (first | (with_reducible assumption) | (with_reducible apply below_refl) | (with_reducible apply below_alloc1) | (with_reducible apply below_drewN1) | (with_reducible apply below_drew1)))) hb8)); obtain ⟨k0, k1⟩ := HKW.out w8 (below_trans hw HB8.out); clear hbv hb8)
        | (go_at_call 37; (refine (chainSteps_20 _ cp0 rs _ zs n n1 (by omega) HZL.out HCO.out HLOW.out HMORE.out HSTF.out _ (HRR.out.below (below_trans HB8.out (by (repeat (first | (with_reducible assumption) | (with_reducible apply below_refl) | (with_reducible apply below_alloc1) | (with_reducible apply below_drewN1) | (with_reducible apply below_drew1)))))) (HRZ.out.below (below_trans HB8.out (by (repeat (first | (with_reducible assumption) | (with_reducible apply below_refl) | (with_reducible apply below_alloc1) | (with_reducible apply below_drewN1) | (with_reducible apply below_drew1))))))).mono ?_); rintro e w9 ⟨y, ys, rfl, hyl, hys, hoy, hb9⟩; have HST := hid ((HSH.out.still_ok (ys := ys) hzs.out).2 (by rw [← HRS.out, show (some 1031798784) = ab .f32 1031798784 from by decide]; exact hys)); obtain ⟨g9, cp9, hyv, -, -, -, -⟩ := slice_of_own hoy (by rw [List.length_map, hyl]; exact n1); rw [List.length_map, hyl] at hyv; subst hyv; have HYL := hid hyl; have HOY := hid hoy; have HB9 := hid (show Below wd.heap.size wd w9 from below_trans HB8.out (below_trans (by (repeat (first | (with_reducible assumption) | (with_reducible apply below_refl) | (with_reducible apply below_alloc1) | (with_reducible apply below_drewN1) | (with_reducible apply below_drew1)))) hb9)); obtain ⟨k0, k1⟩ := HKW.out w9 (below_trans hw HB9.out); clear hoy hyl hys hb9)
        | ((fail_if_success (have := hr6)); refine upon_narrow (by kernel_rfl) Try.underlying27 HFS.out ?_; intro r6 n6' hr6; go_simp)
        | ((fail_if_success (have := hgp6)); go_at_call 35; refine (r8Gap_any _ _ _).mono ?_; rintro e wA ⟨γ, rfl, hγ, hbA⟩; have hgp6 : (ford .f64 (ab .f64 γ) (ab .f64 4562254508917369340) == some .gt) = false := (by rw [hγ, hr6]; exact HG5.out); have HBA := hid (show Below w9.heap.size w9 wA from below_trans (by (repeat (first | (with_reducible assumption) | (with_reducible apply below_refl) | (with_reducible apply below_alloc1) | (with_reducible apply below_drewN1) | (with_reducible apply below_drew1)))) hbA); clear hbA hγ)
        | ((fail_if_success (have := hr7)); refine upon_float rfl ?_; intro r7 n7' hr7; go_simp)
        | (go_at_call 35; refine (r8Gap_any _ _ _).mono ?_; rintro e wB ⟨γ2, rfl, hγ, hbB⟩; have hgp7 : (ford .f64 (ab .f64 γ2) (ab .f64 4562254508917369340) == some .gt) = false := (by rw [hγ, hr7, HAv.out, HBv.out]; exact HG3.out); have HBB := hid (show Below w9.heap.size w9 wB from below_trans HBA.out (below_trans (by (repeat (first | (with_reducible assumption) | (with_reducible apply below_refl) | (with_reducible apply below_alloc1) | (with_reducible apply below_drewN1) | (with_reducible apply below_drew1)))) hbB)); clear hbB hγ))
      go_loopw [24] (fun kv wr => ∃ q : Nat, q ≤ n ∧ kv = .int .i64 q ∧ Below w9.heap.size w9 wr) (fun kv _ => n - (intOf kv).toNat)
      case atStart => exact ⟨0, Nat.zero_le _, rfl, by first | exact HBB.out | exact below_trans HBB.out (by (repeat (first | (with_reducible assumption) | (with_reducible apply below_refl) | (with_reducible apply below_alloc1) | (with_reducible apply below_drewN1) | (with_reducible apply below_drew1))))⟩
      case round =>
        obtain ⟨q, hq, rfl, hwq⟩ := hrel
        have hwc := below_trans hw (below_trans HB9.out hwq)
        by_cases hlt : q < n
        · have hqI : (q : Int) < (n : Int) := by omega
          have hq0 : (0 : Int) ≤ (q : Int) := by omega
          obtain ⟨x, hcx, hx⟩ := HCX.out wr hwc q hlt
          have hoy := ownsRow_below HOY.out hwq
          rw [List.length_map, HYL.out] at hoy
          have hqy : q < ys.length := by rw [HYL.out]; exact hlt
          have hcy : wr.cell? ⟨g9, q, none⟩ = some (.float .f32 ys[q]) := by rw [hoy.cellAt q (by omega)]; simp [hqy]
          obtain ⟨c', e1, e2, e3⟩ := HST.out q hlt
          rw [atX_get hqy, ← hx] at e1
          rw [show some c5mil = ab .f64 4572414629676717179 from by decide, ← e2] at e3
          generalize ys[q] = y at hcy e1
          have hGQ := hid (r8Gap_det y x c' e1)
          have HX' := hid hx
          clear e1 e2 hx hoy
          go_wp2_with (first | go_quiet ((go_at_call 35; exact Calls.quiet_of (hGQ.out _))))
          exact ⟨⟨q + 1, by omega, by go_num, below_trans hwq (by (repeat (first | (with_reducible assumption) | (with_reducible apply below_refl) | (with_reducible apply below_alloc1) | (with_reducible apply below_drewN1) | (with_reducible apply below_drew1))))⟩, by simp [intOf]; omega⟩
        · obtain rfl : n = q := by omega
          have hqI : ¬ (n : Int) < (n : Int) := by omega
          obtain ⟨we, hwe⟩ : ∃ we, we = wr := ⟨_, rfl⟩
          subst hwe
          have HWE := hid (below_trans HBW.out hwc)
          have ok := HT1'.out.ok
          have HOK := hid ok
          go_wp2_with (first
            | (go_at_call 31; (with_reducible refine (r8At_any _ ms 41 8 _ (HM.out.below (below_trans HWE.out (by (repeat (first | (with_reducible assumption) | (with_reducible apply below_refl) | (with_reducible apply below_alloc1) | (with_reducible apply below_drewN1) | (with_reducible apply below_drew1)))))) HMB.out (by omega) (by omega)).mono ?_); rw [HMM.out]; rintro e w' ⟨rfl, hb⟩; have hB : Below we.heap.size we w' := below_trans (by (repeat (first | (with_reducible assumption) | (with_reducible apply below_refl) | (with_reducible apply below_alloc1) | (with_reducible apply below_drewN1) | (with_reducible apply below_drew1)))) hb; have hC := (bcell hB).1; clear hb)
            | (go_at_call 31; (with_reducible refine (r8At_any _ ms 42 m _ (HM.out.below (below_trans HWE.out (by (repeat (first | (with_reducible assumption) | (with_reducible apply below_refl) | (with_reducible apply below_alloc1) | (with_reducible apply below_drewN1) | (with_reducible apply below_drew1)))))) HMB.out (by omega) (by omega)).mono ?_); rw [HCR.out]; rintro e w' ⟨rfl, hb⟩; have hB : Below we.heap.size we w' := below_trans (by (repeat (first | (with_reducible assumption) | (with_reducible apply below_refl) | (with_reducible apply below_alloc1) | (with_reducible apply below_drewN1) | (with_reducible apply below_drew1)))) hb; have hC := (bcell hB).1; clear hb)
            | (go_at_call 31; (with_reducible refine (r8At_any _ ms 43 8 _ (HM.out.below (below_trans HWE.out (by (repeat (first | (with_reducible assumption) | (with_reducible apply below_refl) | (with_reducible apply below_alloc1) | (with_reducible apply below_drewN1) | (with_reducible apply below_drew1)))))) HMB.out (by omega) (by omega)).mono ?_); rw [HF.out]; rintro e w' ⟨rfl, hb⟩; have hB : Below we.heap.size we w' := below_trans (by (repeat (first | (with_reducible assumption) | (with_reducible apply below_refl) | (with_reducible apply below_alloc1) | (with_reducible apply below_drewN1) | (with_reducible apply below_drew1)))) hb; have hC := (bcell hB).1; clear hb)
            | (go_at_call 31; (with_reducible refine (r8At_any _ ms 44 8 _ (HM.out.below (below_trans HWE.out (by (repeat (first | (with_reducible assumption) | (with_reducible apply below_refl) | (with_reducible apply below_alloc1) | (with_reducible apply below_drewN1) | (with_reducible apply below_drew1)))))) HMB.out (by omega) (by omega)).mono ?_); rw [HR.out]; rintro e w' ⟨rfl, hb⟩; have hB : Below we.heap.size we w' := below_trans (by (repeat (first | (with_reducible assumption) | (with_reducible apply below_refl) | (with_reducible apply below_alloc1) | (with_reducible apply below_drewN1) | (with_reducible apply below_drew1)))) hb; have hC := (bcell hB).1; clear hb)
            | ((fail_if_success (have := hfr1)); refine upon_float rfl ?_; intro rf nf hrf; obtain rfl : f = rf := (by rw [HFF.out]; exact fq_of F8 hrf); have hfr1 := hrf; clear hrf; go_simp)
            | ((fail_if_success (have := hfr2)); refine upon_float rfl ?_; intro rf2 nf2 hrf; obtain rfl : r = rf2 := (by rw [HRF.out]; exact fq_of R8 hrf); have hfr2 := hrf; clear hrf; go_simp)
            | (go_at_call 38; (refine (HT1'.out.bal _).mono ?_); rintro e wC ⟨yl, ls, rfl, hls, hol, hbC⟩; obtain ⟨hll, hla⟩ := map_at hls; obtain ⟨g5, cp5, hyl, -, -, -, -⟩ := slice_of_own hol (by rw [List.length_map, hll]; omega); rw [List.length_map, hll] at hyl; subst hyl; have HLL := hid hll; have HLA := hid hla; have HOL := hid hol; have HBC := hid (show Below we.heap.size we wC from below_trans (by (repeat (first | (with_reducible assumption) | (with_reducible apply below_refl) | (with_reducible apply below_alloc1) | (with_reducible apply below_drewN1) | (with_reducible apply below_drew1)))) hbC); clear hls hol hll hla hbC)
            | ((fail_if_success (have := HZ1)); go_at_call 39; (refine (HT1'.out.mean _).mono ?_); rintro e wD ⟨z1, rfl, hz, hbD⟩; have HZ1 := hid hz; have hl1 : (ford .f32 (ab .f32 z1) (some 0) == some .lt) = false := (by rw [hz]; exact HOK.out.low); have hl2 : (ford .f32 (ab .f32 z1) (some (floatOfInt .f32 (m : Int))) == some .gt) = false := (by rw [hz]; exact HOK.out.top); have HBD := hid (show Below wC.heap.size wC wD from below_trans (by (repeat (first | (with_reducible assumption) | (with_reducible apply below_refl) | (with_reducible apply below_alloc1) | (with_reducible apply below_drewN1) | (with_reducible apply below_drew1)))) hbD); clear hz hbD)
            | (go_at_call 39; (refine (HT2'.out.mean _).mono ?_); rintro e wE ⟨z2, rfl, hz, hbE⟩; have HZ2 := hid hz; have hl3 : (ford .f64 (wid (ab .f32 z2)) (fop .add .f64 (wid (ab .f32 z1)) (ab .f64 4562254508917369340)) == some .gt) = false := (by rw [hz, HZ1.out, show ab .f64 4562254508917369340 = some cmil from by decide]; exact HOK.out.few); have HGM := hid (show (ford .f64 (gap8 (ab .f32 z2) (fop .quo .f32 (fop .mul .f32 (ab .f32 (floatOfInt .f32 (m : Int))) (ab .f32 f)) (fop .add .f32 (ab .f32 f) (ab .f32 r)))) (ab .f64 4576918229304087675) == some .gt) = false by rw [hz, ab_ofInt, show ab .f64 4576918229304087675 = some ccent from by decide]; exact HOK.out.mid); have HBE := hid (show Below wC.heap.size wC wE from below_trans HBD.out (below_trans (by (repeat (first | (with_reducible assumption) | (with_reducible apply below_refl) | (with_reducible apply below_alloc1) | (with_reducible apply below_drewN1) | (with_reducible apply below_drew1)))) hbE)); clear hz hbE)
            | ((fail_if_success (have := hq1)); refine upon_widen (by kernel_rfl) Try.underlying34 ?_; intro q1 m1' hq1; go_simp)
            | ((fail_if_success (have := hq2)); refine upon_widen (by kernel_rfl) Try.underlying34 ?_; intro q2 m2' hq2; go_simp)
            | ((fail_if_success (have := hq3)); refine upon_float rfl ?_; intro q3 m3' hq3; go_simp)
            | ((fail_if_success (have := hq4)); refine upon_float rfl ?_; intro q4 m4' hq4; go_simp)
            | ((fail_if_success (have := hq5)); refine upon_float rfl ?_; intro q5 m5' hq5; go_simp)
            | ((fail_if_success (have := hq6)); refine upon_float rfl ?_; intro q6 m6' hq6; go_simp)
            | (go_at_call 35; refine (r8Gap_any _ _ _).mono ?_; rintro e wF ⟨γ3, rfl, hγ, hbF⟩; have hgp8 : (ford .f64 (ab .f64 γ3) (ab .f64 4576918229304087675) == some .gt) = false := (by rw [hγ, hq6, hq4, hq5]; exact HGM.out); have HBF := hid (show Below wC.heap.size wC wF from below_trans HBE.out (below_trans (by (repeat (first | (with_reducible assumption) | (with_reducible apply below_refl) | (with_reducible apply below_alloc1) | (with_reducible apply below_drewN1) | (with_reducible apply below_drew1)))) hbF)); clear hbF hγ))
          go_loopw [35, 36] (fun tv kv wr => ∃ (q Fb : Nat), q ≤ m + 1 ∧ kv = .int .i64 q ∧ tv = .float .f64 Fb ∧ Hid (ab .f64 Fb = totO (cwP m c (ab .f32 f) (ab .f32 r)) q) ∧ Below wC.heap.size wC wr) (fun _ kv _ => m + 1 - (intOf kv).toNat)
          case atStart => exact ⟨0, 0, by omega, rfl, rfl, hid ab_z64, HBF.out⟩
          case round =>
            obtain ⟨q, Fb, hq, rfl, rfl, hFb, hwq⟩ := hrel
            have hol := ownsRow_below HOL.out hwq
            rw [List.length_map, HLL.out] at hol
            have HOW := hid hol
            clear hol
            by_cases hlt : q ≤ m
            · have hqI : (q : Int) ≤ (m : Int) := by omega
              have hq0 : (0 : Int) ≤ (q : Int) := by omega
              have hqm : (q : Int) < ((m + 1 : Nat) : Int) := by omega
              have hqm2 : (q : Int) < (m : Int) + 1 := by omega
              have hql : q < ls.length := by rw [HLL.out]; omega
              have hcq : wr.cell? ⟨g5, q, none⟩ = some (.float .f32 ls[q]) := by rw [HOW.out.cellAt q (by omega)]; simp [hql]
              have hvq : ab .f32 ls[q] = cwP m c (ab .f32 f) (ab .f32 r) q := by rw [← HLA.out q (by omega), atX_get hql]
              generalize ls[q] = p1 at hcq hvq
              have HVQ := hid hvq
              have HTN := hid (totO_next (cwP m c (ab .f32 f) (ab .f32 r)) q)
              clear hvq
              cases q with
              | zero =>
                have hja : decide ((0 : Int) < ((0 : Nat) : Int)) = false := by simp
                go_wp2_with (first
                  | ((fail_if_success (have := ht1)); refine upon_widen (by kernel_rfl) Try.underlying34 ?_; intro t1 k1' ht1; go_simp)
                  | ((fail_if_success (have := ht2)); refine upon_float rfl ?_; intro t2 k2' ht2; go_simp)
                  | go_quiet (fail))
                go_roundw
                case rel => exact ⟨1, t2, by omega, rfl, rfl, hid (by rw [HTN.out, ht2, ht1, hFb.out, HVQ.out]), below_trans hwq (by (repeat (first | (with_reducible assumption) | (with_reducible apply below_refl) | (with_reducible apply below_alloc1) | (with_reducible apply below_drewN1) | (with_reducible apply below_drew1))))⟩
                case measure => (first | (simp [intOf]; omega) | simp [intOf])
              | succ j =>
                have hjl : j < ls.length := by omega
                have hcj : wr.cell? ⟨g5, j, none⟩ = some (.float .f32 ls[j]) := by rw [HOW.out.cellAt j (by omega)]; simp [hjl]
                have hvj : ab .f32 ls[j] = cwP m c (ab .f32 f) (ab .f32 r) j := by rw [← HLA.out j (by omega), atX_get hjl]
                generalize ls[j] = p0 at hcj hvj
                obtain ⟨d, hd⟩ : ∃ d : Nat, d = m - j := ⟨_, rfl⟩
                have W5 : IntKind.i64.wrap ((j : Int) + 1 - 1) = (j : Int) := by rw [IntKind.wrap_i64]; omega
                obtain ⟨d1, hd1⟩ : ∃ d1 : Nat, d1 = m - (j + 1) := ⟨_, rfl⟩
                have W6 : IntKind.i64.wrap ((m : Int) - ((j : Int) + 1)) = (d1 : Int) := by rw [IntKind.wrap_i64]; omega
                have W7 : IntKind.i64.wrap ((d1 : Int) + 1) = (d : Int) := by rw [IntKind.wrap_i64]; omega
                have W8 : IntKind.i64.wrap ((m : Int) - (j : Int) - 1) = (d1 : Int) := by rw [IntKind.wrap_i64]; omega
                have HD1 := hid hd1
                clear hd1
                have hjz : (0 : Int) ≤ (j : Int) := by omega
                have hjz1 : (0 : Int) ≤ (j : Int) + 1 := by omega
                have hja2 : (0 : Int) < (j : Int) + 1 := by omega
                have hjn : (j : Int) + 1 < (m : Int) + 1 := by omega
                have hjn2 : (j : Int) < (m : Int) + 1 := by omega
                have hjn3 : (j : Int) + 1 ≤ (m : Int) := by omega
                have hjm : (j : Int) ≤ (m : Int) := by omega
                have W9 : IntKind.i64.wrap (j : Int) = (j : Int) := by rw [IntKind.wrap_i64]; omega
                have hjN : j ≤ m := by omega
                have hjN2 : j < m := by omega
                have hjN3 : j < m + 1 := by omega
                have hjN4 : j + 1 < m + 1 := by omega
                have hjN5 : (j : Int) < ((m + 1 : Nat) : Int) := by omega
                have hjm2 : (j : Int) < (m : Int) := by omega
                have i1 : ((j : Int) + 1).toNat = j + 1 := by omega
                obtain ⟨z, hz⟩ : ∃ z, z = min (j + 1) c := ⟨_, rfl⟩
                obtain ⟨A1, A2, B1, B2, cc, x1, x2, y1, y2, e1, e2⟩ := crew_bits8 HOK.out HFF.out HRF.out F8 R8 (show j < m by omega) m8 hvj HVQ.out hz
                rw [← hd] at x1
                have o1 : ∀ T w, (binOp .mul T (.float .f32 p0) (.float .f32 (floatOfInt .f32 (d : Int)))).run Try.prog w = .ok (.float .f32 A1) w := fun T w => det_op .mul x1 T w
                have o2 : ∀ T w, (binOp .mul T (.float .f32 A1) (.float .f32 f)).run Try.prog w = .ok (.float .f32 A2) w := fun T w => det_op .mul x2 T w
                have o3 : ∀ T w, (binOp .mul T (.float .f32 p1) (.float .f32 (floatOfInt .f32 (z : Int)))).run Try.prog w = .ok (.float .f32 B1) w := fun T w => det_op .mul y1 T w
                have o4 : ∀ T w, (binOp .mul T (.float .f32 B1) (.float .f32 r)).run Try.prog w = .ok (.float .f32 B2) w := fun T w => det_op .mul y2 T w
                have hGQ := hid (r8Gap_det A2 B2 cc e1)
                have HDD := hid hd
                clear x1 x2 y1 y2 e1 hvj hd
                by_cases hjc : c ≤ j
                · obtain rfl : z = c := by omega
                  clear hz
                  have hI1 : (z : Int) ≤ (j : Int) + 1 := by omega
                  have hI2 : ¬ (j : Int) + 1 ≤ (z : Int) := by omega
                  have hI3 : (z : Int) < (j : Int) + 1 := by omega
                  have hI4 : ¬ (j : Int) + 1 < (z : Int) := by omega
                  go_wp2_with (first
                    | ((fail_if_success (have := ht1)); refine upon_widen (by kernel_rfl) Try.underlying34 ?_; intro t1 k1' ht1; go_simp)
                    | ((fail_if_success (have := ht2)); refine upon_float rfl ?_; intro t2 k2' ht2; go_simp)
                    )
                  obtain ⟨ws, hws⟩ : ∃ ws, ws = wr.drewN (k1' + k2') := ⟨_, rfl⟩
                  have hbs : Below wr.heap.size wr ws := by rw [hws]; exact below_drewN _ _
                  have hcq2 : ws.cell? ⟨g5, j + 1, none⟩ = some (.float .f32 p1) := by rw [hws]; simpa using hcq
                  have hcj2 : ws.cell? ⟨g5, j, none⟩ = some (.float .f32 p0) := by rw [hws]; simpa using hcj
                  rw [← hws]
                  have HWS := hid hws
                  clear hws
                  go_quiet ((go_at_call 35; exact Calls.quiet_of (hGQ.out _)))
                  go_wp2_with fail
                  go_roundw
                  case rel => exact ⟨j + 1 + 1, t2, by omega, by go_num, rfl, hid (by rw [HTN.out, ht2, ht1, hFb.out, HVQ.out]), below_trans hwq (below_trans hbs (by (repeat (first | (with_reducible assumption) | (with_reducible apply below_refl) | (with_reducible apply below_alloc1) | (with_reducible apply below_drewN1) | (with_reducible apply below_drew1)))))⟩
                  case measure => (first | (simp [intOf]; omega) | simp [intOf])
                · obtain rfl : z = j + 1 := by omega
                  clear hz
                  have o3' := o3
                  rw [show ((j + 1 : Nat) : Int) = (j : Int) + 1 by omega] at o3'
                  have hI1 : (j : Int) + 1 ≤ (c : Int) := by omega
                  have hI2 : ¬ (c : Int) < (j : Int) + 1 := by omega
                  clear o3
                  go_wp2_with (first
                    | ((fail_if_success (have := ht1)); refine upon_widen (by kernel_rfl) Try.underlying34 ?_; intro t1 k1' ht1; go_simp)
                    | ((fail_if_success (have := ht2)); refine upon_float rfl ?_; intro t2 k2' ht2; go_simp)
                    )
                  obtain ⟨ws, hws⟩ : ∃ ws, ws = wr.drewN (k1' + k2') := ⟨_, rfl⟩
                  have hbs : Below wr.heap.size wr ws := by rw [hws]; exact below_drewN _ _
                  have hcq2 : ws.cell? ⟨g5, j + 1, none⟩ = some (.float .f32 p1) := by rw [hws]; simpa using hcq
                  have hcj2 : ws.cell? ⟨g5, j, none⟩ = some (.float .f32 p0) := by rw [hws]; simpa using hcj
                  rw [← hws]
                  have HWS := hid hws
                  clear hws
                  go_quiet ((go_at_call 35; exact Calls.quiet_of (hGQ.out _)))
                  go_wp2_with fail
                  go_roundw
                  case rel => exact ⟨j + 1 + 1, t2, by omega, by go_num, rfl, hid (by rw [HTN.out, ht2, ht1, hFb.out, HVQ.out]), below_trans hwq (below_trans hbs (by (repeat (first | (with_reducible assumption) | (with_reducible apply below_refl) | (with_reducible apply below_alloc1) | (with_reducible apply below_drewN1) | (with_reducible apply below_drew1)))))⟩
                  case measure => (first | (simp [intOf]; omega) | simp [intOf])
            · obtain rfl : q = m + 1 := by omega
              have hqI : ¬ ((m + 1 : Nat) : Int) ≤ (m : Int) := by omega
              have hqI2 : ¬ (m : Int) + 1 ≤ (m : Int) := by omega
              have HFT := hid (show Fits (ab .f64 Fb) by rw [hFb.out]; exact tot_fits HOK.out m8)
              have HLT := hid (show (ford .f64 (gap8 (nar (ab .f64 Fb)) (ab .f32 1065353216)) (ab .f64 4562254508917369340) == some .lt) = true by
                rw [hFb.out, ab_one32, show ab .f64 4562254508917369340 = some cmil from by decide]; exact HOK.out.tot)
              go_wp2_with (first
                | ((fail_if_success (have := hl)); refine upon_narrow (by kernel_rfl) Try.underlying27 HFT.out ?_; intro rl nl hl; go_simp)
                | (go_at_call 35; refine (r8Gap_any _ _ _).mono ?_; rintro e wG ⟨γ4, rfl, hγ, hbG⟩; have hgl : (ford .f64 (ab .f64 γ4) (ab .f64 4562254508917369340) == some .lt) = true := (by rw [hγ, hl]; exact HLT.out); have HBG := hid (show Below wr.heap.size wr wG from below_trans (by (repeat (first | (with_reducible assumption) | (with_reducible apply below_refl) | (with_reducible apply below_alloc1) | (with_reducible apply below_drewN1) | (with_reducible apply below_drew1)))) hbG); clear hbG hγ))
              go_ret
              refine ⟨by simp [hgl], ?_⟩
              exact below_trans HWE.out (below_trans HBC.out (below_trans hwq HBG.out))
end Go.Proofs.Ytkaeohlakeliiaa
