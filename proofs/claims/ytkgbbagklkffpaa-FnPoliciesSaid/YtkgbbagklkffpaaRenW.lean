/- Contracts: the sums of renewals. -/
import Derived.Test.YtkgbbagklkffpaaLaw
import Derived.Test.YtkgbbagklkffpaaPush
import Derived.Test.YtkgbbagklkffpaaGrid2
namespace Go.Proofs.Ytkgbbagklkffpaa
open Go.RowKit
set_option linter.unusedVariables false

def tO (to : Option Nat) (n i : Nat) : Option Nat := fop .mul .f32 (k32 (i : Int)) (fop .quo .f32 to (k32 (n : Int)))
def fO (k : Int) (P S to : Option Nat) (n : Nat) (i : Nat) : Option Nat := fop .sub .f32 (some 1065353216) (survO k P S (tO to n i))
theorem map_get_ab {ys : List Nat} {n : Nat} {f : Nat → Option Nat} (h : ys.map (ab .f32) = (List.range n).map f) : ys.length = n ∧ ∀ k (hk : k < ys.length), ab .f32 ys[k] = f k := by
  have hl : ys.length = n := by have := congrArg List.length h; simpa using this
  refine ⟨hl, fun k hk => ?_⟩
  have := congrArg (fun l => l[k]?) h
  simpa [hl, hk, show k < n by omega] using this
/-- What the sums of renewals leave. -/
def RenRow (f : Nat → Option Nat) (n : Nat) (w : World) (e : Ending) (w' : World) : Prop :=
  ∃ (y : Value) (ys : List Nat), e = .returned y ∧ ys.map (ab .f32) = (List.range (n + 1)).map (mX f) ∧ w'.ownsRow w.heap.size 24 1 y (ys.map (Value.float .f32)).length (ys.map (Value.float .f32)) ∧ Below w.heap.size w w'
set_option maxRecDepth 100000 in
set_option maxHeartbeats 3200000 in
theorem renewals_any {k : Int} {p s to : Nat} {ρ σ : Rat} {n : Nat} (h : LawOk k (ab .f32 p) (ab .f32 s) ρ σ) (n1 : 1 ≤ n) (n2 : n ≤ 256) (hg : ∀ i, i ≤ n → ∃ τ, RV .f32 (tO (ab .f32 to) n i) τ ∧ TimeOk τ) (w : World) : Calls Try.prog 23 #[.agg #[.int .i64 k, .float .f32 p, .float .f32 s], .float .f32 to, .int .i64 n] w (RenRow (fO k (ab .f32 p) (ab .f32 s) (ab .f32 to) n) n w) := by
  obtain ⟨i0, hi0, hz0, hz1, hz2⟩ := info_parts (P := Try.prog) (e := 24) (z := Value.float .f32 0) (size := 1) (bytes := 4) (by kernel_rfl)
  obtain ⟨F, hF⟩ : ∃ F, F = fO k (ab .f32 p) (ab .f32 s) (ab .f32 to) n := ⟨_, rfl⟩
  have HK := hid (show ∀ (t : Nat) i, i ≤ n → ab .f32 t = tO (ab .f32 to) n i → ∀ w, Calls Try.prog 33 #[.agg #[.int .i64 k, .float .f32 p, .float .f32 s], .float .f32 t] w (FltOk (survO k (ab .f32 p) (ab .f32 s) (tO (ab .f32 to) n i)) w) from fun t i hi ht w => by
    obtain ⟨τ, hτ, ok⟩ := hg i hi
    have := kept_any (t := t) h (by rw [ht]; exact hτ) ok w
    rwa [ht] at this)
  have HFF := hid (show ∀ i, F i = fop .sub .f32 (some 1065353216) (survO k (ab .f32 p) (ab .f32 s) (tO (ab .f32 to) n i)) from fun i => by rw [hF]; rfl)
  rw [← hF]
  clear h hg hF
  have W1 : IntKind.i64.wrap ((n : Int) + 1) = ((n + 1 : Nat) : Int) := by rw [IntKind.wrap_i64]; omega
  go_enter Try.func23, Try.ntmps23
  go_wp2_with (refine upon_float rfl ?_; intro r nn hr; go_simp)
  have HH := hid (show ab .f32 r = fop .quo .f32 (ab .f32 to) (k32 (n : Int)) by rw [hr, ab_ofInt]; rfl)
  generalize r = H at HH ⊢
  clear hr
  obtain ⟨w1, hw1⟩ : ∃ w1, w1 = (w.alloc (.cells #[.int .i64 k, .float .f32 p, .float .f32 s] 26)).drewN nn := ⟨_, rfl⟩
  rw [← hw1]
  have hb1 : Below w.heap.size w w1 := by subst hw1; exact below_drewN1 (below_alloc _ _)
  have s1 : w.heap.size < w1.heap.size := by subst hw1; simp
  have es : w.heap.size + 1 = w1.heap.size := by subst hw1; simp
  have C0 := hid (show w1.cell? ⟨w.heap.size, 0, none⟩ = some (.int .i64 k) by subst hw1; simp)
  have C1 := hid (show w1.cell? ⟨w.heap.size, 1, none⟩ = some (.float .f32 p) by subst hw1; simp)
  have C2 := hid (show w1.cell? ⟨w.heap.size, 2, none⟩ = some (.float .f32 s) by subst hw1; simp)
  have HB1 := hid hb1
  have S1 := hid s1
  clear hw1 hb1 s1 W1
  simp only [es]
  clear es
  go_loopw [8, 9, 21] (fun fv mv tv wr => ∃ (i : Nat) (fs ms : List Nat), i ≤ n + 1 ∧ tv = .int .i64 i ∧ Hid (fs.map (ab .f32) = (List.range i).map F) ∧ Hid (ms.map (ab .f32) = (List.range i).map (mX F)) ∧ Hid (Duo wr w1.heap.size fv mv fs ms) ∧ Below w1.heap.size w1 wr) (fun _ _ tv _ => n + 1 - (intOf tv).toNat)
  case atStart => exact ⟨0, [], [], by omega, rfl, hid rfl, hid rfl, hid (duo_made w1), by (repeat (first | (with_reducible assumption) | (with_reducible apply below_refl) | (with_reducible apply below_alloc1) | (with_reducible apply below_drewN1) | (with_reducible apply below_drew1)))⟩
  case round =>
    obtain ⟨i, fs, ms, hi, rfl, hfs, hms, hD, hw⟩ := hrel
    have c0 : wr.cell? ⟨w.heap.size, 0, none⟩ = some (.int .i64 k) := by rw [hw.cell (p := ⟨w.heap.size, 0, none⟩) S1.out]; exact C0.out
    have c1 : wr.cell? ⟨w.heap.size, 1, none⟩ = some (.float .f32 p) := by rw [hw.cell (p := ⟨w.heap.size, 1, none⟩) S1.out]; exact C1.out
    have c2 : wr.cell? ⟨w.heap.size, 2, none⟩ = some (.float .f32 s) := by rw [hw.cell (p := ⟨w.heap.size, 2, none⟩) S1.out]; exact C2.out
    have FL := hid (map_get_ab hfs.out)
    have ML := hid (map_get_ab hms.out)
    by_cases hlt : i < n + 1
    · have hiI : (i : Int) < (n : Int) + 1 := by omega
      have hi0I : (0 : Int) ≤ (i : Int) := by omega
      have hbw : w.heap.size < wr.heap.size := World.block_lt_of_cell? wr _ c0
      go_wp2_with (first
        | ((fail_if_success (have := HX1)); refine upon_float rfl ?_; intro x1 m1 hx1; go_simp; have HX1 := hid (show ab .f32 x1 = tO (ab .f32 to) n i by rw [hx1, HH.out, ab_ofInt]; rfl); clear hx1)
        | (go_at_call 33; (refine (HK.out x1 i (by omega) HX1.out _).mono ?_); rintro e wa ⟨q, rfl, hq, hb⟩; have HQ := hid hq; have hBA := hid (below_trans (show Below wr.heap.size wr _ by (repeat (first | (with_reducible assumption) | (with_reducible apply below_refl) | (with_reducible apply below_alloc1) | (with_reducible apply below_drewN1) | (with_reducible apply below_drew1)))) hb); clear hb hq)
        | ((fail_if_success (have := HX2)); refine upon_float rfl ?_; intro x2 m2 hx2; go_simp; have HX2 := hid (show ab .f32 x2 = F i by rw [hx2, HFF.out, HQ.out, ab_one32]); clear hx2)
        | (at_builtin; refine wpList_pushR rfl _ _ 29 rfl Try.underlying29 hi0 hz0 hz1 hz2 rfl w1.heap.size _ (fs.map (Value.float .f32)) rfl rfl (hD.out.keep (below_trans hBA.out (by (repeat (first | (with_reducible assumption) | (with_reducible apply below_refl) | (with_reducible apply below_alloc1) | (with_reducible apply below_drewN1) | (with_reducible apply below_drew1)))))).ru rfl (by rw [List.length_map, FL.out.1]; omega) (by decide) (Nat.le_trans hw.size (Below.size (show Below wr.heap.size wr _ from below_trans hBA.out (by (repeat (first | (with_reducible assumption) | (with_reducible apply below_refl) | (with_reducible apply below_alloc1) | (with_reducible apply below_drewN1) | (with_reducible apply below_drew1))))))) ?_; intro f1 w2 hown hgr hblk hb2; have HT1 := hid ((hD.out.keep (show Below wr.heap.size wr _ from below_trans hBA.out (by (repeat (first | (with_reducible assumption) | (with_reducible apply below_refl) | (with_reducible apply below_alloc1) | (with_reducible apply below_drewN1) | (with_reducible apply below_drew1)))))).pushU hown hgr hblk); have HB2 := hid ((below_trans hw (show Below wr.heap.size wr _ from below_trans hBA.out (by (repeat (first | (with_reducible assumption) | (with_reducible apply below_refl) | (with_reducible apply below_alloc1) | (with_reducible apply below_drewN1) | (with_reducible apply below_drew1)))))).trans hb2); clear hown hgr hblk hb2))
      obtain ⟨gs, hgs⟩ : ∃ gs, gs = fs ++ [x2] := ⟨_, rfl⟩
      have GS := hid (map_get_ab (f := F) (ys := gs) (n := i + 1) (by rw [hgs, List.map_append, hfs.out, List.range_succ, List.map_append]; simp [HX2.out]))
      rw [← hgs] at HT1
      have hgl := GS.out.1
      obtain ⟨gf, cf, e1, f1a, f1b, f1c, f1d⟩ := slice_of_own HT1.out.ru (by rw [List.length_map, hgl]; omega)
      rw [List.length_map, hgl] at e1
      subst e1
      have HGL := hid hgl
      clear hgs hgl
      have hi1 : i + 1 ≤ 257 := by omega
      go_loopw [11, 12] (fun sv jv wr => ∃ (j S : Nat), 1 ≤ j ∧ j ≤ max i 1 ∧ jv = .int .i64 j ∧ sv = .float .f32 S ∧ Hid (ab .f32 S = sM F i (j - 1)) ∧ Below w2.heap.size w2 wr) (fun _ jv _ => i + 1 - (intOf jv).toNat)
      case atStart => exact ⟨1, 0, by omega, by omega, rfl, rfl, hid ab_z32, by (repeat (first | (with_reducible assumption) | (with_reducible apply below_refl) | (with_reducible apply below_alloc1) | (with_reducible apply below_drewN1) | (with_reducible apply below_drew1)))⟩
      case round =>
        obtain ⟨j, S, hj1, hj2, rfl, rfl, hS, hw3⟩ := hrel
        have HT2 := hid (HT1.out.keep hw3)
        obtain ⟨wo, hwo⟩ : ∃ wo, wo = wr := ⟨_, rfl⟩
        subst hwo
        by_cases hji : j < i
        · have hjI : (j : Int) < (i : Int) := by omega
          have hml := ML.out.1
          obtain ⟨gm, cm, e2, m1a, m1b, m1c, m1d⟩ := slice_of_own HT2.out.rv (by rw [List.length_map, hml]; omega)
          rw [List.length_map, hml] at e2
          subst e2
          have hb1 : j < gs.length := by rw [HGL.out]; omega
          have hb2 : j - 1 < gs.length := by rw [HGL.out]; omega
          have hb3 : i - j < ms.length := by rw [hml]; omega
          have ru := HT2.out.ru
          rw [List.length_map, HGL.out] at ru
          have rv := HT2.out.rv
          rw [List.length_map, hml] at rv
          have q1 : wo.cell? ⟨gf, j, none⟩ = some (.float .f32 gs[j]) := by
            rw [ru.cellAt j (by omega)]; simp [hb1]
          have q2 : wo.cell? ⟨gf, j - 1, none⟩ = some (.float .f32 gs[j - 1]) := by
            rw [ru.cellAt (j - 1) (by omega)]; simp [hb2]
          have q3 : wo.cell? ⟨gm, i - j, none⟩ = some (.float .f32 ms[i - j]) := by
            rw [rv.cellAt (i - j) (by omega)]; simp [hb3]
          clear ru rv
          have v1 := GS.out.2 j hb1
          have v2 := GS.out.2 (j - 1) hb2
          have v3 := ML.out.2 (i - j) hb3
          generalize gs[j] = y1 at q1 v1
          generalize gs[j - 1] = y2 at q2 v2
          generalize ms[i - j] = y3 at q3 v3
          have V := hid (And.intro v1 (And.intro v2 v3))
          obtain ⟨jp, hjp⟩ : ∃ jp, jp = j - 1 := ⟨_, rfl⟩
          obtain ⟨ij, hij⟩ : ∃ ij, ij = i - j := ⟨_, rfl⟩
          rw [← hjp] at q2
          rw [← hij] at q3
          have W2 : IntKind.i64.wrap ((j : Int) - 1) = (jp : Int) := by rw [IntKind.wrap_i64]; omega
          have W3 : IntKind.i64.wrap ((i : Int) - (j : Int)) = (ij : Int) := by rw [IntKind.wrap_i64]; omega
          have W4 : IntKind.i64.wrap ((j : Int) + 1) = ((j + 1 : Nat) : Int) := by rw [IntKind.wrap_i64]; omega
          have b1 : (0 : Int) ≤ (j : Int) := by omega
          have b2 : (0 : Int) ≤ (jp : Int) := by omega
          have b3 : (0 : Int) ≤ (ij : Int) := by omega
          have b4 : (j : Int) < ((i + 1 : Nat) : Int) := by omega
          have b5 : (jp : Int) < ((i + 1 : Nat) : Int) := by omega
          have b6 : (ij : Int) < (i : Int) := by omega
          have b7 : (j : Int) < (i : Int) + 1 := by omega
          have b8 : (jp : Int) < (i : Int) + 1 := by omega
          have l1 : gf < wo.heap.size := World.block_lt_of_cell? wo _ q1
          have l2 : gm < wo.heap.size := World.block_lt_of_cell? wo _ q3
          have HJP := hid hjp
          clear hb1 hb2 hb3 v1 v2 v3 hjp hij hml
          obtain ⟨fe1, fe2, fe3, fe4⟩ := run_fres4 Try.prog
          obtain ⟨fa1, fa2, fa3, fa4⟩ := ab_fres4
          go_wp2_with (first
            | (go_region_held (fun w' => Below wo.heap.size wo w' ∧ ∀ b o, b < wo.heap.size → w'.cell? ⟨b, o, none⟩ = wo.cell? ⟨b, o, none⟩) (first | exact keep_next ‹_› ‹_› | exact keep_start | exact keep_drew ‹_› | exact keep_of (by (repeat (first | (with_reducible assumption) | (with_reducible apply below_refl) | (with_reducible apply below_alloc1) | (with_reducible apply below_drewN1) | (with_reducible apply below_drew1))))) (fail) <;> (rename_i hHeld; obtain ⟨hB, hC⟩ := hHeld)))
          refine ⟨⟨j + 1, _, by omega, by omega, by go_num, rfl, hid ?_, below_trans hw3 hB⟩, by simp [intOf]; omega⟩
          obtain ⟨v1, v2, v3⟩ := V.out
          rw [fa1, fa3, fa2, v1, v2, v3, hS.out, Nat.add_sub_cancel]
          have hjp : j = jp + 1 := by have := HJP.out; omega
          subst hjp
          rw [Nat.add_sub_cancel, sM_next F (by omega)]
        · have hjI : ¬ (j : Int) < (i : Int) := by omega
          have ru := HT2.out.ru
          rw [List.length_map, HGL.out] at ru
          have hb1 : i < gs.length := by rw [HGL.out]; omega
          have q1 : wo.cell? ⟨gf, i, none⟩ = some (.float .f32 gs[i]) := by
            rw [ru.cellAt i (by omega)]; simp [hb1]
          have v1 := GS.out.2 i hb1
          generalize gs[i] = y1 at q1 v1
          have V := hid v1
          have b4 : (i : Int) < ((i + 1 : Nat) : Int) := by omega
          have hwt := below_trans' HB2.out (Nat.le_refl _) (by exact hw3)
          clear ru hb1 v1
          have HS2 := hid (show ab .f32 S = sM F i (i - 1) by
            rw [hS.out]
            rcases Nat.eq_zero_or_pos i with h0 | h0
            · subst h0
              have : j = 1 := by omega
              subst this; rfl
            · have : j = i := by omega
              rw [this])
          by_cases h0 : i = 0
          · subst h0
            obtain rfl : ms = [] := List.eq_nil_of_length_eq_zero ML.out.1
            go_wp2_with (first
              | ((fail_if_success (have := HX3)); refine upon_float rfl ?_; intro x3 m3 hx3; go_simp; have HX3 := hid hx3; clear hx3)
              | (at_builtin; refine wpList_pushR rfl _ _ 29 rfl Try.underlying29 hi0 hz0 hz1 hz2 rfl w1.heap.size _ (([] : List Nat).map (Value.float .f32)) rfl rfl (HT2.out.keep (by (repeat (first | (with_reducible assumption) | (with_reducible apply below_refl) | (with_reducible apply below_alloc1) | (with_reducible apply below_drewN1) | (with_reducible apply below_drew1))))).rv rfl (by simp) (by decide) (Nat.le_trans hwt.size (Below.size (show Below wo.heap.size wo _ by (repeat (first | (with_reducible assumption) | (with_reducible apply below_refl) | (with_reducible apply below_alloc1) | (with_reducible apply below_drewN1) | (with_reducible apply below_drew1)))))) ?_; intro u1 w5 hown hgr hblk hb5; obtain ⟨gu, cu, e3, -, -, g3, -⟩ := slice_of_own hown (by simp); replace e3 : u1 = .slice (some ⟨gu, 0, none⟩) 1 cu := e3; subst e3; have hfr : w5.frozen? ⟨gu, 0, none⟩ = false := hown.frozenAt 0; have hce : w5.cell? ⟨gu, 0, none⟩ = some (.float .f32 x3) := hown.cellAt 0 (by simp); have HT3 := hid (((HT2.out.keep (show Below wo.heap.size wo _ by (repeat (first | (with_reducible assumption) | (with_reducible apply below_refl) | (with_reducible apply below_alloc1) | (with_reducible apply below_drewN1) | (with_reducible apply below_drew1))))).pushV hown hgr hblk).zero); have HB5 := hid (((below_trans hwt (show Below wo.heap.size wo _ by (repeat (first | (with_reducible assumption) | (with_reducible apply below_refl) | (with_reducible apply below_alloc1) | (with_reducible apply below_drewN1) | (with_reducible apply below_drew1))))).trans hb5).setCell (p := ⟨gu, 0, none⟩) g3 (.float .f32 0)); clear hown hgr hblk hb5))
            exact ⟨⟨1, gs, [0], by omega, rfl, hid (by
              refine List.ext_getElem (by simp [HGL.out]) fun q h1 h2 => ?_
              simp at h1 h2
              subst h2
              rw [List.getElem_map, GS.out.2 0 h1]; simp), hid rfl, HT3, HB5.out⟩, by simp [intOf]⟩
          · have hne : ((i : Int) == 0) = false := by simp; omega
            go_wp2_with (first
              | ((fail_if_success (have := HX3)); refine upon_float rfl ?_; intro x3 m3 hx3; go_simp; have HX3 := hid (show ab .f32 x3 = fop .add .f32 (F i) (sM F i (i - 1)) by rw [hx3, V.out, HS2.out]); clear hx3)
              | (at_builtin; refine wpList_pushR rfl _ _ 29 rfl Try.underlying29 hi0 hz0 hz1 hz2 rfl w1.heap.size _ (ms.map (Value.float .f32)) rfl rfl (HT2.out.keep (by (repeat (first | (with_reducible assumption) | (with_reducible apply below_refl) | (with_reducible apply below_alloc1) | (with_reducible apply below_drewN1) | (with_reducible apply below_drew1))))).rv rfl (by rw [List.length_map, ML.out.1]; omega) (by decide) (Nat.le_trans hwt.size (Below.size (show Below wo.heap.size wo _ by (repeat (first | (with_reducible assumption) | (with_reducible apply below_refl) | (with_reducible apply below_alloc1) | (with_reducible apply below_drewN1) | (with_reducible apply below_drew1)))))) ?_; intro u1 w5 hown hgr hblk hb5; have HT3 := hid ((HT2.out.keep (show Below wo.heap.size wo _ by (repeat (first | (with_reducible assumption) | (with_reducible apply below_refl) | (with_reducible apply below_alloc1) | (with_reducible apply below_drewN1) | (with_reducible apply below_drew1))))).pushV hown hgr hblk); have HB5 := hid ((below_trans hwt (show Below wo.heap.size wo _ by (repeat (first | (with_reducible assumption) | (with_reducible apply below_refl) | (with_reducible apply below_alloc1) | (with_reducible apply below_drewN1) | (with_reducible apply below_drew1))))).trans hb5); clear hown hgr hblk hb5))
            refine ⟨⟨i + 1, gs, ms ++ [x3], by omega, by go_num, hid ?_, hid ?_, HT3, HB5.out⟩, by simp [intOf]; omega⟩
            · refine List.ext_getElem (by simp [HGL.out]) fun q h1 h2 => ?_
              simp at h1 h2
              rw [List.getElem_map, GS.out.2 q h1]; simp
            · rw [List.map_append, hms.out, List.range_succ, List.map_append]
              obtain ⟨i', rfl⟩ : ∃ i', i = i' + 1 := ⟨i - 1, by omega⟩
              simp [HX3.out, mX_next]
    · obtain rfl : i = n + 1 := by omega
      go_wp2_with fail
      go_ret
      exact ⟨_, ms, rfl, hms.out, ownsRow_low hD.out.rv (Nat.le_of_lt S1.out), below_trans HB1.out hw⟩
end Go.Proofs.Ytkgbbagklkffpaa
