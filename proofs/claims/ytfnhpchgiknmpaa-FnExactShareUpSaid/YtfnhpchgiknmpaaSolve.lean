/- spec.l04Solve. -/
import Derived.Test.YtfnhpchgiknmpaaMat
import Derived.BigRegion
namespace Go.Proofs.Ytfnhpchgiknmpaa
open Go.RowKit

/-- What a solution answers. -/
def SolveOk (M : Option (List (Option Nat))) (lo : Nat) (w : World) (e : Ending) (w' : World) : Prop :=
  (match M with
  | none => e = .returned (.tuple #[.slice none 0 0, .bool false])
  | some L => ∃ (u : Value) (bs : List Nat), e = .returned (.tuple #[u, .bool true]) ∧ w'.ownsRow w.heap.size 44 1 u (bs.map (Value.float .f32)).length (bs.map (Value.float .f32)) ∧ bs.map (ab .f32) = L) ∧ Below lo w w'
theorem run_step {n k : Nat} {A B : Mat} (h : runM n A k = some B) : runM n A (k + 1) = stepM n B k := by
  show (runM n A k).bind _ = _
  rw [h]; rfl
theorem run_none {n k : Nat} {A : Mat} (h : runM n A k = none) : ∀ m, runM n A (k + m) = none
  | 0 => h
  | m + 1 => by
    show (runM n A (k + m)).bind _ = _
    rw [run_none h m]; rfl
theorem step_none {n k : Nat} {A B : Mat} (hk : k < n) (h : runM n A k = some B) (hs : ford .f32 (swp B k (bst B k (n - k)) k k) (some 0) = some .eq) : runM n A n = none := by
  have h1 : runM n A (k + 1) = none := by
    rw [run_step h]
    unfold stepM
    rw [hs]; rfl
  have := run_none h1 (n - (k + 1))
  rwa [show k + 1 + (n - (k + 1)) = n by omega] at this
theorem step_some {n k : Nat} {A B : Mat} (h : runM n A k = some B) (hs : ¬ ford .f32 (swp B k (bst B k (n - k)) k k) (some 0) = some .eq) : runM n A (k + 1) = some (elim (swp B k (bst B k (n - k))) k n (k + 1)) := by
  rw [run_step h]
  unfold stepM
  rw [if_neg (by simpa using hs)]
theorem bst_next (A : Mat) (k m : Nat) : bst A k (m + 1) = if gtX A (k + m) (bst A k m) k then k + m else bst A k m := rfl
theorem wp_world {P : Program} {c : Code} {Q : Exit → Act → World → Prop} {a : Act} {W w2 : World} (h : W = w2) (hw : Code.wp P c Q a w2) : Code.wp P c Q a W := h ▸ hw
theorem set_over {w : World} {p q : Addr} {u v : Value} (hp : w.cell? p = some u) (hq : w.cell? q = some v) : (w.setCell p v).cell? q = some v := by
  by_cases h : q = p
  · subst h
    exact World.cell?_setCell_same _ _ _ hp
  · rw [World.cell?_setCell_other _ _ _ _ (fun e => h e.symm)]; exact hq
theorem gtX_size {A : Mat} {i j k x y : Nat} (hx : ab .f32 x = A i k) (hy : ab .f32 y = A j k) : gtX A i j k = (ford .f32 (sizeM (ab .f32 x)) (sizeM (ab .f32 y)) == some .gt) := by
  unfold gtX
  rw [← hx, ← hy, ((abs_alike x).ford _).1, ((abs_alike y).ford _).2]
set_option maxRecDepth 100000 in
set_option maxHeartbeats 6400000 in
theorem l04Solve_any (lo G cap R capR n : Nat) (A : Mat) (hn1 : 1 ≤ n) (hn8 : n ≤ 8) (w : World) (hlo : lo ≤ w.heap.size) (hv : SolveAt 30 44 w lo G cap R capR n A) :
    Calls Try.prog 76 #[.slice (some ⟨G, 0, none⟩) n cap, .slice (some ⟨R, 0, none⟩) n capR] w (SolveOk ((runM n A n).map fun B => outL B n) lo w) := by
  obtain ⟨i0, hi, hz0, hz1, hz2⟩ := info_parts (P := Try.prog) (e := 44) (z := Value.float .f32 0) (size := 1) (bytes := 4) (by kernel_rfl)
  have HV := hid hv
  have hcap := (hv.at (i := 0) (by omega)).2.2.2
  have hcapR := (hv.right (i := 0) (by omega)).2.2
  have q1 := hcap.1; have q2 := hcap.2.1
  have q3 := hcapR.1; have q4 := hcapR.2.1
  unfold maxLen at q2 q4
  clear hcap hcapR hv
  go_enter Try.func76, Try.ntmps76
  go_wp2_with fail
  go_loopw [7] (fun i wr => ∃ (k : Nat) (B : Mat), k ≤ n ∧ i = .int .i64 k ∧ Hid (runM n A k = some B) ∧ Hid (SolveAt 30 44 wr lo G cap R capR n B) ∧ Below lo w wr) (fun i _ => n - (intOf i).toNat)
  case atStart => exact ⟨0, A, by omega, rfl, hid rfl, hid (HV.out.below (by (repeat (first | (with_reducible assumption) | (with_reducible apply below_refl) | (with_reducible apply below_alloc1) | (with_reducible apply below_drewN1) | (with_reducible apply below_drew1))))), Below.mono (show Below w.heap.size w _ by (repeat (first | (with_reducible assumption) | (with_reducible apply below_refl) | (with_reducible apply below_alloc1) | (with_reducible apply below_drewN1) | (with_reducible apply below_drew1)))) hlo⟩
  case round =>
    obtain ⟨k, B, hk, rfl, hrun, hs, hw⟩ := hrel
    by_cases hlt : k < n
    · have hkI : (k : Int) < (n : Int) := by omega
      have hkz : (0 : Int) ≤ (k : Int) := by omega
      go_wp2_with fail
      obtain ⟨wo, hwo⟩ : ∃ wo, wo = wr := ⟨_, rfl⟩
      subst hwo
      go_loopw [8, 9] (fun x j wq => ∃ (J b : Nat), k + 1 ≤ J ∧ J ≤ n ∧ j = .int .i64 J ∧ x = .int .i64 b ∧ Hid (b = bst B k (J - k)) ∧ k ≤ b ∧ b < J ∧ Below wo.heap.size wo wq) (fun _ j _ => n - (intOf j).toNat)
      case atStart => exact ⟨k + 1, k, Nat.le_refl _, by omega, by go_num, rfl, hid (by rw [show k + 1 - k = 1 by omega, bst_one]), by omega, by omega, by (repeat (first | (with_reducible assumption) | (with_reducible apply below_refl) | (with_reducible apply below_alloc1) | (with_reducible apply below_drewN1) | (with_reducible apply below_drew1)))⟩
      case round =>
        obtain ⟨J, b, hkJ, hJn, rfl, rfl, hb, hkb, hbJ, hwr⟩ := hrel
        have hsr := hs.out.below hwr
        obtain ⟨f0, f1, f2, f3, f4, g, cp, c1, c2, c3, c4, c5, c6, c7⟩ := hsr.at (i := b) (by omega)
        obtain ⟨y, hy, hyv, -⟩ := c7 k hlt
        clear c7
        have hbI : (b : Int) < (n : Int) := by omega
        have hbz : (0 : Int) ≤ (b : Int) := by omega
        by_cases hlt2 : J < n
        · obtain ⟨-, -, -, -, -, g', cp', -, -, -, -, c5', c6', c7'⟩ := hsr.at (i := J) hlt2
          obtain ⟨x, hx, hxv, -⟩ := c7' k hlt
          clear c7'
          have hjI : (J : Int) < (n : Int) := by omega
          have hjz : (0 : Int) ≤ (J : Int) := by omega
          have HN := hid (show bst B k (J + 1 - k) = if (ford .f32 (sizeM (ab .f32 x)) (sizeM (ab .f32 y)) == some .gt) = true then J else b by
            have h := gtX_size hxv hyv
            rw [show J + 1 - k = (J - k) + 1 by omega, bst_next, ← hb.out, show k + (J - k) = J by omega, h])
          clear hxv hyv
          go_wp2_with (first
            | (go_region_held (fun w' => Below wr.heap.size wr w' ∧ ∀ b o, b < wr.heap.size → w'.cell? ⟨b, o, none⟩ = wr.cell? ⟨b, o, none⟩) (first | exact keep_next ‹_› ‹_› | exact keep_start | exact keep_drew ‹_› | exact keep_of (by (repeat (first | (with_reducible assumption) | (with_reducible apply below_refl) | (with_reducible apply below_alloc1) | (with_reducible apply below_drewN1) | (with_reducible apply below_drew1))))) (first | (go_at_call 91; refine (l04Size_any _ _).mono ?_; rintro e w' ⟨r, rfl, hr, hb⟩)) <;> (rename_i hHeld; obtain ⟨hB, hC⟩ := hHeld)))
          all_goals
            refine ⟨?_, by simp [intOf]; omega⟩
            first
              | exact ⟨J + 1, b, by omega, by omega, by go_num, rfl, hid (by rw [HN.out, if_neg (by simp [*])]), hkb, by omega, below_trans hwr hB⟩
              | exact ⟨J + 1, J, by omega, by omega, by go_num, rfl, hid (by rw [HN.out, if_pos (by assumption)]), by omega, by omega, below_trans hwr hB⟩
        · obtain rfl : J = n := by omega
          obtain ⟨-, -, -, -, -, g', cp', -, -, -, -, c5', c6', -⟩ := hsr.at (i := k) hlt
          have e0 := (hsr.at (i := k) hlt).1
          have ov1 := set_over c6 c6'
          have HSW := hid (hsr.swapped (by omega) hlt c6 c6')
          generalize hW2 : (wr.setCell ⟨G, b, none⟩ (.slice (some ⟨g', 0, none⟩) J cp')).setCell ⟨G, k, none⟩ (.slice (some ⟨g, 0, none⟩) J cp) = w2 at HSW
          have HLW : Below lo w w2 := by rw [← hW2]; exact ((hw.trans (hwr.mono (Nat.le_trans hlo hw.size))).setCell f2 _).setCell f2 _
          obtain ⟨r1, r2, r3, r4, r5, xb, r6, r7⟩ := HSW.out.right (i := b) (by omega)
          obtain ⟨-, -, -, -, r5', xk, r6', r7'⟩ := HSW.out.right (i := k) hlt
          have ov2 := set_over r6 r6'
          have HS3 := hid (SolveAt.swappedR b k HSW.out (by omega) hlt (x := xb) (y := xk) (by rw [r7, if_neg (Nat.lt_irrefl _)]) (by rw [r7', if_neg (Nat.lt_irrefl _)]))
          generalize hW3 : (w2.setCell ⟨R, b, none⟩ (.float .f32 xk)).setCell ⟨R, k, none⟩ (.float .f32 xb) = w3 at HS3
          have HL3 : Below lo w w3 := by rw [← hW3]; exact (HLW.setCell r2 _).setCell r2 _
          have HBE := hid (show b = bst B k (J - k) from hb.out)
          obtain ⟨-, t1, -, -, -, g3, cp3, t2, t3, t4, t5, t6, t7, t8⟩ := HS3.out.at (i := k) hlt
          obtain ⟨z, hz, hzv, -⟩ := t8 k hlt
          clear t8 r7 r7'
          by_cases hz0 : ford .f32 (ab .f32 z) (some 0) = some Ordering.eq
          · have HNONE := hid (step_none hlt hrun.out (by rw [← HBE.out, ← hzv]; exact hz0))
            clear hzv
            go_wp2_with (first
              | (with_reducible refine wp_world hW2 ?_; clear hW2)
              | (with_reducible refine wp_world hW3 ?_; clear hW3))
            go_ret2
            exact ⟨by simp only [HNONE.out, Option.map_none]; rfl, HL3⟩
          · have HSOME := hid (step_some hrun.out (by rw [← HBE.out, ← hzv]; exact hz0))
            clear hzv
            have hzb : (ford .f32 (ab .f32 z) (some 0) == some Ordering.eq) = false := by simpa using hz0
            go_wp2_with (first
              | (with_reducible refine wp_world hW2 ?_; clear hW2)
              | (with_reducible refine wp_world hW3 ?_; clear hW3))
            rw [← HBE.out] at HSOME
            generalize hC : swp B k b = C at HS3 HSOME
            clear hC
            have hlo3 := Nat.le_trans hlo HL3.size
            clear hsr hs hwr hw HV HSW HLW hrun hb HBE hy hyv c6 c6' ov1 ov2 r5 r6 r5' r6' t7 hz hz0 hzb
            go_loopw [12] (fun i wr => ∃ I : Nat, k + 1 ≤ I ∧ I ≤ J ∧ i = .int .i64 I ∧ Hid (SolveAt 30 44 wr lo G cap R capR J (elim C k I (k + 1))) ∧ Below lo w wr) (fun i _ => J - (intOf i).toNat)
            case atStart => exact ⟨k + 1, Nat.le_refl _, by omega, by go_num, hid ((HS3.out.congr (fun r c _ _ => (elim_start C k r c).symm)).below (by (repeat (first | (with_reducible assumption) | (with_reducible apply below_refl) | (with_reducible apply below_alloc1) | (with_reducible apply below_drewN1) | (with_reducible apply below_drew1))))), HL3⟩
            case round =>
              obtain ⟨I, hkI2, hIn, rfl, hs, hw⟩ := hrel
              by_cases hlt3 : I < J
              · obtain ⟨-, f1, f2, f3, f4, g, cp, c1, c2, c3, c4, c5, c6, c7⟩ := hs.out.at (i := I) hlt3
                obtain ⟨x, hx, hxv, -⟩ := c7 k hlt
                obtain ⟨-, -, -, -, -, g', cp', d1, d2, d3, d4, d5, d6, d7⟩ := hs.out.at (i := k) hlt
                obtain ⟨y, hy, hyv, -⟩ := d7 k hlt
                clear c7 d7
                rw [elim_left] at hxv hyv
                have hII : (I : Int) < (J : Int) := by omega
                have hIz : (0 : Int) ≤ (I : Int) := by omega
                obtain ⟨fe1, fe2, fe3, fe4⟩ := run_fres4 Try.prog
                obtain ⟨fa1, fa2, fa3, fa4⟩ := ab_fres4
                go_wp2_with (first
                  | (go_region_held (fun w' => Below wr.heap.size wr w' ∧ ∀ b o, b < wr.heap.size → w'.cell? ⟨b, o, none⟩ = wr.cell? ⟨b, o, none⟩) (first | exact keep_next ‹_› ‹_› | exact keep_start | exact keep_drew ‹_› | exact keep_of (by (repeat (first | (with_reducible assumption) | (with_reducible apply below_refl) | (with_reducible apply below_alloc1) | (with_reducible apply below_drewN1) | (with_reducible apply below_drew1))))) (fail) <;> (rename_i hHeld; obtain ⟨hB, hC⟩ := hHeld)))
                have HQ : Hid (ab .f32 (fres .quo .f32 x y wr.drew) = fop .quo .f32 (C I k) (C k k)) := hid (by rw [fa4, hxv, hyv])
                generalize fres .quo .f32 x y wr.drew = q at HQ
                obtain ⟨wo, hwo⟩ : ∃ wo, wo = wr := ⟨_, rfl⟩
                subst hwo
                clear hx hy hxv hyv fe1 fe2 fe3 fe4 fa1 fa2 fa3 fa4
                clear c6 d6 f1 f2 f3 f4 c1 c2 c3 c4 c5 d1 d2 d3 d4 d5
                go_loopw [14] (fun j wr => ∃ jj : Nat, k + 1 ≤ jj ∧ jj ≤ J ∧ j = .int .i64 jj ∧ Hid (SolveAt 30 44 wr lo G cap R capR J (elim C k I jj)) ∧ Below lo w wr) (fun j _ => J - (intOf j).toNat)
                case atStart => exact ⟨k + 1, Nat.le_refl _, by omega, by go_num, hid (hs.out.below (by (repeat (first | (with_reducible assumption) | (with_reducible apply below_refl) | (with_reducible apply below_alloc1) | (with_reducible apply below_drewN1) | (with_reducible apply below_drew1))))), hw.trans (Below.mono (show Below wo.heap.size wo _ by (repeat (first | (with_reducible assumption) | (with_reducible apply below_refl) | (with_reducible apply below_alloc1) | (with_reducible apply below_drewN1) | (with_reducible apply below_drew1)))) (Nat.le_trans hlo hw.size))⟩
                case round =>
                  obtain ⟨j, hkj, hjn, rfl, hs, hw⟩ := hrel
                  have hjz : (0 : Int) ≤ (j : Int) := by omega
                  by_cases hlt4 : j < J
                  · obtain ⟨-, f1, f2, f3, f4, g, cp, c1, c2, c3, c4, c5, c6, c7⟩ := hs.out.at (i := I) hlt3
                    obtain ⟨x, hx, hxv, hxf⟩ := c7 j hlt4
                    obtain ⟨-, -, -, -, -, g', cp', d1, d2, d3, d4, d5, d6, d7⟩ := hs.out.at (i := k) hlt
                    obtain ⟨y, hy, hyv, -⟩ := d7 j hlt4
                    clear c7 d7
                    have HXV := hid (hxv.trans (elim_here C k I j)); have HYV := hid (hyv.trans (elim_top C k I j j))
                    clear hxv hyv
                    have hjI : (j : Int) < (J : Int) := by omega
                    obtain ⟨fe1, fe2, fe3, fe4⟩ := run_fres4 Try.prog
                    obtain ⟨fa1, fa2, fa3, fa4⟩ := ab_fres4
                    have hlow := Nat.le_trans hlo hw.size
                    go_wp2_with fail
                    go_big_region
                    go_wp2_with fail
                    go_roundw
                    case rel =>
                      refine ⟨j + 1, by omega, by omega, by go_num, hid ?_, Below.setCell (hw.trans (Below.mono (show Below wr.heap.size wr _ by (repeat (first | (with_reducible assumption) | (with_reducible apply below_refl) | (with_reducible apply below_alloc1) | (with_reducible apply below_drewN1) | (with_reducible apply below_drew1)))) hlow)) c3 _⟩
                      refine SolveAt.stored (i := I) (j := j) (B := elim C k I j) (m := J) (cp := cp) (hs.out.below (by (repeat (first | (with_reducible assumption) | (with_reducible apply below_refl) | (with_reducible apply below_alloc1) | (with_reducible apply below_drewN1) | (with_reducible apply below_drew1))))) hlt3 hlt4 c6 ?_ (fun r c _ _ hn => ?_)
                      · rw [elim_next C k I j I j (by omega) (by omega), if_pos ⟨rfl, rfl⟩, fa2, fa3, HXV.out, HYV.out, HQ.out]
                      · rw [elim_next C k I j r c (by omega) (by omega), if_neg hn]
                    case measure => simp [intOf]; omega
                  · obtain rfl : j = J := by omega
                    obtain ⟨f2, f3, f4, f5, f6, x, hx, hxv⟩ := hs.out.right (i := I) hlt3
                    obtain ⟨-, -, -, -, -, y, hy, hyv⟩ := hs.out.right (i := k) hlt
                    have HXV := hid (hxv.trans (elim_here C k I j)); have HYV := hid (hyv.trans (elim_top C k I j j))
                    clear hxv hyv
                    have hlow := Nat.le_trans hlo hw.size
                    obtain ⟨fe1, fe2, fe3, fe4⟩ := run_fres4 Try.prog
                    obtain ⟨fa1, fa2, fa3, fa4⟩ := ab_fres4
                    go_wp2_with fail
                    go_big_region
                    go_wp2_with fail
                    go_roundw
                    case rel =>
                      refine ⟨I + 1, by omega, by omega, by go_num, hid ?_, Below.setCell (hw.trans (Below.mono (show Below wr.heap.size wr _ by (repeat (first | (with_reducible assumption) | (with_reducible apply below_refl) | (with_reducible apply below_alloc1) | (with_reducible apply below_drewN1) | (with_reducible apply below_drew1)))) hlow)) f3 _⟩
                      refine SolveAt.congr (B := elim C k I (j + 1)) ?_ (fun r c _ hc => (elim_row C k I j r c hc).symm)
                      refine SolveAt.storedR (i := I) (B := elim C k I j) (hs.out.below (by (repeat (first | (with_reducible assumption) | (with_reducible apply below_refl) | (with_reducible apply below_alloc1) | (with_reducible apply below_drewN1) | (with_reducible apply below_drew1))))) hlt3 ?_ (fun r c _ _ hn => ?_)
                      · rw [elim_next C k I j I j (by omega) (by omega), if_pos ⟨rfl, rfl⟩, fa2, fa3, HXV.out, HYV.out, HQ.out]
                      · rw [elim_next C k I j r c (by omega) (by omega), if_neg hn]
                    case measure => simp [intOf]; omega
              · obtain rfl : I = J := by omega
                go_wp2_with fail
                go_roundw
                case rel => exact ⟨k + 1, _, by omega, by go_num, HSOME, hs, hw⟩
                case measure => simp [intOf]; omega
    · obtain rfl : k = n := by omega
      obtain ⟨wo, hwo⟩ : ∃ wo, wo = wr := ⟨_, rfl⟩
      subst hwo
      go_wp2_with (at_make; refine wpList_make_full _ rfl _ _ 30 rfl wo.heap.size 44 i0 (Value.float .f32 0) 1 Try.underlying30 hi hz0 hz1 _ _ _ _ k rfl rfl rfl rfl (by rw [hz2]; omega) (by simp only [maxLen]; omega) (Nat.le_refl _) ?_; intro w1 hown hgrow)
      have hb1 : Below wo.heap.size wo w1 := wrote_below (u := .slice none 0 0) hgrow (by simp [Value.ownBlock]) (Nat.le_refl _)
      have HO := hid hown; clear hown hgrow
      have s0 : wo.heap.size < w1.heap.size := by
        have := (HO.out.lt wo.heap.size rfl).2; omega
      have hnI : (1 : Int) ≤ (k : Int) := by omega
      have hz1w := hw.size
      clear HV
      go_loopw [16] (fun i wr => ∃ (r : Nat) (z : Int) (bs : List Nat), r ≤ k ∧ z = (r : Int) - 1 ∧ i = .int .i64 z ∧ Hid (bs.length = k) ∧ Hid (wr.ownsRow wo.heap.size 44 1 (.slice (some ⟨wo.heap.size, 0, none⟩) k k) k (bs.map (Value.float .f32))) ∧ Hid (∀ i (hi : i < bs.length), ab .f32 bs[i] = backO B k (k - r) i) ∧ Below wo.heap.size wo wr ∧ wo.heap.size < wr.heap.size) (fun i _ => (intOf i + 1).toNat)
      case atStart => exact ⟨k, _, List.replicate k 0, Nat.le_refl _, rfl, rfl, hid (by simp), by have h := HO.out; simp only [Nat.mul_one] at h; rw [show (Value.float .f32 0).cells = #[Value.float .f32 0] from rfl, toList_madeCells_one] at h; simpa using hid h, hid (fun i hi => by simp [backO, ab_z32]), hb1, s0⟩
      case round =>
        obtain ⟨r, z, bs, hr, hz, rfl, hbl, ho, hbs, hwr, hsz⟩ := hrel
        cases r with
        | zero =>
          have hz' : ¬ (0 : Int) ≤ z := by omega
          have hz2 : z < 0 := by omega
          clear hz
          go_wp2_with fail
          go_ret2
          refine ⟨?_, hw.trans (hwr.mono (Nat.le_trans hlo hz1w))⟩
          simp only [hrun.out, Option.map_some]
          refine ⟨_, bs, rfl, by rw [List.length_map, hbl.out]; exact ownsRow_low ho.out hz1w, ?_⟩
          apply List.ext_getElem?
          intro i
          by_cases hi : i < bs.length
          · have := hbs.out i hi
            rw [Nat.sub_zero] at this
            simp [outL, hi, show i < k by rw [← hbl.out]; exact hi, this]
          · simp [outL, hi, show ¬ i < k by rw [← hbl.out]; exact hi]
        | succ t =>
          obtain rfl : z = (t : Int) := by omega
          clear hz
          have htk : t < k := by omega
          obtain ⟨-, e1, e2, e3, e4, g, cp, c1, c2, c3, c4, c5, HC6, c7⟩ := hs.out.at (i := t) htk
          obtain ⟨d1, d2, -, -, -, x0, hx0, hx0v⟩ := hs.out.right (i := t) htk
          have HFIT := hid (show ∀ j, j < k → ∃ x, (∀ wq, Below wo.heap.size wo wq → wq.cell? ⟨g, j, none⟩ = some (.float .f32 x)) ∧ ab .f32 x = B t j from fun j hj => by
            obtain ⟨x, hx, hxv, -⟩ := c7 j hj
            exact ⟨x, fun wq hq => by rw [hq.cell (p := ⟨g, j, none⟩) c5]; exact hx, hxv⟩)
          clear c7
          have hxc : wr.cell? ⟨R, t, none⟩ = some (.float .f32 x0) := by rw [hwr.cell (p := ⟨R, t, none⟩) d1]; exact hx0
          have KC := hid HC6
          have HXV := hid hx0v
          clear hx0 hx0v HC6
          have htI : (t : Int) < (k : Int) := by omega
          have htz : (0 : Int) ≤ (t : Int) := by omega
          go_wp2_with fail
          clear hxc
          obtain ⟨wp, hwp⟩ : ∃ wp, wp = wr := ⟨_, rfl⟩
          subst hwp
          go_loopw [17, 18] (fun x j wq => ∃ (J q : Nat), t + 1 ≤ J ∧ J ≤ k ∧ j = .int .i64 J ∧ x = .float .f32 q ∧ Hid (ab .f32 q = backS B (backO B k (k - (t + 1))) k t (J - (t + 1))) ∧ Below wp.heap.size wp wq) (fun _ j _ => k - (intOf j).toNat)
          case atStart => exact ⟨t + 1, x0, Nat.le_refl _, by omega, by go_num, rfl, hid (by rw [Nat.sub_self]; exact HXV.out), by (repeat (first | (with_reducible assumption) | (with_reducible apply below_refl) | (with_reducible apply below_alloc1) | (with_reducible apply below_drewN1) | (with_reducible apply below_drew1)))⟩
          case round =>
            obtain ⟨J, q, htJ, hJk, rfl, rfl, hq, hwq⟩ := hrel
            have hwoq := below_trans hwr hwq
            have kc : wr.cell? ⟨G, t, none⟩ = some (.slice (some ⟨g, 0, none⟩) k cp) := by rw [hwoq.cell (p := ⟨G, t, none⟩) e1]; exact KC.out
            have ho2 := ownsRow_below ho.out hwq
            have HO2 := hid ho2
            clear ho2
            by_cases hlt : J < k
            · obtain ⟨x1, hx1, hx1v⟩ := HFIT.out J hlt
              have hxc := hx1 wr hwoq
              have hJb : J < bs.length := by rw [hbl.out]; exact hlt
              have hoc : wr.cell? ⟨wo.heap.size, J, none⟩ = some (.float .f32 bs[J]) := by
                rw [HO2.out.cellAt J (by omega)]
                simp [hJb]
              have hov := hbs.out J hJb
              have HN := hid (show backS B (backO B k (k - (t + 1))) k t (J + 1 - (t + 1)) = fop .sub .f32 (ab .f32 q) (fop .mul .f32 (ab .f32 x1) (ab .f32 bs[J])) by
                rw [show J + 1 - (t + 1) = (J - (t + 1)) + 1 by omega, backS_next, show t + 1 + (J - (t + 1)) = J by omega, hq.out, hx1v, hov])
              clear hx1 hx1v hov
              generalize bs[J] = y at hoc HN
              have hJI : (J : Int) < (k : Int) := by omega
              have hJz : (0 : Int) ≤ (J : Int) := by omega
              have l1 : G < wr.heap.size := World.block_lt_of_cell? wr _ kc
              have l2 : g < wr.heap.size := World.block_lt_of_cell? wr _ hxc
              have l3 : wo.heap.size < wr.heap.size := World.block_lt_of_cell? wr _ hoc
              obtain ⟨fe1, fe2, fe3, fe4⟩ := run_fres4 Try.prog
              obtain ⟨fa1, fa2, fa3, fa4⟩ := ab_fres4
              go_wp2_with (first
                | (go_region_held (fun w' => Below wr.heap.size wr w' ∧ ∀ b o, b < wr.heap.size → w'.cell? ⟨b, o, none⟩ = wr.cell? ⟨b, o, none⟩) (first | exact keep_next ‹_› ‹_› | exact keep_start | exact keep_drew ‹_› | exact keep_of (by (repeat (first | (with_reducible assumption) | (with_reducible apply below_refl) | (with_reducible apply below_alloc1) | (with_reducible apply below_drewN1) | (with_reducible apply below_drew1))))) (fail) <;> (rename_i hHeld; obtain ⟨hB, hC⟩ := hHeld)))
              all_goals
                go_roundw
                case rel => exact ⟨J + 1, _, by omega, by omega, by go_num, rfl, hid (by rw [HN.out]; simp only [fa1, fa2, fa3]), below_trans hwq (by (repeat (first | (with_reducible assumption) | (with_reducible apply below_refl) | (with_reducible apply below_alloc1) | (with_reducible apply below_drewN1) | (with_reducible apply below_drew1))))⟩
                case measure => simp [intOf]; omega
            · have hJe : J = k := by omega
              subst hJe
              obtain ⟨x1, hx1, hx1v⟩ := HFIT.out t htk
              have hxc := hx1 wr hwoq
              have htb : t < bs.length := by rw [hbl.out]; exact htk
              have hoc : wr.cell? ⟨wo.heap.size, t, none⟩ = some (.float .f32 bs[t]) := by
                rw [HO2.out.cellAt t (by omega)]
                simp [htb]
              have hfr : wr.frozen? ⟨wo.heap.size, t, none⟩ = false := HO2.out.frozenAt t
              have HXV2 := hid hx1v
              clear hx1 hx1v
              generalize bs[t] = y at hoc
              have l3 : wo.heap.size < wr.heap.size := World.block_lt_of_cell? wr _ hoc
              have hgz : ¬ (J : Int) < (J : Int) := by omega
              go_wp2_with (first | (refine upon_float rfl ?_; intro rr nn hrr; go_simp))
              go_roundw
              case rel =>
                have hst := (ownsRow_below HO2.out (below_drewN wr nn)).stored t (.float .f32 rr)
                refine ⟨t, _, bs.set t rr, by omega, rfl, by go_num, hid (by rw [List.length_set]; exact hbl.out), hid (by have h := hst.1; simpa [List.map_set] using h), hid (fun i hi => ?_), ?_, ?_⟩
                · rw [List.length_set] at hi
                  rw [show J - t = (J - (t + 1)) + 1 by omega, backO_next, show J - 1 - (J - (t + 1)) = t by omega]
                  by_cases hik : i = t
                  · subst hik
                    rw [if_pos rfl, List.getElem_set_self, hrr, HXV2.out, hq.out]
                  · rw [if_neg hik, List.getElem_set_ne (fun e => hik e.symm)]
                    exact hbs.out i hi
                · exact below_setCell1 (below_trans hwoq (by (repeat (first | (with_reducible assumption) | (with_reducible apply below_refl) | (with_reducible apply below_alloc1) | (with_reducible apply below_drewN1) | (with_reducible apply below_drew1))))) (Nat.le_refl _)
                · have := hwq.size
                  simp
                  omega
              case measure => (first | (simp [intOf]; omega) | simp [intOf])
end Go.Proofs.Ytfnhpchgiknmpaa
