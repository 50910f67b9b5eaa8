/- pdqsortOrdered, slices.Sort at float32. -/
import Derived.Test.YtdldlfefbeflcaaSort12
import Derived.Sort.Walk13a
import Derived.Sort.LotD4
import Derived.Deep.Cut
namespace Go.Proofs.Ytdldlfefbeflcaa
open Go.RowKit
open Go.Sort (rd rd_facts rd_dec rd_not rd_pi_yes rd_pi_no rd_lim_le pdq pdq_small pdq_heap pdq_done pdq_eq pdq_left pdq_right partition partitionEqual round_part round_eq hintCode)

theorem hintOf_eq (h : Sort.Hint) : hintOf h = hintCode h := by cases h <;> rfl
theorem hint_two {h : Sort.Hint} (e : hintCode h = 2) : h = .decreasing := by cases h <;> simp [hintCode] at e ⊢
theorem eighth2 {x y p q : Nat} (h1 : q ≤ p) (h2 : y ≤ x) : decide (((x : Int) - (y : Int)) / 8 ≤ (p : Int) - (q : Int)) = decide (p - q ≥ (x - y) / 8) :=
  decide_eq_decide.2 ⟨fun h => by omega, fun h => by omega⟩
/-- The world wr is w with the row holding d. -/
def At2 (E : TypeId) (lo g cap n : Nat) (w : World) (d : Array Nat) (wr : World) : Prop := SRow E wr lo g cap n d ∧ Below lo w wr ∧ lo ≤ wr.heap.size
theorem At2.step {E : TypeId} {lo g cap n : Nat} {w wr w1 : World} {d d' : Array Nat} (h : At2 E lo g cap n w d wr) (h1 : SRow E w1 lo g cap n d' ∧ Below lo wr w1) : At2 E lo g cap n w d' w1 := ⟨h1.1, h.2.1.trans h1.2, Nat.le_trans h.2.2 h1.2.size⟩
theorem At2.below {E : TypeId} {lo g cap n : Nat} {w wr w1 : World} {d : Array Nat} (h : At2 E lo g cap n w d wr) (hb : Below wr.heap.size wr w1) : At2 E lo g cap n w d w1 := h.step ⟨h.1.below hb, hb.mono h.2.2⟩
theorem sok_step {E : TypeId} {lo g cap n : Nat} {w wr w1 : World} {d d' : Array Nat} {e : Ending} (h : At2 E lo g cap n w d wr) (h1 : SOk E lo g cap n d' e w1 wr) : e = .returned (.tuple #[]) ∧ At2 E lo g cap n w d' w1 := ⟨h1.1, h.step h1.2⟩
set_option maxHeartbeats 6400000 in
set_option maxRecDepth 1000000 in
theorem pdq_any (lo g cap n : Nat) (hn : n ≤ 64) : ∀ (N a b limit : Nat) (d : Array Nat) (w : World), b - a < N → SRow 23 w lo g cap n d → lo ≤ w.heap.size → a ≤ b → b ≤ n → limit ≤ 64 → Sort.Below ltN a b d →
    Calls Try.prog 50 #[.slice (some ⟨g, 0, none⟩) n cap, .int .i64 a, .int .i64 b, .int .i64 limit] w fun e w' => e = .returned (.tuple #[]) ∧ At2 23 lo g cap n w (pdq ltN d a b limit true true) w' := by
  intro N
  induction N with
  | zero => intro _ _ _ _ _ h; exact absurd h (Nat.not_lt_zero _)
  | succ N ih =>
    intro a b limit d w hN hH hlo hab hb hlimit hBel0
    have HH := hid hH
    have hsz : d.size = n := hH.2.1
    have hcap := hH.caps
    have q1 := hcap.1; have q2 := hcap.2
    unfold maxLen at q2
    have HIH := hid ih
    clear hH hcap ih
    go_enter Try.func50, Try.ntmps50
    go_wp2
    go_loopg [1, 2, 3, 8, 9] (b - a) (fun k s1 s2 s3 s8 s9 wr => ∃ (a' b' lim : Nat) (wb wp : Bool) (dk : Array Nat), s1 = .int .i64 a' ∧ s2 = .int .i64 b' ∧ s3 = .int .i64 lim ∧ s8 = .bool wb ∧ s9 = .bool wp ∧
      a' ≤ b' ∧ b' ≤ n ∧ b' - a' ≤ k ∧ k ≤ b - a ∧ lim ≤ limit ∧ Hid (dk.size = n) ∧ Hid (Sort.Below ltN a' b' dk) ∧ At2 23 lo g cap n w dk wr ∧ Hid (pdq ltN dk a' b' lim wb wp = pdq ltN d a b limit true true))
    case atStart => exact ⟨a, b, limit, true, true, d, rfl, rfl, rfl, rfl, rfl, hab, hb, Nat.le_refl _, Nat.le_refl _, Nat.le_refl _, hid hsz, hid hBel0, ⟨HH.out.below (by (repeat (first | (with_reducible assumption) | (with_reducible apply below_refl) | (with_reducible apply below_alloc1) | (with_reducible apply below_drewN1) | (with_reducible apply below_drew1)))), Below.mono (show Below w.heap.size w _ by (repeat (first | (with_reducible assumption) | (with_reducible apply below_refl) | (with_reducible apply below_alloc1) | (with_reducible apply below_drewN1) | (with_reducible apply below_drew1)))) hlo, Nat.le_trans hlo (Below.size (show Below w.heap.size w _ by (repeat (first | (with_reducible assumption) | (with_reducible apply below_refl) | (with_reducible apply below_alloc1) | (with_reducible apply below_drewN1) | (with_reducible apply below_drew1)))))⟩, hid rfl⟩
    case round =>
      obtain ⟨a', b', lim, wb, wp, dk, rfl, rfl, rfl, rfl, rfl, hab', hb', hk, hkN, hlim, hds, hBel, hAt, A⟩ := hrel
      by_cases h12 : b' - a' ≤ 12
      · have h12z : (b' : Int) - (a' : Int) ≤ 12 := by omega
        have hc := hid (ins_any lo g cap n a' b' dk hab' hb' hn)
        go_wp2_with (go_at_call 58; refine (hc.out _ (hAt.below (by (repeat (first | (with_reducible assumption) | (with_reducible apply below_refl) | (with_reducible apply below_alloc1) | (with_reducible apply below_drewN1) | (with_reducible apply below_drew1))))).2.2 (hAt.below (by (repeat (first | (with_reducible assumption) | (with_reducible apply below_refl) | (with_reducible apply below_alloc1) | (with_reducible apply below_drewN1) | (with_reducible apply below_drew1))))).1).mono ?_; rintro e w1 ⟨rfl, hw1⟩; have T1 := hAt.step ⟨hw1.1, (Below.mono (show Below wr.heap.size wr _ by (repeat (first | (with_reducible assumption) | (with_reducible apply below_refl) | (with_reducible apply below_alloc1) | (with_reducible apply below_drewN1) | (with_reducible apply below_drew1)))) hAt.2.2).trans hw1.2⟩; clear hw1)
        (try simp only [Exit.inBlock, Exit.then]); refine bodyPost_ret (results_none rfl _ _ _) rfl ?_
        refine ⟨rfl, ?_⟩
        rw [← A.out, pdq_small h12]
        exact T1.below (by (repeat (first | (with_reducible assumption) | (with_reducible apply below_refl) | (with_reducible apply below_alloc1) | (with_reducible apply below_drewN1) | (with_reducible apply below_drew1))))
      · have h12z : ¬ ((b' : Int) - (a' : Int) ≤ 12) := by omega
        have h12y : (12 : Int) < (b' : Int) - (a' : Int) := by omega
        have W1 : IntKind.i64.wrap ((b' : Int) - (a' : Int)) = (b' : Int) - (a' : Int) := by rw [IntKind.wrap_i64]; omega
        by_cases hl0 : lim = 0
        · subst hl0
          have hc := hid (heap_any lo g cap n a' b' dk hab' hb' hn)
          go_wp2_with (go_at_call 59; refine (hc.out _ (hAt.below (by (repeat (first | (with_reducible assumption) | (with_reducible apply below_refl) | (with_reducible apply below_alloc1) | (with_reducible apply below_drewN1) | (with_reducible apply below_drew1))))).2.2 (hAt.below (by (repeat (first | (with_reducible assumption) | (with_reducible apply below_refl) | (with_reducible apply below_alloc1) | (with_reducible apply below_drewN1) | (with_reducible apply below_drew1))))).1).mono ?_; rintro e w1 ⟨rfl, hw1⟩; have T1 := hAt.step ⟨hw1.1, (Below.mono (show Below wr.heap.size wr _ by (repeat (first | (with_reducible assumption) | (with_reducible apply below_refl) | (with_reducible apply below_alloc1) | (with_reducible apply below_drewN1) | (with_reducible apply below_drew1)))) hAt.2.2).trans hw1.2⟩; clear hw1)
          (try simp only [Exit.inBlock, Exit.then]); refine bodyPost_ret (results_none rfl _ _ _) rfl ?_
          refine ⟨rfl, ?_⟩
          rw [← A.out, pdq_heap h12 rfl]
          exact T1.below (by (repeat (first | (with_reducible assumption) | (with_reducible apply below_refl) | (with_reducible apply below_alloc1) | (with_reducible apply below_drewN1) | (with_reducible apply below_drew1))))
        · have hl0z : ¬ ((lim : Int) = 0) := by omega
          obtain ⟨s1, B1, hc1, s2, B2, hpv, s3, B3⟩ := rd_facts (limit := lim) (wb := wb) (wp := wp) swoN (Sort.partialInsertionSort_holds) Sort.reverseRange_holds (show a' < b' by omega) (show b' ≤ dk.size by rw [hds.out]; exact hb') hBel.out
          have hB3 := hid B3
          rw [hds.out] at s1 s2 s3
          have hs3 := hid s3
          clear B1 B2 B3 s1 s2 s3
          go_upto_if 35 with fail
          go_cut [3] from 19 (fun s3 wc => s3 = .int .i64 (rd ltN dk a' b' lim wb wp).lim ∧ At2 23 lo g cap n w (rd ltN dk a' b' lim wb wp).d1 wc)
          case first =>
            cases wb
            · have hc := hid (brk_any lo g cap n a' b' dk (by omega) hb' hn wr hAt.2.2 hAt.1)
              have WL : IntKind.i64.wrap ((lim : Int) - 1) = (lim : Int) - 1 := by rw [IntKind.wrap_i64]; omega
              go_wp2_with (go_at_call 60; refine hc.out.mono ?_; rintro e w1 ⟨rfl, hw1⟩)
              go_meet
              case rel =>
                refine ⟨?_, hAt.step hw1⟩
                show Value.int .i64 ((lim : Int) - 1) = Value.int .i64 ((lim - 1 : Nat) : Int)
                congr 1
                omega
            · go_wp2_with fail
              go_meet
              case rel => exact ⟨rfl, hAt⟩
          case rest =>
            obtain ⟨rfl, hAt1⟩ := hcut
            have hc17 := choosePv_any lo g cap n a' b' (rd ltN dk a' b' lim wb wp).d1 (by omega) hb' hn wc hAt1.2.2 hAt1.1
            rw [hintOf_eq] at hc17
            have hc17 : Calls Try.prog 61 #[.slice (some ⟨g, 0, none⟩) n cap, .int .i64 a', .int .i64 b'] wc fun e w' => e = .returned (.tuple #[.int .i64 ((rd ltN dk a' b' lim wb wp).c.1 : Nat), .int .i64 (hintCode (rd ltN dk a' b' lim wb wp).c.2)]) ∧ Below wc.heap.size wc w' := hc17
            go_upto_if 50 with (go_at_call 61; refine hc17.mono ?_; rintro e w2 ⟨rfl, hw2⟩)
            have hAt2 := hAt1.below hw2
            go_cut [11, 12] from 19 (fun s11 s12 wc => s11 = .int .i64 (rd ltN dk a' b' lim wb wp).pivot ∧ s12 = .int .i64 (hintCode (rd ltN dk a' b' lim wb wp).hint) ∧ At2 23 lo g cap n w (rd ltN dk a' b' lim wb wp).d2 wc)
            case first =>
              by_cases hh : (rd ltN dk a' b' lim wb wp).c.2 = .decreasing
              · have hcode : hintCode (rd ltN dk a' b' lim wb wp).c.2 = 2 := by rw [hh]; rfl
                obtain ⟨e2, epv, eht⟩ := rd_dec hh
                have hc18 := rev_any lo g cap n a' b' (rd ltN dk a' b' lim wb wp).d1 (by omega) hb' hn w2 hAt2.2.2 hAt2.1
                go_wp2_with (go_at_call 62; refine hc18.mono ?_; rintro e w3 ⟨rfl, hw3⟩)
                go_meet
                case rel =>
                  refine ⟨?_, by rw [eht]; rfl, by rw [e2]; exact hAt2.step hw3⟩
                  rw [epv]
                  congr 1
                  omega
              · have hcode : ¬ (hintCode (rd ltN dk a' b' lim wb wp).c.2 = 2) := fun h => hh (hint_two h)
                obtain ⟨e2, epv, eht⟩ := rd_not hh
                go_wp2_with fail
                go_meet
                case rel => exact ⟨by rw [epv], by rw [eht], by rw [e2]; exact hAt2⟩
            case rest =>
              obtain ⟨rfl, rfl, hAt3⟩ := hcut
              go_upto_region 15 with fail
              go_cut [12, 68] from 19 (fun s12 s68 wx => s12 = .int .i64 (hintCode (rd ltN dk a' b' lim wb wp).hint) ∧ s68 = .bool (wb && wp && decide ((rd ltN dk a' b' lim wb wp).hint = .increasing)) ∧ wx = wc)
              case first =>
                cases wb <;> cases wp <;> cases hh3 : (rd ltN dk a' b' lim _ _).hint <;>
                  (have hcode3 := congrArg hintCode hh3
                   simp only [hintCode] at hcode3
                   go_wp2_with fail
                   go_meet
                   exact ⟨by simp [hh3, hintCode], by simp [hh3, hintCode], rfl⟩)
              case rest =>
                obtain ⟨rfl, rfl, rfl⟩ := hcut
                go_upto_if 68 with fail
                go_cut [] from 19 (fun wx => (rd ltN dk a' b' lim wb wp).pi.2 = false ∧ At2 23 lo g cap n w (rd ltN dk a' b' lim wb wp).pi.1 wx)
                case first =>
                  cases h68 : (wb && wp && decide ((rd ltN dk a' b' lim wb wp).hint = .increasing))
                  · have epi := rd_pi_no h68
                    go_wp2_with fail
                    go_meet
                    case rel => exact ⟨by rw [epi], by rw [epi]; exact hAt3⟩
                  · have epi := rd_pi_yes h68
                    have hc19 := pi_any lo g cap n a' b' (rd ltN dk a' b' lim wb wp).d2 (by omega) hb' hn wc hAt3.2.2 hAt3.1
                    rw [← epi] at hc19
                    go_wp2_with (go_at_call 63; refine hc19.mono ?_; rintro e w4 ⟨rfl, hw4⟩)
                    all_goals first
                      | (have hp2 : (rd ltN dk a' b' lim wb wp).pi.2 = false := by rw [epi]; assumption
                         go_meet
                         exact ⟨hp2, hAt3.step hw4⟩)
                      | (have hp2 : (rd ltN dk a' b' lim wb wp).pi.2 = true := by rw [epi]; assumption
                         (try simp only [Exit.inBlock, Exit.then]); refine bodyPost_ret (results_none rfl _ _ _) rfl ?_
                         refine ⟨rfl, ?_⟩
                         rw [← A.out, pdq_done h12 hl0 hp2]
                         exact hAt3.step hw4)
                case rest =>
                  obtain ⟨hp2, hAt5⟩ := hcut
                  have HP2 := hid hp2
                  clear hp2
                  go_upto_region 17 with fail
                  go_cut [87] from 19 (fun s87 wx => s87 = .bool (decide (a' > 0) && !ltN (rd ltN dk a' b' lim wb wp).pi.1[a' - 1]! (rd ltN dk a' b' lim wb wp).pi.1[(rd ltN dk a' b' lim wb wp).pivot]!) ∧ At2 23 lo g cap n w (rd ltN dk a' b' lim wb wp).pi.1 wx)
                  case first =>
                    rcases Nat.eq_zero_or_pos a' with ha0 | ha0
                    · have ha0z : decide ((a' : Int) > 0) = false := decide_eq_false (by omega)
                      have ha0y : ¬ (0 : Int) < (a' : Int) := by omega
                      have H0 := hid ha0
                      have hz1 : decide (0 < a') = false := decide_eq_false (by omega)
                      have hz2 : (0 < a') = False := eq_false (by omega)
                      have hz3 : ((0 : Int) < (a' : Int)) = False := eq_false (by omega)
                      have hz4 : decide ((0 : Int) < (a' : Int)) = false := decide_eq_false (by omega)
                      clear ha0
                      go_quiet (fail)
                      go_wp2_with fail
                      go_meet
                      case rel => exact ⟨by simp [H0.out], hAt5.below (below_drewN _ nq)⟩
                    · have ha0z : (0 : Int) < (a' : Int) := by omega
                      have WA : IntKind.i64.wrap ((a' : Int) - 1) = (a' : Int) - 1 := by rw [IntKind.wrap_i64]; omega
                      have ia : ((a' : Int) - 1).toNat = a' - 1 := by omega
                      have iz : (0 : Int) ≤ (a' : Int) - 1 := by omega
                      have iy : (a' : Int) - 1 < (n : Int) := by omega
                      have ix : ((rd ltN dk a' b' lim wb wp).pivot : Int) < (n : Int) := by omega
                      obtain ⟨x, y, c1, c2, f1, f2, p1, p2, -, l1, -, -⟩ := hAt5.1.pair (i := a' - 1) (j := (rd ltN dk a' b' lim wb wp).pivot) (by omega) (by omega)
                      have hgd : ∃ v, decide (x < y) = v := ⟨_, rfl⟩
                      obtain ⟨v, hd⟩ := hgd
                      go_wp2_with fail
                      go_quiet ((go_at_call 64; exact quiet_at hd (sLess_any _ _ p1 p2 _)))
                      go_wp2_with fail
                      go_meet
                      case rel => exact ⟨by rw [l1.out, hd]; simp [ha0], hAt5.below (below_drewN _ nq)⟩
                  case rest =>
                    obtain ⟨rfl, hAt6⟩ := hcut
                    cases h87 : (decide (a' > 0) && !ltN (rd ltN dk a' b' lim wb wp).pi.1[a' - 1]! (rd ltN dk a' b' lim wb wp).pi.1[(rd ltN dk a' b' lim wb wp).pivot]!)
                    · obtain ⟨mid, ap, d4, hx⟩ : ∃ mid ap d4, partition ltN (rd ltN dk a' b' lim wb wp).pi.1 a' b' (rd ltN dk a' b' lim wb wp).pivot = (mid, ap, d4) := ⟨(partition ltN (rd ltN dk a' b' lim wb wp).pi.1 a' b' (rd ltN dk a' b' lim wb wp).pivot).1, (partition ltN (rd ltN dk a' b' lim wb wp).pi.1 a' b' (rd ltN dk a' b' lim wb wp).pivot).2.1, (partition ltN (rd ltN dk a' b' lim wb wp).pi.1 a' b' (rd ltN dk a' b' lim wb wp).pivot).2.2, rfl⟩
                      obtain ⟨r1, r2, r3, r4, r5, r6, r7⟩ := round_part swoN (Sort.partition_holds ltN) hpv.1 hpv.2 (show b' ≤ (rd ltN dk a' b' lim wb wp).pi.1.size by rw [hs3.out]; exact hb') hB3.out hx
                      rw [hs3.out] at r3
                      have hc22 := part_any lo g cap n a' b' (rd ltN dk a' b' lim wb wp).pivot (rd ltN dk a' b' lim wb wp).pi.1 hpv.1 hpv.2 hb' hn wc hAt6.2.2 hAt6.1
                      rw [hx] at hc22
                      have X := hid hx
                      have R6 := hid r6; have R7 := hid r7; have R4 := hid r4; have R5 := hid r5; have R3 := hid r3; have H87 := hid h87
                      clear hx r3 r4 r5 r6 r7 h87
                      go_upto_if 113 with (go_at_call 66; refine hc22.mono ?_; rintro e w7 ⟨rfl, hw7⟩)
                      have hAt7 := hAt6.step hw7
                      have hlim2 : (rd ltN dk a' b' lim wb wp).lim ≤ 64 := Nat.le_trans rd_lim_le (Nat.le_trans hlim hlimit)
                      have WM : IntKind.i64.wrap ((mid : Int) + 1) = (mid : Int) + 1 := by rw [IntKind.wrap_i64]; omega
                      by_cases h4 : mid - a' < b' - mid
                      · have h4z : (mid : Int) - (a' : Int) < (b' : Int) - (mid : Int) := by omega
                        have hih := HIH.out a' mid (rd ltN dk a' b' lim wb wp).lim d4 w7 (by omega) hAt7.1 hAt7.2.2 (by omega) (by omega) hlim2 R4.out
                        obtain ⟨pL, sL⟩ := Sort.pdq_sorts ltN swoN d4 a' mid (rd ltN dk a' b' lim wb wp).lim true true (by omega) (by rw [R3.out]; omega) R4.out
                        have PL := hid pL.1; have B6 := hid (R6.out _ pL sL).1
                        clear pL sL
                        go_wp2_with (go_at_call 50; refine hih.mono ?_; rintro e w8 ⟨rfl, hw8⟩)
                        go_roundg (b' - (mid + 1))
                        case measure => omega
                        case rel =>
                          have hx := X.out
                          refine ⟨mid + 1, b', (rd ltN dk a' b' lim wb wp).lim, decide (mid - a' ≥ (b' - a') / 8), ap, pdq ltN d4 a' mid (rd ltN dk a' b' lim wb wp).lim true true, by simp, rfl, rfl, ?_, rfl, by omega, by omega, Nat.le_refl _, by omega, Nat.le_trans rd_lim_le hlim, hid (by rw [PL.out, R3.out]), B6, hAt7.step ⟨hw8.1, hw8.2.1⟩, ?_⟩
                          · exact congrArg Value.bool (eighth2 (by omega) (by omega))
                          · exact hid (by rw [← A.out, pdq_left h12 hl0 HP2.out H87.out (by rw [hx]; exact ⟨r1, r2⟩) (by rw [hx]; exact h4), hx])
                      · have h4z : ¬ ((mid : Int) - (a' : Int) < (b' : Int) - (mid : Int)) := by omega
                        have hih := HIH.out (mid + 1) b' (rd ltN dk a' b' lim wb wp).lim d4 w7 (by omega) hAt7.1 hAt7.2.2 (by omega) (by omega) hlim2 R5.out
                        obtain ⟨pL, sL⟩ := Sort.pdq_sorts ltN swoN d4 (mid + 1) b' (rd ltN dk a' b' lim wb wp).lim true true (by omega) (by rw [R3.out]; omega) R5.out
                        have PL := hid pL.1; have B7 := hid (R7.out _ pL sL).1
                        clear pL sL
                        go_wp2_with (go_at_call 50; refine hih.mono ?_; rintro e w8 ⟨rfl, hw8⟩)
                        go_roundg (mid - a')
                        case measure => omega
                        case rel =>
                          have hx := X.out
                          refine ⟨a', mid, (rd ltN dk a' b' lim wb wp).lim, decide (b' - mid ≥ (b' - a') / 8), ap, pdq ltN d4 (mid + 1) b' (rd ltN dk a' b' lim wb wp).lim true true, rfl, rfl, rfl, ?_, rfl, by omega, by omega, Nat.le_refl _, by omega, Nat.le_trans rd_lim_le hlim, hid (by rw [PL.out, R3.out]), B7, hAt7.step ⟨hw8.1, hw8.2.1⟩, ?_⟩
                          · exact congrArg Value.bool (eighth2 (by omega) (by omega))
                          · exact hid (by rw [← A.out, pdq_right h12 hl0 HP2.out H87.out (by rw [hx]; exact ⟨r1, r2⟩) (by rw [hx]; exact h4), hx])
                    · have h87' := h87
                      simp only [Bool.and_eq_true, decide_eq_true_eq, Bool.not_eq_true'] at h87'
                      obtain ⟨mid, d4, hx⟩ : ∃ mid d4, partitionEqual ltN (rd ltN dk a' b' lim wb wp).pi.1 a' b' (rd ltN dk a' b' lim wb wp).pivot = (mid, d4) := ⟨(partitionEqual ltN (rd ltN dk a' b' lim wb wp).pi.1 a' b' (rd ltN dk a' b' lim wb wp).pivot).1, (partitionEqual ltN (rd ltN dk a' b' lim wb wp).pi.1 a' b' (rd ltN dk a' b' lim wb wp).pivot).2, rfl⟩
                      obtain ⟨r1, r2, r3, r4, _⟩ := round_eq swoN (Sort.partitionEqual_holds ltN) h87'.1 hpv.1 hpv.2 (show b' ≤ (rd ltN dk a' b' lim wb wp).pi.1.size by rw [hs3.out]; exact hb') hB3.out h87'.2 hx
                      rw [hs3.out] at r3
                      have hc21 := partEq_any lo g cap n a' b' (rd ltN dk a' b' lim wb wp).pivot (rd ltN dk a' b' lim wb wp).pi.1 hpv.1 hpv.2 hb' hn wc hAt6.2.2 hAt6.1
                      rw [hx] at hc21
                      have X := hid hx
                      have R4 := hid r4; have R3 := hid r3; have H87 := hid h87
                      clear hx r3 r4 h87 h87'
                      go_wp2_with (go_at_call 65; refine hc21.mono ?_; rintro e w7 ⟨rfl, hw7⟩)
                      go_roundg (b' - mid)
                      case measure => omega
                      case rel =>
                        have hx := X.out
                        exact ⟨mid, b', (rd ltN dk a' b' lim wb wp).lim, wb, wp, d4, rfl, rfl, rfl, rfl, rfl, r2, hb', Nat.le_refl _, by omega, Nat.le_trans rd_lim_le hlim, R3, R4, hAt6.step hw7, hid (by rw [← A.out, pdq_eq h12 hl0 HP2.out H87.out (by rw [hx]; exact ⟨r1, r2⟩), hx])⟩
end Go.Proofs.Ytdldlfefbeflcaa
