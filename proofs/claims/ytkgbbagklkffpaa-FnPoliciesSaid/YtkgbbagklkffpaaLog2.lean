/- Contracts: the logarithm. -/
import Derived.Test.YtkgbbagklkffpaaNar
namespace Go.Proofs.Ytkgbbagklkffpaa
open Go.RowKit

theorem finB64 : (mgr FloatKind.f64.format 5183643171103440896 : Int) = (pw 1202 : Int) := by
  have h := mgr_pw 1150 4503599627370496 (by decide) (by decide)
  rw [show 1150 * FloatKind.f64.format.binade + 4503599627370496 = 5183643171103440896 from by decide] at h
  have e : 4503599627370496 * pw 1150 = pw 1202 := by
    rw [show (4503599627370496 : Nat) = pw 52 from by decide]
    exact (pw_add 52 1150).symm
  rw [h, e]
theorem Rb.notInf {x : Option Nat} {a : Nat} (h : Rb x a 1202) : (ford .f64 x (some 9218868437227405311) == some .gt) = false := by
  obtain ⟨v, hv, h1, h2⟩ := h
  obtain ⟨q1, q2⟩ := fv_le (a := 5183643171103440896) (b := 9218868437227405311) (by decide) (by decide)
  have q3 := (fv_le (a := 9218868437227405311) (b := 9218868437227405311) (by decide) (by decide)).1
  have e := finB64
  rw [ford_val hv q3]
  have hle : v ≤ (mgr FloatKind.f64.format 9218868437227405311 : Int) := by omega
  rcases Int.lt_or_eq_of_le hle with hc | hc
  · rw [Int.compare_eq_lt.2 hc]; rfl
  · rw [Int.compare_eq_eq.2 hc]; rfl
theorem Rb.pos {x : Option Nat} {a b : Nat} (h : Rb x a b) : ford .f64 x (some 0) = some .gt := by
  obtain ⟨v, hv, h1, h2⟩ := h
  have := pw_pos a
  exact ford_gt hv (isV_zero .f64) (by omega)
theorem Rb.self {x : Option Nat} {a b : Nat} (h : Rb x a b) : ford .f64 x x = some .eq := by
  obtain ⟨v, hv, h1, h2⟩ := h
  exact ford_eq hv hv rfl

@[go_sem] theorem ab_two64 : ab .f64 4611686018427387904 = some 4611686018427387904 := by decide
@[go_sem] theorem ab_c15 : ab .f64 4609434218613702656 = some 4609434218613702656 := by decide
@[go_sem] theorem ab_c75 : ab .f64 4604930618986332160 = some 4604930618986332160 := by decide
@[go_sem] theorem ab_ln2 : ab .f64 4604418534313441775 = some 4604418534313441775 := by decide
@[go_sem] theorem ab_c25 : ab .f64 4627730092099895296 = some 4627730092099895296 := by decide

set_option maxRecDepth 100000 in
set_option maxHeartbeats 2000000 in
theorem implLg_any (x : Nat) (hx : Rb (ab .f64 x) 925 1202) (w : World) :
    Calls Try.prog 54 #[.float .f64 x] w fun e w' => ∃ r, e = .returned (.float .f64 r) ∧ ab .f64 r = lgM (ab .f64 x) ∧ Pb (lgM (ab .f64 x)) 1163 ∧ Below w.heap.size w w' := by
  have HX := hid hx; clear hx
  go_enter Try.func54, Try.ntmps54
  go_wp2_with fail
  go_loopw [0, 3] (fun a e wr => ∃ (N1 p q : Nat), a = .float .f64 p ∧ e = .float .f64 q ∧ ab .f64 p = halveN (ab .f64 x) N1 ∧ ab .f64 q = k64 N1 ∧ Hid (∀ j, j < N1 → geB (halveN (ab .f64 x) j) 4609434218613702656 = true) ∧ Below w.heap.size w wr) (fun _ e _ => 400 - (cntOf e).toNat)
  case atStart => exact ⟨0, x, 0, rfl, rfl, rfl, by decide, hid (fun j h => absurd h (Nat.not_lt_zero _)), by (repeat (first | (with_reducible assumption) | (with_reducible apply below_refl) | (with_reducible apply below_alloc1) | (with_reducible apply below_drewN1) | (with_reducible apply below_drew1)))⟩
  case round =>
    obtain ⟨N1, p, q, rfl, rfl, hp, hq, hall, hw⟩ := hrel
    have hn := (halve_bd HX.out N1 hall.out).1
    cases hg : geB (halveN (ab .f64 x) N1) 4609434218613702656
    rotate_left
    · have HALL := hid (show ∀ j, j < N1 + 1 → geB (halveN (ab .f64 x) j) 4609434218613702656 = true from fun j hj => by
        by_cases e : j = N1
        · rw [e]; exact hg
        · exact hall.out j (by omega))
      have HC := cnt_val hq (by omega)
      rw [← hp] at hg
      have HP := hid hp; have HQ := hid hq
      clear hp hq
      unfold geB at hg
      go_wp2_with (refine upon_float rfl ?_; intro r n hr; go_simp)
      rename_i p2 np hp2
      generalize r = q2 at hr ⊢
      have hq2 : ab .f64 q2 = k64 ((N1 + 1 : Nat) : Int) := by rw [hr, HQ.out, ab_one64, cnt_up N1 (by omega)]; rfl
      have HC2 := cnt_val hq2 (by omega)
      go_roundw
      case rel => exact ⟨N1 + 1, p2, q2, rfl, rfl, by rw [hp2, HP.out, ab_two64]; rfl, hq2, HALL, by (repeat (first | (with_reducible assumption) | (with_reducible apply below_refl) | (with_reducible apply below_alloc1) | (with_reducible apply below_drewN1) | (with_reducible apply below_drew1)))⟩
      case measure => rw [HC, HC2]; omega
    · obtain ⟨e1, e2, hR, _⟩ := lg_first HX.out N1 hall.out hg
      have HR := hid hR
      rw [← hp] at hg
      rw [← e2] at hp
      have HP := hid hp; have HQ := hid hq
      have HE1 := hid e1
      clear hp hq e1 e2 hR
      unfold geB at hg
      go_wp2_with fail
      go_loopw [0, 3] (fun a e wr => ∃ (M1 p q : Nat), a = .float .f64 p ∧ e = .float .f64 q ∧ ab .f64 p = dblN (lgX (ab .f64 x)) M1 ∧ ab .f64 q = k64 ((N1 : Int) - M1) ∧ Hid (∀ j, j < M1 → ltB (dblN (lgX (ab .f64 x)) j) 4604930618986332160 = true) ∧ Below w.heap.size w wr) (fun _ e _ => (400 + cntOf e).toNat)
      case atStart => exact ⟨0, p, q, rfl, rfl, HP.out, by rw [HQ.out]; simp, hid (fun j h => absurd h (Nat.not_lt_zero _)), by (repeat (first | (with_reducible assumption) | (with_reducible apply below_refl) | (with_reducible apply below_alloc1) | (with_reducible apply below_drewN1) | (with_reducible apply below_drew1)))⟩
      case round =>
        obtain ⟨M1, p, q, rfl, rfl, hp, hq, hall2, hw2⟩ := hrel
        have hm := (dbl_bd HR.out M1 hall2.out).1
        cases hg2 : ltB (dblN (lgX (ab .f64 x)) M1) 4604930618986332160
        rotate_left
        · have HALL := hid (show ∀ j, j < M1 + 1 → ltB (dblN (lgX (ab .f64 x)) j) 4604930618986332160 = true from fun j hj => by
            by_cases e : j = M1
            · rw [e]; exact hg2
            · exact hall2.out j (by omega))
          have HC := cnt_val hq (by omega)
          rw [← hp] at hg2
          have HP := hid hp; have HQ := hid hq
          clear hp hq
          unfold ltB at hg2
          go_wp2_with (refine upon_float rfl ?_; intro r n hr; go_simp)
          rename_i p2 np hp2
          generalize r = q2 at hr ⊢
          have hq2 : ab .f64 q2 = k64 ((N1 : Int) - ((M1 + 1 : Nat) : Int)) := by rw [hr, HQ.out, ab_one64, cnt_dec _ (by omega) (by omega)]; congr 1; omega
          have HC2 := cnt_val hq2 (by omega)
          go_roundw
          case rel => exact ⟨M1 + 1, p2, q2, rfl, rfl, by rw [hp2, HP.out, ab_two64]; rfl, hq2, HALL, by (repeat (first | (with_reducible assumption) | (with_reducible apply below_refl) | (with_reducible apply below_alloc1) | (with_reducible apply below_drewN1) | (with_reducible apply below_drew1)))⟩
          case measure => rw [HC, HC2]; omega
        · obtain ⟨e1, e2, hZ⟩ := lg_second HR.out M1 hall2.out hg2
          have HZ := hid hZ
          have hE : lgE (ab .f64 x) = (N1 : Int) - M1 := by unfold lgE; rw [HE1.out, e1]
          have HB := hid (lgM_pb HZ.out (by rw [hE]; omega))
          have HM : Hid (lgM (ab .f64 x) = fop .add .f64 (fop .mul .f64 (some 4611686018427387904) (fop .mul .f64 (lgS (ab .f64 p)) (lgQ (lgU (lgS (ab .f64 p))) 13))) (fop .mul .f64 (ab .f64 q) (some 4604418534313441775))) := hid (by rw [lgM, hE, e2, ← hp, ← hq])
          rw [← hp] at hg2
          clear hp hq e1 e2 hZ hE
          unfold ltB at hg2
          go_wp2_with (refine upon_float rfl ?_; intro r n hr; go_simp)
          rename_i a1 _ h1 a2 _ h2 s0 _ hs _ _
          generalize r = u0 at hr ⊢
          have HS0 : Hid (lgS (ab .f64 p) = ab .f64 s0) := hid (by rw [hs, h1, h2, lgS, ab_one64])
          have HU0 : Hid (lgU (ab .f64 s0) = ab .f64 u0) := hid (by rw [hr, lgU])
          rw [HS0.out, HU0.out] at HM
          clear h1 h2 hs hr
          go_loopw [6, 7] (fun a b wr => ∃ (j c d : Nat), j ≤ 13 ∧ a = .float .f64 c ∧ b = .float .f64 d ∧ ab .f64 c = lgQ (ab .f64 u0) j ∧ ab .f64 d = k64 (25 - 2 * (j : Int)) ∧ Below w.heap.size w wr) (fun _ b _ => (40 + cntOf b).toNat)
          case atStart => exact ⟨0, 0, _, by omega, rfl, rfl, ab_z64, by decide, by (repeat (first | (with_reducible assumption) | (with_reducible apply below_refl) | (with_reducible apply below_alloc1) | (with_reducible apply below_drewN1) | (with_reducible apply below_drew1)))⟩
          case round =>
            obtain ⟨j, c, d, hj, rfl, rfl, hc, hd, hw3⟩ := hrel
            have hg3 := cnt_ge j (by omega)
            rw [← hd] at hg3
            unfold geB at hg3
            have HC := cnt_val hd (by omega)
            have HD := hid hd; have HCC := hid hc
            by_cases hjt : j < 13
            · rw [decide_eq_true hjt] at hg3
              clear hc hd
              go_wp2_with (refine upon_float rfl ?_; intro r n hr; go_simp)
              rename_i x1 _ hx1 x2 _ hx2 c2 _ hc2
              generalize r = d2 at hr ⊢
              have hd2 : ab .f64 d2 = k64 (25 - 2 * ((j + 1 : Nat) : Int)) := by rw [hr, HD.out, ab_two64, cnt_two j hjt]; rfl
              have HC2 := cnt_val hd2 (by omega)
              go_roundw
              case rel => exact ⟨j + 1, c2, d2, by omega, rfl, rfl, by rw [hc2, hx1, hx2, HCC.out, HD.out, ab_one64, lgQ_next], hd2, by (repeat (first | (with_reducible assumption) | (with_reducible apply below_refl) | (with_reducible apply below_alloc1) | (with_reducible apply below_drewN1) | (with_reducible apply below_drew1)))⟩
              case measure => rw [HC, HC2]; omega
            · obtain rfl : j = 13 := by omega
              rw [decide_eq_false hjt] at hg3
              rw [← hc] at HM
              clear hc hd
              go_wp2_with (refine upon_float rfl ?_; intro r n hr; go_simp)
              go_ret
              exact ⟨_, rfl, by rw [HM.out]; simp only [*, ab_two64, ab_ln2], HB.out, by (repeat (first | (with_reducible assumption) | (with_reducible apply below_refl) | (with_reducible apply below_alloc1) | (with_reducible apply below_drewN1) | (with_reducible apply below_drew1)))⟩
end Go.Proofs.Ytkgbbagklkffpaa
