/- FnChains: drawing a chain: the lists, and what is carried. No program in sight but its types. -/
import Derived.Test.YtkaeohlakeliiaaChA
import Derived.Test.YtkaeohlakeliiaaSrc
import Derived.Test.YtkaeohlakeliiaaBuild
namespace Go.Proofs.Ytkaeohlakeliiaa
open Go.RowKit
set_option linter.unusedVariables false

/-! ## DrP -/
theorem getD_push (qs : List Nat) (z i : Nat) : (qs ++ [z]).getD i 0 = if i < qs.length then qs.getD i 0 else if i = qs.length then z else 0 := getD_app qs z i
/-- A part of a drawn chain. -/
structure QPart (n m : Nat) (qs : List Nat) : Prop where
  len : qs.length = m
  le : ∀ j, qs.getD j 0 ≤ 8
  own : ∀ i, i < n → i * n + i < m → qs.getD (i * n + i) 0 = 0
  ring : 2 ≤ n → ∀ i, i < n → i * n + (i + 1) % n < m → 1 ≤ qs.getD (i * n + (i + 1) % n) 0
theorem qpart_nil (n : Nat) : QPart n 0 [] := ⟨rfl, fun j => by simp, fun i _ h => by omega, fun _ i _ h => by omega⟩
theorem place_inj {n a c i k : Nat} (hc : c < n) (hk : k < n) (e : a * n + c = i * n + k) : a = i ∧ c = k := by
  have h1 : (a * n + c) / n = (i * n + k) / n := by rw [e]
  have h2 : (a * n + c) % n = (i * n + k) % n := by rw [e]
  rw [Nat.mul_comm a, Nat.mul_comm i, Nat.mul_add_div (by omega), Nat.mul_add_div (by omega), Nat.div_eq_of_lt hc, Nat.div_eq_of_lt hk] at h1
  rw [Nat.mul_comm a, Nat.mul_comm i, Nat.mul_add_mod, Nat.mul_add_mod, Nat.mod_eq_of_lt hc, Nat.mod_eq_of_lt hk] at h2
  omega
theorem QPart.push {n i k q : Nat} {qs : List Nat} (h : QPart n (i * n + k) qs) (hi : i < n) (hk : k < n) (q8 : q ≤ 8) (h0 : k = i → q = 0) (h1 : k ≠ i → k = (i + 1) % n → 1 ≤ q) : QPart n (i * n + (k + 1)) (qs ++ [q]) := by
  obtain ⟨a, b, c, d⟩ := h
  refine ⟨by rw [List.length_append, List.length_singleton, a]; omega, fun j => ?_, fun a' ha hm => ?_, fun h2 a' ha hm => ?_⟩
  · rw [getD_push]
    split
    · exact b j
    · split
      · exact q8
      · omega
  · rw [getD_push, a]
    by_cases e : a' * n + a' < i * n + k
    · rw [if_pos e]; exact c a' ha e
    · have e2 : a' * n + a' = i * n + k := by omega
      rw [if_neg e, if_pos e2]
      obtain ⟨p1, p2⟩ := place_inj ha hk e2
      exact h0 (by omega)
  · rw [getD_push, a]
    have hv : (a' + 1) % n < n := Nat.mod_lt _ (by omega)
    by_cases e : a' * n + (a' + 1) % n < i * n + k
    · rw [if_pos e]; exact d h2 a' ha e
    · have e2 : a' * n + (a' + 1) % n = i * n + k := by omega
      rw [if_neg e, if_pos e2]
      obtain ⟨p1, p2⟩ := place_inj hv hk e2
      subst p1
      refine h1 ?_ p2.symm
      rw [← p2]
      intro e3
      by_cases c3 : a' + 1 < n
      · rw [Nat.mod_eq_of_lt c3] at e3; omega
      · rw [show a' + 1 = n by omega, Nat.mod_self] at e3; omega
theorem QPart.all {n : Nat} {qs : List Nat} (h : QPart n (n * n) qs) : QOk n qs := by
  obtain ⟨a, b, c, d⟩ := h
  have key : ∀ i k, i < n → k < n → i * n + k < n * n := by
    intro i k hi hk
    have : (i + 1) * n ≤ n * n := Nat.mul_le_mul_right n hi
    rw [Nat.add_mul, Nat.one_mul] at this
    omega
  exact ⟨a, b, fun i hi => c i hi (key i i hi hi), fun h2 i hi => d h2 i hi (key i _ hi (Nat.mod_lt _ (by omega)))⟩

structure Dr (w0 w : World) (b R n : Nat) (vc : Value) (cs : List Int) (at_ sd : Int) (v : Value) (qs : List Nat) : Prop where
  src : SrcAt w0 w b vc cs at_ sd
  hb : b < R
  far : w0.heap.size ≤ R
  sz : R + 2 ≤ w.heap.size
  x0 : w.cell? ⟨R + 1, 0, none⟩ = some (.int .i64 n)
  x1 : w.cell? ⟨R + 1, 1, none⟩ = some v
  f1 : w.frozen? ⟨R + 1, 1, none⟩ = false
  r0 : w.cell? ⟨R, 0, none⟩ = some (.int .i64 0)
  r1 : w.cell? ⟨R, 1, none⟩ = some (.slice none 0 0)
  g0 : w.frozen? ⟨R, 0, none⟩ = false
  g1 : w.frozen? ⟨R, 1, none⟩ = false
  own : w.ownsRow (R + 2) 27 1 v ((qs.map fq).map (Value.float .f32)).length ((qs.map fq).map (Value.float .f32))
section
variable {w0 w w' : World} {b R n : Nat} {vc : Value} {cs : List Int} {at_ sd : Int} {v : Value} {qs : List Nat} (h : Dr w0 w b R n vc cs at_ sd v qs)
include h
theorem Dr.keep (k : Below w.heap.size w w') : Dr w0 w' b R n vc cs at_ sd v qs := by
  have hR : R < w.heap.size := by have := h.sz; omega
  have hR1 : R + 1 < w.heap.size := by have := h.sz; omega
  exact ⟨h.src.keep k, h.hb, h.far, Nat.le_trans h.sz k.size, by rw [k.cell (p := ⟨R + 1, 0, none⟩) hR1]; exact h.x0, by rw [k.cell (p := ⟨R + 1, 1, none⟩) hR1]; exact h.x1, by rw [k.frozen (p := ⟨R + 1, 1, none⟩) hR1]; exact h.f1,
    by rw [k.cell (p := ⟨R, 0, none⟩) hR]; exact h.r0, by rw [k.cell (p := ⟨R, 1, none⟩) hR]; exact h.r1, by rw [k.frozen (p := ⟨R, 0, none⟩) hR]; exact h.g0, by rw [k.frozen (p := ⟨R, 1, none⟩) hR]; exact h.g1, ownsRow_below h.own k⟩
theorem Dr.box {at' sd' : Int} (hg : w.grownBy w' (some b)) (hS : SrcAt w0 w' b vc cs at' sd') : Dr w0 w' b R n vc cs at' sd' v qs := by
  have hb := h.hb
  have n1 : some (R + 1) ≠ some b := fun e => by cases e; omega
  have n0 : some R ≠ some b := fun e => by cases e; omega
  have hR : R < w.heap.size := by have := h.sz; omega
  have hR1 : R + 1 < w.heap.size := by have := h.sz; omega
  have fz : ∀ (B o : Nat), B < w.heap.size → some B ≠ some b → w'.frozen? ⟨B, o, none⟩ = w.frozen? ⟨B, o, none⟩ := by
    intro B o hB hne
    simp only [World.frozen?, hg.block B hB hne]
  exact ⟨hS, hb, h.far, Nat.le_trans h.sz hg.size, hg.cell h.x0 n1, hg.cell h.x1 n1, by rw [fz _ _ hR1 n1]; exact h.f1, hg.cell h.r0 n0, hg.cell h.r1 n0, by rw [fz _ _ hR n0]; exact h.g0, by rw [fz _ _ hR n0]; exact h.g1, ownsRow_box h.own hg (by omega)⟩
/-- Behind a push, ahead of the store. -/
theorem Dr.mid {w2 : World} (k : Below (R + 2) w w2) : w2.cell? ⟨R + 1, 0, none⟩ = some (.int .i64 n) ∧ w2.cell? ⟨R + 1, 1, none⟩ = some v ∧ w2.frozen? ⟨R + 1, 1, none⟩ = false :=
  ⟨by rw [k.cell (p := ⟨R + 1, 0, none⟩) (show R + 1 < R + 2 by omega)]; exact h.x0, by rw [k.cell (p := ⟨R + 1, 1, none⟩) (show R + 1 < R + 2 by omega)]; exact h.x1, by rw [k.frozen (p := ⟨R + 1, 1, none⟩) (show R + 1 < R + 2 by omega)]; exact h.f1⟩
theorem Dr.push {w2 : World} {v1 : Value} {q : Nat} (k : Below (R + 2) w w2) (ho : w2.ownsRow (R + 2) 27 1 v1 (((qs ++ [q]).map fq).map (Value.float .f32)).length (((qs ++ [q]).map fq).map (Value.float .f32))) :
    Dr w0 (w2.setCell ⟨R + 1, 1, none⟩ v1) b R n vc cs at_ sd v1 (qs ++ [q]) := by
  have hb := h.hb
  have kc := fun (B o : Nat) (hB : B < R + 2) => k.cell (p := ⟨B, o, none⟩) hB
  have kf := fun (B o : Nat) (hB : B < R + 2) => k.frozen (p := ⟨B, o, none⟩) hB
  have hR1 : R + 1 < w2.heap.size := Nat.lt_of_lt_of_le (by omega) (Nat.le_trans h.sz k.size)
  have x0 := (kc (R + 1) 0 (by omega)).trans h.x0
  have x1 := (kc (R + 1) 1 (by omega)).trans h.x1
  have f1 := (kf (R + 1) 1 (by omega)).trans h.f1
  have r0 := (kc R 0 (by omega)).trans h.r0
  have r1 := (kc R 1 (by omega)).trans h.r1
  have g0 := (kf R 0 (by omega)).trans h.g0
  have g1 := (kf R 1 (by omega)).trans h.g1
  clear kc kf
  have hS : SrcAt w0 (w2.setCell ⟨R + 1, 1, none⟩ v1) b vc cs at_ sd := by
    refine h.src.keepB (B := R) ?_ hb
    exact (k.mono (by omega)).setCell (p := ⟨R + 1, 1, none⟩) (by show R ≤ R + 1; omega) v1
  refine ⟨hS, hb, h.far, ?_, ?_, ?_, ?_, ?_, ?_, ?_, ?_, ownsRow_box ho (grown_setAt w2 (R + 1) 1 v1) (by omega)⟩
  · have := h.sz
    have := k.size
    simp [World.setCell]; omega
  · go_simp
  · go_simp
  · go_simp
  · go_simp
  · go_simp
  · go_simp
  · go_simp
end

/-! ## Dr -/
set_option maxRecDepth 100000 in
set_option maxHeartbeats 800000 in
theorem one_any (w0 : World) (b : Nat) (vc : Value) (cs : List Int) (at_ sd n : Int) (hn : 2 ≤ n ∧ n ≤ 200) (w : World) (hat : at_ ≤ 1000000000) (h : SrcAt w0 w b vc cs at_ sd) :
    Calls Try.prog 124 #[.pointer (some ⟨b, 0, none⟩), .int .i64 n] w fun e w' => ∃ x sd, e = .returned (.bool x) ∧ SrcAt w0 w' b vc cs (at_ + 1) sd ∧ w.grownBy w' (some b) := by
  have HS := hid h; clear h
  go_enter Try.func124, Try.ntmps124
  go_wp2_with (first | (go_at_call 53; (refine (pick_any w0 b vc cs at_ sd n hn _ hat (HS.out.keep (by (repeat (first | (with_reducible assumption) | (with_reducible apply below_refl) | (with_reducible apply below_alloc1) | (with_reducible apply below_drewN1) | (with_reducible apply below_drew1)))))).mono ?_); rintro e w' ⟨x, sd', rfl, hx0, hx1, hS, hg⟩; have HS' := hid hS; have HG := hid (grown_trans (grown_of_below (show Below w.heap.size w _ by (repeat (first | (with_reducible assumption) | (with_reducible apply below_refl) | (with_reducible apply below_alloc1) | (with_reducible apply below_drewN1) | (with_reducible apply below_drew1)))) _) hg); clear hS hg))
  go_ret
  exact ⟨_, _, rfl, HS'.out, HG.out⟩
set_option maxRecDepth 100000 in
set_option maxHeartbeats 3200000 in
theorem drawSides_any (w0 : World) (b : Nat) (vc : Value) (cs : List Int) (sd : Int) (n : Nat) (h1 : 1 ≤ n) (h5 : n ≤ 5) (w : World) (h : SrcAt w0 w b vc cs 0 sd) :
    Calls Try.prog 88 #[.pointer (some ⟨b, 0, none⟩), .int .i64 n] w fun e w' => ∃ (v : Value) (qs : List Nat), e = .returned (.agg #[.int .i64 n, v]) ∧ QOk n qs ∧ w'.ownsRow w.heap.size 27 1 v ((qs.map fq).map (Value.float .f32)).length ((qs.map fq).map (Value.float .f32)) ∧ Below w0.heap.size w0 w' := by
  obtain ⟨i0, hi0, hz0, hz1, hz2⟩ := info_parts (P := Try.prog) (e := 27) (z := Value.float .f32 0) (size := 1) (bytes := 4) (by kernel_rfl)
  have HS := hid h; clear h
  have hbl := HS.out.lt
  have hfar := HS.out.below.size
  obtain ⟨R, hR⟩ : ∃ R, R = w.heap.size := ⟨_, rfl⟩
  have HSQ := hid (show ∀ A : Nat, A ≤ 5 → A * n ≤ 25 from fun A hA => Nat.le_trans (Nat.mul_le_mul hA h5) (by decide))
  go_enter Try.func88, Try.ntmps88
  go_wp2_with fail
  have HD0 : Hid (Dr w0 ((w.alloc (.cells #[.int .i64 0, .slice none 0 0] 49)).alloc (.cells #[.int .i64 n, .slice none 0 0] 49)) b R n vc cs 0 sd (.slice none 0 0) []) := hid (by
    subst hR
    exact ⟨HS.out.keep (below_trans (below_alloc _ _) (below_alloc _ _)), hbl, hfar, by simp, by simp, by simp, by simp, by simp, by simp, by simp, by simp, World.ownsRow_nil _ _ _ _⟩)
  have hw1 : (w.alloc (.cells #[.int .i64 0, .slice none 0 0] 49)).heap.size = R + 1 := by rw [hR]; simp
  rw [← hR]
  have HR := hid hR
  clear hR
  go_loopw [6] (fun y wr => ∃ (i : Nat) (qs : List Nat) (v : Value) (at_ sd : Int), i ≤ n ∧ y = .int .i64 i ∧ Hid (QPart n (i * n) qs) ∧ Hid (at_ ≤ 2 * ((i * n : Nat) : Int)) ∧ Hid (Dr w0 wr b R n vc cs at_ sd v qs)) (fun y _ => n - (intOf y).toNat)
  case atStart => exact ⟨0, [], _, 0, sd, by omega, rfl, hid (by rw [Nat.zero_mul]; exact qpart_nil n), hid (by omega), HD0⟩
  case round =>
    obtain ⟨i, qs0, v0, at0, sd0, hi, rfl, hq0, hat0, hd0⟩ := hrel
    by_cases hlt : i < n
    · have hiI : (i : Int) < (n : Int) := by omega
      go_wp2_with fail
      go_loopw [7] (fun y wr => ∃ (k : Nat) (qs : List Nat) (v : Value) (at_ sd : Int), k ≤ n ∧ y = .int .i64 k ∧ Hid (QPart n (i * n + k) qs) ∧ Hid (at_ ≤ 2 * ((i * n + k : Nat) : Int)) ∧ Hid (Dr w0 wr b R n vc cs at_ sd v qs)) (fun y _ => n - (intOf y).toNat)
      case atStart => exact ⟨0, qs0, v0, at0, sd0, by omega, rfl, hq0, hat0, hid (hd0.out.keep (by (repeat (first | (with_reducible assumption) | (with_reducible apply below_refl) | (with_reducible apply below_alloc1) | (with_reducible apply below_drewN1) | (with_reducible apply below_drew1)))))⟩
      case round =>
        obtain ⟨k, qs, v, at_, sd1, hk, rfl, hq, hat, HD⟩ := hrel
        obtain ⟨wp, hwp⟩ : ∃ wp, wp = wr := ⟨_, rfl⟩
        subst hwp
        by_cases hlt2 : k < n
        · have hkI : (k : Int) < (n : Int) := by omega
          have hnz : ((n : Int) == 0) = false := by simp; omega
          have W1 : IntKind.i64.wrap ((i : Int) + 1) = (i : Int) + 1 := by rw [IntKind.wrap_i64]; omega
          have HAT := hid (show at_ ≤ 1000000000 by
            have a := hat.out
            have c := HSQ.out i (by omega)
            omega)
          have HAT4 := hid (show at_ + 1 ≤ 1000000000 by
            have a := hat.out
            have c := HSQ.out i (by omega)
            omega)
          have HE := hid (show (i + 1) % n < n from Nat.mod_lt _ (by omega))
          by_cases he : k = (i + 1) % n
          · have hE1 : ((k : Int) == ((i : Int) + 1) % (n : Int)) = true := by
              have : ((i : Int) + 1) % (n : Int) = (((i + 1) % n : Nat) : Int) := by rw [Int.natCast_emod]; rfl
              rw [this, ← he]; simp
            have HK := hid he
            clear he
            by_cases hki : i = k
            · have hK1 : ((i : Int) == (k : Int)) = true := by simp; omega
              have HKI := hid hki
              clear hki
              go_wp2_with (first
                | (go_at_call 53; (refine (pick_any w0 b vc cs _ _ 8 (by omega) _ HAT.out ((show SrcAt w0 _ b vc cs _ _ from HD.out.src).keep (by (repeat (first | (with_reducible assumption) | (with_reducible apply below_refl) | (with_reducible apply below_alloc1) | (with_reducible apply below_drewN1) | (with_reducible apply below_drew1)))))).mono ?_); rintro e w3 ⟨z, sd3, rfl, hd0, hd1, hS3, hg⟩; obtain ⟨d, rfl⟩ := Int.eq_ofNat_of_zero_le hd0; have hg2 := grown_trans (grown_of_below (show Below wp.heap.size wp _ by (repeat (first | (with_reducible assumption) | (with_reducible apply below_refl) | (with_reducible apply below_alloc1) | (with_reducible apply below_drewN1) | (with_reducible apply below_drew1)))) (some b)) hg; have HD3 := hid (HD.out.box hg2 hS3); have W2 : IntKind.i64.wrap (1 + (d : Int)) = 1 + (d : Int) := (by rw [IntKind.wrap_i64]; omega); have hd8 : d < 8 := (by omega); have x0 := HD3.out.x0; have x1 := HD3.out.x1; have f1 := HD3.out.f1; clear hS3 hg hg2)
                | ((fail_if_success (have := hr1)); refine upon_float rfl ?_; intro r1 n1 hr1; go_simp)
                | (at_builtin; refine wpList_push rfl _ _ 25 rfl Try.underlying25 hi0 hz0 hz1 hz2 rfl (R + 2) _ _ rfl rfl (ownsRow_below HD3.out.own (show Below w3.heap.size w3 _ by (repeat (first | (with_reducible assumption) | (with_reducible apply below_refl) | (with_reducible apply below_alloc1) | (with_reducible apply below_drewN1) | (with_reducible apply below_drew1))))) rfl (by rw [List.length_map, List.length_map, hq.out.len]; have := HSQ.out i (by omega); omega) (by decide) (Nat.le_trans HD3.out.sz (Below.size (show Below w3.heap.size w3 _ by (repeat (first | (with_reducible assumption) | (with_reducible apply below_refl) | (with_reducible apply below_alloc1) | (with_reducible apply below_drewN1) | (with_reducible apply below_drew1)))))) ?_; intro v1 w2 hown hb2; have hm := (HD3.out.keep (show Below w3.heap.size w3 _ by (repeat (first | (with_reducible assumption) | (with_reducible apply below_refl) | (with_reducible apply below_alloc1) | (with_reducible apply below_drewN1) | (with_reducible apply below_drew1))))).mid hb2; obtain ⟨m0, m1, m2⟩ := hm; obtain ⟨g, cp, hrv, -, -, -, -⟩ := slice_of_own hown (by simp); obtain ⟨LL, hLL⟩ : ∃ LL, v1 = .slice (some ⟨g, 0, none⟩) LL cp := ⟨_, hrv⟩; clear hrv; subst hLL))
              all_goals have hf0 : fq 0 = 0 := by decide +kernel
              all_goals
                go_roundw
                case rel =>
                  refine ⟨k + 1, qs ++ [0], _, _, _, by omega, by go_num, hid (hq.out.push (by omega) hlt2 (by omega) (fun _ => rfl) (fun c _ => absurd HKI.out.symm c)), hid (by have := hat.out; omega), hid ((HD3.out.keep (show Below w3.heap.size w3 _ by (repeat (first | (with_reducible assumption) | (with_reducible apply below_refl) | (with_reducible apply below_alloc1) | (with_reducible apply below_drewN1) | (with_reducible apply below_drew1))))).push hb2 (by rw [← hf0] at hown; rw [List.map_append, List.map_singleton, List.map_append, List.map_singleton]; exact hown))⟩
                case measure => (first | (simp [intOf]; omega) | simp [intOf])
            · have hK1 : ((i : Int) == (k : Int)) = false := by simp; omega
              have HKI := hid hki
              clear hki
              go_wp2_with (first
                | (go_at_call 53; (refine (pick_any w0 b vc cs _ _ 8 (by omega) _ HAT.out ((show SrcAt w0 _ b vc cs _ _ from HD.out.src).keep (by (repeat (first | (with_reducible assumption) | (with_reducible apply below_refl) | (with_reducible apply below_alloc1) | (with_reducible apply below_drewN1) | (with_reducible apply below_drew1)))))).mono ?_); rintro e w3 ⟨z, sd3, rfl, hd0, hd1, hS3, hg⟩; obtain ⟨d, rfl⟩ := Int.eq_ofNat_of_zero_le hd0; have hg2 := grown_trans (grown_of_below (show Below wp.heap.size wp _ by (repeat (first | (with_reducible assumption) | (with_reducible apply below_refl) | (with_reducible apply below_alloc1) | (with_reducible apply below_drewN1) | (with_reducible apply below_drew1)))) (some b)) hg; have HD3 := hid (HD.out.box hg2 hS3); have W2 : IntKind.i64.wrap (1 + (d : Int)) = 1 + (d : Int) := (by rw [IntKind.wrap_i64]; omega); have hd8 : d < 8 := (by omega); have x0 := HD3.out.x0; have x1 := HD3.out.x1; have f1 := HD3.out.f1; clear hS3 hg hg2)
                | ((fail_if_success (have := hr1)); refine upon_float rfl ?_; intro r1 n1 hr1; go_simp)
                | (at_builtin; refine wpList_push rfl _ _ 25 rfl Try.underlying25 hi0 hz0 hz1 hz2 rfl (R + 2) _ _ rfl rfl (ownsRow_below HD3.out.own (show Below w3.heap.size w3 _ by (repeat (first | (with_reducible assumption) | (with_reducible apply below_refl) | (with_reducible apply below_alloc1) | (with_reducible apply below_drewN1) | (with_reducible apply below_drew1))))) rfl (by rw [List.length_map, List.length_map, hq.out.len]; have := HSQ.out i (by omega); omega) (by decide) (Nat.le_trans HD3.out.sz (Below.size (show Below w3.heap.size w3 _ by (repeat (first | (with_reducible assumption) | (with_reducible apply below_refl) | (with_reducible apply below_alloc1) | (with_reducible apply below_drewN1) | (with_reducible apply below_drew1)))))) ?_; intro v1 w2 hown hb2; have hm := (HD3.out.keep (show Below w3.heap.size w3 _ by (repeat (first | (with_reducible assumption) | (with_reducible apply below_refl) | (with_reducible apply below_alloc1) | (with_reducible apply below_drewN1) | (with_reducible apply below_drew1))))).mid hb2; obtain ⟨m0, m1, m2⟩ := hm; obtain ⟨g, cp, hrv, -, -, -, -⟩ := slice_of_own hown (by simp); obtain ⟨LL, hLL⟩ : ∃ LL, v1 = .slice (some ⟨g, 0, none⟩) LL cp := ⟨_, hrv⟩; clear hrv; subst hLL))
              all_goals
                have hrr : ab .f32 r1 = some (fq (1 + d)) := by
                  rw [hr1, ab_ofInt, show ab .f32 1082130432 = some cfour from by decide, show (1 : Int) + (d : Int) = ((1 + d : Nat) : Int) by omega]
                  exact (fq_some (1 + d) (by omega)).1
                obtain rfl : fq (1 + d) = r1 := (ab_some hrr).1
              all_goals
                go_roundw
                case rel =>
                  refine ⟨k + 1, qs ++ [1 + d], _, _, _, by omega, by go_num, hid (hq.out.push (by omega) hlt2 (by omega) (fun c => absurd c.symm HKI.out) (fun _ _ => by omega)), hid (by have := hat.out; omega), hid ((HD3.out.keep (show Below w3.heap.size w3 _ by (repeat (first | (with_reducible assumption) | (with_reducible apply below_refl) | (with_reducible apply below_alloc1) | (with_reducible apply below_drewN1) | (with_reducible apply below_drew1))))).push hb2 (by rw [List.map_append, List.map_singleton, List.map_append, List.map_singleton]; exact hown))⟩
                case measure => (first | (simp [intOf]; omega) | simp [intOf])
          · have hE1 : ((k : Int) == ((i : Int) + 1) % (n : Int)) = false := by
              have : ((i : Int) + 1) % (n : Int) = (((i + 1) % n : Nat) : Int) := by rw [Int.natCast_emod]; rfl
              rw [this]; simp; omega
            have HK := hid he
            clear he
            by_cases hki : i = k
            · have hK1 : ((i : Int) == (k : Int)) = true := by simp; omega
              have HKI := hid hki
              clear hki
              go_wp2_with (first
                | (go_at_call 124; (refine (one_any w0 b vc cs _ _ 3 (by omega) _ HAT.out ((show SrcAt w0 _ b vc cs _ _ from HD.out.src).keep (by (repeat (first | (with_reducible assumption) | (with_reducible apply below_refl) | (with_reducible apply below_alloc1) | (with_reducible apply below_drewN1) | (with_reducible apply below_drew1)))))).mono ?_); rintro e w4 ⟨t, sd4, rfl, hS4, hg⟩; have hg4 := grown_trans (grown_of_below (show Below wp.heap.size wp _ by (repeat (first | (with_reducible assumption) | (with_reducible apply below_refl) | (with_reducible apply below_alloc1) | (with_reducible apply below_drewN1) | (with_reducible apply below_drew1)))) (some b)) hg; have HD4 := hid (HD.out.box hg4 hS4); have x0 := HD4.out.x0; have x1 := HD4.out.x1; have f1 := HD4.out.f1; clear hS4 hg hg4)
                | (go_at_call 53; (refine (pick_any w0 b vc cs _ _ 8 (by omega) _ HAT4.out ((show SrcAt w0 _ b vc cs _ _ from HD4.out.src).keep (by (repeat (first | (with_reducible assumption) | (with_reducible apply below_refl) | (with_reducible apply below_alloc1) | (with_reducible apply below_drewN1) | (with_reducible apply below_drew1)))))).mono ?_); rintro e w3 ⟨z, sd3, rfl, hd0, hd1, hS3, hg⟩; obtain ⟨d, rfl⟩ := Int.eq_ofNat_of_zero_le hd0; have hg2 := grown_trans (grown_of_below (show Below w4.heap.size w4 _ by (repeat (first | (with_reducible assumption) | (with_reducible apply below_refl) | (with_reducible apply below_alloc1) | (with_reducible apply below_drewN1) | (with_reducible apply below_drew1)))) (some b)) hg; have HD3 := hid (HD4.out.box hg2 hS3); have W2 : IntKind.i64.wrap (1 + (d : Int)) = 1 + (d : Int) := (by rw [IntKind.wrap_i64]; omega); have hd8 : d < 8 := (by omega); have x0 := HD3.out.x0; have x1 := HD3.out.x1; have f1 := HD3.out.f1; clear hS3 hg hg2)
                | ((fail_if_success (have := hr1)); refine upon_float rfl ?_; intro r1 n1 hr1; go_simp)
                | (at_builtin; refine wpList_push rfl _ _ 25 rfl Try.underlying25 hi0 hz0 hz1 hz2 rfl (R + 2) _ _ rfl rfl (ownsRow_below HD3.out.own (show Below w3.heap.size w3 _ by (repeat (first | (with_reducible assumption) | (with_reducible apply below_refl) | (with_reducible apply below_alloc1) | (with_reducible apply below_drewN1) | (with_reducible apply below_drew1))))) rfl (by rw [List.length_map, List.length_map, hq.out.len]; have := HSQ.out i (by omega); omega) (by decide) (Nat.le_trans HD3.out.sz (Below.size (show Below w3.heap.size w3 _ by (repeat (first | (with_reducible assumption) | (with_reducible apply below_refl) | (with_reducible apply below_alloc1) | (with_reducible apply below_drewN1) | (with_reducible apply below_drew1)))))) ?_; intro v1 w2 hown hb2; have hm := (HD3.out.keep (show Below w3.heap.size w3 _ by (repeat (first | (with_reducible assumption) | (with_reducible apply below_refl) | (with_reducible apply below_alloc1) | (with_reducible apply below_drewN1) | (with_reducible apply below_drew1))))).mid hb2; obtain ⟨m0, m1, m2⟩ := hm; obtain ⟨g, cp, hrv, -, -, -, -⟩ := slice_of_own hown (by simp); obtain ⟨LL, hLL⟩ : ∃ LL, v1 = .slice (some ⟨g, 0, none⟩) LL cp := ⟨_, hrv⟩; clear hrv; subst hLL)
                | (at_builtin; refine wpList_push rfl _ _ 25 rfl Try.underlying25 hi0 hz0 hz1 hz2 rfl (R + 2) _ _ rfl rfl (ownsRow_below HD4.out.own (show Below w4.heap.size w4 _ by (repeat (first | (with_reducible assumption) | (with_reducible apply below_refl) | (with_reducible apply below_alloc1) | (with_reducible apply below_drewN1) | (with_reducible apply below_drew1))))) rfl (by rw [List.length_map, List.length_map, hq.out.len]; have := HSQ.out i (by omega); omega) (by decide) (Nat.le_trans HD4.out.sz (Below.size (show Below w4.heap.size w4 _ by (repeat (first | (with_reducible assumption) | (with_reducible apply below_refl) | (with_reducible apply below_alloc1) | (with_reducible apply below_drewN1) | (with_reducible apply below_drew1)))))) ?_; intro v1 w2 hown hb2; have hm := (HD4.out.keep (show Below w4.heap.size w4 _ by (repeat (first | (with_reducible assumption) | (with_reducible apply below_refl) | (with_reducible apply below_alloc1) | (with_reducible apply below_drewN1) | (with_reducible apply below_drew1))))).mid hb2; obtain ⟨m0, m1, m2⟩ := hm; obtain ⟨g, cp, hrv, -, -, -, -⟩ := slice_of_own hown (by simp); obtain ⟨LL, hLL⟩ : ∃ LL, v1 = .slice (some ⟨g, 0, none⟩) LL cp := ⟨_, hrv⟩; clear hrv; subst hLL))
              all_goals first
                | (have hd9 := hd8
                   have hf0 : fq 0 = 0 := by decide +kernel
                   go_roundw
                   case rel =>
                     refine ⟨k + 1, qs ++ [0], _, _, _, by omega, by go_num, hid (hq.out.push (by omega) hlt2 (by omega) (fun _ => rfl) (fun c _ => absurd HKI.out.symm c)), hid (by have := hat.out; omega), hid ((HD3.out.keep (show Below w3.heap.size w3 _ by (repeat (first | (with_reducible assumption) | (with_reducible apply below_refl) | (with_reducible apply below_alloc1) | (with_reducible apply below_drewN1) | (with_reducible apply below_drew1))))).push hb2 (by rw [← hf0] at hown; rw [List.map_append, List.map_singleton, List.map_append, List.map_singleton]; exact hown))⟩
                   case measure => (first | (simp [intOf]; omega) | simp [intOf]))
                | (have hf0 : fq 0 = 0 := by decide +kernel
                   go_roundw
                   case rel =>
                     refine ⟨k + 1, qs ++ [0], _, _, _, by omega, by go_num, hid (hq.out.push (by omega) hlt2 (by omega) (fun _ => rfl) (fun c _ => absurd HKI.out.symm c)), hid (by have := hat.out; omega), hid ((HD4.out.keep (show Below w4.heap.size w4 _ by (repeat (first | (with_reducible assumption) | (with_reducible apply below_refl) | (with_reducible apply below_alloc1) | (with_reducible apply below_drewN1) | (with_reducible apply below_drew1))))).push hb2 (by rw [← hf0] at hown; rw [List.map_append, List.map_singleton, List.map_append, List.map_singleton]; exact hown))⟩
                   case measure => (first | (simp [intOf]; omega) | simp [intOf]))
            · have hK1 : ((i : Int) == (k : Int)) = false := by simp; omega
              have HKI := hid hki
              clear hki
              go_wp2_with (first
                | (go_at_call 124; (refine (one_any w0 b vc cs _ _ 3 (by omega) _ HAT.out ((show SrcAt w0 _ b vc cs _ _ from HD.out.src).keep (by (repeat (first | (with_reducible assumption) | (with_reducible apply below_refl) | (with_reducible apply below_alloc1) | (with_reducible apply below_drewN1) | (with_reducible apply below_drew1)))))).mono ?_); rintro e w4 ⟨t, sd4, rfl, hS4, hg⟩; have hg4 := grown_trans (grown_of_below (show Below wp.heap.size wp _ by (repeat (first | (with_reducible assumption) | (with_reducible apply below_refl) | (with_reducible apply below_alloc1) | (with_reducible apply below_drewN1) | (with_reducible apply below_drew1)))) (some b)) hg; have HD4 := hid (HD.out.box hg4 hS4); have x0 := HD4.out.x0; have x1 := HD4.out.x1; have f1 := HD4.out.f1; clear hS4 hg hg4)
                | (go_at_call 53; (refine (pick_any w0 b vc cs _ _ 8 (by omega) _ HAT4.out ((show SrcAt w0 _ b vc cs _ _ from HD4.out.src).keep (by (repeat (first | (with_reducible assumption) | (with_reducible apply below_refl) | (with_reducible apply below_alloc1) | (with_reducible apply below_drewN1) | (with_reducible apply below_drew1)))))).mono ?_); rintro e w3 ⟨z, sd3, rfl, hd0, hd1, hS3, hg⟩; obtain ⟨d, rfl⟩ := Int.eq_ofNat_of_zero_le hd0; have hg2 := grown_trans (grown_of_below (show Below w4.heap.size w4 _ by (repeat (first | (with_reducible assumption) | (with_reducible apply below_refl) | (with_reducible apply below_alloc1) | (with_reducible apply below_drewN1) | (with_reducible apply below_drew1)))) (some b)) hg; have HD3 := hid (HD4.out.box hg2 hS3); have W2 : IntKind.i64.wrap (1 + (d : Int)) = 1 + (d : Int) := (by rw [IntKind.wrap_i64]; omega); have hd8 : d < 8 := (by omega); have x0 := HD3.out.x0; have x1 := HD3.out.x1; have f1 := HD3.out.f1; clear hS3 hg hg2)
                | ((fail_if_success (have := hr1)); refine upon_float rfl ?_; intro r1 n1 hr1; go_simp)
                | (at_builtin; refine wpList_push rfl _ _ 25 rfl Try.underlying25 hi0 hz0 hz1 hz2 rfl (R + 2) _ _ rfl rfl (ownsRow_below HD3.out.own (show Below w3.heap.size w3 _ by (repeat (first | (with_reducible assumption) | (with_reducible apply below_refl) | (with_reducible apply below_alloc1) | (with_reducible apply below_drewN1) | (with_reducible apply below_drew1))))) rfl (by rw [List.length_map, List.length_map, hq.out.len]; have := HSQ.out i (by omega); omega) (by decide) (Nat.le_trans HD3.out.sz (Below.size (show Below w3.heap.size w3 _ by (repeat (first | (with_reducible assumption) | (with_reducible apply below_refl) | (with_reducible apply below_alloc1) | (with_reducible apply below_drewN1) | (with_reducible apply below_drew1)))))) ?_; intro v1 w2 hown hb2; have hm := (HD3.out.keep (show Below w3.heap.size w3 _ by (repeat (first | (with_reducible assumption) | (with_reducible apply below_refl) | (with_reducible apply below_alloc1) | (with_reducible apply below_drewN1) | (with_reducible apply below_drew1))))).mid hb2; obtain ⟨m0, m1, m2⟩ := hm; obtain ⟨g, cp, hrv, -, -, -, -⟩ := slice_of_own hown (by simp); obtain ⟨LL, hLL⟩ : ∃ LL, v1 = .slice (some ⟨g, 0, none⟩) LL cp := ⟨_, hrv⟩; clear hrv; subst hLL)
                | (at_builtin; refine wpList_push rfl _ _ 25 rfl Try.underlying25 hi0 hz0 hz1 hz2 rfl (R + 2) _ _ rfl rfl (ownsRow_below HD4.out.own (show Below w4.heap.size w4 _ by (repeat (first | (with_reducible assumption) | (with_reducible apply below_refl) | (with_reducible apply below_alloc1) | (with_reducible apply below_drewN1) | (with_reducible apply below_drew1))))) rfl (by rw [List.length_map, List.length_map, hq.out.len]; have := HSQ.out i (by omega); omega) (by decide) (Nat.le_trans HD4.out.sz (Below.size (show Below w4.heap.size w4 _ by (repeat (first | (with_reducible assumption) | (with_reducible apply below_refl) | (with_reducible apply below_alloc1) | (with_reducible apply below_drewN1) | (with_reducible apply below_drew1)))))) ?_; intro v1 w2 hown hb2; have hm := (HD4.out.keep (show Below w4.heap.size w4 _ by (repeat (first | (with_reducible assumption) | (with_reducible apply below_refl) | (with_reducible apply below_alloc1) | (with_reducible apply below_drewN1) | (with_reducible apply below_drew1))))).mid hb2; obtain ⟨m0, m1, m2⟩ := hm; obtain ⟨g, cp, hrv, -, -, -, -⟩ := slice_of_own hown (by simp); obtain ⟨LL, hLL⟩ : ∃ LL, v1 = .slice (some ⟨g, 0, none⟩) LL cp := ⟨_, hrv⟩; clear hrv; subst hLL))
              all_goals first
                | (have hd9 := hd8
                   have hrr : ab .f32 r1 = some (fq (1 + d)) := by
                     rw [hr1, ab_ofInt, show ab .f32 1082130432 = some cfour from by decide, show (1 : Int) + (d : Int) = ((1 + d : Nat) : Int) by omega]
                     exact (fq_some (1 + d) (by omega)).1
                   obtain rfl : fq (1 + d) = r1 := (ab_some hrr).1
                   go_roundw
                   case rel =>
                     refine ⟨k + 1, qs ++ [1 + d], _, _, _, by omega, by go_num, hid (hq.out.push (by omega) hlt2 (by omega) (fun c => absurd c.symm HKI.out) (fun _ _ => by omega)), hid (by have := hat.out; omega), hid ((HD3.out.keep (show Below w3.heap.size w3 _ by (repeat (first | (with_reducible assumption) | (with_reducible apply below_refl) | (with_reducible apply below_alloc1) | (with_reducible apply below_drewN1) | (with_reducible apply below_drew1))))).push hb2 (by rw [List.map_append, List.map_singleton, List.map_append, List.map_singleton]; exact hown))⟩
                   case measure => (first | (simp [intOf]; omega) | simp [intOf]))
                | (have hf0 : fq 0 = 0 := by decide +kernel
                   go_roundw
                   case rel =>
                     refine ⟨k + 1, qs ++ [0], _, _, _, by omega, by go_num, hid (hq.out.push (by omega) hlt2 (by omega) (fun c => rfl) (fun _ c => absurd c HK.out)), hid (by have := hat.out; omega), hid ((HD4.out.keep (show Below w4.heap.size w4 _ by (repeat (first | (with_reducible assumption) | (with_reducible apply below_refl) | (with_reducible apply below_alloc1) | (with_reducible apply below_drewN1) | (with_reducible apply below_drew1))))).push hb2 (by rw [← hf0] at hown; rw [List.map_append, List.map_singleton, List.map_append, List.map_singleton]; exact hown))⟩
                   case measure => (first | (simp [intOf]; omega) | simp [intOf]))
        · obtain rfl : k = n := by omega
          go_wp2_with fail
          go_roundw
          case rel => exact ⟨i + 1, qs, v, at_, sd1, by omega, by go_num, hid (by rw [Nat.add_mul, Nat.one_mul]; exact hq.out), hid (by rw [Nat.add_mul, Nat.one_mul]; exact hat.out), HD⟩
          case measure => simp [intOf]; omega
    · obtain rfl : i = n := by omega
      have hql : (qs0.map fq).length = i * i := by rw [List.length_map]; exact hq0.out.len
      have hii : 1 ≤ i * i := Nat.le_trans h1 (Nat.le_mul_of_pos_left i h1)
      have ho := hd0.out.own
      obtain ⟨g, cp, rfl, hg0, hg1⟩ := ho.form (by rw [List.length_map, hql]; omega)
      have HO := hid ho
      obtain ⟨N, hN⟩ : ∃ N, N = ((qs0.map fq).map (Value.float .f32)).length := ⟨_, rfl⟩
      rw [← hN] at HO hd0
      have HNN := hid hN
      clear hN hql hii ho
      have x0 := hd0.out.x0
      have x1 := hd0.out.x1
      have r0 := hd0.out.r0
      have r1 := hd0.out.r1
      have g0 := hd0.out.g0
      have g1 := hd0.out.g1
      go_wp2_with fail
      have c0 : ((wr.setCell ⟨R, 0, none⟩ (.int .i64 i)).setCell ⟨R, 1, none⟩ (.slice (some ⟨g, 0, none⟩) N cp)).cell? ⟨R, 0, none⟩ = some (.int .i64 i) := by go_simp
      have c1 : ((wr.setCell ⟨R, 0, none⟩ (.int .i64 i)).setCell ⟨R, 1, none⟩ (.slice (some ⟨g, 0, none⟩) N cp)).cell? ⟨R, 1, none⟩ = some (.slice (some ⟨g, 0, none⟩) N cp) := by go_simp
      have hb9 : Below w0.heap.size w0 ((wr.setCell ⟨R, 0, none⟩ (.int .i64 i)).setCell ⟨R, 1, none⟩ (.slice (some ⟨g, 0, none⟩) N cp)) := below_setCell1 (below_setCell1 hd0.out.src.below hd0.out.far) hd0.out.far
      have hs9 : w.heap.size ≤ R + 2 := by have := HR.out; omega
      have ho9 : ((wr.setCell ⟨R, 0, none⟩ (.int .i64 i)).setCell ⟨R, 1, none⟩ (.slice (some ⟨g, 0, none⟩) N cp)).ownsRow (R + 2) 27 1 (.slice (some ⟨g, 0, none⟩) N cp) ((qs0.map fq).map (Value.float .f32)).length ((qs0.map fq).map (Value.float .f32)) :=
        ownsRow_box (ownsRow_box hd0.out.own (grown_setAt wr R 0 _) (by omega)) (grown_setAt _ R 1 _) (by omega)
      (try simp only [Exit.inBlock, Exit.then])
      refine bodyPost_ret (by simp [results, Try.results88, go_sem, c0, c1]; try rfl) rfl ?_
      exact ⟨_, qs0, rfl, hq0.out.all, ownsRow_low ho9 hs9, hb9⟩

/-! ## Dr2 -/
set_option maxRecDepth 100000 in
set_option maxHeartbeats 1600000 in
theorem r8Chain_any (vc : Value) (cs : List Int) (n : Nat) (h1 : 1 ≤ n) (h5 : n ≤ 5) (w : World) (hrow : RowAt w vc (cs.map (Value.int .u8))) (hby : ∀ c ∈ cs, 0 ≤ c ∧ c ≤ 255) :
    Calls Try.prog 32 #[vc, .int .i64 n] w fun e w' => ∃ (v : Value) (qs : List Nat), e = .returned (.agg #[.int .i64 n, v]) ∧ QOk n qs ∧ w'.ownsRow w.heap.size 27 1 v ((qs.map fq).map (Value.float .f32)).length ((qs.map fq).map (Value.float .f32)) ∧ Below w.heap.size w w' := by
  have HR := hid hrow; have HB := hid hby
  clear hrow hby
  have hnn : 1 ≤ n * n := Nat.le_trans h1 (Nat.le_mul_of_pos_left n h1)
  have HNN := hid hnn
  clear hnn
  go_enter Try.func32, Try.ntmps32
  go_wp2_with (first
    | (go_at_call 52; (refine (from_any (w.alloc (.cells #[.int .i64 0, .slice none 0 0] 49)) vc cs _ (HR.out.below (by (repeat (first | (with_reducible assumption) | (with_reducible apply below_refl) | (with_reducible apply below_alloc1) | (with_reducible apply below_drewN1) | (with_reducible apply below_drew1))))) HB.out (below_refl _)).mono ?_); rintro e w1 ⟨b, rfl, hb0, hS, hb⟩; have HS := hid hS; have HB1 := hid hb; have hbl := hS.lt; have hz1 := hb.size; clear hS hb)
    | (go_at_call 88; (refine (drawSides_any (w.alloc (.cells #[.int .i64 0, .slice none 0 0] 49)) b vc cs _ n h1 h5 _ (HS.out.keep (by (repeat (first | (with_reducible assumption) | (with_reducible apply below_refl) | (with_reducible apply below_alloc1) | (with_reducible apply below_drewN1) | (with_reducible apply below_drew1)))))).mono ?_); rintro e w2 ⟨v, qs, rfl, hq, ho, hb⟩; obtain ⟨g, cp, hrv, -, -, -, -⟩ := slice_of_own ho (by rw [List.length_map, List.length_map, hq.len]; exact HNN.out); obtain ⟨LL, hLL⟩ : ∃ LL, v = .slice (some ⟨g, 0, none⟩) LL cp := ⟨_, hrv⟩; clear hrv; subst hLL; have HQ := hid hq; have HO := hid ho; have hzw : w.heap.size < w1.heap.size := (Nat.lt_of_lt_of_le (show w.heap.size < (w.alloc (.cells #[.int .i64 0, .slice none 0 0] 49)).heap.size by simp) hz1); have HB2 := hid hb; have r0 : w2.cell? ⟨w.heap.size, 0, none⟩ = some (.int .i64 0) := (by rw [hb.cell (p := ⟨w.heap.size, 0, none⟩) (by simp)]; simp); have r1 : w2.cell? ⟨w.heap.size, 1, none⟩ = some (.slice none 0 0) := (by rw [hb.cell (p := ⟨w.heap.size, 1, none⟩) (by simp)]; simp); have g0 : w2.frozen? ⟨w.heap.size, 0, none⟩ = false := (by rw [hb.frozen (p := ⟨w.heap.size, 0, none⟩) (by simp)]; simp); have g1 : w2.frozen? ⟨w.heap.size, 1, none⟩ = false := (by rw [hb.frozen (p := ⟨w.heap.size, 1, none⟩) (by simp)]; simp); clear hq ho hb))
  have c0 : ((w2.setCell ⟨w.heap.size, 0, none⟩ (.int .i64 n)).setCell ⟨w.heap.size, 1, none⟩ (.slice (some ⟨g, 0, none⟩) LL cp)).cell? ⟨w.heap.size, 0, none⟩ = some (.int .i64 n) := by go_simp
  have c1 : ((w2.setCell ⟨w.heap.size, 0, none⟩ (.int .i64 n)).setCell ⟨w.heap.size, 1, none⟩ (.slice (some ⟨g, 0, none⟩) LL cp)).cell? ⟨w.heap.size, 1, none⟩ = some (.slice (some ⟨g, 0, none⟩) LL cp) := by go_simp
  have hb9 : Below w.heap.size w ((w2.setCell ⟨w.heap.size, 0, none⟩ (.int .i64 n)).setCell ⟨w.heap.size, 1, none⟩ (.slice (some ⟨g, 0, none⟩) LL cp)) := below_setCell1 (below_setCell1 (below_trans (below_alloc _ _) HB2.out) (Nat.le_refl _)) (Nat.le_refl _)
  have ho9 : ((w2.setCell ⟨w.heap.size, 0, none⟩ (.int .i64 n)).setCell ⟨w.heap.size, 1, none⟩ (.slice (some ⟨g, 0, none⟩) LL cp)).ownsRow w1.heap.size 27 1 (.slice (some ⟨g, 0, none⟩) LL cp) ((qs.map fq).map (Value.float .f32)).length ((qs.map fq).map (Value.float .f32)) :=
    ownsRow_box (ownsRow_box HO.out (grown_setAt w2 w.heap.size 0 _) hzw) (grown_setAt _ w.heap.size 1 _) hzw
  (try simp only [Exit.inBlock, Exit.then])
  refine bodyPost_ret (by simp [results, Try.results32, go_sem, c0, c1]; try rfl) rfl ?_
  exact ⟨_, qs, rfl, HQ.out, ownsRow_low ho9 (Nat.le_of_lt hzw), hb9⟩

/-! ## Tri -/
structure Tri (w : World) (lo : Nat) (u v z : Value) (us vs : List Bool) (zs : List Nat) : Prop where
  ru : w.ownsRow lo 4 1 u (us.map Value.bool).length (us.map Value.bool)
  rv : w.ownsRow lo 4 1 v (vs.map Value.bool).length (vs.map Value.bool)
  rz : w.ownsRow lo 27 1 z (zs.map (Value.float .f32)).length (zs.map (Value.float .f32))
  uv : Twain u v
  uz : Twain u z
  vz : Twain v z
section
variable {w w' : World} {lo : Nat} {u v z x : Value} {us vs : List Bool} {zs : List Nat} (h : Tri w lo u v z us vs zs)
include h
theorem Tri.keep (k : Below w.heap.size w w') : Tri w' lo u v z us vs zs := ⟨ownsRow_below h.ru k, ownsRow_below h.rv k, ownsRow_below h.rz k, h.uv, h.uz, h.vz⟩
theorem Tri.low {lo' : Nat} (k : lo' ≤ lo) : Tri w lo' u v z us vs zs := ⟨ownsRow_low h.ru k, ownsRow_low h.rv k, ownsRow_low h.rz k, h.uv, h.uz, h.vz⟩
theorem Tri.pushU {b : Bool} (ho : w'.ownsRow lo 4 1 x (us.map Value.bool ++ [Value.bool b]).length (us.map Value.bool ++ [Value.bool b])) (hg : w.grownBy w' u.ownBlock) (hb : x.ownBlock = u.ownBlock ∨ x.ownBlock = some (w.heap.size + 1)) : Tri w' lo x v z (us ++ [b]) vs zs :=
  ⟨by rw [List.map_append]; exact ho, h.rv.kept hg h.uv.symm, h.rz.kept hg h.uz.symm, (twain_fresh h.rv h.uv.symm hb).symm, (twain_fresh h.rz h.uz.symm hb).symm, h.vz⟩
theorem Tri.pushV {b : Bool} (ho : w'.ownsRow lo 4 1 x (vs.map Value.bool ++ [Value.bool b]).length (vs.map Value.bool ++ [Value.bool b])) (hg : w.grownBy w' v.ownBlock) (hb : x.ownBlock = v.ownBlock ∨ x.ownBlock = some (w.heap.size + 1)) : Tri w' lo u x z us (vs ++ [b]) zs :=
  ⟨h.ru.kept hg h.uv, by rw [List.map_append]; exact ho, h.rz.kept hg h.vz.symm, twain_fresh h.ru h.uv hb, h.uz, (twain_fresh h.rz h.vz.symm hb).symm⟩
theorem Tri.pushZ {q : Nat} (ho : w'.ownsRow lo 27 1 x (zs.map (Value.float .f32) ++ [Value.float .f32 q]).length (zs.map (Value.float .f32) ++ [Value.float .f32 q])) (hg : w.grownBy w' z.ownBlock) (hb : x.ownBlock = z.ownBlock ∨ x.ownBlock = some (w.heap.size + 1)) : Tri w' lo u v x us vs (zs ++ [q]) :=
  ⟨h.ru.kept hg h.uz, h.rv.kept hg h.vz, by rw [List.map_append]; exact ho, h.uv, twain_fresh h.ru h.uz hb, twain_fresh h.rv h.vz hb⟩
end
theorem tri_made (w : World) : Tri (((w.alloc (.cells #[] 4)).alloc (.cells #[] 4)).alloc (.cells #[] 27)) w.heap.size (.slice (some ⟨w.heap.size, 0, none⟩) 0 0) (.slice (some ⟨w.heap.size + 1, 0, none⟩) 0 0) (.slice (some ⟨w.heap.size + 2, 0, none⟩) 0 0) [] [] [] := by
  refine ⟨?_, ?_, ?_, twain_made _ _ (by omega) _ _ _ _, twain_made _ _ (by omega) _ _ _ _, twain_made _ _ (by omega) _ _ _ _⟩
  · exact ((World.ownsRow_made w #[] 0 (Nat.le_refl _) (by simp [maxLen]) rfl).alloc _).alloc _
  · have := World.ownsRow_made (base := w.heap.size) (e := 4) (size := 1) (w.alloc (.cells #[] 4)) #[] 0 (by simp) (by simp [maxLen]) rfl
    have h2 := this.alloc (.cells #[] 27)
    simpa using h2
  · have := World.ownsRow_made (base := w.heap.size) (e := 27) (size := 1) ((w.alloc (.cells #[] 4)).alloc (.cells #[] 4)) #[] 0 (by simp; omega) (by simp [maxLen]) rfl
    simpa using this
end Go.Proofs.Ytkaeohlakeliiaa
