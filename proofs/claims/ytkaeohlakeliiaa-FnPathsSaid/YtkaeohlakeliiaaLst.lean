/- Contracts: B10List: small numbers, in quarters. -/
import Derived.Test.YtkaeohlakeliiaaRise
import Derived.Test.YtkaeohlakeliiaaLn5
namespace Go.Proofs.Ytkaeohlakeliiaa
open Go.RowKit

def fzX (z : Nat) : Option Nat := fop .quo .f32 (some (floatOfInt .f32 ((z : Int) - 16))) (some cfour)
/-- The bits of a number of quarters, from -4. -/
def fz (z : Nat) : Nat := (fzX z).getD 0
theorem fz_some : ∀ z, z < 33 → fzX z = some (fz z) ∧ ab .f32 (fz z) = some (fz z) ∧ fz z % FloatKind.f32.format.signWeight < FloatKind.f32.format.infRung ∧ fv FloatKind.f32.format (fz z) * 4 = ((z : Int) - 16) * (unit .f32 : Int) ∧ fz z < 4294967296 := by decide +kernel
theorem rv_fz (z : Nat) (hz : z < 33) : RV .f32 (ab .f32 (fz z)) (((4 * ((z : Int) - 16) : Int) : Rat) / 16) := by
  obtain ⟨_, h2, h3, h4, _⟩ := fz_some z hz
  rw [h2]
  refine ⟨_, ⟨_, rfl, h3, rfl⟩, ?_⟩
  have h5 := congrArg (fun q : Int => (q : Rat)) h4
  simp only [Rat.intCast_mul, Rat.intCast_natCast] at h5
  rw [Rat.intCast_mul, show ((4 : Int) : Rat) = 4 from rfl] at *
  generalize (((z : Int) - 16 : Int) : Rat) = Z at *
  grind
theorem rv_fq16 (q : Nat) (hq : q < 80) : RV .f32 (ab .f32 (fq q)) (((4 * (q : Int) : Int) : Rat) / 16) := by
  refine (rv_fq q hq).eq ?_
  rw [Rat.intCast_mul, Rat.intCast_natCast, show ((4 : Int) : Rat) = 4 from rfl]
  grind
theorem map_getD (f : Nat → Nat) (zs : List Nat) {k : Nat} (h : k < zs.length) : (zs.map f).getD k 0 = f (zs.getD k 0) := by
  simp [List.getD_eq_getElem?_getD, h]
/-- Times that rise. -/
theorem ris_tms {qs : List Nat} {q n : Nat} (h : Ris qs q) (hl : qs.length = n) (lo : 2 ≤ n) (hi : n ≤ 11) : Tms (qs.map fq) n (fun k => 4 * ((qs.getD k 0 : Nat) : Int)) := by
  have hq := h.most
  refine ⟨by simp [hl], lo, hi, fun k hk => ?_, fun k hk => ?_, fun k hk => ?_⟩
  · have h2 := h.rg k (by omega)
    unfold atX
    rw [map_getD fq qs (by omega)]
    exact ⟨rv_fq16 _ (by omega), by omega⟩
  · show 0 ≤ 4 * ((qs.getD k 0 : Nat) : Int)
    omega
  · have h2 := h.up k (k + 1) (by omega) (by omega)
    show 4 ≤ 4 * ((qs.getD (k + 1) 0 : Nat) : Int) - 4 * ((qs.getD k 0 : Nat) : Int)
    omega
theorem lst_sml {qs zs : List Nat} {q n : Nat} (h : Ris qs q) (hl : qs.length = n) (lo : 2 ≤ n) (hi : n ≤ 11) (hz : zs.length = n) (hb : ∀ k, k < n → zs.getD k 0 < 33) : Sml (qs.map fq) (zs.map fz) n (fun k => 4 * ((qs.getD k 0 : Nat) : Int)) (fun k => 4 * (((zs.getD k 0 : Nat) : Int) - 16)) := by
  refine ⟨ris_tms h hl lo hi, by simp [hz], fun k hk => ?_⟩
  have h2 := hb k hk
  unfold atX
  rw [map_getD fz zs (by omega)]
  exact ⟨rv_fz _ h2, by omega⟩
set_option maxRecDepth 100000 in
set_option maxHeartbeats 2000000 in
theorem drawOk_any (vc : Value) (cs : List Int) (n : Nat) (hn : n ≤ 11) (w w1 : World) (b : Nat) (hb0 : w.heap.size ≤ b) (hS : SrcAt w w1 b vc cs 0 0) (hB : Below w.heap.size w w1) :
    Calls Try.prog 84 #[.pointer (some ⟨b, 0, none⟩), .int .i64 n] w1 fun e w' => ∃ (zs : List Nat) (v : Value), e = .returned v ∧ zs.length = n ∧ (∀ k, k < n → zs.getD k 0 < 33) ∧ w'.ownsRow w.heap.size 27 1 v ((zs.map fz).map (Value.float .f32)).length ((zs.map fz).map (Value.float .f32)) ∧ Below w.heap.size w w' := by
  obtain ⟨i0, hi0, hz0, hz1, hz2⟩ := info_parts (P := Try.prog) (e := 27) (z := Value.float .f32 0) (size := 1) (bytes := 4) (by kernel_rfl)
  have hbl := hS.lt
  have HS := hid hS
  clear hS
  go_enter Try.func84, Try.ntmps84
  go_wp2_with fail
  have hsz := Nat.le_refl w1.heap.size
  go_loopw [1, 5] (fun y v wr => ∃ (k : Nat) (zs : List Nat) (sd : Int), k ≤ n ∧ y = .int .i64 ((n : Int) - k) ∧ Hid (zs.length = k ∧ ∀ i, i < k → zs.getD i 0 < 33) ∧ Hid (SrcAt w wr b vc cs k sd) ∧ Hid (wr.ownsRow w1.heap.size 27 1 v ((zs.map fz).map (Value.float .f32)).length ((zs.map fz).map (Value.float .f32))) ∧ w1.heap.size ≤ wr.heap.size ∧ Below w.heap.size w wr) (fun y _ _ => (intOf y).toNat)
  case atStart => exact ⟨0, [], 0, by omega, by simp, hid ⟨rfl, fun i hi => absurd hi (Nat.not_lt_zero i)⟩, hid (HS.out.keep (by (repeat (first | (with_reducible assumption) | (with_reducible apply below_refl) | (with_reducible apply below_alloc1) | (with_reducible apply below_drewN1) | (with_reducible apply below_drew1))))), hid (World.ownsRow_made _ #[] 0 hsz (by simp [maxLen]) rfl), (show Below w1.heap.size w1 _ by (repeat (first | (with_reducible assumption) | (with_reducible apply below_refl) | (with_reducible apply below_alloc1) | (with_reducible apply below_drewN1) | (with_reducible apply below_drew1)))).size, below_trans hB (by (repeat (first | (with_reducible assumption) | (with_reducible apply below_refl) | (with_reducible apply below_alloc1) | (with_reducible apply below_drewN1) | (with_reducible apply below_drew1))))⟩
  case round =>
    obtain ⟨k, zs, sd, hk, rfl, hq, hS, ho, hz, hw⟩ := hrel
    by_cases hlt : k < n
    · have hp : (0 : Int) < (n : Int) - (k : Int) := by omega
      have W1 : IntKind.i64.wrap ((n : Int) - (k : Int) - 1) = (n : Int) - ((k + 1 : Nat) : Int) := by rw [IntKind.wrap_i64]; omega
      have hql := hid (show zs.length ≤ 11 by rw [hq.out.1]; omega)
      go_wp2_with (first
        | (go_at_call 53; (refine (pick_any w b vc cs k sd 33 (by omega) _ (by omega) (hS.out.keep (by (repeat (first | (with_reducible assumption) | (with_reducible apply below_refl) | (with_reducible apply below_alloc1) | (with_reducible apply below_drewN1) | (with_reducible apply below_drew1)))))).mono ?_); rintro e w3 ⟨z, sd', rfl, hd0, hd1, hS3, hg⟩; obtain ⟨d, rfl⟩ := Int.eq_ofNat_of_zero_le hd0; have hg2 := grown_trans (grown_of_below (show Below wr.heap.size wr _ by (repeat (first | (with_reducible assumption) | (with_reducible apply below_refl) | (with_reducible apply below_alloc1) | (with_reducible apply below_drewN1) | (with_reducible apply below_drew1)))) (some b)) hg; have hzq : w.heap.size ≤ w3.heap.size := Nat.le_trans hw.size hg2.size; have hzq1 : w1.heap.size ≤ w3.heap.size := Nat.le_trans hz hg2.size; have hO := hid (ownsRow_box ho.out hg2 hbl); have hW3 := hid (below_box hw hg2 hw.size hb0); have HS3 := hid hS3; have W2 : IntKind.i64.wrap ((d : Int) - 16) = (d : Int) - 16 := (by rw [IntKind.wrap_i64]; omega); clear hS3 hg hg2)
        | (refine upon_float rfl ?_; intro r nr hr; go_simp)
        | (at_builtin; refine wpList_push rfl _ _ 25 rfl Try.underlying25 hi0 hz0 hz1 hz2 rfl w1.heap.size _ _ rfl rfl (ownsRow_below hO.out (by (repeat (first | (with_reducible assumption) | (with_reducible apply below_refl) | (with_reducible apply below_alloc1) | (with_reducible apply below_drewN1) | (with_reducible apply below_drew1))))) rfl (by rw [List.length_map, List.length_map]; exact Nat.le_trans hql.out (by decide)) (by decide) (Nat.le_trans hzq1 (Below.size (show Below w3.heap.size w3 _ by (repeat (first | (with_reducible assumption) | (with_reducible apply below_refl) | (with_reducible apply below_alloc1) | (with_reducible apply below_drewN1) | (with_reducible apply below_drew1)))))) ?_; intro v1 w2 hown hb2))
      have hd33 : d < 33 := by omega
      have hlen := hq.out.1
      have hrr : ab .f32 r = some (fz d) := by
        rw [hr]
        rw [ab_ofInt, show ab .f32 1082130432 = some cfour from by decide]
        exact (fz_some d hd33).1
      obtain rfl : fz d = r := (ab_some hrr).1
      have HLE := hid (show (zs ++ [d]).length = k + 1 ∧ ∀ i, i < k + 1 → (zs ++ [d]).getD i 0 < 33 from ⟨by rw [List.length_append, List.length_singleton, hlen], fun i hi => by
        rw [getD_app]
        split
        · exact hq.out.2 i (by omega)
        · split
          · exact hd33
          · omega⟩)
      clear hrr hr hlen
      go_roundw
      case rel =>
        refine ⟨k + 1, zs ++ [d], sd', by omega, by rw [show ((k + 1 : Nat) : Int) = (k : Int) + 1 by omega], HLE, hid ?_, hid ?_, Nat.le_trans (Nat.le_trans hzq1 (Below.size (show Below w3.heap.size w3 _ by (repeat (first | (with_reducible assumption) | (with_reducible apply below_refl) | (with_reducible apply below_alloc1) | (with_reducible apply below_drewN1) | (with_reducible apply below_drew1)))))) hb2.size, ?_⟩
        · exact (HS3.out.keep (below_drewN _ _)).keepB hb2 hbl
        · rw [List.map_append, List.map_singleton, fl_vals]; exact hown
        · exact (below_trans hW3.out (by (repeat (first | (with_reducible assumption) | (with_reducible apply below_refl) | (with_reducible apply below_alloc1) | (with_reducible apply below_drewN1) | (with_reducible apply below_drew1))))).trans (hb2.mono (by have := hB.size; omega))
      case measure => simp [intOf]; omega
    · obtain rfl : n = k := by omega
      go_wp2_with fail
      go_ret
      exact ⟨zs, _, rfl, hq.out.1, hq.out.2, ownsRow_low ho.out (by have := hB.size; omega), hw⟩
set_option maxHeartbeats 400000 in
theorem list_any (vc : Value) (cs : List Int) (n : Nat) (hn : n ≤ 11) (w : World) (hrow : RowAt w vc (cs.map (Value.int .u8))) (hby : ∀ c ∈ cs, 0 ≤ c ∧ c ≤ 255) :
    Calls Try.prog 24 #[vc, .int .i64 n] w fun e w' => ∃ (zs : List Nat) (v : Value), e = .returned v ∧ zs.length = n ∧ (∀ k, k < n → zs.getD k 0 < 33) ∧ w'.ownsRow w.heap.size 27 1 v ((zs.map fz).map (Value.float .f32)).length ((zs.map fz).map (Value.float .f32)) ∧ Below w.heap.size w w' := by
  have HR := hid hrow; have HB := hid hby
  clear hrow hby
  go_enter Try.func24, Try.ntmps24
  go_wp2_with (first
    | (go_at_call 52; (refine (from_any w vc cs _ HR.out HB.out (by (repeat (first | (with_reducible assumption) | (with_reducible apply below_refl) | (with_reducible apply below_alloc1) | (with_reducible apply below_drewN1) | (with_reducible apply below_drew1))))).mono ?_); rintro e w1 ⟨b, rfl, hb0, hS, hb⟩; have hS' := hid hS; have hB := below_trans (show Below w.heap.size w w by (repeat (first | (with_reducible assumption) | (with_reducible apply below_refl) | (with_reducible apply below_alloc1) | (with_reducible apply below_drewN1) | (with_reducible apply below_drew1)))) hb; clear hS hb)
    | (go_at_call 84; (refine (drawOk_any vc cs n hn w _ b (by have := hB.size; omega) (hS'.out.keep (by (repeat (first | (with_reducible assumption) | (with_reducible apply below_refl) | (with_reducible apply below_alloc1) | (with_reducible apply below_drewN1) | (with_reducible apply below_drew1))))) (below_trans hB (by (repeat (first | (with_reducible assumption) | (with_reducible apply below_refl) | (with_reducible apply below_alloc1) | (with_reducible apply below_drewN1) | (with_reducible apply below_drew1)))))).mono ?_); rintro e w2 ⟨zs, v, rfl, hz1, hz2, ho, hb2⟩))
  go_ret
  exact ⟨zs, _, rfl, hz1, hz2, ho, hb2⟩
end Go.Proofs.Ytkaeohlakeliiaa
