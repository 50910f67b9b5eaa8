/- Contracts: B10Rising: rising numbers, in quarters. -/
import Derived.Test.YtkaeohlakeliiaaSrc
import Derived.Test.YtkaeohlakeliiaaFL
import Derived.Test.YtkaeohlakeliiaaRat
namespace Go.Proofs.Ytkaeohlakeliiaa
open Go.RowKit

def cfour : Nat := 1082130432
def fqX (q : Nat) : Option Nat := fop .quo .f32 (some (floatOfInt .f32 (q : Int))) (some cfour)
/-- The bits of a number of quarters. -/
def fq (q : Nat) : Nat := (fqX q).getD 0
theorem fq_some : ∀ q, q < 80 → fqX q = some (fq q) ∧ ab .f32 (fq q) = some (fq q) ∧ fq q % FloatKind.f32.format.signWeight < FloatKind.f32.format.infRung ∧ fv FloatKind.f32.format (fq q) * 4 = (q : Int) * (unit .f32 : Int) ∧ fq q < 4294967296 := by decide +kernel
theorem fq_step : ∀ q, q < 48 → ∀ d, d < 4 → fop .add .f32 (some (fq q)) (fqX (1 + d)) = some (fq (q + 1 + d)) := by decide +kernel
theorem rv_fq (q : Nat) (hq : q < 80) : RV .f32 (ab .f32 (fq q)) ((q : Rat) / 4) := by
  obtain ⟨_, h2, h3, h4, _⟩ := fq_some q hq
  rw [h2]
  refine ⟨_, ⟨_, rfl, h3, rfl⟩, ?_⟩
  have h5 : ((fv FloatKind.f32.format (fq q) : Int) : Rat) * 4 = ((q : Int) : Rat) * (unit .f32 : Nat) := by
    have := congrArg (fun q : Int => (q : Rat)) h4
    simp only [Rat.intCast_mul, Rat.intCast_natCast] at this
    exact this
  rw [Rat.intCast_natCast] at h5
  grind
/-- Rising numbers up to q. -/
structure Ris (qs : List Nat) (q : Nat) : Prop where
  up : ∀ i j, i < j → j < qs.length → qs.getD i 0 < qs.getD j 0
  rg : ∀ i, i < qs.length → 1 ≤ qs.getD i 0 ∧ qs.getD i 0 ≤ q
  last : 0 < qs.length → qs.getD (qs.length - 1) 0 = q
  most : q ≤ 4 * qs.length
theorem ris_nil : Ris [] 0 := ⟨by intros; simp at *, by intros; simp at *, by intro h; simp at h, by simp⟩
theorem getD_app (qs : List Nat) (z i : Nat) : (qs ++ [z]).getD i 0 = if i < qs.length then qs.getD i 0 else if i = qs.length then z else 0 := by
  rw [List.getD_eq_getElem?_getD, List.getD_eq_getElem?_getD, List.getElem?_append]
  split
  · rfl
  · split
    · rename_i h1 h2; subst h2; simp
    · rename_i h1 h2
      rw [List.getElem?_eq_none (by simp; omega)]; rfl
theorem Ris.next {qs : List Nat} {q : Nat} (h : Ris qs q) (d : Nat) (hd : d < 4) : Ris (qs ++ [q + 1 + d]) (q + 1 + d) := by
  obtain ⟨h1, h2, h3, h4⟩ := h
  refine ⟨fun i j hij hj => ?_, fun i hi => ?_, fun _ => ?_, ?_⟩
  · rw [List.length_append, List.length_singleton] at hj
    rw [getD_app, getD_app, if_pos (by omega)]
    by_cases e : j < qs.length
    · rw [if_pos e]; exact h1 i j hij e
    · rw [if_neg e, if_pos (by omega)]
      have := (h2 i (by omega)).2
      omega
  · rw [List.length_append, List.length_singleton] at hi
    rw [getD_app]
    by_cases e : i < qs.length
    · rw [if_pos e]; have := h2 i e; omega
    · rw [if_neg e, if_pos (by omega)]; omega
  · rw [List.length_append, List.length_singleton, getD_app, if_neg (by omega), if_pos (by omega)]
  · rw [List.length_append, List.length_singleton]; omega
set_option maxRecDepth 100000 in
set_option maxHeartbeats 2000000 in
theorem rising_any (vc : Value) (cs : List Int) (n : Nat) (hn : n ≤ 11) (w : World) (hrow : RowAt w vc (cs.map (Value.int .u8))) (hby : ∀ c ∈ cs, 0 ≤ c ∧ c ≤ 255) :
    Calls Try.prog 9 #[vc, .int .i64 n] w fun e w' => ∃ (qs : List Nat) (q : Nat) (v : Value), e = .returned v ∧ qs.length = n ∧ Ris qs q ∧ w'.ownsRow w.heap.size 27 1 v ((qs.map fq).map (Value.float .f32)).length ((qs.map fq).map (Value.float .f32)) ∧ Below w.heap.size w w' := by
  obtain ⟨i0, hi0, hz0, hz1, hz2⟩ := info_parts (P := Try.prog) (e := 27) (z := Value.float .f32 0) (size := 1) (bytes := 4) (by kernel_rfl)
  have HR := hid hrow; have HB := hid hby
  clear hrow hby
  go_enter Try.func9, Try.ntmps9
  go_wp2_with (first | (go_at_call 52; (refine (from_any w vc cs _ HR.out HB.out (by (repeat (first | (with_reducible assumption) | (with_reducible apply below_refl) | (with_reducible apply below_alloc1) | (with_reducible apply below_drewN1) | (with_reducible apply below_drew1))))).mono ?_); rintro e w1 ⟨b, rfl, hb0, hS, hb⟩; have HS := hid hS; have hB := below_trans (show Below w.heap.size w w by (repeat (first | (with_reducible assumption) | (with_reducible apply below_refl) | (with_reducible apply below_alloc1) | (with_reducible apply below_drewN1) | (with_reducible apply below_drew1)))) hb; have hbl := hS.lt; clear hS hb))
  have hsz := Nat.le_refl w1.heap.size
  have hF0 : ab .f32 0 = some (fq 0) := by decide
  go_loopw [1, 6, 7] (fun y v x wr => ∃ (k : Nat) (qs : List Nat) (q F : Nat) (sd : Int), k ≤ n ∧ y = .int .i64 ((n : Int) - k) ∧ x = .float .f32 F ∧ Hid (qs.length = k ∧ Ris qs q ∧ ab .f32 F = some (fq q)) ∧ Hid (SrcAt w wr b vc cs k sd) ∧ Hid (wr.ownsRow w1.heap.size 27 1 v ((qs.map fq).map (Value.float .f32)).length ((qs.map fq).map (Value.float .f32))) ∧ w1.heap.size ≤ wr.heap.size ∧ Below w.heap.size w wr) (fun y _ _ _ => (intOf y).toNat)
  case atStart => exact ⟨0, [], 0, 0, 0, by omega, by simp, rfl, hid ⟨rfl, ris_nil, hF0⟩, hid (HS.out.keep (by (repeat (first | (with_reducible assumption) | (with_reducible apply below_refl) | (with_reducible apply below_alloc1) | (with_reducible apply below_drewN1) | (with_reducible apply below_drew1))))), hid (World.ownsRow_made _ #[] 0 hsz (by simp [maxLen]) rfl), (show Below w1.heap.size w1 _ by (repeat (first | (with_reducible assumption) | (with_reducible apply below_refl) | (with_reducible apply below_alloc1) | (with_reducible apply below_drewN1) | (with_reducible apply below_drew1)))).size, below_trans hB (by (repeat (first | (with_reducible assumption) | (with_reducible apply below_refl) | (with_reducible apply below_alloc1) | (with_reducible apply below_drewN1) | (with_reducible apply below_drew1))))⟩
  case round =>
    obtain ⟨k, qs, q, F, sd, hk, rfl, rfl, hq, hS, ho, hz, hw⟩ := hrel
    by_cases hlt : k < n
    · have hp : (0 : Int) < (n : Int) - (k : Int) := by omega
      have W1 : IntKind.i64.wrap ((n : Int) - (k : Int) - 1) = (n : Int) - ((k + 1 : Nat) : Int) := by rw [IntKind.wrap_i64]; omega
      have hql := hid (show qs.length ≤ 11 by rw [hq.out.1]; omega)
      go_wp2_with (first
        | (go_at_call 53; (refine (pick_any w b vc cs k sd 4 (by omega) _ (by omega) (hS.out.keep (by (repeat (first | (with_reducible assumption) | (with_reducible apply below_refl) | (with_reducible apply below_alloc1) | (with_reducible apply below_drewN1) | (with_reducible apply below_drew1)))))).mono ?_); rintro e w3 ⟨z, sd', rfl, hd0, hd1, hS3, hg⟩; obtain ⟨d, rfl⟩ := Int.eq_ofNat_of_zero_le hd0; have hg2 := grown_trans (grown_of_below (show Below wr.heap.size wr _ by (repeat (first | (with_reducible assumption) | (with_reducible apply below_refl) | (with_reducible apply below_alloc1) | (with_reducible apply below_drewN1) | (with_reducible apply below_drew1)))) (some b)) hg; have hzq : w1.heap.size ≤ w3.heap.size := Nat.le_trans hz hg2.size; have hO := hid (ownsRow_box ho.out hg2 hbl); have hW3 := hid (below_box hw hg2 hw.size hb0); have HS3 := hid hS3; have W2 : IntKind.i64.wrap (1 + (d : Int)) = 1 + (d : Int) := (by rw [IntKind.wrap_i64]; omega); clear hS3 hg hg2)
        | (refine upon_float rfl ?_; intro r nr hr; go_simp)
        | (at_builtin; refine wpList_push rfl _ _ 25 rfl Try.underlying25 hi0 hz0 hz1 hz2 rfl w1.heap.size _ _ rfl rfl (ownsRow_below hO.out (by (repeat (first | (with_reducible assumption) | (with_reducible apply below_refl) | (with_reducible apply below_alloc1) | (with_reducible apply below_drewN1) | (with_reducible apply below_drew1))))) rfl (by rw [List.length_map, List.length_map]; exact Nat.le_trans hql.out (by decide)) (by decide) (Nat.le_trans hzq (Below.size (show Below w3.heap.size w3 _ by (repeat (first | (with_reducible assumption) | (with_reducible apply below_refl) | (with_reducible apply below_alloc1) | (with_reducible apply below_drewN1) | (with_reducible apply below_drew1)))))) ?_; intro v1 w2 hown hb2))
      have hd4 : d < 4 := by omega
      have hq4 := hq.out.2.1.most
      have hlen := hq.out.1
      have hrr : ab .f32 r = some (fq (q + 1 + d)) := by
        rw [hr, hq.out.2.2]
        rename_i r0 _ hr0
        rw [hr0, ab_ofInt, show ab .f32 1082130432 = some cfour from by decide, show (1 : Int) + (d : Int) = ((1 + d : Nat) : Int) by omega]
        exact fq_step q (by omega) d hd4
      obtain rfl : fq (q + 1 + d) = r := (ab_some hrr).1
      have HRI := hid (hq.out.2.1.next d hd4)
      have HRR := hid hrr
      have HLE := hid (show (qs ++ [q + 1 + d]).length = k + 1 by rw [List.length_append, List.length_singleton, hlen])
      clear hrr hr hq4 hlen
      go_roundw
      case rel =>
        refine ⟨k + 1, qs ++ [q + 1 + d], q + 1 + d, _, sd', by omega, by rw [show ((k + 1 : Nat) : Int) = (k : Int) + 1 by omega], rfl, hid ⟨HLE.out, HRI.out, HRR.out⟩, hid ?_, hid ?_, Nat.le_trans (Nat.le_trans hzq (Below.size (show Below w3.heap.size w3 _ by (repeat (first | (with_reducible assumption) | (with_reducible apply below_refl) | (with_reducible apply below_alloc1) | (with_reducible apply below_drewN1) | (with_reducible apply below_drew1)))))) hb2.size, ?_⟩
        · exact (HS3.out.keep (below_drewN _ _)).keepB hb2 hbl
        · rw [List.map_append, List.map_singleton, fl_vals]; exact hown
        · exact (below_trans hW3.out (by (repeat (first | (with_reducible assumption) | (with_reducible apply below_refl) | (with_reducible apply below_alloc1) | (with_reducible apply below_drewN1) | (with_reducible apply below_drew1))))).trans (hb2.mono (by have := hB.size; omega))
      case measure => simp [intOf]; omega
    · obtain rfl : n = k := by omega
      go_wp2_with fail
      go_ret
      exact ⟨qs, q, _, rfl, hq.out.1, hq.out.2.1, ownsRow_low ho.out (by have := hB.size; omega), hw⟩
end Go.Proofs.Ytkaeohlakeliiaa
