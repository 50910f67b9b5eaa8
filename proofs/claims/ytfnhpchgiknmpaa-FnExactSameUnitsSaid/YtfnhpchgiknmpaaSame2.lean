/- Numbers that are the same: the walks. -/
import Derived.Test.YtfnhpchgiknmpaaSame
namespace Go.Proofs.Ytfnhpchgiknmpaa
open Go.RowKit

def bitsX (x : Option Nat) : Int := match x with | none => 2143289344 | some b => (b : Int)
def sameB (x y : Option Nat) : Bool := decide (x = y)
theorem far_word {c : Nat} (h : ab .f32 c = some c) : c ≠ 2143289344 := by
  intro e
  subst e
  exact absurd h (by decide)
theorem bits_same (a b : Nat) : (bitsX (ab .f32 a) == bitsX (ab .f32 b)) = sameB (ab .f32 a) (ab .f32 b) := by
  unfold sameB
  cases h1 : ab .f32 a with
  | none =>
    cases h2 : ab .f32 b with
    | none => rfl
    | some d =>
      have := far_word ((ab_some h2).1 ▸ h2)
      have e := (ab_some h2).1
      simp [bitsX]
      omega
  | some c =>
    have q1 := (ab_some h1).1
    cases h2 : ab .f32 b with
    | none =>
      have := far_word ((ab_some h1).1 ▸ h1)
      simp [bitsX]
      omega
    | some d =>
      by_cases e : c = d
      · subst e; simp
      · have : (bitsX (some c) == bitsX (some d)) = false := by simp [bitsX]; omega
        rw [this]
        simpa using e

set_option maxRecDepth 100000 in
@[go_sem] theorem run_bits32 (x : Nat) (w : World) : (callFunc 89 #[Value.float .f32 x]).run Try.prog w = .ok (.value (.int .u32 x)) w := by
  kernel_rfl
set_option maxRecDepth 100000 in
@[go_sem] theorem run_bits64 (x : Nat) (w : World) : (callFunc 90 #[Value.float .f64 x]).run Try.prog w = .ok (.value (.int .u64 x)) w := by
  kernel_rfl
set_option maxRecDepth 100000 in
set_option maxHeartbeats 400000 in
theorem l01Bits_any (x : Nat) (hx : x < 4294967296) (w : World) :
    Calls Try.prog 72 #[.float .f32 x] w fun e w' => e = .returned (.int .i64 (bitsX (ab .f32 x))) ∧ Below w.heap.size w w' := by
  have W1 : IntKind.i64.wrap (x : Int) = (x : Int) := by rw [IntKind.wrap_i64]; omega
  cases h : ab .f32 x with
  | none =>
    have h1 : ford .f32 (ab .f32 x) (ab .f32 x) = none := by rw [h]; rfl
    have HX := hid h; clear h
    go_enter Try.func72, Try.ntmps72
    go_wp2_with fail
    go_ret
    exact ⟨rfl, by (repeat (first | (with_reducible assumption) | (with_reducible apply below_refl) | (with_reducible apply below_alloc1) | (with_reducible apply below_drewN1) | (with_reducible apply below_drew1)))⟩
  | some c =>
    have h1 : ford .f32 (ab .f32 x) (ab .f32 x) = some .eq := by rw [h]; exact ford_self ((ab_some h).1 ▸ h)
    have hc : bitsX (some c) = (x : Int) := by rw [(ab_some h).1]; rfl
    have HX := hid h; have HC := hid hc; clear h hc
    go_enter Try.func72, Try.ntmps72
    go_wp2_with fail
    go_ret
    exact ⟨by rw [HC.out]; rfl, by (repeat (first | (with_reducible assumption) | (with_reducible apply below_refl) | (with_reducible apply below_alloc1) | (with_reducible apply below_drewN1) | (with_reducible apply below_drew1)))⟩
set_option maxRecDepth 100000 in
set_option maxHeartbeats 400000 in
theorem l01Same_any (x y : Nat) (hx : x < 4294967296) (hy : y < 4294967296) (w : World) :
    Calls Try.prog 40 #[.float .f32 x, .float .f32 y] w fun e w' => e = .returned (.bool (sameB (ab .f32 x) (ab .f32 y))) ∧ Below w.heap.size w w' := by
  have HS := hid (bits_same x y)
  go_enter Try.func40, Try.ntmps40
  go_wp2_with (first
    | (go_at_call 72; (with_reducible refine (l01Bits_any x hx _).mono ?_); rintro e w' ⟨rfl, hb⟩; have hB : Below w.heap.size w w' := below_trans (by (repeat (first | (with_reducible assumption) | (with_reducible apply below_refl) | (with_reducible apply below_alloc1) | (with_reducible apply below_drewN1) | (with_reducible apply below_drew1)))) hb; have hC := (bcell hB).1; clear hb)
    | (go_at_call 72; (with_reducible refine (l01Bits_any y hy _).mono ?_); rintro e w' ⟨rfl, hb⟩; have hB : Below w.heap.size w w' := below_trans (by (repeat (first | (with_reducible assumption) | (with_reducible apply below_refl) | (with_reducible apply below_alloc1) | (with_reducible apply below_drewN1) | (with_reducible apply below_drew1)))) hb; have hC := (bcell hB).1; clear hb))
  go_ret
  exact ⟨by rw [← HS.out]; rfl, by assumption⟩
set_option maxRecDepth 100000 in
set_option maxHeartbeats 400000 in
theorem signbit_any (r : Nat) (s : Bool) (hr : r < 18446744073709551616) (hs : (r / 9223372036854775808 % 2 == 1) = s) (w : World) :
    Calls Try.prog 73 #[.float .f64 r] w fun e w' => e = .returned (.bool s) ∧ Below w.heap.size w w' := by
  cases s
  · have W1 : IntKind.i64.wrap (r : Int) = (r : Int) := by
      have : r / 9223372036854775808 % 2 ≠ 1 := by simpa using hs
      rw [IntKind.wrap_i64]; omega
    have h0 : ¬ (r : Int) < 0 := by omega
    clear hs
    go_enter Try.func73, Try.ntmps73
    go_wp2_with fail
    go_ret
    exact ⟨by simp, by (repeat (first | (with_reducible assumption) | (with_reducible apply below_refl) | (with_reducible apply below_alloc1) | (with_reducible apply below_drewN1) | (with_reducible apply below_drew1)))⟩
  · have W1 : IntKind.i64.wrap (r : Int) = (r : Int) - 18446744073709551616 := by
      have : r / 9223372036854775808 % 2 = 1 := by simpa using hs
      rw [IntKind.wrap_i64]; omega
    have h0 : (r : Int) - 18446744073709551616 < 0 := by omega
    clear hs
    go_enter Try.func73, Try.ntmps73
    go_wp2_with fail
    go_ret
    exact ⟨by simp [h0], by (repeat (first | (with_reducible assumption) | (with_reducible apply below_refl) | (with_reducible apply below_alloc1) | (with_reducible apply below_drewN1) | (with_reducible apply below_drew1)))⟩
theorem signbit_of {r c : Nat} (h : ab .f64 r = wid (ab .f32 c)) (hc : Hid (ab .f32 c = some c)) (w : World) :
    Calls Try.prog 73 #[.float .f64 r] w fun e w' => e = .returned (.bool (sgn c)) ∧ Below w.heap.size w w' := by
  have h2 : ab .f64 r = some (Ieee.double.write (Ieee.single.read c)) := by rw [h, hc.out]; rfl
  have h3 := (ab_some h2).1
  have h4 := wsgn hc.out
  rw [h3] at h4
  exact signbit_any r (sgn c) h4.1 h4.2 w
set_option maxRecDepth 100000 in
set_option maxHeartbeats 800000 in
theorem sameNumber_any (x y : Nat) (hx : x < 4294967296) (hy : y < 4294967296) (w : World) :
    Calls Try.prog 44 #[.float .f32 x, .float .f32 y] w fun e w' => e = .returned (.bool (sameB (ab .f32 x) (ab .f32 y))) ∧ Below w.heap.size w w' := by
  cases h1 : ab .f32 x with
  | none =>
    have f1 : ford .f32 (ab .f32 x) (ab .f32 x) = none := by rw [h1]; rfl
    have HX := hid h1; clear h1
    cases h2 : ab .f32 y with
    | none =>
      have f2 : ford .f32 (ab .f32 y) (ab .f32 y) = none := by rw [h2]; rfl
      have HY := hid h2; clear h2
      go_enter Try.func44, Try.ntmps44
      go_wp2_with fail
      go_ret
      exact ⟨rfl, by (repeat (first | (with_reducible assumption) | (with_reducible apply below_refl) | (with_reducible apply below_alloc1) | (with_reducible apply below_drewN1) | (with_reducible apply below_drew1)))⟩
    | some d =>
      have f2 : ford .f32 (ab .f32 y) (ab .f32 y) = some .eq := by rw [h2]; exact ford_self ((ab_some h2).1 ▸ h2)
      have HY := hid h2; clear h2
      go_enter Try.func44, Try.ntmps44
      go_wp2_with fail
      go_ret
      exact ⟨by simp [sameB], by (repeat (first | (with_reducible assumption) | (with_reducible apply below_refl) | (with_reducible apply below_alloc1) | (with_reducible apply below_drewN1) | (with_reducible apply below_drew1)))⟩
  | some c =>
    have f1 : ford .f32 (ab .f32 x) (ab .f32 x) = some .eq := by rw [h1]; exact ford_self ((ab_some h1).1 ▸ h1)
    have HX := hid h1
    cases h2 : ab .f32 y with
    | none =>
      have f2 : ford .f32 (ab .f32 y) (ab .f32 y) = none := by rw [h2]; rfl
      have HY := hid h2; clear h1 h2
      go_enter Try.func44, Try.ntmps44
      go_wp2_with fail
      go_ret
      exact ⟨by simp [sameB], by (repeat (first | (with_reducible assumption) | (with_reducible apply below_refl) | (with_reducible apply below_alloc1) | (with_reducible apply below_drewN1) | (with_reducible apply below_drew1)))⟩
    | some d =>
      have f2 : ford .f32 (ab .f32 y) (ab .f32 y) = some .eq := by rw [h2]; exact ford_self ((ab_some h2).1 ▸ h2)
      obtain rfl := (ab_some h1).1
      obtain rfl := (ab_some h2).1
      have HL := hid (same_law hx hy h1 h2)
      have HY := hid h2
      clear h1 h2
      by_cases hq : ford .f32 (ab .f32 c) (ab .f32 d) = some .eq
      · have HQ := hid hq
        go_enter Try.func44, Try.ntmps44
        go_wp2_with (first
          | ((fail_if_success have := R1); refine upon_widen rfl Try.underlying49 ?_; intro r1 n1 R1; go_simp)
          | ((fail_if_success have := R2); refine upon_widen rfl Try.underlying49 ?_; intro r2 n2 R2; go_simp)
          | ((fail_if_success have := R2); (go_at_call 73; (with_reducible refine (signbit_of R1 HX _).mono ?_); rintro e w' ⟨rfl, hb⟩; have hB : Below w.heap.size w w' := below_trans (by (repeat (first | (with_reducible assumption) | (with_reducible apply below_refl) | (with_reducible apply below_alloc1) | (with_reducible apply below_drewN1) | (with_reducible apply below_drew1)))) hb; have hC := (bcell hB).1; clear hb))
          | (go_at_call 73; (with_reducible refine (signbit_of R2 HY _).mono ?_); rintro e w' ⟨rfl, hb⟩; have hB : Below w.heap.size w w' := below_trans (by (repeat (first | (with_reducible assumption) | (with_reducible apply below_refl) | (with_reducible apply below_alloc1) | (with_reducible apply below_drewN1) | (with_reducible apply below_drew1)))) hb; have hC := (bcell hB).1; clear hb))
        go_ret
        refine ⟨?_, by assumption⟩
        have h := HL.out
        have h2 := HQ.out
        rw [HX.out, HY.out] at h2
        rw [h2] at h
        simp only [sameB, Option.some.injEq]
        rw [← h]
        rfl
      · have HQ := hid hq
        go_enter Try.func44, Try.ntmps44
        go_wp2_with (first
          | (refine upon_widen rfl Try.underlying49 ?_; intro r n hr; go_simp))
        go_ret
        refine ⟨?_, by (repeat (first | (with_reducible assumption) | (with_reducible apply below_refl) | (with_reducible apply below_alloc1) | (with_reducible apply below_drewN1) | (with_reducible apply below_drew1)))⟩
        have h2 : ¬ c = d := fun e => by
          subst e
          exact HQ.out (by rw [HX.out]; exact ford_self HX.out)
        simp [sameB, h2]
end Go.Proofs.Ytfnhpchgiknmpaa
