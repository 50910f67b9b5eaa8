/- Numbers that are the same: the walks. -/
import Derived.Test.YtkaeohlakeliiaaSame
namespace Go.Proofs.Ytkaeohlakeliiaa
open Go.RowKit

def bitsX (x : Option Nat) : Int := match x with | none => 2143289344 | some b => (b : Int)
def sameB (x y : Option Nat) : Bool := decide (x = y)
theorem far_word {c : Nat} (h : ab .f32 c = some c) : c ≠ 2143289344 := by
  intro e
  subst e
  exact absurd h (by decide)
theorem bits_same (a b : Nat) : (bitsX (ab .f32 a) == bitsX (ab .f32 b)) = sameB (ab .f32 a) (ab .f32 b) := by
  unfold sameB
  cases h1 : ab .f32 a with
  | none =>
    cases h2 : ab .f32 b with
    | none => rfl
    | some d =>
      have := far_word ((ab_some h2).1 ▸ h2)
      have e := (ab_some h2).1
      simp [bitsX]
      omega
  | some c =>
    have q1 := (ab_some h1).1
    cases h2 : ab .f32 b with
    | none =>
      have := far_word ((ab_some h1).1 ▸ h1)
      simp [bitsX]
      omega
    | some d =>
      by_cases e : c = d
      · subst e; simp
      · have : (bitsX (some c) == bitsX (some d)) = false := by simp [bitsX]; omega
        rw [this]
        simpa using e

set_option maxRecDepth 100000 in
@[go_sem] theorem run_bits32 (x : Nat) (w : World) : (callFunc 130 #[Value.float .f32 x]).run Try.prog w = .ok (.value (.int .u32 x)) w := by
  kernel_rfl
set_option maxRecDepth 100000 in
set_option maxHeartbeats 400000 in
theorem l01Bits_any (x : Nat) (hx : x < 4294967296) (w : World) :
    Calls Try.prog 122 #[.float .f32 x] w fun e w' => e = .returned (.int .i64 (bitsX (ab .f32 x))) ∧ Below w.heap.size w w' := by
  have W1 : IntKind.i64.wrap (x : Int) = (x : Int) := by rw [IntKind.wrap_i64]; omega
  cases h : ab .f32 x with
  | none =>
    have h1 : ford .f32 (ab .f32 x) (ab .f32 x) = none := by rw [h]; rfl
    have HX := hid h; clear h
    go_enter Try.func122, Try.ntmps122
    go_wp2_with fail
    go_ret
    exact ⟨rfl, by (repeat (first | (with_reducible assumption) | (with_reducible apply below_refl) | (with_reducible apply below_alloc1) | (with_reducible apply below_drewN1) | (with_reducible apply below_drew1)))⟩
  | some c =>
    have h1 : ford .f32 (ab .f32 x) (ab .f32 x) = some .eq := by rw [h]; exact ford_self ((ab_some h).1 ▸ h)
    have hc : bitsX (some c) = (x : Int) := by rw [(ab_some h).1]; rfl
    have HX := hid h; have HC := hid hc; clear h hc
    go_enter Try.func122, Try.ntmps122
    go_wp2_with fail
    go_ret
    exact ⟨by rw [HC.out]; rfl, by (repeat (first | (with_reducible assumption) | (with_reducible apply below_refl) | (with_reducible apply below_alloc1) | (with_reducible apply below_drewN1) | (with_reducible apply below_drew1)))⟩
set_option maxRecDepth 100000 in
set_option maxHeartbeats 400000 in
theorem l01Same_any (x y : Nat) (hx : x < 4294967296) (hy : y < 4294967296) (w : World) :
    Calls Try.prog 76 #[.float .f32 x, .float .f32 y] w fun e w' => e = .returned (.bool (sameB (ab .f32 x) (ab .f32 y))) ∧ Below w.heap.size w w' := by
  have HS := hid (bits_same x y)
  go_enter Try.func76, Try.ntmps76
  go_wp2_with (first
    | (go_at_call 122; (with_reducible refine (l01Bits_any x hx _).mono ?_); rintro e w' ⟨rfl, hb⟩; have hB : Below w.heap.size w w' := below_trans (by (repeat (first | (with_reducible assumption) | (with_reducible apply below_refl) | (with_reducible apply below_alloc1) | (with_reducible apply below_drewN1) | (with_reducible apply below_drew1)))) hb; have hC := (bcell hB).1; clear hb)
    | (go_at_call 122; (with_reducible refine (l01Bits_any y hy _).mono ?_); rintro e w' ⟨rfl, hb⟩; have hB : Below w.heap.size w w' := below_trans (by (repeat (first | (with_reducible assumption) | (with_reducible apply below_refl) | (with_reducible apply below_alloc1) | (with_reducible apply below_drewN1) | (with_reducible apply below_drew1)))) hb; have hC := (bcell hB).1; clear hb))
  go_ret
  exact ⟨by rw [← HS.out]; rfl, by assumption⟩
end Go.Proofs.Ytkaeohlakeliiaa
